/- A part of the proof: A1, A2, A3, A4, A5, A6, A7, A8, A9, A10, A11, A12, A13, A14. -/
import GoSem.Step
import GoSem.Dispatch
import Derived.Laws.AppendOwn
import Derived.Below
import Derived.RangeFuncLeaves
import Derived.RangeFuncOwn
import Derived.MapKept
import Derived.Laws.Tables
import Derived.Laws.Rows
import Derived.WideLaws
import Derived.Great.BuildSlice
import Derived.Laws.StructEq
import Derived.Laws.Slices
import Derived.Laws.BytesArg
import Derived.Laws.Runes
import Derived.ArgAppend
import Derived.Maps.AppendAt
import Derived.Laws.OwnMore
import Derived.RangeFuncCalls
set_option linter.unusedVariables false
set_option linter.unusedSimpArgs false
open Array renaming getD_eq_getD_getElem?→Yl
open Bool renaming and_eq_true→Ya
open List renaming mem_cons_of_mem→Yb,mem_cons_self→Yc,length_append→Ye,length_cons→Yg,map_cons→Yi,length_singleton→Yj,cons_append→Yk,nil_append→Yo,length_nil→Yp,append_assoc→Yr
open Nat renaming le_refl→Yd,eq_of_beq_eq_true→Yf
namespace Go.Am
open Go
inductive AV where
 |bool (b:Bool)
 |int (k:IntKind) (n:Int)
 |str (s:List UInt8)
 |agg (l:List AV)
 |tup (l:List AV)
 |nils
 |sl (l:List AV)
 |vs (loc:Nat) (e:TypeId) (sz lo n:Nat)
 |nilp
 |cp (l:List AV)
 |vp (loc off:Nat)
 |nilf
 |fn (f:FuncId) (caps:List AV)
 |yld (loc:Nat)
 |nilm
 |mp (loc:Nat)
 |nili
 |ifc (t:TypeId) (v:AV)
 deriving Inhabited
def AV.cells:AV->List AV
 |.agg l=>l
 |v=>[v]
def AV.isTup:AV->Bool
 |.tup _=>true
 |_=>false
inductive Slot where
 |und
 |no
 |val (v:AV)
 |own (k:Nat) (e:TypeId) (l:List AV)
 |full (l:List AV)
 deriving Inhabited
inductive Ent where
 |none
 |s (v:Slot)
 |var (cells:List Slot)
 |ptr (w:Bool) (d off:Nat)
 deriving Inhabited
abbrev Env:=List (Nat × Ent)
def Env.get:Env->Nat->Ent
 |[],_=>.none
 |(j,s)::r,i=>bif Nat.beq j i then s else Env.get r i
def Ent.slot:Ent->Slot
 |.s v=>v
 |_=>.und
inductive AExit where
 |normal
 |exit (id:Nat)
 |ret
inductive LSt where
 |ready|busy|done|exhausted
inductive Obj where
 |var (cells:List Slot)
 |map (es:List (AV × AV × Nat)) (clock:Nat)
 |loop (st:LSt) (pend:Option AExit) (f:FuncId) (env:Env) (ps:List Nat) (asg body:Code)
 |dead
structure St where
 locs:List Obj
 toks:List Nat
 bl:List (Nat × TypeId):=[]
def St.addLoc(s:St)(o:Obj):St:={ s with locs:=s.locs++[o] }
def St.addLocT(s:St)(o:Obj)(t:TypeId):St:={ s with locs:=s.locs++[o],bl:=(s.locs.length,t)::s.bl }
inductive Out where
 |ret (v:Slot)
 |pan (v:AV)
abbrev Res:=Option (Out × St)
inductive TK where
 |bad|bool|int (k:IntKind)|str|ptr
 |slice (e:TypeId)
 |struct (fs:List (Nat × TypeId))
 |array (n:Nat) (e:TypeId)
 |map (k e:TypeId)
 |func|iface
 deriving Inhabited,DecidableEq
structure TI where
 k:TK:=.bad
 size:Nat:=0
 bytes:Nat:=0
 zero:List AV:=[]
 flat:List TK:=[]
 deriving Inhabited
def TI.isAgg(t:TI):Bool:=match t.k with | .struct _ | .array _ _=>true|_=>false
inductive AMode where
 |var|con|loc|tl
def AMode.isLoc:AMode->Bool
 |.loc=>true
 |.tl=>true
 |_=>false
inductive Callee where
 |f (f:FuncId)
 |y (loc:Nat)
abbrev CallFn:=Callee->List AV->St->Res
structure Cfg where
 ti:TypeId->TI
 mode:FuncId->Tmp->AMode
 keep:FuncId->Nat->List Nat
 cut:FuncId->Nat->Option (List Nat)
 draws:FuncId->Nat->Bool × List (Option Nat)
 ranks:FuncId->Nat->List Nat
 frz:FuncId->Nat->List Nat
 glob:Nat->Option (List AV)
 ints:List Nat
 ext:FuncId->Option (List AV->St->Option (Slot × St))
 code:FuncId->Option Func
 quiet:FuncId->Nat->Bool:=λ_ _=>false
 tabs:List (Nat × Array Value):=[]
def Slot.av:Slot->Option AV
 |.val v=>some v
 |.own _ _ l=>some (.sl l)
 |.full l=>some (.sl l)
 |_=>none
def Slot.bool? : Slot->Option Bool
 |.val (.bool b)=>some b
 |_=>none
def Slot.int? : Slot->Option Int
 |.val (.int _ n)=>some n
 |_=>none
def Slot.list? : Slot->Option (List AV)
 |.val .nils=>some []
 |.val (.sl l)=>some l
 |.own _ _ l=>some l
 |.full l=>some l
 |_=>none
def avs:List Slot->Option (List AV)
 |[]=>some []
 |s::r=>match s.av with
   |some v=>match avs r with
     |some l=>some (v::l)
     |none=>none
   |none=>none
def avOf1:Value->Option AV
 |.bool b=>some (.bool b)
 |.int k n=>some (.int k n)
 |.string s=>some (.str s.data.toList)
 |.slice none 0 0=>some .nils
 |.pointer none=>some .nilp
 |.nilFunc=>some .nilf
 |.nilIface=>some .nili
 |.map none=>some .nilm
 |_=>none
def avOfL:List Value->Option (List AV)
 |[]=>some []
 |v::r=>match avOf1 v with
   |some a=>match avOfL r with|some l=>some (a::l)|none=>none
   |none=>none
def avOf:Value->Option AV
 |.agg cs=>match avOfL cs.toList with|some l=>some (.agg l)|none=>none
 |v=>avOf1 v
def opnd(C:Cfg)(e:Env):Operand->Slot
 |.tmp t=>(e.get t).slot
 |.const v=>match avOf v with|some a=>.val a|none=>.und
 |.global g=>match C.glob g with|some l=>.val (.cp l)|none=>.und
 |.func f=>.val (.fn f [])
def ent(C:Cfg)(e:Env):Operand->Ent
 |.tmp t=>e.get t
 |x=>.s (opnd C e x)
def AV.eqb:AV->AV->Option Bool
 |.bool a,.bool b=>some (a == b)
 |.int k a,.int j b=>if k=j then some (a == b) else none
 |.str a,.str b=>some (a == b)
 |_,_=>none
def TK.has(k:TK)(v:AV):Bool:=
 match k,v with
 |.int k,.int j _=>decide (k=j)
 |.str,.str _=>true
 |.bool,.bool _=>true
 |_,_=>false
def eqAll:List TK->List AV->List AV->Option Bool
 |[],[],[]=>some true
 |k::ks,x::xs,y::ys=>bif k.has x&&k.has y then (match x.eqb y with
   |some true=>eqAll ks xs ys
   |some false=>some false
   |none=>none) else none
 |_,_,_=>none
def eqS(t:TI)(x y:AV):Option Bool:=
 match t.k,x,y with
 |.bool,.bool a,.bool b=>some (a == b)
 |.ptr,.nilp,.nilp=>some true
 |.ptr,.nilp,.cp _ | .ptr,.cp _,.nilp | .ptr,.nilp,.vp _ _ | .ptr,.vp _ _,.nilp=>some false
 |.slice _,.nils,.nils=>some true
 |.slice _,.nils,.sl _ | .slice _,.sl _,.nils | .slice _,.nils,.vs _ _ _ _ _ | .slice _,.vs _ _ _ _ _,.nils=>some false
 |.func,.nilf,.nilf=>some true
 |.func,.nilf,.fn _ _ | .func,.fn _ _,.nilf | .func,.nilf,.yld _ | .func,.yld _,.nilf=>some false
 |.map _ _,.nilm,.nilm=>some true
 |.map _ _,.nilm,.mp _ | .map _ _,.mp _,.nilm=>some false
 |.iface,.nili,.ifc _ _ | .iface,.ifc _ _,.nili=>some false
 |.struct _,.agg xs,.agg ys=>bif t.flat.isEmpty then none else eqAll t.flat xs ys
 |_,_,_=>none
def binS(t:TI)(op:BinOp)(x y:Slot):Option Slot:=
 match x.av,y.av with
 |some (.int k a),some (.int j b)=>
   match op with
   |.shl=>if b<0 then none else some (.val (.int k (k.wrap (a*2 ^ (min b.toNat k.bits)))))
   |.shr=>if b<0 then none else some (.val (.int k (a.fdiv (2 ^ (min b.toNat k.bits)))))
   |_=>
     if k=j then
      match op with
      |.add=>some (.val (.int k (k.wrap (a+b))))
      |.sub=>some (.val (.int k (k.wrap (a - b))))
      |.mul=>some (.val (.int k (k.wrap (a*b))))
      |.quo=>if b=0 then none else some (.val (.int k (k.wrap (a.tdiv b))))
      |.rem=>if b=0 then none else some (.val (.int k (a.tmod b)))
      |.eql=>some (.val (.bool (a == b)))
      |.neq=>some (.val (.bool (a != b)))
      |.lss=>some (.val (.bool (a<b)))
      |.leq=>some (.val (.bool (a<=b)))
      |.gtr=>some (.val (.bool (a>b)))
      |.geq=>some (.val (.bool (a≥b)))
      |_=>none
     else none
 |some (.str a),some (.str b)=>
   match op with
   |.add=>if a.length+b.length<=9223372036854775807 then some (.val (.str (a++b))) else none
   |.eql=>some (.val (.bool (a == b)))
   |.neq=>some (.val (.bool !(a == b)))
   |.lss=>some (.val (.bool (Op.bytesLess a b)))
   |.leq=>some (.val (.bool (Op.bytesLess a b || a == b)))
   |.gtr=>some (.val (.bool !(Op.bytesLess a b || a == b)))
   |.geq=>some (.val (.bool !(Op.bytesLess a b)))
   |_=>none
 |some a,some b=>
   match op with
   |.eql=>(eqS t a b).map λr=>.val (.bool r)
   |.neq=>(eqS t a b).map λr=>.val (.bool !r)
   |_=>none
 |_,_=>none
def unS(op:UnOp)(x:Slot):Option Slot:=
 match op,x with
 |.neg,.val (.int k n)=>some (.val (.int k (k.wrap (0 - n))))
 |.not,.val (.bool b)=>some (.val (.bool !b))
 |_,_=>none
def pickS(c a b:Slot):Option Slot:=
 match c with
 |.val (.bool t)=>some (bif t then a else b)
 |_=>none
def u8s:List AV->Option (List Int)
 |[]=>some []
 |.int .u8 n::r=>match u8s r with|some l=>some (n::l)|none=>none
 |_=>none
def convStr(s:TI)(e:TK)(x:Slot):Option Slot:=
 match s.k,x with
 |.int _,.val (.int _ n)=>if 0<=n/\n<128 then some (.val (.str [UInt8.ofNat n.toNat])) else none
 |.slice _,x=>match e,x.list? with
   |.int .u8,some l=>(match u8s l with|some ns=>some (.val (.str (ns.map λn=>UInt8.ofNat n.toNat)))|none=>none)
   |_,_=>none
 |_,_=>none
def convS(s d:TI)(x:Slot)(e:TK:=.bad):Option Slot:=
 match d.k,x with
 |.int k,.val (.int _ n)=>match s.k with | .bad=>none|_=>some (.val (.int k (k.wrap n)))
 |.str,.val (.str l)=>match s.k with | .str=>some (.val (.str l))|_=>none
 |.str,x=>convStr s e x
 |_,_=>none
def Cfg.sub(C:Cfg)(t:TypeId):TK:=match (C.ti t).k with | .slice e=>(C.ti e).k|_=>.bad
def setAt(l:List AV)(off:Nat)(cs:List AV):Option (List AV):=
 if off+cs.length<=l.length then some (l.take off++(cs++l.drop (off+cs.length))) else none
def fillS:List AV->List (Nat × Nat × Slot)->Option (List AV)
 |l,[]=>some l
 |l,(off,size,x)::r=>match x.av with
   |some v=>if v.cells.length=size/\v.isTup=false then (match setAt l off v.cells with|some l'=>fillS l' r|none=>none) else none
   |none=>none
def buildS(zero:List AV)(ps:List (Nat × Nat × Slot)):Option Slot:=
 match fillS zero ps with
 |some l=>some (.val (.agg l))
 |none=>none
def bslS(size:Nat):List Slot->Option (List AV)
 |[]=>some []
 |x::r=>match x.av with
   |some v=>if v.cells.length=size/\v.isTup=false then (match bslS size r with|some l=>some (v::l)|none=>none) else none
   |none=>none
def bslF(size:Nat)(xs:List Slot):Option Slot:=
 match bslS size xs with
 |some l=>some (.full l)
 |none=>none
def fnS(f:FuncId)(xs:List Slot):Option Slot:=
 match avs xs with
 |some l=>some (.val (.fn f l))
 |none=>none
def inOrder:Nat->List (Nat × Operand)->Bool
 |_,[]=>true
 |n,(i,_)::r=>Nat.beq i n&&inOrder (n+1) r
def extractS(x:Slot)(i:Nat):Option Slot:=
 match x with
 |.val (.tup l)=>match l[i]? with|some v=>some (.val v)|none=>none
 |_=>none
def ofCells(t:TI)(cs:List AV):Option AV:=
 bif t.isAgg then (if cs.length=t.size then some (.agg cs) else none)
 else match cs with | [v]=>some v|_=>none
def fieldS(t:TI)(ft:TI)(off:Nat)(x:Slot):Option Slot:=
 match x with
 |.val (.agg l)=>if 0<ft.size then (match ofCells ft ((l.drop off).take ft.size) with|some v=>some (.val v)|none=>none) else none
 |_=>none
def faV(off:Nat)(s:Slot):Option Slot:=
 match s with
 |.val (.cp l)=>some (.val (.cp (l.drop off)))
 |.val (.vp loc o)=>some (.val (.vp loc (o+off)))
 |_=>none
def ixL(size:Nat)(l:List AV)(i:Slot):Option Slot:=
 match i with
 |.val (.int _ n)=>
   if 0<=n/\n<(l.length:Int) then
    match l[n.toNat]? with
    |some v=>if v.cells.length=size/\0<size then some (.val (.cp v.cells)) else none
    |none=>none
   else none
 |_=>none
def ixV(size:Nat)(s i:Slot):Option Slot:=
 match s,i with
 |.val (.vs loc _ sz lo m),.val (.int _ n)=>if (0<=n/\n<(m:Int))/\sz=size/\0<size then some (.val (.vp loc ((lo+n.toNat)*sz))) else none
 |_,_=>none
def ixO(size:Nat)(o:Option (List AV))(s i:Slot):Option Slot:=
 match o with
 |some l=>ixL size l i
 |none=>ixV size s i
def ixS(size:Nat)(s i:Slot):Option Slot:=ixO size s.list? s i
def ixA(n size:Nat)(s i:Slot):Option Slot:=
 match i with
 |.val (.int _ j)=>if (0<=j/\j<(n:Int))/\0<size then faV (j.toNat*size) s else none
 |_=>none
def indexS(t et:TI)(x i:Slot):Option Slot:=
 match i with
 |.val (.int _ n)=>match t.k with
   |.str=>(match x with
     |.val (.str l)=>if 0<=n then (match l[n.toNat]? with|some b=>some (.val (.int .u8 b.toNat))|none=>none) else none
     |_=>none)
   |.array len _=>(match x with
     |.val (.agg l)=>if (0<=n/\n<(len:Int))/\0<et.size then (match ofCells et ((l.drop (n.toNat*et.size)).take et.size) with|some v=>some (.val v)|none=>none) else none
     |_=>none)
   |_=>none
 |_=>none
def bound(x:Option Slot)(dflt most:Nat):Option Nat:=
 match x with
 |none=>some dflt
 |some (.val (.int _ n))=>if 0<=n/\n<=(most:Int) then some n.toNat else none
 |_=>none
def sliceV(size:Nat)(x:Slot)(lo hi mx:Option Slot):Option Slot:=
 match x,mx with
 |.val (.vs loc e sz l0 n),none=>bif Nat.beq sz size&&Nat.blt 0 sz then (match bound hi n n with
   |some h=>match bound lo 0 h with
     |some a=>some (.val (.vs loc e sz (l0+a) (h - a)))
     |none=>none
   |none=>none) else none
 |_,_=>none
def sliceS(t:TI)(sz:Nat)(x:Slot)(lo hi mx:Option Slot):Option Slot:=
 match t.k with
 |.str=>(match x with
   |.val (.str l)=>match mx with
     |some _=>none
     |none=>match bound hi l.length l.length with
       |some h=>match bound lo 0 h with
         |some a=>some (.val (.str ((l.take h).drop a)))
         |none=>none
       |none=>none
   |_=>none)
 |.slice _=>(match x with
   |.val .nils=>match mx with
     |some _=>none
     |none=>match bound hi 0 0 with
       |some _=>match bound lo 0 0 with
         |some _=>some (.val .nils)
         |none=>none
       |none=>none
   |x=>match x.list? with
     |some l=>bif l.all (λv=>v.cells.length == sz)&&Nat.blt 0 sz then (match mx with
       |none=>match bound hi l.length l.length with
         |some h=>match bound lo 0 h with
           |some a=>some (.val (.sl ((l.take h).drop a)))
           |none=>none
         |none=>none
       |some m=>match bound (some m) 0 l.length with
         |some c=>match hi with
           |some h=>match bound (some h) 0 c with
             |some h'=>match bound lo 0 h' with
               |some a=>bif Nat.beq h' c then some (.full ((l.take h').drop a)) else some (.val (.sl ((l.take h').drop a)))
               |none=>none
             |none=>none
           |none=>none
         |none=>none) else none
     |none=>sliceV sz x lo hi mx)
 |_=>none
def rows(t:TI):Nat->List AV->Option (List AV)
 |0,_=>some []
 |n+1,cs=>match ofCells t (cs.take t.size) with
   |some v=>match rows t n (cs.drop t.size) with|some l=>some (v::l)|none=>none
   |none=>none
def sliceA(n:Nat)(et:TI)(x:Slot)(lo hi mx:Option Slot):Option Slot:=
 match x with
 |.val (.cp cs)=>bif Nat.beq et.size 0 then none else match mx with
   |some _=>none
   |none=>match bound hi n n with
     |some h=>match bound lo 0 h with
       |some a=>match rows et n cs with
         |some l=>some (.val (.sl ((l.take h).drop a)))
         |none=>none
       |none=>none
     |none=>none
 |_=>none
def lenO(o:Option (List AV))(x:Slot):Option Slot:=
 match o with
 |some l=>some (.val (.int .i64 l.length))
 |none=>match x with | .val (.vs _ _ _ _ n)=>some (.val (.int .i64 n))|_=>none
def lenS(t:TI)(x:Slot):Option Slot:=
 match t.k with
 |.str=>(match x with | .val (.str l)=>some (.val (.int .i64 l.length))|_=>none)
 |.slice _=>lenO x.list? x
 |_=>none
def lenM(s:St)(x:Slot):Option Slot:=
 match x with
 |.val .nilm=>some (.val (.int .i64 0))
 |.val (.mp loc)=>match s.locs[loc]? with
   |some (.map es _)=>some (.val (.int .i64 es.length))
   |_=>none
 |_=>none
def max2(x y:Slot):Option Slot:=
 match x,y with
 |.val (.int k a),.val (.int _ b)=>some (.val (.int k (if b>a then b else a)))
 |_,_=>none
def max3(x y z:Slot):Option Slot:=
 match max2 x y with
 |some v=>max2 v z
 |none=>none
def min2(x y:Slot):Option Slot:=
 match x,y with
 |.val (.int k a),.val (.int _ b)=>some (.val (.int k (if b<a then b else a)))
 |_,_=>none
def ifcS(t:TypeId)(x:Slot):Option Slot:=
 match x.av with
 |some v=>some (.val (.ifc t v))
 |none=>none
def Slot.cellOk:Slot->Bool
 |.und | .no=>false
 |.val v=>match v with | .tup _ | .agg _=>false|_=>true
 |_=>true
def TI.isGood(t:TI):Bool:=match t.k with | .bad=>false|_=>true
def boxCells(t:TI)(x:Slot):Option (List Slot):=
 bif t.isAgg then (match x with | .val (.agg l)=>if l.length=t.size then some (l.map .val) else none|_=>none)
 else bif x.cellOk&&t.isGood then some [x] else none
def ofSlots(t:TI)(cs:List Slot):Option Slot:=
 bif t.isAgg then (match avs cs with|some l=>if l.length=t.size then some (.val (.agg l)) else none|none=>none)
 else match cs with | [s]=>some s|_=>none
def ldV(t:TI)(r:Bool)(s:St)(a:Slot):Option Slot:=
 match a with
 |.val (.cp l)=>match ofCells t (l.take t.size) with|some v=>some (.val v)|none=>none
 |.val (.vp loc off)=>bif r then none else match s.locs[loc]? with
   |some (.var cs)=>ofSlots t ((cs.drop off).take t.size)
   |_=>none
 |_=>none
inductive Root where
 |free
 |no
 |d (n:Nat)
 |nw
 |old
def rootOk(rt:Root)(x:Option Nat)(a:Ent):Bool:=
 match rt with
 |.free=>true
 |.no=>match a with | .s _=>true|_=>false
 |.d n=>match a with
   |.var _=>match x with|some i=>Nat.beq i n|none=>false
   |.ptr _ i _=>Nat.beq i n
   |_=>false
 |.nw=>match a with | .s _=>true|_=>false
 |.old=>match a with | .s _=>true|_=>false
def ldS(t:TI)(r:Bool)(rt:Root)(x:Option Nat)(e:Env)(s:St)(a:Ent):Option Slot:=
 bif rootOk rt x a then (match a with
 |.var cs=>ofSlots t (cs.take t.size)
 |.ptr w d off=>match e.get d with
   |.var cs=>bif w then ofSlots t ((cs.drop off).take t.size) else none
   |_=>none
 |.s v=>ldV t r s v
 |.none=>none) else none
def putAt(l:List Slot)(off:Nat)(cs:List Slot):Option (List Slot):=
 if off+cs.length<=l.length then some (l.take off++(cs++l.drop (off+cs.length))) else none
def bindL(r:Option (List Slot))(k:List Slot->Res):Res:=
 match r with
 |some l=>k l
 |none=>none
def bindA(r:Option (List AV))(k:List AV->Res):Res:=
 match r with
 |some l=>k l
 |none=>none
def bindS(r:Option St)(k:St->Res):Res:=
 match r with
 |some s=>k s
 |none=>none
def stV(s:St)(a:Slot)(cs:List Slot):Option St:=
 match a with
 |.val (.vp loc off)=>match s.locs[loc]? with
   |some (.var l)=>match putAt l off cs with|some l'=>some { s with locs:=s.locs.set loc (.var l') } | none=>none
   |_=>none
 |_=>none
def nwOk(rt:Root)(s:St)(a:Slot):Bool:=
 match rt with
 |.nw=>(match a with | .val (.vp loc _)=>Nat.beq (loc+1) s.locs.length|_=>false)
 |.old=>(match a with | .val (.vp loc _)=>Nat.blt (loc+1) s.locs.length|_=>false)
 |_=>true
def stM(rt:Root)(s:St)(v:Slot)(cs:List Slot)(k:St->Res):Res:=bif nwOk rt s v then (bindS (stV s v cs) λs=>k s) else none
def stS(rt:Root)(x:Option Nat)(e:Env)(s:St)(a:Ent)(cs:List Slot)(k:Env->St->Res):Res:=
 bif rootOk rt x a then (match a with
 |.var l=>match x with
   |some d=>bindL (putAt l 0 cs) λl'=>k ((d,.var l')::e) s
   |none=>none
 |.ptr w d off=>match e.get d with
   |.var l=>bindL (bif w then putAt l off cs else none) λl'=>k ((d,.var l')::e) s
   |_=>none
 |.s v=>bif nwOk rt s v then (bindS (stV s v cs) λs=>k e s) else none
 |.none=>none) else none
def newS(m:AMode)(t:TypeId)(cs:List Slot)(old:Ent)(s:St)(k:Ent->St->Res):Res:=
 match m with
 |.var=>match old with | .none=>k (.var cs) s|_=>none
 |.con=>bindA (avs cs) λl=>k (.s (.val (.cp l))) s
 |.loc=>k (.s (.val (.vp s.locs.length 0))) (s.addLoc (.var cs))
 |.tl=>bif cs.isEmpty then none else k (.s (.val (.vp s.locs.length 0))) (s.addLocT (.var cs) t)
def okSz(size:Nat)(l:List AV):Bool:=l.all (λv=>v.cells.length == size)&&Nat.blt 0 size
def appendS(et:TypeId)(t:TI)(s:St)(x y:Slot):Option (Slot × St):=
 match y.list? with
 |some []=>match x.list? with|some _=>some (x,s)|none=>none
 |some ys=>
   bif okSz t.size ys then
    (match x with
    |.own k e l=>bif okSz t.size l then
      (if e=et/\s.toks[k]? = some l.length/\(l.length+ys.length)*t.bytes<=140737488355328/\l.length+ys.length<=9223372036854775807 then
        some (.own k e (l++ys),{ s with toks:=s.toks.set k (l.length+ys.length) })
      else none) else none
    |.full l=>bif okSz t.size l then
      (if (l.length+ys.length)*t.bytes<=140737488355328/\l.length+ys.length<=9223372036854775807 then
        some (.own s.toks.length et (l++ys),{ s with toks:=s.toks++[l.length+ys.length] })
      else none) else none
    |.val .nils=>
      if ys.length*t.bytes<=140737488355328/\ys.length<=9223372036854775807 then
       some (.own s.toks.length et ys,{ s with toks:=s.toks++[ys.length] })
      else none
    |_=>none)
   else none
 |none=>none
def strAV(l:List UInt8):List AV:=l.map λb=>.int .u8 b.toNat
def appendStr(et:TypeId)(t:TI)(s:St)(x y:Slot):Option (Slot × St):=
 match y,t.k,t.zero with
 | .val (.str l), .int .u8, [.int .u8 0] => bif Nat.beq t.size 1 && Nat.beq t.bytes 1 then
    (match x with
    |.val .nils=>appendS et t s x (.val (.sl (strAV l)))
    |.own _ _ _=>appendS et t s x (.val (.sl (strAV l)))
    |_=>none) else none
 |_,_,_=>none
def flatL(l:List AV):List AV:=l.flatMap AV.cells
def newV(e:TypeId)(t:TI)(l:List AV)(s:St):Option (Slot × St):=
 if l.length*t.bytes<=140737488355328/\l.length<=9223372036854775807 then some (.val (.vs s.locs.length e t.size 0 l.length),s.addLoc (.var ((flatL l).map .val))) else none
def isArrS:Slot->Bool
 |.val .nils | .full _ | .val (.vs _ _ _ _ _)=>true
 |_=>false
def appendV(et:TypeId)(t:TI)(s:St)(x y:Slot):Option (Slot × St):=
 match y.list? with
 |some []=>bif isArrS x then some (x,s) else none
 | some ys => bif okSz t.size ys then
    (match x with
    |.val .nils=>newV et t ys s
    |.full l=>bif okSz t.size l then newV et t (l++ys) s else none
    |.val (.vs loc e sz 0 n)=>match s.locs[loc]? with
      |some (.var cs)=>
        if e=et/\n*sz<=cs.length/\(n+ys.length)*t.bytes<=140737488355328/\n+ys.length<=9223372036854775807 then
         some (.val (.vs s.locs.length e sz 0 (n+ys.length)),{ s with locs:=s.locs.set loc .dead++[.var (cs.take (n*sz)++(flatL ys).map .val)] })
        else none
      |_=>none
    |_=>none)
   else none
 |none=>none
def makeV(et:TypeId)(t:TI)(s:St)(l c:Slot):Option (Slot × St):=
 match l,c with
 |.val (.int .i64 a),.val (.int .i64 b)=>
   if (0<=a/\a=b)/\0<t.size then (match ofCells t t.zero with
    |some z=>newV et t (List.replicate a.toNat z) s
    |none=>none) else none
 |_,_=>none
def frzW(f:AV->St->Option (AV × St)):List AV->St->Option (List AV × St)
 |[],s=>some ([],s)
 |v::r,s=>match f v s with
   |some (v',s')=>match frzW f r s' with
     |some (r',s'')=>some (v'::r',s'')
     |none=>none
   |none=>none
def frz(ti:TypeId->TI):Nat->AV->St->Option (AV × St)
 |0,_,_=>none
 |n+1,.vs loc e sz lo m,s=>match s.locs[loc]? with
   |some (.var cs)=>match avs ((cs.drop (lo*sz)).take (m*sz)) with
     |some l=>match frzW (frz ti n) l { s with locs:=s.locs.set loc .dead } with
       |some (l',s')=>match rows (ti e) m l' with
         |some r=>bif Nat.blt 0 sz&&Nat.ble (lo*sz+m*sz) cs.length then some (.sl r,s') else none
         |none=>none
       |none=>none
     |none=>none
   |_=>none
 |n+1,.agg l,s=>match frzW (frz ti n) l s with
   |some (l',s')=>some (.agg l',s')
   |none=>none
 |_+1,v,s=>some (v,s)
def frzSlot(ti:TypeId->TI)(x:Slot)(s:St):Option (Slot × St):=
 match x with
 |.val v=>match frz ti 16 v s with
   |some (v',s')=>some (.val v',s')
   |none=>none
 |x=>some (x,s)
def frzSlots(ti:TypeId->TI):List Slot->St->Option (List Slot × St)
 |[],s=>some ([],s)
 |x::r,s=>match frzSlot ti x s with
   |some (x',s')=>match frzSlots ti r s' with
     |some (r',s'')=>some (x'::r',s'')
     |none=>none
   |none=>none
def frzEnt(ti:TypeId->TI)(e:Ent)(s:St):Option (Ent × St):=
 match e with
 |.s x=>match frzSlot ti x s with
   |some (x',s')=>some (.s x',s')
   |none=>none
 |.var cs=>match frzSlots ti cs s with
   |some (cs',s')=>some (.var cs',s')
   |none=>none
 |e=>some (e,s)
def AV.keyEq:AV->AV->Option Bool
 |.int k a,.int j b=>if k=j then some (a == b) else none
 |.str a,.str b=>some (a == b)
 |.bool a,.bool b=>some (a == b)
 |_,_=>none
def findE(key:AV):List (AV × AV × Nat)->Nat->Option (Option (Nat × AV × Nat))
 |[],_=>some none
 |(k,v,b)::r,i=>match key.keyEq k with
   |some true=>some (some (i,v,b))
   |some false=>findE key r (i+1)
   |none=>none
def isKey(t:TI)(v:AV):Bool:=t.k.has v
def TI.zeroV(t:TI):Option AV:=bif t.isGood then ofCells t t.zero else none
def lookupS(kt et:TI)(s:St)(x i:Slot)(ok:Bool):Option Slot:=
 match i.av with
 |some key=>
   if isKey kt key then
    match (match x with
     |.val .nilm=>some []
     |.val (.mp loc)=>(match s.locs[loc]? with|some (.map es _)=>some es|_=>none)
     |_=>none) with
    |some es=>match findE key es 0 with
      |some (some (_,v,_))=>some (.val (bif ok then .tup [v,.bool true] else v))
      |some none=>match et.zeroV with
        |some z=>some (.val (bif ok then .tup [z,.bool false] else z))
        |none=>none
      |none=>none
    |none=>none
   else none
 |none=>none
def updateS(kt et:TI)(s:St)(x i v:Slot):Option (Slot × St):=
 match x,i.av,v.av with
 |.val (.mp loc),some key,some y=>
   if isKey kt key/\y.cells.length=et.size then
    match s.locs[loc]? with
    |some (.map es c)=>match findE key es 0 with
      |some (some (j,_,b))=>some (.no,{ s with locs:=s.locs.set loc (.map (es.set j (key,y,b)) c) })
      |some none=>some (.no,{ s with locs:=s.locs.set loc (.map (es++[(key,y,c)]) (c+1)) })
      |none=>none
    |_=>none
   else none
 |_,_,_=>none
def entryS(kt et:TI)(s:St)(x i:Slot):Option (Slot × St):=
 match x,i.av with
 |.val (.mp loc),some key=>
   if isKey kt key then
    match s.locs[loc]? with
    |some (.map es c)=>match findE key es 0 with
      |some (some (j,v,b))=>some (.val (.tup [v,.int .i64 b]),{ s with locs:=s.locs.set loc (.map (es.set j (key,v,b)) c) })
      |some none=>match et.zeroV with
        |some z=>some (.val (.tup [z,.int .i64 c]),{ s with locs:=s.locs.set loc (.map (es++[(key,z,c)]) (c+1)) })
        |none=>none
      |none=>none
    |_=>none
   else none
 |_,_=>none
def setBorn(n:Int)(y:AV):List (AV × AV × Nat)->Option (List (AV × AV × Nat))
 |[]=>none
 |(k,v,b)::r=>bif (b:Int) == n then some ((k,y,b)::r) else (match setBorn n y r with|some l=>some ((k,v,b)::l)|none=>none)
def entrySt(s:St)(x i v:Slot):Option (Slot × St):=
 match x,i,v.av with
 |.val (.mp loc),.val (.int _ n),some y=>
   match s.locs[loc]? with
   |some (.map es c)=>match setBorn n y es with
     |some es'=>some (.no,{ s with locs:=s.locs.set loc (.map es' c) })
     |none=>none
   |_=>none
 |_,_,_=>none
def deleteS(kt:TI)(s:St)(x i:Slot):Option (Slot × St):=
 match x,i.av with
 |.val (.mp loc),some key=>
   if isKey kt key then
    match s.locs[loc]? with
    |some (.map es c)=>match findE key es 0 with
      |some (some (j,_,_))=>some (.val (.tup []),{ s with locs:=s.locs.set loc (.map (es.eraseIdx j) c) })
      |some none=>some (.val (.tup []),{ s with locs:=s.locs.set loc (.map es c) })
      |none=>none
    |_=>none
   else none
 |_,_=>none
def hintOk:Option Slot->Bool
 |none=>true
 |some (.val (.int _ _))=>true
 |_=>false
def makeM(s:St):Option (Slot × St):=some (.val (.mp s.locs.length),s.addLoc (.map [] 0))
def Operand.tmp? : Operand->Option Nat
 |.tmp t=>some t
 |_=>none
def structField(t:TI)(f:Nat):Option (Nat × TypeId):=
 match t.k with
 |.struct fs=>fs[f]?
 |_=>none
def places(C:Cfg)(e:Env)(t:TI):List (Nat × Operand)->Option (List (Nat × Nat × Slot))
 |[]=>some []
 |(i,x)::r=>
   match (match t.k with
    |.struct fs=>(match fs[i]? with|some (off,ft)=>some (off,(C.ti ft).size)|none=>none)
    |.array _ et=>some (i*(C.ti et).size,(C.ti et).size)
    |_=>none) with
   |some (off,size)=>bif Nat.beq size 0 then none else match places C e t r with
     |some l=>some ((off,size,opnd C e x)::l)
     |none=>none
   |none=>none
def bind1(r:Option Slot)(k:Slot->Res):Res:=
 match r with
 |some v=>k v
 |none=>none
def bind2(r:Option (Slot × St))(k:Slot->St->Res):Res:=
 match r with
 |some (v,s)=>k v s
 |none=>none
def bindLS(r:Option (List Slot × St))(k:List Slot->St->Res):Res:=
 match r with
 |some (l,s)=>k l s
 |none=>none
def frzEntK(ti:TypeId->TI)(x:Ent)(s:St)(k:Ent->St->Res):Res:=
 match x with
 |.s v=>bind2 (frzSlot ti v s) (λv s=>k (.s v) s)
 |.var cs=>bindLS (frzSlots ti cs s) (λcs s=>k (.var cs) s)
 |e=>k e s
def frzE(ti:TypeId->TI):List Nat->Env->St->(Env->St->Res)->Res
 |[],e,s,k=>k e s
 |t::ts,e,s,k=>frzEntK ti (e.get t) s λx s=>frzE ti ts ((t,x)::e) s k
theorem Q3B(ti:TypeId->TI)(x:Ent)(s:St)(k:Ent->St->Res):frzEntK ti x s k=(match frzEnt ti x s with|some (x',s')=>k x' s'|none=>none):=by
 cases x with
 |none=>rfl
 |ptr g d off=>rfl
 |s v=>
   simp only[frzEntK,frzEnt]
   cases frzSlot ti v s<;>rfl
 |var cs=>
   simp only[frzEntK,frzEnt]
   cases frzSlots ti cs s<;>rfl
def bindB(r:Option Bool)(k:Bool->Res):Res:=
 match r with
 |some b=>k b
 |none=>none
def gd(b:Bool)(r:Option Slot):Option Slot:=bif b then r else some .no
def gdV(b:Bool)(v:Slot):Slot:=bif b then v else .no
def bldOk(C:Cfg)(t:TI):Bool:=
 match t.k with
 |.struct _=>true
 |.array _ et=>!(Nat.beq (C.ti et).size 0)
 |_=>false
def pureS(C:Cfg)(e:Env)(op:Op):Option Slot:=
 match op with
 |.pick c a b=>pickS (opnd C e c) (opnd C e a) (opnd C e b)
 |.build t ps=>bif bldOk C (C.ti t) then (match places C e (C.ti t) ps.toList with
   |some l=>buildS (C.ti t).zero l
   |none=>none) else none
 |.buildSlice t n ps=>match (C.ti t).k with
   | .slice et => bif inOrder 0 ps.toList && Nat.beq ps.toList.length n && Nat.ble (n * (C.ti et).size) 16777216 && Nat.blt 0 (C.ti et).size then
      bslF (C.ti et).size (ps.toList.map λp=>opnd C e p.2)
     else none
   |_=>none
 |.binOp op t x y _=>binS (C.ti t) op (opnd C e x) (opnd C e y)
 |.unOp op _ x=>unS op (opnd C e x)
 |.convert s d x=>convS (C.ti s) (C.ti d) (opnd C e x) (C.sub s)
 |.makeInterface t x=>match (C.ti t).k with
   |.bad | .iface=>none
   |_=>ifcS t (opnd C e x)
 |.call { callee:=.builtin .len,args:=ags,argTypes:=ts }=>match ags.toList,ts.toList with
   |[x],[t]=>lenS (C.ti t) (opnd C e x)
   |_,_=>none
 |.call { callee:=.builtin .max,args:=ags,argTypes:=_ }=>match ags.toList with
   |[x,y]=>max2 (opnd C e x) (opnd C e y)
   |[x,y,z]=>max3 (opnd C e x) (opnd C e y) (opnd C e z)
   |_=>none
 |.call { callee:=.builtin .min,args:=ags,argTypes:=_ }=>match ags.toList with
   |[x,y]=>min2 (opnd C e x) (opnd C e y)
   |_=>none
 |.makeFunc (.func f) first caps=>bif first.isEmpty then fnS f (caps.toList.map (opnd C e)) else none
 |.slice t x lo hi mx=>match (C.ti t).k with
   |.array n et=>sliceA n (C.ti et) (opnd C e x) (lo.map (opnd C e)) (hi.map (opnd C e)) (mx.map (opnd C e))
   |.slice et=>sliceS (C.ti t) (C.ti et).size (opnd C e x) (lo.map (opnd C e)) (hi.map (opnd C e)) (mx.map (opnd C e))
   |_=>sliceS (C.ti t) 0 (opnd C e x) (lo.map (opnd C e)) (hi.map (opnd C e)) (mx.map (opnd C e))
 |.field t x f=>match structField (C.ti t) f with
   |some (off,ft)=>fieldS (C.ti t) (C.ti ft) off (opnd C e x)
   |none=>none
 |.indexAddr t x i=>match (C.ti t).k with
   |.slice et=>ixS (C.ti et).size (opnd C e x) (opnd C e i)
   |.array n et=>ixA n (C.ti et).size (opnd C e x) (opnd C e i)
   |_=>none
 |.index t x i=>indexS (C.ti t) (C.ti (match (C.ti t).k with | .array _ et=>et|_=>0)) (opnd C e x) (opnd C e i)
 |.extract x i=>extractS (opnd C e x) i
 |_=>none
def nilCheckV(s:Slot):Option Slot:=
 match s with
 |.val (.cp l)=>some (.val (.cp l))
 |.val (.vp a b)=>some (.val (.vp a b))
 |_=>none
def chkP(w' w:Bool)(k:Unit->Res):Res:=bif w' || !w then k () else none
def faK(off:Nat)(w:Bool)(x:Option Nat)(a:Ent)(k:Ent->Res):Res:=
 match a with
 |.var _=>match x with|some d=>k (.ptr w d off)|none=>none
 |.ptr w' d o=>chkP w' w λ_=>k (.ptr (w'&&w) d (o+off))
 |.s v=>bind1 (gd w (faV off v)) λv=>k (.s v)
 |.none=>none
def pureK(C:Cfg)(e:Env)(w:Bool)(op:Op)(k:Ent->Res):Res:=
 match op with
 |.move x | .assign x=>k (.s (gdV w (opnd C e x)))
 |.fieldAddr t x f=>match structField (C.ti t) f with
   |some (off,ft)=>bif Nat.beq (C.ti ft).size 0 then none else faK off w (Operand.tmp? x) (ent C e x) k
   |none=>none
 |.nilCheck x=>match ent C e x with
   |.ptr w' d o=>chkP w' w λ_=>k (.ptr (w'&&w) d o)
   |.s v=>bind1 (gd w (nilCheckV v)) λv=>k (.s v)
   |_=>none
 |op=>bind1 (gd w (pureS C e op)) λv=>k (.s v)
def isMap(t:TI):Bool:=match t.k with | .map _ _=>true|_=>false
def isPure(C:Cfg):Op->Bool
 |.move _ | .assign _ | .pick .. | .build .. | .buildSlice .. | .nilCheck _ | .binOp .. | .unOp .. | .convert .. | .makeInterface .. | .makeFunc .. | .slice .. | .fieldAddr .. | .field .. | .indexAddr .. | .index .. | .extract .. =>true
 |.call { callee:=.builtin .len,args:=_,argTypes:=ts }=>match ts.toList with | [t]=>!(isMap (C.ti t))|_=>false
 |.call { callee:=.builtin .max,args:=_,argTypes:=_ } | .call { callee:=.builtin .min,args:=_,argTypes:=_ }=>true
 |_=>false
def Slot.isB(s:Slot)(want:Bool):Option Bool:=
 match s with
 |.val (.bool b)=>some (b == want)
 |.no=>some false
 |_=>none
def wants(ops:List Oper)(e:Env)(g:Option (Nat × Bool)):Option Bool:=
 match g with
 |none=>some true
 |some (j,want)=>match (match ops[j]? with|some o=>o.dst|none=>none) with
   |some d=>(e.get d).slot.isB want
   |none=>none
def put(dst:Option Tmp)(v:Ent)(e:Env):Env:=
 match dst with
 |some d=>(d,v)::e
 |none=>e
def noPan(r:Res):Res:=
 match r with
 |some (.ret v,s)=>some (.ret v,s)
 |_=>none
def back(r:Res)(k:Slot->St->Res):Res:=
 match r with
 |some (.ret v,s)=>k v s
 |some (.pan v,s)=>some (.pan v,s)
 |none=>none
def tgtV(g:Slot)(args:List Slot):Option (Callee × List AV):=
 match avs args with
 |some l=>match g with
   |.val (.fn f caps)=>some (.f f,l++caps)
   |.val (.yld loc)=>some (.y loc,l)
   |_=>none
 |none=>none
def cal(cl:CallFn)(w:Bool)(t:Option (Callee × List AV))(s:St):Res:=
 bif w then (match t with|some (c,l)=>cl c l s|none=>none) else some (.ret .no,s)
def appendX(C:Cfg)(et u:TypeId)(s:St)(x y:Slot):Option (Slot × St):=
 match (C.ti u).k with
 |.str=>appendStr et (C.ti et) s x y
 |_=>none
def dstMode(C:Cfg)(f:FuncId)(o:Oper):AMode:=match o.dst with|some d=>C.mode f d|none=>.loc
def dstOld(e:Env)(o:Oper):Ent:=match o.dst with|some d=>e.get d|none=>.none
def makeS(et:TypeId)(t:TI)(s:St)(l c:Slot):Option (Slot × St):=
 match l,c with
 |.val (.int .i64 a),.val (.int .i64 b)=>
   if 0<=a/\a<=b/\b*t.bytes<=140737488355328/\0<t.size/\b<=9223372036854775807 then
    (match ofCells t t.zero with
    |some z=>some (.own s.toks.length et (List.replicate a.toNat z),{ s with toks:=s.toks++[a.toNat] })
    |none=>none)
   else none
 |_,_=>none
def bldLoc(C:Cfg)(f:FuncId)(o:Oper):Bool:=
 match o.op with
 |.buildSlice .. =>(dstMode C f o).isLoc
 |_=>false
def isPureO(C:Cfg)(f:FuncId)(o:Oper):Bool:=isPure C o.op && !(bldLoc C f o)
def bslV(e:TypeId)(t:TI)(s:St)(xs:List Slot):Option (Slot × St):=
 match bslS t.size xs with
 |some l=>newV e t l s
 |none=>none
def readS(C:Cfg)(r:Bool)(rt:Root)(e:Env)(s:St)(op:Op):Option Slot:=
 match op with
 |.load t a=>ldS (C.ti t) r rt (Operand.tmp? a) e s (ent C e a)
 |.lookup t x i ok=>match (C.ti t).k with
   |.map kt et=>lookupS (C.ti kt) (C.ti et) s (opnd C e x) (opnd C e i) ok
   |_=>none
 |.call { callee:=.builtin .len,args:=ags,argTypes:=ts }=>match ags.toList,ts.toList with
   |[x],[t]=>bif isMap (C.ti t) then lenM s (opnd C e x) else none
   |_,_=>none
 |_=>none
def effM(C:Cfg)(e:Env)(s:St)(op:Op):Option (Slot × St):=
 match op with
 |.makeMap t r=>bif isMap (C.ti t)&&hintOk (r.map (opnd C e)) then makeM s else none
 |.mapUpdate t m k x=>match (C.ti t).k with
   |.map kt et=>updateS (C.ti kt) (C.ti et) s (opnd C e m) (opnd C e k) (opnd C e x)
   |_=>none
 |.insert t m k x=>match (C.ti t).k with
   |.map kt et=>updateS (C.ti kt) (C.ti et) s (opnd C e m) (opnd C e k) (opnd C e x)
   |_=>none
 |.mapEntry t m k=>match (C.ti t).k with
   |.map kt et=>entryS (C.ti kt) (C.ti et) s (opnd C e m) (opnd C e k)
   |_=>none
 |.entryStore _ m b x=>entrySt s (opnd C e m) (opnd C e b) (opnd C e x)
 |.call { callee:=.builtin .delete,args:=ags,argTypes:=ts }=>match ags.toList,ts.toList with
   |[m,k],[t,_]=>match (C.ti t).k with
     |.map kt _=>deleteS (C.ti kt) s (opnd C e m) (opnd C e k)
     |_=>none
   |_,_=>none
 |_=>none
def isRead:Op->Bool
 |.load .. | .lookup .. =>true
 |.call { callee:=.builtin .len,args:=_,argTypes:=_ }=>true
 |_=>false
def panK(x:Slot)(s:St):Res:=
 match x with
 |.val (.ifc t v)=>some (.pan (.ifc t v),s)
 |_=>none
def effK(C:Cfg)(cl:CallFn)(dr:Bool)(f:FuncId)(o:Oper)(rt:Root)(w:Bool)(e:Env)(s:St)(k:Ent->Env->St->Res):Res:=
 match o.op with
 |.call { callee:=.value g,args:=ags,argTypes:=_ }=>back (bif dr then noPan (cal cl w (tgtV (opnd C e g) (ags.toList.map (opnd C e))) s) else cal cl w (tgtV (opnd C e g) (ags.toList.map (opnd C e))) s) (λv s=>k (.s v) e s)
 |op=>bif w then (match op with
   |.alloc t=>bif (C.ti t).isGood then newS (dstMode C f o) t ((C.ti t).zero.map .val) (dstOld e o) s (λv s=>k v e s) else none
   |.box t x=>bindL (boxCells (C.ti t) (opnd C e x)) λcs=>newS (dstMode C f o) t cs (dstOld e o) s (λv s=>k v e s)
   |.store t a x=>bindL (boxCells (C.ti t) (opnd C e x)) λcs=>stS rt (Operand.tmp? a) e s (ent C e a) cs (λe s=>k (.s .no) e s)
   |.makeSlice t l c=>match (C.ti t).k with
     |.slice et=>bif (dstMode C f o).isLoc then bind2 (makeV et (C.ti et) s (opnd C e l) (opnd C e c)) (λv s=>k (.s v) e s) else bind2 (makeS et (C.ti et) s (opnd C e l) (opnd C e c)) (λv s=>k (.s v) e s)
     |_=>none
   |.buildSlice t n ps=>match (C.ti t).k with
     | .slice et => bif inOrder 0 ps.toList && Nat.beq ps.toList.length n && Nat.ble (n * (C.ti et).size) 16777216 && Nat.blt 0 (C.ti et).size then
        bind2 (bslV et (C.ti et) s (ps.toList.map λp=>opnd C e p.2)) (λv s=>k (.s v) e s)
       else none
     |_=>none
   |.panic x=>bif dr then none else panK (opnd C e x) s
   |.call { callee:=.builtin .append,args:=ags,argTypes:=ts }=>match ags.toList,ts.toList with
     |[x,y],[t,u]=>match (C.ti t).k,Nat.beq t u with
       |.slice et,true=>bif (dstMode C f o).isLoc then bind2 (appendV et (C.ti et) s (opnd C e x) (opnd C e y)) (λv s=>k (.s v) e s) else bind2 (appendS et (C.ti et) s (opnd C e x) (opnd C e y)) (λv s=>k (.s v) e s)
       |.slice et,false=>bind2 (appendX C et u s (opnd C e x) (opnd C e y)) (λv s=>k (.s v) e s)
       |_,_=>none
     |_,_=>none
   |op=>bind2 (effM C e s op) (λv s=>k (.s v) e s)) else k (.s .no) e s
abbrev K:=AExit->Env->St->Res
def rootD(n:Nat):Root:=bif Nat.beq n 100000 then .nw else bif Nat.beq n 100001 then .old else .d n
def rootOf(dr:Bool)(rts:List (Option Nat)):Root:=
 bif dr then (match rts with|some n::_=>rootD n|_=>.no) else .free
def noRt:Option Nat->Bool
 |none=>true
 |some n=>Nat.beq n 100000 || Nat.beq n 100001
def opsK(C:Cfg)(cl:CallFn)(dr r:Bool)(f:FuncId)(all:List Oper):List Oper->List (Option Nat)->Env->St->(Env->St->Res)->Res
 |[],_,e,s,k=>k e s
 | o :: os, rts, e, s, k => bindB (wants all e o.guard) fun w =>
     bif isPureO C f o then pureK C e w o.op (λv=>opsK C cl dr r f all os rts.tail (put o.dst v e) s k)
     else bif isRead o.op then bind1 (gd w (readS C r (rootOf dr rts) e s o.op)) (λv=>opsK C cl dr r f all os rts.tail (put o.dst (.s v) e) s k)
     else effK C cl dr f o (rootOf dr rts) w e s (λv e s=>opsK C cl dr r f all os rts.tail (put o.dst v e) s k)
def keepS:Ent->Ent
 |.ptr _ _ _=>.none
 |s=>s
def stripS:Ent->Ent
 |.s v=>.s v
 |_=>.none
def keepE(ks:List Nat)(e:Env):Env:=ks.map λi=>(i,keepS (e.get i))
def stripE(ks:List Nat)(e:Env):Env:=ks.map λi=>(i,stripS (e.get i))
def regionOf:Code->Nat
 |.region id _ _=>id+1
 |.seq a b=>bif Nat.beq (regionOf a) 0 then regionOf b else regionOf a
 |.block _ b=>regionOf b
 |.loop b=>regionOf b
 |.scope b=>regionOf b
 |.cond _ a b=>bif Nat.beq (regionOf a) 0 then regionOf b else regionOf a
 |.rangeFunc _ _ a b=>bif Nat.beq (regionOf a) 0 then regionOf b else regionOf a
 |_=>0
def loopN(body:Env->St->K->Res)(ks:List Nat):Nat->Env->St->K->Res
 |0,_,_,_=>none
 |n+1,e,s,k=>body e s (λx e s=>match x with
   |.normal=>loopN body ks n (keepE ks e) s k
   |x=>k x e s)
def loopK(body:Env->St->K->Res)(ks:List Nat)(n:Nat)(e:Env)(s:St)(k:K):Res:=loopN body ks n (keepE ks e) s k
def gate:Nat->Bool
 |0=>false
 |_+1=>true
def cutN(g:Bool)(body:Env->St->K->Res)(e:Env)(s:St)(k:K):Res:=bif g then body e s k else none
def cutK(g:Bool)(ks:Option (List Nat))(body:Env->St->K->Res)(e:Env)(s:St)(k:K):Res:=
 match ks with
 |some l=>cutN g body (keepE l e) s k
 |none=>body e s k
def condS(c:Slot)(a b:Res):Res:=
 match c.bool? with
 |some t=>bif t then a else b
 |none=>none
def setLoop(loc:Nat)(st:LSt)(pend:Option AExit)(s:St):Option St:=
 match s.locs[loc]? with
 |some (.loop _ _ f e ps a b)=>some { s with locs:=s.locs.set loc (.loop st pend f e ps a b) }
 |_=>none
def pendX(p:Option AExit)(kn kr:St->Res)(ke:Nat->St->Res)(s:St):Res:=
 match p with
 |none=>kn s
 |some .normal=>kn s
 |some .ret=>kr s
 |some (.exit j)=>ke j s
def pendK(p:Option AExit)(k:K)(e:Env)(s:St):Res:=pendX p (λs=>k .normal e s) (λs=>k .ret e s) (λj s=>k (.exit j) e s) s
theorem QeI(x:AExit)(k:K)(e:Env)(s:St):pendK (some x) k e s=k x e s:=by cases x<;>rfl
def endX(loc:Nat)(s:St)(kn kr:St->Res)(ke:Nat->St->Res):Res:=
 match s.locs[loc]? with
 |some (.loop st pend _ _ _ _ _)=>match st with
   |.busy=>none
   |_=>bindS (setLoop loc .exhausted pend s) (λs=>pendX pend kn kr ke s)
 |_=>none
def endK(loc:Nat)(e:Env)(s:St)(k:K):Res:=endX loc s (λs=>k .normal e s) (λs=>k .ret e s) (λj s=>k (.exit j) e s)
def exec(C:Cfg)(cl:CallFn)(m:Nat)(g:Bool)(rd:Bool)(f:FuncId):Code->Env->St->K->Res
 |.skip,e,s,k=>k .normal e s
 |.region id ops draw,e,s,k=>frzE C.ti (C.frz f id) e s (λe s=>opsK C cl draw (bif draw then (C.draws f id).1 else false) f ops.toList ops.toList (C.draws f id).2 e s (λe s=>k .normal e s))
 |.seq a b,e,s,k=>exec C cl m g rd f a e s (λx e s=>match x with
   |.normal=>cutK g (C.cut f (regionOf b)) (λe s k=>exec C cl m g rd f b e s k) e s k
   |x=>k x e s)
 |.cond c a b,e,s,k=>condS (opnd C e c) (exec C cl m g rd f a e s k) (exec C cl m g rd f b e s k)
 |.block id b,e,s,k=>exec C cl m g rd f b e s (λx e s=>match x with
   |.exit j=>bif Nat.beq j id then k .normal e s else k (.exit j) e s
   |x=>k x e s)
 |.loop b,e,s,k=>loopK (λe s k=>exec C cl m g rd f b e s k) (C.keep f (regionOf b)) m e s k
 |.exit id,e,s,k=>k (.exit id) e s
 |.scope b,e,s,k=>exec C cl m g rd f b e s k
 |.label _,e,s,k=>k .normal e s
 |.ret,e,s,k=>k .ret e s
 |.rangeFunc h ps asg body,e,s,k=>bif rd then none else match tgtV (opnd C e h) [] with
   |some (.f g,l)=>bif (C.ext g).isSome then none else back (cl (.f g) (.yld s.locs.length::l) (s.addLoc (.loop .ready none f (stripE (C.keep f (regionOf asg)) e) ps.toList asg body))) (λ_ s1=>endK s.locs.length e s1 k)
   |_=>none
 |_,_,_,_=>none
def resVar(C:Cfg)(e:Env)(s:St):ResultVar->Option Slot
 |.tmp t=>some (e.get t).slot
 |.cell a t=>ldS (C.ti t) false .free none e s (e.get a)
def avsO:List (Option Slot)->Option (List AV)
 |[]=>some []
 |r::rs=>match r with
   |some v=>match v.av with
     |some a=>match avsO rs with|some l=>some (a::l)|none=>none
     |none=>none
   |none=>none
def tupS(rs:List (Option Slot)):Option Slot:=
 match avsO rs with
 |some l=>some (.val (.tup l))
 |none=>none
def resS(C:Cfg)(e:Env)(s:St)(rs:List ResultVar):Option Slot:=
 match rs with
 |[r]=>resVar C e s r
 |rs=>tupS (rs.map (resVar C e s))
def argE:Nat->List AV->Env
 |_,[]=>[]
 |n,a::r=>(n,.s (.val a))::argE (n+1) r
def setPs:List Nat->List AV->Env->Option Env
 |[],[],e=>some e
 |p::ps,a::ags,e=>setPs ps ags ((p,.s (.val a))::e)
 |_,_,_=>none
def outK(C:Cfg)(rs:List ResultVar):K:=λx e s=>match x with
 |.normal | .ret=>bind1 (resS C e s rs) λv=>some (.ret v,s)
 |.exit _=>none
def beginL(loc:Nat)(s:St):Option St:=
 match s.locs[loc]? with
 |some (.loop .ready p f e ps a b)=>some { s with locs:=s.locs.set loc (.loop .busy p f e ps a b) }
 |_=>none
def roundK(loc:Nat):K:=λx _ s=>match x with
 |.normal=>bindS (setLoop loc .ready none s) (λs=>some (.ret (.val (.bool true)),s))
 |.ret=>bindS (setLoop loc .done (some .ret) s) (λs=>some (.ret (.val (.bool false)),s))
 |.exit id=>bindS (setLoop loc .done (some (.exit id)) s) (λs=>some (.ret (.val (.bool false)),s))
def pureX(g:List AV->Option AV)(l:List AV)(s:St):Option (Slot × St):=match g l with|some v=>some (.val v,s)|none=>none
def call(C:Cfg):Nat->CallFn
 |0,_,_,_=>none
 |n+1,.f f,args,s=>match C.ext f with
   |some g=>(match g args s with|some (v,s')=>some (.ret v,s')|none=>none)
   |none=>match C.code f with
     |some fn=>match fn.body with
       |some b=>bif Nat.ble args.length fn.ntmps then exec C (call C n) n (gate n) false f b (argE 0 args) s (outK C fn.results.toList) else none
       |none=>none
     |none=>none
 |n+1,.y loc,args,s=>match s.locs[loc]? with
   |some (.loop .ready none f e ps asg body)=>match setPs ps args e with
     |some e=>noPan (exec C (call C n) n (gate n) true f asg e s (λx e s=>match x with
       |.normal=>bindS (beginL loc s) (λs=>exec C (call C n) n (gate n) true f body e s (roundK loc))
       |_=>none))
     |none=>none
   |_=>none
def tmpsOf(o:Op):List Nat:=o.operands.toList.filterMap Operand.tmp?
def gtmp(all:List Oper)(g:Option (Nat × Bool)):List Nat:=
 match g with
 |none=>[]
 |some (j,_)=>match all[j]? with
   |some o=>o.dst.toList
   |none=>[]
def isStore:Op->Bool
 |.store .. =>true
 |_=>false
def rdO(all:List Oper)(o:Oper)(rt:Option Nat):List Nat:=tmpsOf o.op++(gtmp all o.guard++(rt.toList++o.dst.toList))
def wrO(o:Oper)(rt:Option Nat):List Nat:=o.dst.toList++(bif isStore o.op then rt.toList else [])
def efO(C:Cfg)(r:Bool)(f:FuncId)(o:Oper)(rt:Option Nat):Bool:=
 match o.op with
 |.load .. =>!r&&noRt rt
 |.store .. =>noRt rt
 |.alloc _ | .box .. =>(dstMode C f o).isLoc
 |_=>!(isPureO C f o)
def isQuiet(C:Cfg)(op:Op):Bool:=match op with
 |.call { callee:=.value (.func F),args:=ags,argTypes:=_ }=>C.quiet F ags.size
 |_=>false
def QuietOK(C:Cfg)(cl:CallFn):Prop:=∀ F n,C.quiet F n=true->∀ l s o s',l.length=n->cl (.f F) l s=some (o,s')->s'=s
def weO(C:Cfg)(r:Bool)(f:FuncId)(o:Oper)(rt:Option Nat):Bool:=efO C r f o rt && !(isRead o.op || isQuiet C o.op)
def disj(a b:List Nat):Bool:=a.all λi=>b.all λj=>!(Nat.beq i j)
def isMk(n:Nat)(x:Oper × Option Nat):Bool:=isStore x.1.op&&(x.1.guard.isNone&&match x.2 with|some m=>Nat.beq m n|none=>false)
def apart(y x:Oper × Option Nat):Bool:=(isMk 100000 y&&isMk 100001 x) || (isMk 100001 y&&isMk 100000 x)
def comm(C:Cfg)(r:Bool)(f:FuncId)(all:List Oper)(y x:Oper × Option Nat):Bool:=
 disj (wrO y.1 y.2) (rdO all x.1 x.2)&&(disj (wrO x.1 x.2) (rdO all y.1 y.2)&&(disj (wrO y.1 y.2) (wrO x.1 x.2)&&(apart y x || (!(weO C r f y.1 y.2&&efO C r f x.1 x.2) && !(efO C r f y.1 y.2&&weO C r f x.1 x.2)))))
def mkL:Nat->List Oper->List (Option Nat)->List (Nat × (Oper × Option Nat))
 |_,[],_=>[]
 |n,o::os,rts=>(n,(o,rts.headD none))::mkL (n+1) os rts.tail
def bindsAll(e:Edge):Bool:=
 match e.ground with
 |.textOnly _ | .gcOnly _=>false
 |_=>true
def addNew(l:List Nat)(i:Nat):List Nat:=bif l.any (Nat.beq i) then l else i::l
def addAll(l m:List Nat):List Nat:=m.foldl addNew l
def ancsGo:List (List Nat)->List Oper->List (List Nat)
 |acc,[]=>acc
 |acc,o::os=>ancsGo (acc++[(o.after.toList.filter bindsAll).foldl (λl e=>addAll (addNew l e.on) (acc.getD e.on [])) []]) os
def rkOf(rk:List Nat)(i:Nat):Nat:=rk.getD i i
def edgeOK(rk:List Nat)(n i:Nat)(e:Edge):Bool:=Nat.blt e.on n&&(match e.ground with
 |.gcOnly _=>Nat.blt (rkOf rk e.on) (rkOf rk i)
 |.textOnly _=>Nat.blt e.on i
 |_=>Nat.blt e.on i&&Nat.blt (rkOf rk e.on) (rkOf rk i))
def drawGo(C:Cfg)(r:Bool)(f:FuncId)(all:List Oper)(rk:List Nat)(n:Nat)(A:List (List Nat)):List (Nat × (Oper × Option Nat))->Bool
 |[]=>true
 |p::L=>p.2.1.after.toList.all (edgeOK rk n p.1)&&(L.all (λq=>(A.getD q.1 []).any (Nat.beq p.1) || comm C r f all p.2 q.2)&&drawGo C r f all rk n A L)
def drawOK(C:Cfg)(r:Bool)(f:FuncId)(all:List Oper)(rk:List Nat)(L:List (Nat × (Oper × Option Nat))):Bool:=drawGo C r f all rk all.length (ancsGo [] all) L
def okCode(C:Cfg)(f:FuncId)(N:Nat):Code->Bool
 |.region id ops draw=>ops.toList.all (λo=>match o.dst with|some d=>Nat.blt d N|none=>true)&&(!draw || drawOK C (C.draws f id).1 f ops.toList (C.ranks f id) (mkL 0 ops.toList (C.draws f id).2))
 |.seq a b=>okCode C f N a&&okCode C f N b
 |.cond _ a b=>okCode C f N a&&okCode C f N b
 |.block _ b=>okCode C f N b
 |.loop b=>okCode C f N b
 |.rangeFunc _ ps a b=>ps.toList.all (λp=>Nat.blt p N)&&(okCode C f N a&&okCode C f N b)
 |.scope b=>okCode C f N b
 |.goto _=>false
 |_=>true
def findMode(f d:Nat):List (Nat × Nat × AMode)->AMode
 |[]=>.var
 |(g,e,m)::r=>bif Nat.beq f g&&Nat.beq d e then m else findMode f d r
def findKeep(f i:Nat):List (Nat × Nat × List Nat)->List Nat
 |[]=>[]
 |(g,j,l)::r=>bif Nat.beq f g&&Nat.beq i j then l else findKeep f i r
def findCut(f i:Nat):List (Nat × Nat × List Nat)->Option (List Nat)
 |[]=>none
 |(g,j,l)::r=>bif Nat.beq f g&&Nat.beq i j then some l else findCut f i r
def findDraw(f i:Nat):List (Nat × Nat × Bool × List (Option Nat))->Bool × List (Option Nat)
 |[]=>(false,[])
 |(g,j,x)::r=>bif Nat.beq f g&&Nat.beq i j then x else findDraw f i r
def findExt(f:Nat):List (Nat × (List AV->St->Option (Slot × St)))->Option (List AV->St->Option (Slot × St))
 |[]=>none
 |(g,c)::r=>bif Nat.beq f g then some c else findExt f r
def findCode(f:Nat):List (Nat × Func)->Option Func
 |[]=>none
 |(g,c)::r=>bif Nat.beq f g then some c else findCode f r
inductive Step where
 |seqL|seqR|thn|els|block|loop|scope
def codeAt:List Step->Code->Code
 |[],c=>c
 |.seqL::p,.seq a _=>codeAt p a
 |.seqR::p,.seq _ b=>codeAt p b
 |.thn::p,.cond _ a _=>codeAt p a
 |.els::p,.cond _ _ b=>codeAt p b
 |.block::p,.block _ b=>codeAt p b
 |.loop::p,.loop b=>codeAt p b
 |.scope::p,.scope b=>codeAt p b
 |_::_,c=>c
def body(fn:Func):Code:=match fn.body with|some b=>b|none=>.skip
end Go.Am
namespace Go.Am
open Go
structure Kn where
 im:Nat->Nat->Option Value
 loc:Nat->Option Nat
 tok:Nat->Option (Nat × TypeId × Value)
 gone:Nat->Bool
 cap:Nat->Option (TypeId × Nat × Nat)
def Held(κ:Kn)(a:Addr)(vs:List Value):Prop:=∀ j u,vs[j]? = some u->κ.im a.block (a.off+j)=some u
def Ones(vs:List Value):Prop:=∀ u ∈ vs,u.oneCell'=true
mutual
def VR(κ:Kn):AV->Value->Prop
 |.bool b,v=>v = .bool b
 |.int k n,v=>v = .int k n
 |.str s,v=>∃ x:ByteArray,x.data.toList=s/\v = .string x
 |.agg l,v=>∃ vs:List Value,VRl κ l vs/\Ones vs/\v = .agg vs.toArray
 |.tup l,v=>∃ vs:List Value,VRl κ l vs/\v = .tuple vs.toArray
 |.nils,v=>v = .slice none 0 0
 |.sl l,v=>∃ a n c sz,∃ vs:List Value,v = .slice (some a) n c/\l.length=n/\n<=c/\(0<n->a.spot=none)/\(∀ x ∈ l,x.cells.length=sz)/\Held κ a vs/\Ones vs/\VRr κ l vs
 |.vs loc e sz lo n,v=>∃ b c a,κ.loc loc=some b/\κ.cap loc=some (e,sz,c)/\lo+n<=c/\(lo<c->a=⟨b,lo*sz,none⟩)/\v = .slice (some a) n (c - lo)
 |.nilp,v=>v = .pointer none
 |.cp l,v=>∃ a,∃ vs:List Value,v = .pointer (some a)/\a.spot=none/\Held κ a vs/\Ones vs/\VRl κ l vs
 |.vp loc off,v=>∃ b,κ.loc loc=some b/\v = .pointer (some ⟨b,off,none⟩)
 |.nilf,v=>v = .nilFunc
 |.fn f caps,v=>∃ vs:List Value,VRl κ caps vs/\v = .func (.func f) #[] vs.toArray
 |.yld loc,v=>∃ b,κ.loc loc=some b/\v = .func (.yield b) #[] #[]
 |.nilm,v=>v = .map none
 |.mp loc,v=>∃ b,κ.loc loc=some b/\v = .map (some b)
 |.nili,v=>v = .nilIface
 |.ifc t x,v=>∃ u,VR κ x u/\v = .iface t u
def VRl(κ:Kn):List AV->List Value->Prop
 |[],vs=>vs=[]
 |x::r,vs=>∃ u us,vs=u::us/\VR κ x u/\VRl κ r us
def VRr(κ:Kn):List AV->List Value->Prop
 |[],vs=>vs=[]
 |x::r,vs=>∃ a b,vs=a++b/\(match x with | .agg l=>VRl κ l a|x=>∃ u,a=[u]/\VR κ x u)/\VRr κ r b
end
theorem Qbr{κ:Kn}{loc sz lo n:Nat}{e:TypeId}{v:Value}(h:VR κ (.vs loc e sz lo n) v):∃ a m c,v = .slice (some a) m c:=by
 simp only[VR] at h
 obtain⟨b,c,a,_,_,_,_,rfl⟩:=h
 exact⟨_,_,_,rfl⟩
structure LE (κ κ':Kn):Prop where
 im:∀ b o v,κ.im b o=some v->κ'.im b o=some v
 loc:∀ l b,κ.loc l=some b->κ'.loc l=some b
 tok:∀ k L e v,κ.tok k=some (L,e,v)->∃ L' v',κ'.tok k=some (L',e,v')/\L<=L'/\(L'=L->v'=v)
 cap:∀ l x,κ.cap l=some x->κ'.cap l=some x
theorem LE.refl(κ:Kn):LE κ κ:=⟨λ_ _ _ h=>h,λ_ _ h=>h,λ_ L _ v h=>⟨L,v,h,Yd _,λ_=>rfl⟩,λ_ _ h=>h⟩
theorem LE.trans{a b c:Kn}(h:LE a b)(k:LE b c):LE a c where
 im:=λ_ _ _ x=>k.im _ _ _ (h.im _ _ _ x)
 loc:=λ_ _ x=>k.loc _ _ (h.loc _ _ x)
 tok:=λi L e v x=>by
  obtain⟨L',v',h1,h2,h3⟩:=h.tok i L e v x
  obtain⟨L'',v'',k1,k2,k3⟩:=k.tok i L' e v' h1
  exact⟨L'',v'',k1,by omega,λe=>(k3 (by omega)).trans (h3 (by omega))⟩
 cap:=λ_ _ x=>k.cap _ _ (h.cap _ _ x)
theorem Held.mono{κ κ':Kn}(h:LE κ κ'){a:Addr}{vs:List Value}(k:Held κ a vs):Held κ' a vs:=λj u hu=>h.im _ _ _ (k j u hu)
mutual
theorem VR.mono{κ κ':Kn}(h:LE κ κ'):∀ (a:AV) (v:Value),VR κ a v->VR κ' a v
 |.bool _,_,hv=>by simpa only[VR] using hv
 |.int _ _,_,hv=>by simpa only[VR] using hv
 |.str _,_,hv=>by simpa only[VR] using hv
 |.agg l,_,hv=>by
   simp only[VR] at hv |-
   obtain⟨vs,h1,h2⟩:=hv
   exact⟨vs,VRl.mono h l vs h1,h2⟩
 |.tup l,_,hv=>by
   simp only[VR] at hv |-
   obtain⟨vs,h1,h2⟩:=hv
   exact⟨vs,VRl.mono h l vs h1,h2⟩
 |.nils,_,hv=>by simpa only[VR] using hv
 |.sl l,_,hv=>by
   simp only[VR] at hv |-
   obtain⟨a,n,c,sz,vs,h1,h2,h3,h4,h5,h6,h7,h8⟩:=hv
   exact⟨a,n,c,sz,vs,h1,h2,h3,h4,h5,h6.mono h,h7,VRr.mono h l vs h8⟩
 |.vs _ _ _ _ _,_,hv=>by
   simp only[VR] at hv |-
   obtain⟨b,c,a,h1,h2,h3,h4⟩:=hv
   exact⟨b,c,a,h.loc _ _ h1,h.cap _ _ h2,h3,h4⟩
 |.nilp,_,hv=>by simpa only[VR] using hv
 |.cp l,_,hv=>by
   simp only[VR] at hv |-
   obtain⟨a,vs,h1,h2,h3,h4,h5⟩:=hv
   exact⟨a,vs,h1,h2,h3.mono h,h4,VRl.mono h l vs h5⟩
 |.vp _ _,_,hv=>by
   simp only[VR] at hv |-
   obtain⟨b,h1,h2⟩:=hv
   exact⟨b,h.loc _ _ h1,h2⟩
 |.nilf,_,hv=>by simpa only[VR] using hv
 |.fn _ caps,_,hv=>by
   simp only[VR] at hv |-
   obtain⟨vs,h1,h2⟩:=hv
   exact⟨vs,VRl.mono h caps vs h1,h2⟩
 |.yld _,_,hv=>by
   simp only[VR] at hv |-
   obtain⟨b,h1,h2⟩:=hv
   exact⟨b,h.loc _ _ h1,h2⟩
 |.nilm,_,hv=>by simpa only[VR] using hv
 |.mp _,_,hv=>by
   simp only[VR] at hv |-
   obtain⟨b,h1,h2⟩:=hv
   exact⟨b,h.loc _ _ h1,h2⟩
 |.nili,_,hv=>by simpa only[VR] using hv
 |.ifc _ x,_,hv=>by
   simp only[VR] at hv |-
   obtain⟨u,h1,h2⟩:=hv
   exact⟨u,VR.mono h x u h1,h2⟩
theorem VRl.mono{κ κ':Kn}(h:LE κ κ'):∀ (l:List AV) (vs:List Value),VRl κ l vs->VRl κ' l vs
 |[],_,hv=>by simpa only[VRl] using hv
 |x::r,_,hv=>by
   simp only[VRl] at hv |-
   obtain⟨u,us,h1,h2,h3⟩:=hv
   exact⟨u,us,h1,VR.mono h x u h2,VRl.mono h r us h3⟩
theorem VRr.mono{κ κ':Kn}(h:LE κ κ'):∀ (l:List AV) (vs:List Value),VRr κ l vs->VRr κ' l vs
 |[],_,hv=>by simpa only[VRr] using hv
 |.agg l::r,_,hv=>by
   simp only[VRr] at hv |-
   obtain⟨a,b,h1,h2,h3⟩:=hv
   exact⟨a,b,h1,VRl.mono h l a h2,VRr.mono h r b h3⟩
 |.bool x::r,_,hv=>by simp only[VRr] at hv |-;obtain⟨a,b,h1,⟨u,h2,h4⟩,h3⟩:=hv;exact⟨a,b,h1,⟨u,h2,VR.mono h (.bool x) u h4⟩,VRr.mono h r b h3⟩
 |.int k x::r,_,hv=>by simp only[VRr] at hv |-;obtain⟨a,b,h1,⟨u,h2,h4⟩,h3⟩:=hv;exact⟨a,b,h1,⟨u,h2,VR.mono h (.int k x) u h4⟩,VRr.mono h r b h3⟩
 |.str x::r,_,hv=>by simp only[VRr] at hv |-;obtain⟨a,b,h1,⟨u,h2,h4⟩,h3⟩:=hv;exact⟨a,b,h1,⟨u,h2,VR.mono h (.str x) u h4⟩,VRr.mono h r b h3⟩
 |.tup x::r,_,hv=>by simp only[VRr] at hv |-;obtain⟨a,b,h1,⟨u,h2,h4⟩,h3⟩:=hv;exact⟨a,b,h1,⟨u,h2,VR.mono h (.tup x) u h4⟩,VRr.mono h r b h3⟩
 |.nils::r,_,hv=>by simp only[VRr] at hv |-;obtain⟨a,b,h1,⟨u,h2,h4⟩,h3⟩:=hv;exact⟨a,b,h1,⟨u,h2,VR.mono h .nils u h4⟩,VRr.mono h r b h3⟩
 |.sl x::r,_,hv=>by simp only[VRr] at hv |-;obtain⟨a,b,h1,⟨u,h2,h4⟩,h3⟩:=hv;exact⟨a,b,h1,⟨u,h2,VR.mono h (.sl x) u h4⟩,VRr.mono h r b h3⟩
 |.vs x y z u q::r,_,hv=>by simp only[VRr] at hv |-;obtain⟨a,b,h1,⟨u',h2,h4⟩,h3⟩:=hv;exact⟨a,b,h1,⟨u',h2,VR.mono h (.vs x y z u q) u' h4⟩,VRr.mono h r b h3⟩
 |.nilp::r,_,hv=>by simp only[VRr] at hv |-;obtain⟨a,b,h1,⟨u,h2,h4⟩,h3⟩:=hv;exact⟨a,b,h1,⟨u,h2,VR.mono h .nilp u h4⟩,VRr.mono h r b h3⟩
 |.cp x::r,_,hv=>by simp only[VRr] at hv |-;obtain⟨a,b,h1,⟨u,h2,h4⟩,h3⟩:=hv;exact⟨a,b,h1,⟨u,h2,VR.mono h (.cp x) u h4⟩,VRr.mono h r b h3⟩
 |.vp x y::r,_,hv=>by simp only[VRr] at hv |-;obtain⟨a,b,h1,⟨u,h2,h4⟩,h3⟩:=hv;exact⟨a,b,h1,⟨u,h2,VR.mono h (.vp x y) u h4⟩,VRr.mono h r b h3⟩
 |.nilf::r,_,hv=>by simp only[VRr] at hv |-;obtain⟨a,b,h1,⟨u,h2,h4⟩,h3⟩:=hv;exact⟨a,b,h1,⟨u,h2,VR.mono h .nilf u h4⟩,VRr.mono h r b h3⟩
 |.fn x y::r,_,hv=>by simp only[VRr] at hv |-;obtain⟨a,b,h1,⟨u,h2,h4⟩,h3⟩:=hv;exact⟨a,b,h1,⟨u,h2,VR.mono h (.fn x y) u h4⟩,VRr.mono h r b h3⟩
 |.yld x::r,_,hv=>by simp only[VRr] at hv |-;obtain⟨a,b,h1,⟨u,h2,h4⟩,h3⟩:=hv;exact⟨a,b,h1,⟨u,h2,VR.mono h (.yld x) u h4⟩,VRr.mono h r b h3⟩
 |.nilm::r,_,hv=>by simp only[VRr] at hv |-;obtain⟨a,b,h1,⟨u,h2,h4⟩,h3⟩:=hv;exact⟨a,b,h1,⟨u,h2,VR.mono h .nilm u h4⟩,VRr.mono h r b h3⟩
 |.mp x::r,_,hv=>by simp only[VRr] at hv |-;obtain⟨a,b,h1,⟨u,h2,h4⟩,h3⟩:=hv;exact⟨a,b,h1,⟨u,h2,VR.mono h (.mp x) u h4⟩,VRr.mono h r b h3⟩
 |.nili::r,_,hv=>by simp only[VRr] at hv |-;obtain⟨a,b,h1,⟨u,h2,h4⟩,h3⟩:=hv;exact⟨a,b,h1,⟨u,h2,VR.mono h .nili u h4⟩,VRr.mono h r b h3⟩
 |.ifc x y::r,_,hv=>by simp only[VRr] at hv |-;obtain⟨a,b,h1,⟨u,h2,h4⟩,h3⟩:=hv;exact⟨a,b,h1,⟨u,h2,VR.mono h (.ifc x y) u h4⟩,VRr.mono h r b h3⟩
end
def flat(l:List AV):List AV:=l.flatMap AV.cells
theorem VRl.append{κ:Kn}:∀ {l m:List AV} {vs:List Value},VRl κ (l++m) vs↔∃ a b,vs=a++b/\VRl κ l a/\VRl κ m b
 |[],m,vs=>by
   simp only[Yo,VRl]
   exact⟨λh=>⟨[],vs,rfl,rfl,h⟩,λ⟨a,b,h1,h2,h3⟩=>by subst h2;simpa [h1] using h3⟩
 |x::l,m,vs=>by
   simp only[Yk,VRl,VRl.append (l:=l)]
   constructor
   ·rintro⟨u,us,rfl,h1,a,b,rfl,h2,h3⟩
    exact⟨u::a,b,rfl,⟨u,a,rfl,h1,h2⟩,h3⟩
   ·rintro⟨a,b,rfl,⟨u,us,rfl,h1,h2⟩,h3⟩
    exact⟨u,us++b,rfl,h1,us,b,rfl,h2,h3⟩
theorem VRl.length{κ:Kn}:∀ {l:List AV} {vs:List Value},VRl κ l vs->l.length=vs.length
 |[],_,h=>by simp only[VRl] at h;simp[h]
 |_::l,_,h=>by
   simp only[VRl] at h
   obtain⟨u,us,rfl,_,h⟩:=h
   simp[VRl.length h]
theorem Q9m{κ:Kn}:∀ (l:List AV) (vs:List Value),VRr κ l vs↔VRl κ (flat l) vs
 |[],vs=>by simp[VRr,VRl,flat]
 |x::r,vs=>by
   have hf:flat (x::r)=x.cells++flat r:=by simp[flat]
   rw[hf,VRl.append]
   unfold VRr
   constructor
   ·rintro⟨a,b,h1,h2,h3⟩
    refine⟨a,b,h1,?_,(Q9m r b).1 h3⟩
    cases x<;>simp only[AV.cells,VRl] at h2 |-<;>first|exact h2|(obtain⟨u,rfl,h⟩:=h2;exact⟨u,[],rfl,h,rfl⟩)
   ·rintro⟨a,b,h1,h2,h3⟩
    refine⟨a,b,h1,?_,(Q9m r b).2 h3⟩
    cases x<;>simp only[AV.cells,VRl] at h2 |-<;>first|exact h2|(obtain⟨u,us,rfl,h,rfl⟩:=h2;exact⟨u,rfl,h⟩)
def SlA(κ:Kn)(l:List AV)(a:Addr)(n c:Nat):Prop:=
 l.length=n/\n<=c/\(0<n->a.spot=none)/\∃ sz,∃ vs:List Value,(∀ x ∈ l,x.cells.length=sz)/\Held κ a vs/\Ones vs/\VRl κ (flat l) vs
theorem Q1B{κ:Kn}{l:List AV}{v:Value}:VR κ (.sl l) v↔∃ a n c,v = .slice (some a) n c/\SlA κ l a n c:=by
 simp only[VR,Q9m,SlA]
 constructor
 ·rintro⟨a,n,c,sz,vs,h1,h2,h3,h4,h5,h6,h7,h8⟩;exact⟨a,n,c,h1,h2,h3,h4,sz,vs,h5,h6,h7,h8⟩
 ·rintro⟨a,n,c,h1,h2,h3,h4,sz,vs,h5,h6,h7,h8⟩;exact⟨a,n,c,sz,vs,h1,h2,h3,h4,h5,h6,h7,h8⟩
theorem SlA.mono{κ κ':Kn}(h:LE κ κ'){l:List AV}{a:Addr}{n c:Nat}(k:SlA κ l a n c):SlA κ' l a n c:=by
 obtain⟨h1,h2,h3,sz,vs,h4,h5,h6,h7⟩:=k
 exact⟨h1,h2,h3,sz,vs,h4,h5.mono h,h6,VRl.mono h _ _ h7⟩
def SR(κ:Kn):Slot->Value->Prop
 |.und,_=>True
 |.no,v=>v=undef
 |.val a,v=>VR κ a v
 |.own k e l,v=>(∃ a n c,v = .slice (some a) n c/\SlA κ l a n c)/\∃ L u,κ.tok k=some (L,e,u)/\l.length<=L/\(l.length=L->v=u)
 |.full l,v=>∃ a n,v = .slice (some a) n n/\SlA κ l a n n
theorem SR.mono{κ κ':Kn}(h:LE κ κ'):∀ {s:Slot} {v:Value},SR κ s v->SR κ' s v
 |.und,_,_=>trivial
 |.no,_,k=>k
 |.val a,v,k=>VR.mono h a v k
 |.own k e l,v,hv=>by
   obtain⟨⟨a,n,c,h1,h2⟩,L,u,h3,h4,h5⟩:=hv
   obtain⟨L',u',k1,k2,k3⟩:=h.tok _ _ _ _ h3
   refine⟨⟨a,n,c,h1,h2.mono h⟩,L',u',k1,by omega,λe=>?_⟩
   rw[k3 (by omega)]
   exact h5 (by omega)
 |.full _,_,k=>by
   obtain⟨a,n,h1,h2⟩:=k
   exact⟨a,n,h1,h2.mono h⟩
theorem SR.av{κ:Kn}{s:Slot}{v:Value}{a:AV}(h:SR κ s v)(ha:s.av=some a):VR κ a v:=by
 cases s with
 |und=>simp[Slot.av] at ha
 |no=>simp[Slot.av] at ha
 |val x=>simp[Slot.av] at ha;subst ha;exact h
 |own k e l=>
   simp[Slot.av] at ha;subst ha
   exact Q1B.2 h.1
 |full l=>
   simp[Slot.av] at ha;subst ha
   obtain⟨b,n,h1,h2⟩:=h
   exact Q1B.2 ⟨b,n,n,h1,h2⟩
def SRs(κ:Kn):List Slot->List Value->Prop
 |[],vs=>vs=[]
 |s::r,vs=>∃ u us,vs=u::us/\SR κ s u/\SRs κ r us
theorem SRs.mono{κ κ':Kn}(h:LE κ κ'):∀ {l:List Slot} {vs:List Value},SRs κ l vs->SRs κ' l vs
 |[],_,k=>k
 |_::_,_,⟨u,us,h1,h2,h3⟩=>⟨u,us,h1,h2.mono h,SRs.mono h h3⟩
theorem SRs.length{κ:Kn}:∀ {l:List Slot} {vs:List Value},SRs κ l vs->l.length=vs.length
 |[],_,h=>by simp only[SRs] at h;simp[h]
 |_::_,_,⟨u,us,h1,_,h3⟩=>by subst h1;simp[SRs.length h3]
end Go.Am
namespace Go.Am
open Go Go.RowKit
def KOk(P:Program)(t:TypeId):TK->Prop
 |.bad=>True
 |.bool=>P.underlying t=some .bool
 |.int k=>P.underlying t=some (.int k)
 |.str=>P.underlying t=some .string
 |.ptr=>∃ e,P.underlying t=some (.pointer e)
 |.slice e=>P.underlying t=some (.slice e)
 |.struct fs=>∃ fields:Array Field,P.underlying t=some (.struct fields)/\fields.toList.map (λf=>(f.offset,f.type))=fs
 |.array n e=>P.underlying t=some (.array n e)
 |.map k e=>P.underlying t=some (.map k e)
 |.func=>∃ a b c,P.underlying t=some (.func a b c)
 |.iface=>∃ m,P.underlying t=some (.interface m)
structure TyOK (P:Program) (C:Cfg) (t:TypeId):Prop where
 bad:(C.ti t).k = .bad->(C.ti t).size=0
 kind:KOk P t (C.ti t).k
 elem:∀ e,(C.ti t).k = .slice e->(P.info? e).isSome=true
 flds:∀ fields:Array Field,P.underlying t=some (.struct fields)->(C.ti t).k≠.bad->∀ f ∈ fields.toList,(P.info? f.type).isSome=true
 info:(C.ti t).k≠.bad->∃ i z,P.info? t=some i/\i.size=(C.ti t).size/\i.bytes=(C.ti t).bytes/\i.zero=some z/\z.cells.size=(C.ti t).size/\(∀ κ,VRl κ (C.ti t).zero z.cells.toList)/\Ones z.cells.toList/\
  ((C.ti t).isAgg=true->∃ cs,z = .agg cs)/\((C.ti t).isAgg=false->z.oneCell'=true/\(C.ti t).size=1)
 flat:(C.ti t).flat≠[]->P.eqGuardType P.depth t=false/\P.stoodInHeld t=false/\
  ∃ fields : Array Field, P.underlying t = some (.struct fields) ∧ (∀ f ∈ fields.toList, f.name ≠ "_") ∧ fields.toList.map (·.offset) = List.range (C.ti t).flat.length ∧ fields.toList.map (fun f => (C.ti f.type).k) = (C.ti t).flat
def MR(κ:Kn):List (AV × AV × Nat)->List MapEntry->Prop
 |[],es=>es=[]
 |(k,v,b)::r,es=>∃ x xs,es=x::xs/\VR κ k x.key/\VR κ v x.val/\x.born=b/\MR κ r xs
theorem MR.mono{κ κ':Kn}(h:LE κ κ'):∀ {l:List (AV × AV × Nat)} {es:List MapEntry},MR κ l es->MR κ' l es
 |[],_,k=>k
 |(_,_,_)::_,_,⟨x,xs,h1,h2,h3,h4,h5⟩=>⟨x,xs,h1,VR.mono h _ _ h2,VR.mono h _ _ h3,h4,MR.mono h h5⟩
def LStR:LSt->LoopState->Prop
 |.ready,x=>x = .ready
 |.busy,x=>x = .busy
 |.done,x=>x = .done
 |.exhausted,x=>x = .exhausted
def PendR:Option AExit->Option Code->Prop
 |none,x=>x=none
 |some .ret,x=>x=some .ret
 |some (.exit id),x=>x=some (.exit id)
 |some .normal,_=>False
def EntR0(κ:Kn):Ent->Value->Prop
 |.none,_=>True
 |.s v,x=>SR κ v x
 |_,_=>False
theorem EntR0.mono{κ κ':Kn}(h:LE κ κ'):∀ {e:Ent} {v:Value},EntR0 κ e v->EntR0 κ' e v
 |.none,_,_=>trivial
 |.s _,_,k=>SR.mono h k
 |.var _,_,k=>k.elim
 |.ptr _ _ _,_,k=>k.elim
def ObjR(C:Cfg)(κ:Kn)(o:Go.Obj):Obj->Prop
 |.var cells=>∃ cs t,o = .cells cs t (0,0)/\cells.length<=cs.toList.length/\SRs κ cells (cs.toList.take cells.length)/\Ones (cs.toList.take cells.length)
 |.map es clock=>∃ mes,o = .map mes clock/\MR κ es mes.toList
 |.loop st pend f env ps asg body=>∃ L:Loop,o = .loop L/\LStR st L.state/\PendR pend L.pending/\L.params.toList=ps/\L.assign=asg/\L.body=body/\(∃ N,L.tmps.size=N/\okCode C f N asg=true/\okCode C f N body=true/\∀ p ∈ ps,p<N)/\∀ i,EntR0 κ (env.get i) (L.tmps.getD i undef)
 |.dead=>True
theorem ObjR.mono{C:Cfg}{κ κ':Kn}(h:LE κ κ'){o:Go.Obj}:∀ {x:Obj},ObjR C κ o x->ObjR C κ' o x
 |.var _,⟨cs,t,h1,h0,h2,h3⟩=>⟨cs,t,h1,h0,h2.mono h,h3⟩
 |.map _ _,⟨mes,h1,h2⟩=>⟨mes,h1,h2.mono h⟩
 |.loop _ _ _ _ _ _ _,⟨L,h1,h2,h3,h5,h6,h7,hn,h8⟩=>⟨L,h1,h2,h3,h5,h6,h7,hn,λi=>(h8 i).mono h⟩
 |.dead,_=>trivial
def Wr(κ:Kn)(b:Nat):Prop:=(∃ l,κ.loc l=some b/\κ.gone l=false)\/∃ k L e v,κ.tok k=some (L,e,v)/\v.ownBlock=some b
def TokI(C:Cfg)(κ:Kn)(B:Nat)(w:World)(L:Nat)(e:TypeId)(v:Value):Prop:=∀ g,v.ownBlock=some g->∃ xs,w.ownsRow B e (C.ti e).size v L xs/\0<(C.ti e).size/\Ones xs/\
 (∀ j u,xs[j]? = some u->κ.im g j=some u)/\(∀ o,L*(C.ti e).size<=o->κ.im g o=none)
def TabsOK(C:Cfg)(κ:Kn)(B:Nat)(w:World):Prop:=∀ p ∈ C.tabs,p.1<B/\(∃ v,κ.im p.1 0=some v)/\∃ t z,w.heap[p.1]? = some (.cells p.2 t z)
theorem TabsOK.mono{C:Cfg}{κ κ':Kn}{B:Nat}{w w':World}(h:TabsOK C κ B w)(hi:∀ b v,κ.im b 0=some v->∃ v',κ'.im b 0=some v')(hw:∀ b,b<B->b<w.heap.size->(∃ v,κ.im b 0=some v)->w'.heap[b]? = w.heap[b]?):TabsOK C κ' B w':=λp hp=>by
 obtain⟨h1,⟨v,h2⟩,t,z,h3⟩:=h p hp
 exact⟨h1,hi _ v h2,t,z,by rw[hw p.1 h1 (Array.getElem?_eq_some_iff.1 h3).1 ⟨v,h2⟩];exact h3⟩
structure Inv (C:Cfg) (κ:Kn) (B:Nat) (s:St) (w:World):Prop where
 im:∀ b o v,κ.im b o=some v->w.cell? ⟨b,o,none⟩=some v
 locs:∀ l x,s.locs[l]? = some x->∃ b o,κ.loc l=some b/\B<=b/\w.heap[b]? = some o/\ObjR C κ o x
 locn:∀ l b,κ.loc l=some b->l<s.locs.length
 toks:∀ k L,s.toks[k]? = some L->∃ e v,κ.tok k=some (L,e,v)/\TokI C κ B w L e v
 tokn:∀ k L e v,κ.tok k=some (L,e,v)->s.toks[k]? = some L
 locinj:∀ i j b,κ.loc i=some b->κ.loc j=some b->κ.gone i=false->κ.gone j=false->i=j
 tokinj:∀ i j L e v L' e' v' b,κ.tok i=some (L,e,v)->κ.tok j=some (L',e',v')->v.ownBlock=some b->v'.ownBlock=some b->i=j
 loctok:∀ l b k L e v,κ.loc l=some b->κ.gone l=false->κ.tok k=some (L,e,v)->v.ownBlock≠some b
 locim:∀ l b o,κ.loc l=some b->κ.gone l=false->κ.im b o=none
 lv:∀ l x,s.locs[l]? = some x->x≠.dead->κ.gone l=false
 caps:∀ l e sz c,κ.cap l=some (e,sz,c)->l<s.locs.length/\sz=(C.ti e).size/\0<sz/\c<=maxLen/\(κ.gone l=false->∀ b,κ.loc l=some b->∃ cs,w.heap[b]? = some (.cells cs e (0,0))/\cs.size=c*sz)
 bls:∀ p ∈ s.bl,κ.cap p.1=some (p.2,(C.ti p.2).size,1)
 tabs:TabsOK C κ B w
theorem Inv.wr_lt{C:Cfg}{κ:Kn}{B:Nat}{s:St}{w:World}(h:Inv C κ B s w){b:Nat}(hb:Wr κ b):B<=b/\b<w.heap.size:=by
 rcases hb with ⟨l,hl,_⟩|⟨k,L,e,v,hk,hv⟩
 ·have hlt:=h.locn l b hl
  obtain⟨b',o,h1,h2,h3,_⟩:=h.locs l _ (List.getElem?_eq_getElem hlt)
  rw[hl] at h1
  cases h1
  exact⟨h2,(Array.getElem?_eq_some_iff.1 h3).1⟩
 ·obtain⟨e',v',h1,h2⟩:=h.toks k L (h.tokn k L e v hk)
  rw[hk] at h1
  cases h1
  obtain⟨xs,h3,_⟩:=h2 b hv
  exact h3.lt b hv
theorem Inv.im_lt{C:Cfg}{κ:Kn}{B:Nat}{s:St}{w:World}(h:Inv C κ B s w){b o:Nat}{v:Value}(k:κ.im b o=some v):b<w.heap.size:=
 World.block_lt_of_cell? w ⟨b,o,none⟩ (h.im b o v k)
structure Mv (κ κ':Kn) (w w':World):Prop where
 le:LE κ κ'
 os:w'.os=w.os
 tape:w'.tape=w.tape
 output:w'.output=w.output
 size:w.heap.size<=w'.heap.size
 frame:∀ b,b<w.heap.size->¬ Wr κ b->w'.heap[b]? = w.heap[b]?
 newW:∀ b,Wr κ' b->Wr κ b\/w.heap.size<=b
 newim:∀ b o v,κ'.im b o=some v->b<w.heap.size->¬ Wr κ b->κ.im b o=some v
theorem Mv.refl(κ:Kn)(w:World):Mv κ κ w w:=⟨.refl κ,rfl,rfl,rfl,Yd _,λ_ _ _=>rfl,λ_ h=>.inl h,λ_ _ _ h _ _=>h⟩
theorem Mv.drew(κ:Kn)(w:World):Mv κ κ w w.drew:=⟨.refl κ,rfl,rfl,rfl,Yd _,λ_ _ _=>rfl,λ_ h=>.inl h,λ_ _ _ h _ _=>h⟩
theorem Mv.trans{a b c:Kn}{u v w:World}(h:Mv a b u v)(k:Mv b c v w):Mv a c u w:=by
 have hn:∀ x,x<u.heap.size->¬ Wr a x->¬ Wr b x:=λx hx hw hb=>by
  rcases h.newW x hb with h1|h1
  ·exact hw h1
  ·omega
 refine⟨h.le.trans k.le,k.os.trans h.os,k.tape.trans h.tape,k.output.trans h.output,Nat.le_trans h.size k.size,?_,?_,?_⟩
 ·intro x hx hw
  have hs:=h.size
  rw[k.frame x (by omega) (hn x hx hw),h.frame x hx hw]
 ·intro x hx
  have hs:=h.size
  rcases k.newW x hx with h1|h1
  ·exact h.newW x h1
  ·exact .inr (by omega)
 ·intro x o v hv hx hw
  have hs:=h.size
  exact h.newim x o v (k.newim x o v hv (by omega) (hn x hx hw)) hx hw
theorem Inv.drew{C:Cfg}{κ:Kn}{B:Nat}{s:St}{w:World}(h:Inv C κ B s w):Inv C κ B s w.drew:=
 ⟨h.im,h.locs,h.locn,h.toks,h.tokn,h.locinj,h.tokinj,h.loctok,h.locim,h.lv,h.caps,h.bls,h.tabs⟩
def EntR(κ:Kn)(w:World)(β:Nat->Option Nat)(i:Nat):Ent->Value->Prop
 |.none,_=>True
 |.s v,x=>SR κ v x
 |.var cells,x=>∃ b cs t,β i=some b/\x = .pointer (some ⟨b,0,none⟩)/\w.heap[b]? = some (.cells cs t (0,0))/\SRs κ cells cs.toList/\Ones cs.toList
 |.ptr g d off,x=>g=true->∃ b,β d=some b/\x = .pointer (some ⟨b,off,none⟩)
def mark(r:Nat):Deferred:={ target:=.collected r,args:=#[] }
structure FrameR (κ:Kn) (B:Nat) (w:World) (N:Nat) (e:Env) (a:Act) (β:Nat->Option Nat) (δ:List Nat):Prop where
 size:a.tmps.size=N
 ent:∀ i,EntR κ w β i (e.get i) (a.tmps.getD i undef)
 ptr:∀ i g d off,e.get i = .ptr g d off->e.get d≠.none
 priv:∀ i b,β i=some b->B<=b/\b<w.heap.size/\¬ Wr κ b/\∀ o,κ.im b o=none
 inj:∀ i j b,β i=some b->β j=some b->i=j
 defers:a.defers=δ.map mark
 dpriv:∀ r ∈ δ,B<=r/\w.heap[r]? = some (.deferred (some []))/\¬ Wr κ r/\(∀ o,κ.im r o=none)/\∀ i,β i≠some r
 dnodup:δ.Nodup
theorem EntR.move{κ κ':Kn}{w w':World}{β:Nat->Option Nat}{i:Nat}(hm:Mv κ κ' w w')(hp:∀ i b,β i=some b->b<w.heap.size/\¬ Wr κ b) :
  ∀ {e:Ent} {v:Value},EntR κ w β i e v->EntR κ' w' β i e v
 |.none,_,_=>trivial
 |.s _,_,h=>SR.mono hm.le h
 |.var _,_,⟨b,cs,t,h1,h2,h3,h4,h5⟩=>⟨b,cs,t,h1,h2,by rw[hm.frame b (hp i b h1).1 (hp i b h1).2];exact h3,h4.mono hm.le,h5⟩
 |.ptr _ _ _,_,h=>h
theorem FrameR.move{κ κ':Kn}{B N:Nat}{w w':World}{e:Env}{a:Act}{β:Nat->Option Nat}{δ:List Nat}(h:FrameR κ B w N e a β δ)(hm:Mv κ κ' w w'):FrameR κ' B w' N e a β δ:=by
 have nw:∀ b,b<w.heap.size->¬ Wr κ b->¬ Wr κ' b:=λb hb hw h'=>by
  rcases hm.newW b h' with h1|h1
  ·exact hw h1
  ·omega
 have ni:∀ b,b<w.heap.size->¬ Wr κ b->(∀ o,κ.im b o=none)->∀ o,κ'.im b o=none:=λb hb hw hi o=>by
  cases hx:κ'.im b o with
  |none=>rfl
  |some v=>have:=hm.newim b o v hx hb hw;rw[hi o] at this;cases this
 refine⟨h.size,λi=>(h.ent i).move hm (λj b hb=>⟨(h.priv j b hb).2.1,(h.priv j b hb).2.2.1⟩),h.ptr,?_,h.inj,h.defers,?_,h.dnodup⟩
 ·intro i b hb
  obtain⟨h1,h2,h3,h4⟩:=h.priv i b hb
  exact⟨h1,Nat.lt_of_lt_of_le h2 hm.size,nw b h2 h3,ni b h2 h3 h4⟩
 ·intro r hr
  obtain⟨h1,h2,h3,h4,h5⟩:=h.dpriv r hr
  have hlt:=(Array.getElem?_eq_some_iff.1 h2).1
  exact⟨h1,by rw[hm.frame r hlt h3];exact h2,nw r hlt h3,ni r hlt h3 h4,h5⟩
end Go.Am
namespace Go.Am
open Go Go.RowKit
def GlobOK(C:Cfg)(κ:Kn):Prop:=(∀ g l,C.glob g=some l->VR κ (.cp l) (.pointer (some ⟨g,0,none⟩)))/\∀ g ∈ C.ints,∃ m,κ.im g 0=some (.int .i64 m)
theorem GlobOK.mono{C:Cfg}{κ κ':Kn}(h:LE κ κ')(k:GlobOK C κ):GlobOK C κ':=⟨λg l hg=>VR.mono h _ _ (k.1 g l hg),λg hg=>(k.2 g hg).imp λm hm=>h.im _ _ _ hm⟩
theorem QbE(κ:Kn){v:Value}{a:AV}(h:avOf1 v=some a):VR κ a v/\v.oneCell'=true:=by
 unfold avOf1 at h
 split at h<;>first|(cases h;exact⟨by simp[VR],rfl⟩;done)|(cases h;exact⟨by simp only[VR];exact⟨_,rfl,rfl⟩,rfl⟩)|(cases h)
theorem QbF(κ:Kn):∀ {vs:List Value} {l:List AV},avOfL vs=some l->VRl κ l vs/\Ones vs
 |[],l,h=>by cases h;exact⟨by simp only[VRl],λ_ h=>by cases h⟩
 |v::vs,l,h=>by
   simp only[avOfL] at h
   split at h
   ·rename_i a ha
    split at h
    ·rename_i r hr
     cases h
     obtain⟨h1,h2⟩:=QbE κ ha
     obtain⟨h3,h4⟩:=QbF κ hr
     refine⟨by simp only[VRl];exact⟨v,vs,rfl,h1,h3⟩,λu hu=>?_⟩
     rcases List.mem_cons.1 hu with rfl|hu
     ·exact h2
     ·exact h4 u hu
    ·cases h
   ·cases h
theorem Qi6(κ:Kn){v:Value}{a:AV}(h:avOf v=some a):VR κ a v:=by
 unfold avOf at h
 split at h
 ·rename_i cs
  split at h
  ·rename_i l hl
   cases h
   obtain⟨h1,h2⟩:=QbF κ hl
   simp only[VR]
   exact⟨cs.toList,h1,h2,by simp⟩
  ·cases h
 ·exact (QbE κ h).1
theorem Ent.slot_SR{κ:Kn}{w:World}{β:Nat->Option Nat}{i:Nat}{e:Ent}{v:Value}(h:EntR κ w β i e v):SR κ e.slot v:=by
 cases e<;>simp only[Ent.slot,SR]
 exact h
theorem Zv{C:Cfg}{κ:Kn}{B N:Nat}{w:World}{e:Env}{a:Act}{β:Nat->Option Nat}{δ:List Nat}(hf:FrameR κ B w N e a β δ)(hg:GlobOK C κ)(x:Operand):SR κ (opnd C e x) (a.eval x):=by
 cases x with
 |tmp t=>exact Ent.slot_SR (hf.ent t)
 |const v=>
   simp only[opnd,Act.eval]
   cases h:avOf v with
   |none=>trivial
   |some x=>exact Qi6 κ h
 |global g=>
   simp only[opnd,Act.eval]
   cases h:C.glob g with
   |none=>trivial
   |some x=>exact hg.1 g x h
 |func f=>exact⟨[],rfl,rfl⟩
section ops
variable {P:Program} {C:Cfg} {κ:Kn}
theorem Zb(op:BinOp)(t:TypeId)(X Y:Operand){x y:Value}(hx:(∀ l,x≠.agg l)\/(∀ l,y≠.agg l))(hn:x≠.nilIface\/y≠.nilIface)(w:World):(eqGuard op t X Y x y).run P w = .ok () w:=by
 have key:(match x,y with
   | .nilIface, .nilIface => if (X matches .const _) || (Y matches .const _) then pure () else do
      if ← Op.eqGuardIn Op.maxDepth t x y then unsupported (.noEntry "binop/eql: two nil values of an interface type with methods, neither of them the literal nil")
   |.agg _,.agg _=>do
     if !(<-program).eqGuardType (<-program).depth t then return
     if ← Op.eqGuardIn Op.maxDepth t x y then unsupported (.noEntry "binop/eql: two nil values of an interface type with methods, in a part of a struct or an array")
   |_,_=>(pure ():Sem Unit)).run P w = .ok () w:=by
  split
  ·rcases hn with h|h<;>exact absurd rfl h
  ·rcases hx with h|h<;>exact absurd rfl (h _)
  ·rfl
 unfold eqGuard
 cases op<;>first|rfl|exact key
theorem Qi8(t:TypeId)(op:BinOp)(X Y:Operand)(w:World){k j:IntKind}{a b:Int}{sl:Slot}(h:binS (C.ti t) op (.val (.int k a)) (.val (.int j b))=some sl) :
  ∃ v,(do eqGuard op t X Y (.int k a) (.int j b);binOp op t (.int k a) (.int j b):Sem Value).run P w = .ok v w/\SR κ sl v:=by
 have hg:=Zb (P:=P) op t X Y (x:=.int k a) (y:=.int j b) (.inl (by intro l h;cases h)) (.inl (by intro h;cases h)) w
 simp only[Sem.run_bind,hg,Result.andThen_ok]
 simp only[binS,Slot.av] at h
 cases op<;>simp only[] at h
 case shl=>
  by_cases hb:b<0
  ·simp[hb] at h
  ·simp only[hb,if_false] at h
   cases h
   exact⟨_,by simp only[binOp,Op.shift,hb,if_false];rfl,by simp only[SR,VR]⟩
 case shr=>
  by_cases hb:b<0
  ·simp[hb] at h
  ·simp only[hb,if_false] at h
   cases h
   exact⟨_,by simp only[binOp,Op.shift,hb,if_false];rfl,by simp only[SR,VR]⟩
 all_goals
  split at h
  case isFalse=>cases h
  case isTrue hk=>
   subst hk
   first
    |(cases h;simp[binOp,Op.intArith,Op.intCmp,SR,VR];done)
    | (split at h
       ·cases h
       ·cases h;simp_all [binOp,Op.intDiv,SR,VR])
    |cases h
theorem Qia(t:TypeId)(op:BinOp)(X Y:Operand)(w:World){x y:ByteArray}{sl:Slot}(h:binS (C.ti t) op (.val (.str x.data.toList)) (.val (.str y.data.toList))=some sl) :
  ∃ v,(do eqGuard op t X Y (.string x) (.string y);binOp op t (.string x) (.string y):Sem Value).run P w = .ok v w/\SR κ sl v:=by
 have hg:=Zb (P:=P) op t X Y (x:=.string x) (y:=.string y) (.inl (by intro l h;cases h)) (.inl (by intro h;cases h)) w
 simp only[Sem.run_bind,hg,Result.andThen_ok]
 simp only[binS,Slot.av] at h
 have e1:x.toList=x.data.toList:=by simp[ByteArray.toList_eq]
 have e2:y.toList=y.data.toList:=by simp[ByteArray.toList_eq]
 cases op<;>simp only[] at h<;>first
  |(cases h;simp[binOp,Op.stringOp,e1,e2,SR,VR];done)
  |cases h
  | (split at h
     ·rename_i hl
      cases h
      have hs:¬ (((x.size+y.size:Nat):Int)>IntKind.i64.max):=by
       have:x.data.toList.length=x.size:=by simp
       have:y.data.toList.length=y.size:=by simp
       have:IntKind.i64.max=9223372036854775807:=by decide
       omega
      simp only[binOp,Op.stringOp,hs,if_false]
      exact⟨_,rfl,x++y,by simp,rfl⟩
     ·cases h)
theorem Qif(hT:∀ t,TyOK P C t)(d:Nat)(t:TypeId){x y:AV}(hkx:(C.ti t).k.has x=true){u v:Value}(hx:VR κ x u)(hy:VR κ y v){r:Bool}(h:x.eqb y=some r)(w:World) :
  (Op.equalIn (d+1) t u v).run P w = .ok r w:=by
 have hK:=(hT t).kind
 cases hk:(C.ti t).k<;>rw[hk] at hkx hK<;>cases x<;>simp only[TK.has] at hkx<;>try (cases hkx;done)
 ·cases y<;>simp only[AV.eqb] at h<;>try (cases h;done)
  simp only[VR] at hx hy
  subst hx;subst hy
  cases h
  simp only[KOk] at hK
  simp[Op.equalIn,run_underlying hK]
 ·cases y<;>simp only[AV.eqb] at h<;>try (cases h;done)
  split at h
  ·rename_i hkj
   subst hkj
   simp only[VR] at hx hy
   subst hx;subst hy
   cases h
   simp only[KOk] at hK
   simp[Op.equalIn,run_underlying hK]
  ·cases h
 ·cases y<;>simp only[AV.eqb] at h<;>try (cases h;done)
  simp only[VR] at hx hy
  obtain⟨x1,hx1,rfl⟩:=hx
  obtain⟨y1,hy1,rfl⟩:=hy
  cases h
  simp only[KOk] at hK
  simp only[Op.equalIn,Sem.run_bind,run_underlying hK,Result.andThen_ok,Sem.run_pure]
  rw[beq_toListBytes,ByteArray.toList_eq,ByteArray.toList_eq,hx1,hy1]
theorem Q2x(hT:∀ t,TyOK P C t){t:TypeId}{x:AV}(hkx:(C.ti t).k.has x=true){xs:Array Value}{off:Nat}{v:Value}(hv:xs[off]? = some v)(w:World):(part t xs off).run P w = .ok v w:=by
 have hK:=(hT t).kind
 cases hk:(C.ti t).k<;>rw[hk] at hkx hK<;>cases x<;>simp only[TK.has] at hkx<;>try (cases hkx;done)
 all_goals
  simp only[KOk] at hK
  simp[part,isAgg,run_underlying hK,hv]
theorem Q65 (hT : ∀ t, TyOK P C t) (d : Nat) (us vs : List Value) : ∀ (fs : List Field) (off : Nat) (xs ys : List AV) (r : Bool), (∀ f ∈ fs, f.name ≠ "_") → fs.map (·.offset) = List.range' off fs.length →
  VRl κ xs (us.drop off)->VRl κ ys (vs.drop off)->eqAll (fs.map λf=>(C.ti f.type).k) xs ys=some r->∀ w,(Op.eqFields (d+1) us.toArray vs.toArray fs).run P w = .ok r w
 |[],off,xs,ys,r,_,_,hx,hy,h,w=>by
   cases xs<;>cases ys<;>simp[eqAll] at h
   subst h
   simp[Op.eqFields]
 |f::fs,off,xs,ys,r,hn,ho,hx,hy,h,w=>by
   cases xs with
   |nil=>simp[eqAll] at h
   |cons x xs=>
     cases ys with
     |nil=>simp[eqAll] at h
     |cons y ys=>
       simp only[Yi,eqAll] at h
       simp only[VRl] at hx hy
       obtain⟨u,us',hu1,hu2,hu3⟩:=hx
       obtain⟨v,vs',hv1,hv2,hv3⟩:=hy
       cases hk:((C.ti f.type).k.has x&&(C.ti f.type).k.has y) with
       |false=>rw[hk] at h;cases h
       |true=>
         rw[hk] at h
         simp only[cond_true] at h
         rw[Ya] at hk
         simp only[Yi,Yg,List.range'_succ,List.cons.injEq] at ho
         have hdu:us.drop (off+1)=us':=by rw[<-List.drop_drop,hu1];rfl
         have hdv:vs.drop (off+1)=vs':=by rw[<-List.drop_drop,hv1];rfl
         have hgu:us.toArray[f.offset]? = some u:=by rw[ho.1];simpa using (show us[off]? = some u by have:=congrArg (·[0]?) hu1;simpa using this)
         have hgv:vs.toArray[f.offset]? = some v:=by rw[ho.1];simpa using (show vs[off]? = some v by have:=congrArg (·[0]?) hv1;simpa using this)
         have ih:=λr h=>Q65 hT d us vs fs (off+1) xs ys r (λg hg=>hn g (Yb _ hg)) ho.2 (by rw[hdu];exact hu3) (by rw[hdv];exact hv3) h
         cases hb:x.eqb y with
         |none=>rw[hb] at h;cases h
         |some b=>
           rw[hb] at h
           have he:=Qif hT d f.type hk.1 hu2 hv2 hb w
           have hf : f.name ≠ "_" := hn f Yc
           cases b with
           |false=>
             simp only[Option.some.injEq] at h
             subst h
             simp[Op.eqFields,hf,Q2x hT hk.1 hgu,Q2x hT hk.2 hgv,he]
           |true=>
             simp only[] at h
             simp[Op.eqFields,hf,Q2x hT hk.1 hgu,Q2x hT hk.2 hgv,he,ih r h w]
theorem QdL(hT:∀ t,TyOK P C t)(t:TypeId){x y:AV}{u v:Value}(hx:VR κ x u)(hy:VR κ y v){r:Bool}(h:eqS (C.ti t) x y=some r)(w:World):(Op.equal t u v).run P w = .ok r w:=by
 have hK:=(hT t).kind
 unfold Op.equal
 show (Op.equalIn (9999+1) t u v).run P w = .ok r w
 obtain⟨D,hD⟩:∃ D,D=9998+1:=⟨_,rfl⟩
 rw[show (9999:Nat)=9998+1 from rfl,<-hD]
 unfold eqS at h
 split at h<;>try (cases h;done)
 ·rename_i a b hk;rw[hk] at hK;simp only[KOk] at hK;simp only[VR] at hx hy;subst hx;subst hy;cases h;simp only[Op.equalIn,Sem.run_bind,run_underlying hK,Result.andThen_ok];first|rfl|simp
 ·rename_i hk;rw[hk] at hK;obtain⟨e,hK⟩:=hK;simp only[VR] at hx hy;subst hx;subst hy;cases h;simp only[Op.equalIn,Sem.run_bind,run_underlying hK,Result.andThen_ok];first|rfl|simp
 ·rename_i hk;rw[hk] at hK;obtain⟨e,hK⟩:=hK;simp only[VR] at hx hy;obtain⟨a,vs,rfl,_⟩:=hy;subst hx;cases h;simp only[Op.equalIn,Sem.run_bind,run_underlying hK,Result.andThen_ok];first|rfl|simp
 ·rename_i hk;rw[hk] at hK;obtain⟨e,hK⟩:=hK;simp only[VR] at hx hy;obtain⟨a,vs,rfl,_⟩:=hx;subst hy;cases h;simp only[Op.equalIn,Sem.run_bind,run_underlying hK,Result.andThen_ok];first|rfl|simp
 ·rename_i hk;rw[hk] at hK;obtain⟨e,hK⟩:=hK;simp only[VR] at hx hy;obtain⟨b,_,rfl⟩:=hy;subst hx;cases h;simp only[Op.equalIn,Sem.run_bind,run_underlying hK,Result.andThen_ok];first|rfl|simp
 ·rename_i hk;rw[hk] at hK;obtain⟨e,hK⟩:=hK;simp only[VR] at hx hy;obtain⟨b,_,rfl⟩:=hx;subst hy;cases h;simp only[Op.equalIn,Sem.run_bind,run_underlying hK,Result.andThen_ok];first|rfl|simp
 ·rename_i hk;rw[hk] at hK;simp only[KOk] at hK;simp only[VR] at hx hy;subst hx;subst hy;cases h;simp only[Op.equalIn,Sem.run_bind,run_underlying hK,Result.andThen_ok];first|rfl|simp
 ·rename_i hk;rw[hk] at hK;simp only[KOk] at hK;obtain⟨a,n,c,rfl,_⟩:=Q1B.1 hy;simp only[VR] at hx;subst hx;cases h;simp only[Op.equalIn,Sem.run_bind,run_underlying hK,Result.andThen_ok];first|rfl|simp
 ·rename_i hk;rw[hk] at hK;simp only[KOk] at hK;obtain⟨a,n,c,rfl,_⟩:=Q1B.1 hx;simp only[VR] at hy;subst hy;cases h;simp only[Op.equalIn,Sem.run_bind,run_underlying hK,Result.andThen_ok];first|rfl|simp
 ·rename_i hk;rw[hk] at hK;simp only[KOk] at hK;simp only[VR] at hx;obtain⟨a,n,c,rfl⟩:=Qbr hy;subst hx;cases h;simp only[Op.equalIn,Sem.run_bind,run_underlying hK,Result.andThen_ok];first|rfl|simp
 ·rename_i hk;rw[hk] at hK;simp only[KOk] at hK;simp only[VR] at hy;obtain⟨a,n,c,rfl⟩:=Qbr hx;subst hy;cases h;simp only[Op.equalIn,Sem.run_bind,run_underlying hK,Result.andThen_ok];first|rfl|simp
 ·rename_i hk;rw[hk] at hK;obtain⟨e,e2,e3,hK⟩:=hK;simp only[VR] at hx hy;subst hx;subst hy;cases h;simp only[Op.equalIn,Sem.run_bind,run_underlying hK,Result.andThen_ok];first|rfl|simp
 ·rename_i hk;rw[hk] at hK;obtain⟨e,e2,e3,hK⟩:=hK;simp only[VR] at hx hy;obtain⟨vs,_,rfl⟩:=hy;subst hx;cases h;simp only[Op.equalIn,Sem.run_bind,run_underlying hK,Result.andThen_ok];first|rfl|simp
 ·rename_i hk;rw[hk] at hK;obtain⟨e,e2,e3,hK⟩:=hK;simp only[VR] at hx hy;obtain⟨vs,_,rfl⟩:=hx;subst hy;cases h;simp only[Op.equalIn,Sem.run_bind,run_underlying hK,Result.andThen_ok];first|rfl|simp
 ·rename_i hk;rw[hk] at hK;obtain⟨e,e2,e3,hK⟩:=hK;simp only[VR] at hx hy;obtain⟨vs,_,rfl⟩:=hy;subst hx;cases h;simp only[Op.equalIn,Sem.run_bind,run_underlying hK,Result.andThen_ok];first|rfl|simp
 ·rename_i hk;rw[hk] at hK;obtain⟨e,e2,e3,hK⟩:=hK;simp only[VR] at hx hy;obtain⟨vs,_,rfl⟩:=hx;subst hy;cases h;simp only[Op.equalIn,Sem.run_bind,run_underlying hK,Result.andThen_ok];first|rfl|simp
 ·rename_i hk;rw[hk] at hK;simp only[KOk] at hK;simp only[VR] at hx hy;subst hx;subst hy;cases h;simp only[Op.equalIn,Sem.run_bind,run_underlying hK,Result.andThen_ok];first|rfl|simp
 ·rename_i hk;rw[hk] at hK;simp only[KOk] at hK;simp only[VR] at hx hy;obtain⟨b,_,rfl⟩:=hy;subst hx;cases h;simp only[Op.equalIn,Sem.run_bind,run_underlying hK,Result.andThen_ok];first|rfl|simp
 ·rename_i hk;rw[hk] at hK;simp only[KOk] at hK;simp only[VR] at hx hy;obtain⟨b,_,rfl⟩:=hx;subst hy;cases h;simp only[Op.equalIn,Sem.run_bind,run_underlying hK,Result.andThen_ok];first|rfl|simp
 ·rename_i hk;rw[hk] at hK;obtain⟨e,hK⟩:=hK;simp only[VR] at hx hy;obtain⟨b,_,rfl⟩:=hy;subst hx;cases h;simp only[Op.equalIn,Sem.run_bind,run_underlying hK,Result.andThen_ok];first|rfl|simp
 ·rename_i hk;rw[hk] at hK;obtain⟨e,hK⟩:=hK;simp only[VR] at hx hy;obtain⟨b,_,rfl⟩:=hx;subst hy;cases h;simp only[Op.equalIn,Sem.run_bind,run_underlying hK,Result.andThen_ok];first|rfl|simp
 ·rename_i fs xs ys hk
  cases hfl:(C.ti t).flat with
  |nil=>rw[hfl] at h;cases h
  |cons k0 ks0=>
    obtain⟨h1,h2,fields,h3,h4,h5,h6⟩:=(hT t).flat (by rw[hfl];simp)
    simp only[VR] at hx hy
    obtain⟨us,hu1,hu2,rfl⟩:=hx
    obtain⟨vs,hv1,hv2,rfl⟩:=hy
    rw[hfl] at h
    simp only[List.isEmpty_cons,cond_false] at h
    have hfo:P.fieldsOf t=fields:=by simp[Program.fieldsOf,h3]
    rw[run_equalIn_struct w D t _ _ (by rw[hfo];exact h3) h2,hfo]
    subst hD
    rw[<-hfl,<-h6] at h
    exact Q65 hT 9998 us vs fields.toList 0 xs ys r h4 (by rw[h5,<-h6];simp[List.range_eq_range']) (by simpa using hu1) (by simpa using hv1) h w
def isOther:Value->Bool
 |.int _ _ | .float _ _ | .complex _ _ _ | .string _=>false
 |_=>true
theorem Qff(t:TypeId){u:Value}(v:Value)(h:isOther u=true):binOp .eql t u v=(do pure (.bool (<-Op.equal t u v))):=by
 cases u<;>simp only[isOther] at h<;>first|(cases h;done)|(cases v<;>rfl)
theorem Qfg(t:TypeId){u:Value}(v:Value)(h:isOther u=true):binOp .neq t u v=(do pure (.bool (!(<-Op.equal t u v)))):=by
 cases u<;>simp only[isOther] at h<;>first|(cases h;done)|(cases v<;>rfl)
theorem Qa9(t:TI){x y:AV}{u:Value}(hx:VR κ x u){r:Bool}(h:eqS t x y=some r):isOther u=true:=by
 unfold eqS at h
 split at h<;>first
  |(cases h;done)
  |(simp only[VR] at hx;subst hx;rfl)
  |(simp only[VR] at hx;obtain⟨_,rfl⟩:=hx;rfl)
  |(simp only[VR] at hx;obtain⟨_,_,rfl⟩:=hx;rfl)
  |(simp only[VR] at hx;obtain⟨_,_,rfl,_⟩:=hx;rfl)
  |(simp only[VR] at hx;obtain⟨_,_,_,rfl⟩:=hx;rfl)
  |(obtain⟨a,n,c,rfl⟩:=Qbr hx;rfl)
  |(obtain⟨a,n,c,rfl,_⟩:=Q1B.1 hx;rfl)
theorem Q7c(hT:∀ t,TyOK P C t)(op:BinOp)(t:TypeId)(X Y:Operand){x y:AV}{u v:Value}(hx:VR κ x u)(hy:VR κ y v){r:Bool}(h:eqS (C.ti t) x y=some r)(w:World):(eqGuard op t X Y u v).run P w = .ok () w:=by
 unfold eqS at h
 split at h<;>first
  |(cases h;done)
  |(simp only[VR] at hx hy;subst hx;obtain⟨_,_,rfl⟩:=hy;exact Zb op t X Y (.inl (by intro l h;cases h)) (.inr (by intro h;cases h)) w)
  |(simp only[VR] at hx;subst hx;exact Zb op t X Y (.inl (by intro l h;cases h)) (.inl (by intro h;cases h)) w)
  |(simp only[VR] at hx;obtain⟨_,_,rfl,_⟩:=hx;exact Zb op t X Y (.inl (by intro l h;cases h)) (.inl (by intro h;cases h)) w)
  |(obtain⟨a,n,c,rfl⟩:=Qbr hx;exact Zb op t X Y (.inl (by intro l h;cases h)) (.inl (by intro h;cases h)) w)
  |(simp only[VR] at hx;obtain⟨_,_,rfl⟩:=hx;exact Zb op t X Y (.inl (by intro l h;cases h)) (.inl (by intro h;cases h)) w)
  |(obtain⟨a,n,c,rfl,_⟩:=Q1B.1 hx;exact Zb op t X Y (.inl (by intro l h;cases h)) (.inl (by intro h;cases h)) w)
  |skip
 rename_i fs xs ys hk
 cases hfl:(C.ti t).flat with
 |nil=>rw[hfl] at h;cases h
 |cons k0 ks0=>
   obtain⟨h1,_⟩:=(hT t).flat (by rw[hfl];simp)
   simp only[VR] at hx hy
   obtain⟨us,_,_,rfl⟩:=hx
   obtain⟨vs,_,_,rfl⟩:=hy
   unfold eqGuard
   cases op<;>first|rfl|simp[h1]
theorem Qi9(hT:∀ t,TyOK P C t)(t:TypeId)(op:BinOp)(X Y:Operand)(w:World){sx sy sl:Slot}{u v:Value}(hx:SR κ sx u)(hy:SR κ sy v)(h:binS (C.ti t) op sx sy=some sl) :
  ∃ z,(do eqGuard op t X Y u v;binOp op t u v:Sem Value).run P w = .ok z w/\SR κ sl z:=by
 cases hax:sx.av with
 |none=>simp[binS,hax] at h
 |some ax=>
   cases hay:sy.av with
   |none=>simp[binS,hax,hay] at h
   |some ay=>
     have hb:binS (C.ti t) op sx sy=binS (C.ti t) op (.val ax) (.val ay):=by unfold binS;rw[hax,hay];rfl
     rw[hb] at h
     have hu:=hx.av hax
     have hv:=hy.av hay
     by_cases hi:∃ k a j b,ax = .int k a/\ay = .int j b
     ·obtain⟨k,a,j,b,rfl,rfl⟩:=hi
      simp only[VR] at hu hv
      subst hu;subst hv
      exact Qi8 t op X Y w h
     ·by_cases hs:∃ a b,ax = .str a/\ay = .str b
      ·obtain⟨a,b,rfl,rfl⟩:=hs
       simp only[VR] at hu hv
       obtain⟨x1,rfl,rfl⟩:=hu
       obtain⟨y1,rfl,rfl⟩:=hv
       exact Qia t op X Y w h
      ·have he:(op = .eql/\∃ r,eqS (C.ti t) ax ay=some r/\sl = .val (.bool r))\/(op = .neq/\∃ r,eqS (C.ti t) ax ay=some r/\sl = .val (.bool !r)):=by
        unfold binS at h
        simp only[Slot.av] at h
        split at h
        ·rename_i h1 h2;cases h1;cases h2;exact absurd ⟨_,_,_,_,rfl,rfl⟩ hi
        ·rename_i h1 h2;cases h1;cases h2;exact absurd ⟨_,_,rfl,rfl⟩ hs
        ·rename_i h1 h2
         cases h1;cases h2
         cases op<;>simp only[] at h<;>try (cases h;done)
         ·obtain⟨r,h1,h2⟩:=Option.map_eq_some_iff.1 h
          exact .inl ⟨rfl,r,h1,h2.symm⟩
         ·obtain⟨r,h1,h2⟩:=Option.map_eq_some_iff.1 h
          exact .inr ⟨rfl,r,h1,h2.symm⟩
        ·cases h
       rcases he with ⟨rfl,r,hr,rfl⟩|⟨rfl,r,hr,rfl⟩
       ·refine⟨.bool r,?_,by simp[SR,VR]⟩
        simp only[Sem.run_bind,Q7c hT _ t X Y hu hv hr w,Result.andThen_ok,Qff t v (Qa9 _ hu hr),QdL hT t hu hv hr w,Sem.run_pure]
       ·refine⟨.bool (!r),?_,by simp[SR,VR]⟩
        simp only[Sem.run_bind,Q7c hT _ t X Y hu hv hr w,Result.andThen_ok,Qfg t v (Qa9 _ hu hr),QdL hT t hu hv hr w,Sem.run_pure]
theorem Ql5(op:UnOp)(w:World){sx sl:Slot}{u:Value}(hx:SR κ sx u)(h:unS op sx=some sl):∃ z,(Op.unary op u).run P w = .ok z w/\SR κ sl z:=by
 unfold unS at h
 split at h
 ·cases h;simp only[SR,VR] at hx;subst hx;exact⟨_,rfl,by simp[SR,VR]⟩
 ·cases h;simp only[SR,VR] at hx;subst hx;exact⟨_,rfl,by simp[SR,VR]⟩
 ·cases h
end ops
end Go.Am
namespace Go.Am
open Go Go.RowKit
section ops
variable {P:Program} {C:Cfg} {κ:Kn}
theorem VRl.get{κ:Kn}:∀ {l:List AV} {vs:List Value} {i:Nat} {x:AV},VRl κ l vs->l[i]? = some x->∃ v,vs[i]? = some v/\VR κ x v
 |[],_,i,x,_,h=>by simp at h
 |y::l,vs,0,x,h,hx=>by
   simp only[VRl] at h
   obtain⟨u,us,rfl,h1,h2⟩:=h
   simp at hx
   subst hx
   exact⟨u,rfl,h1⟩
 |y::l,vs,i+1,x,h,hx=>by
   simp only[VRl] at h
   obtain⟨u,us,rfl,h1,h2⟩:=h
   simpa using VRl.get h2 (by simpa using hx)
theorem VRl.take{κ:Kn}:∀ {l:List AV} {vs:List Value} (n:Nat),VRl κ l vs->VRl κ (l.take n) (vs.take n)
 |[],vs,n,h=>by simp only[VRl] at h;simp[h,VRl]
 |_::_,vs,0,h=>by simp[VRl]
 |y::l,vs,n+1,h=>by
   simp only[VRl] at h
   obtain⟨u,us,rfl,h1,h2⟩:=h
   simp only[List.take_succ_cons,VRl]
   exact⟨u,_,rfl,h1,VRl.take n h2⟩
theorem VRl.drop{κ:Kn}:∀ {l:List AV} {vs:List Value} (n:Nat),VRl κ l vs->VRl κ (l.drop n) (vs.drop n)
 |[],vs,n,h=>by simp only[VRl] at h;simp[h,VRl]
 |_::_,vs,0,h=>by simpa using h
 |y::l,vs,n+1,h=>by
   simp only[VRl] at h
   obtain⟨u,us,rfl,h1,h2⟩:=h
   simpa using VRl.drop n h2
theorem Ones.take{vs:List Value}(n:Nat)(h:Ones vs):Ones (vs.take n):=λu hu=>h u (List.mem_of_mem_take hu)
theorem Ones.drop{vs:List Value}(n:Nat)(h:Ones vs):Ones (vs.drop n):=λu hu=>h u (List.mem_of_mem_drop hu)
theorem Ones.append{a b:List Value}(h:Ones a)(k:Ones b):Ones (a++b):=λu hu=>(List.mem_append.1 hu).elim (h u) (k u)
theorem VR.cells{x:AV}{v:Value}(h:VR κ x v):VRl κ x.cells v.cells.toList:=by
 cases x<;>simp only[VR] at h
 case agg l=>obtain⟨vs,h1,h2,rfl⟩:=h;simpa [AV.cells,Value.cells] using h1
 case bool=>subst h;exact⟨_,[],rfl,rfl,rfl⟩
 case int=>subst h;exact⟨_,[],rfl,rfl,rfl⟩
 case str=>obtain⟨x,h1,rfl⟩:=h;exact⟨_,[],rfl,⟨x,h1,rfl⟩,rfl⟩
 case tup=>obtain⟨vs,h1,rfl⟩:=h;exact⟨_,[],rfl,⟨vs,h1,rfl⟩,rfl⟩
 case nils=>subst h;exact⟨_,[],rfl,rfl,rfl⟩
 case sl l=>obtain⟨a,n,c,sz,vs,rfl,h⟩:=h;exact⟨_,[],rfl,by simp only[VR];exact⟨a,n,c,sz,vs,rfl,h⟩,rfl⟩
 case vs=>obtain⟨b,c,a,h1,h2,h3,h4,rfl⟩:=h;exact⟨_,[],rfl,by simp only[VR];exact⟨b,c,a,h1,h2,h3,h4,rfl⟩,rfl⟩
 case nilp=>subst h;exact⟨_,[],rfl,rfl,rfl⟩
 case cp l=>obtain⟨a,vs,rfl,h⟩:=h;exact⟨_,[],rfl,by simp only[VR];exact⟨a,vs,rfl,h⟩,rfl⟩
 case vp=>obtain⟨b,h1,rfl⟩:=h;exact⟨_,[],rfl,⟨b,h1,rfl⟩,rfl⟩
 case nilf=>subst h;exact⟨_,[],rfl,rfl,rfl⟩
 case fn=>obtain⟨vs,h1,rfl⟩:=h;exact⟨_,[],rfl,⟨vs,h1,rfl⟩,rfl⟩
 case yld=>obtain⟨b,h1,rfl⟩:=h;exact⟨_,[],rfl,⟨b,h1,rfl⟩,rfl⟩
 case nilm=>subst h;exact⟨_,[],rfl,rfl,rfl⟩
 case mp=>obtain⟨b,h1,rfl⟩:=h;exact⟨_,[],rfl,⟨b,h1,rfl⟩,rfl⟩
 case nili=>subst h;exact⟨_,[],rfl,rfl,rfl⟩
 case ifc=>obtain⟨u,h1,rfl⟩:=h;exact⟨_,[],rfl,⟨u,h1,rfl⟩,rfl⟩
theorem VR.ones{x:AV}{v:Value}(h:VR κ x v)(hx:x.isTup=false):Ones v.cells.toList:=by
 cases x<;>simp only[VR] at h
 case agg l=>obtain⟨vs,h1,h2,rfl⟩:=h;simpa [Value.cells] using h2
 case tup=>simp[AV.isTup] at hx
 all_goals
  first
   |(subst h;intro u hu;simp[Value.cells] at hu;subst hu;rfl)
   |(obtain⟨_,_,rfl⟩:=h;intro u hu;simp[Value.cells] at hu;subst hu;rfl)
   |(obtain⟨_,_,rfl,_⟩:=h;intro u hu;simp[Value.cells] at hu;subst hu;rfl)
   |(obtain⟨_,_,_,_,_,rfl,_⟩:=h;intro u hu;simp[Value.cells] at hu;subst hu;rfl)
   |(obtain⟨_,_,_,_,_,_,_,rfl⟩:=h;intro u hu;simp[Value.cells] at hu;subst hu;rfl)
theorem VR.size{x:AV}{v:Value}(h:VR κ x v):v.cells.size=x.cells.length:=by
 have:=h.cells.length
 simpa using this.symm
theorem Qhe(w:World){sc sa sb sl:Slot}{c a b:Value}(hc:SR κ sc c)(ha:SR κ sa a)(hb:SR κ sb b)(h:pickS sc sa sb=some sl) :
  ∃ z,(do pure (.value (if <-asBool c then a else b)):Sem Next).run P w = .ok (.value z) w/\SR κ sl z:=by
 unfold pickS at h
 split at h
 ·rename_i t
  cases h
  simp only[SR,VR] at hc
  subst hc
  cases t
  ·exact⟨b,rfl,hb⟩
  ·exact⟨a,rfl,ha⟩
 ·cases h
theorem Qda(w:World){sx sl:Slot}{u:Value}{i:Nat}(hx:SR κ sx u)(h:extractS sx i=some sl):∃ z,(Instr.extract u i).run P w = .ok z w/\SR κ sl z:=by
 unfold extractS at h
 split at h
 ·rename_i l
  split at h
  ·rename_i x hi
   cases h
   simp only[SR,VR] at hx
   obtain⟨vs,h1,rfl⟩:=hx
   obtain⟨v,hv,hr⟩:=h1.get hi
   exact⟨v,by simp[Instr.extract,hv],hr⟩
  ·cases h
 ·cases h
theorem SR.list{s:Slot}{v:Value}{l:List AV}(h:SR κ s v)(hl:s.list? = some l):∃ a n c,v = .slice a n c/\l.length=n/\n<=c/\(∀ b,a=some b->SlA κ l b n c)/\(a=none->l=[]):=by
 cases s<;>simp only[Slot.list?] at hl
 case und=>cases hl
 case no=>cases hl
 case val x=>
  cases x<;>simp only[] at hl
  case nils=>cases hl;simp only[SR,VR] at h;subst h;exact⟨none,0,0,rfl,rfl,Yd _,(by intro b hb;cases hb),λ_=>rfl⟩
  case sl m=>
   cases hl
   obtain⟨a,n,c,rfl,hs⟩:=Q1B.1 h
   exact⟨some a,n,c,rfl,hs.1,hs.2.1,(by intro b hb;cases hb;exact hs),by intro h;cases h⟩
  all_goals cases hl
 case own k e m=>
  cases hl
  obtain⟨⟨a,n,c,rfl,hs⟩,_⟩:=h
  exact⟨some a,n,c,rfl,hs.1,hs.2.1,(by intro b hb;cases hb;exact hs),by intro h;cases h⟩
 case full m=>
  cases hl
  obtain⟨a,n,rfl,hs⟩:=h
  exact⟨some a,n,n,rfl,hs.1,hs.2.1,(by intro b hb;cases hb;exact hs),by intro h;cases h⟩
theorem Qim(hT:∀ t,TyOK P C t)(t ty:TypeId)(w:World){sx sl:Slot}{u:Value}(hx:SR κ sx u)(h:lenS (C.ti t) sx=some sl) :
  ∃ z,(Builtin.len_ #[t] ty #[u]).run P w = .ok z w/\SR κ sl z:=by
 have hK:=(hT t).kind
 unfold lenS at h
 split at h
 ·rename_i hk
  rw[hk] at hK;simp only[KOk] at hK
  split at h
  ·rename_i l
   cases h
   simp only[SR,VR] at hx
   obtain⟨x,h1,rfl⟩:=hx
   have hl:l.length=x.size:=by rw[<-h1];simp
   exact⟨goInt x.size,by simp[Builtin.len_,run_underlying hK],by simp[SR,VR,goInt,hl]⟩
  ·cases h
 ·rename_i e hk
  rw[hk] at hK;simp only[KOk] at hK
  cases hl:sx.list? with
  |some l=>
    rw[hl] at h
    cases h
    obtain⟨a,n,c,rfl,h1,_⟩:=hx.list hl
    exact⟨goInt n,by simp[Builtin.len_,run_underlying hK],by simp[SR,VR,goInt,h1]⟩
  |none=>
    rw[hl] at h
    simp only[lenO] at h
    split at h
    ·cases h
     simp only[SR,VR] at hx
     obtain⟨b,c,a,_,_,_,_,rfl⟩:=hx
     exact⟨goInt _,by simp[Builtin.len_,run_underlying hK];rfl,by simp[SR,VR,goInt]⟩
    ·cases h
 ·cases h
theorem Q7L(w:World){sx sy sl:Slot}{u v:Value}(hx:SR κ sx u)(hy:SR κ sy v)(h:max2 sx sy=some sl):∃ z,(Builtin.max2 u v).run P w = .ok z w/\SR κ sl z:=by
 unfold max2 at h
 split at h
 ·cases h
  simp only[SR,VR] at hx hy
  subst hx;subst hy
  exact⟨_,rfl,by simp[SR,VR]⟩
 ·cases h
theorem Qh4(w:World){sx sy sl:Slot}{u v:Value}(hx:SR κ sx u)(hy:SR κ sy v)(h:min2 sx sy=some sl):∃ z,(Builtin.min2 u v).run P w = .ok z w/\SR κ sl z:=by
 unfold min2 at h
 split at h
 ·cases h
  simp only[SR,VR] at hx hy
  subst hx;subst hy
  exact⟨_,rfl,by simp[SR,VR]⟩
 ·cases h
theorem Qw(b o j:Nat):(⟨b,o,none⟩:Addr).add j=⟨b,o+j,none⟩:=by unfold Addr.add;split<;>simp_all
theorem Held.drop{a:Addr}{vs:List Value}(ha:a.spot=none)(h:Held κ a vs)(n:Nat):Held κ (a.add n) (vs.drop n):=by
 obtain⟨b,o,sp⟩:=a
 simp only at ha
 subst ha
 rw[Qw]
 intro j u hu
 rw[List.getElem?_drop] at hu
 have:=h (n+j) u hu
 simpa [Nat.add_assoc] using this
theorem QdN{off:Nat}{sx sl:Slot}{u:Value}(hx:SR κ sx u)(h:faV off sx=some sl):∃ a:Addr,u = .pointer (some a)/\SR κ sl (.pointer (some (a.add off))):=by
 unfold faV at h
 split at h
 ·cases h
  simp only[SR,VR] at hx
  obtain⟨a,vs,rfl,h1,h2,h3,h4⟩:=hx
  refine⟨a,rfl,?_⟩
  simp only[SR,VR]
  refine⟨a.add off,vs.drop off,rfl,?_,h2.drop h1 off,h3.drop off,h4.drop off⟩
  obtain⟨b,o,sp⟩:=a
  simp only at h1
  subst h1
  rw[Qw]
 ·cases h
  simp only[SR,VR] at hx
  obtain⟨b,h1,rfl⟩:=hx
  refine⟨_,rfl,?_⟩
  simp only[SR,VR]
  exact⟨b,h1,by rw[Qw]⟩
 ·cases h
theorem QaW{sx sl:Slot}{u:Value}(hx:SR κ sx u)(h:nilCheckV sx=some sl):∃ a:Addr,u = .pointer (some a)/\SR κ sl u:=by
 unfold nilCheckV at h
 split at h
 ·cases h
  have hx':=hx
  simp only[SR,VR] at hx
  obtain⟨a,vs,rfl,_⟩:=hx
  exact⟨a,rfl,hx'⟩
 ·cases h
  have hx':=hx
  simp only[SR,VR] at hx
  obtain⟨b,h1,rfl⟩:=hx
  exact⟨_,rfl,hx'⟩
 ·cases h
theorem QbP(hT:∀ t,TyOK P C t){t:TypeId}{f off:Nat}{ft:TypeId}(h:structField (C.ti t) f=some (off,ft)):∃ fields:Array Field,∃ g,P.underlying t=some (.struct fields)/\fields[f]? = some g/\g.offset=off/\g.type=ft:=by
 have hK:=(hT t).kind
 unfold structField at h
 split at h
 ·rename_i fs hk
  rw[hk] at hK
  obtain⟨fields,h1,h2⟩:=hK
  rw[<-h2,List.getElem?_map] at h
  obtain⟨g,hg,he⟩:=Option.map_eq_some_iff.1 h
  injection he with e1 e2
  exact⟨fields,g,h1,by simpa using hg,e1,e2⟩
 ·cases h
theorem Z2(hT:∀ t,TyOK P C t){t:TypeId}(hk:(C.ti t).k≠.bad)(w:World):(sizeOf t).run P w = .ok (C.ti t).size w:=by
 obtain⟨i,z,h1,h2,_⟩:=(hT t).info hk
 simp[sizeOf,typeInfo,h1,h2]
theorem Qdb(hT:∀ t,TyOK P C t){t:TypeId}{f off:Nat}{ft:TypeId}(h:structField (C.ti t) f=some (off,ft))(h0:(C.ti ft).size≠0)(hb:(C.ti ft).k≠.bad)(a:Addr)(w:World) :
  (Instr.fieldAt t (.pointer (some a)) f).run P w = .ok (.pointer (some (a.add off))) w:=by
 obtain⟨fields,g,h1,h2,h3,h4⟩:=QbP hT h
 have hs:=Z2 (P:=P) hT hb w
 subst h4;subst h3
 simp[Instr.fieldAt,run_underlying h1,h2,Instr.sureAddr,fieldPlace,hs,h0]
end ops
end Go.Am
namespace Go.Am
open Go Go.RowKit
section ops
variable {P:Program} {C:Cfg} {κ:Kn}
theorem nbad(hT:∀ t,TyOK P C t){t:TypeId}(h:(C.ti t).size≠0):(C.ti t).k≠.bad:=λhk=>h ((hT t).bad hk)
theorem Z1{l:List AV}{sz:Nat}(h:∀ x ∈ l,x.cells.length=sz):(flat l).length=l.length*sz:=by
 induction l with
 |nil=>simp[flat]
 |cons x l ih=>
   have:=ih (λy hy=>h y (Yb _ hy))
   have hx:=h x Yc
   simp only[flat,List.flatMap_cons,Ye,Yg] at this |-
   rw[this,hx,Nat.add_mul]
   omega
theorem Q6a{sz:Nat}:∀ {l:List AV} (n:Nat),(∀ x ∈ l,x.cells.length=sz)->(flat l).drop (n*sz)=flat (l.drop n)
 |[],n,_=>by simp[flat]
 |x::l,0,_=>by simp
 |x::l,n+1,h=>by
   have hx:=h x Yc
   have ih:=Q6a (l:=l) n (λy hy=>h y (Yb _ hy))
   have:(n+1)*sz=sz+n*sz:=by rw[Nat.add_mul];omega
   rw[this,<-List.drop_drop]
   simp only[flat,List.flatMap_cons,List.drop_succ_cons] at ih |-
   rw[<-hx,List.drop_left,hx]
   exact ih
theorem Qad{sz:Nat}:∀ {l:List AV} (n:Nat),(∀ x ∈ l,x.cells.length=sz)->(flat l).take (n*sz)=flat (l.take n)
 |[],n,_=>by simp[flat]
 |x::l,0,_=>by simp[flat]
 |x::l,n+1,h=>by
   have hx:=h x Yc
   have ih:=Qad (l:=l) n (λy hy=>h y (Yb _ hy))
   have:(n+1)*sz=x.cells.length+n*sz:=by rw[Nat.add_mul,hx];omega
   rw[this]
   simp only[flat,List.flatMap_cons,List.take_succ_cons] at ih |-
   rw[List.take_append,List.take_of_length_le (by omega)]
   simp[ih]
theorem Qfs{sz:Nat}{l:List AV}{n:Nat}{x:AV}(h:∀ x ∈ l,x.cells.length=sz)(hx:l[n]? = some x):((flat l).drop (n*sz)).take sz=x.cells:=by
 have hn:l.drop n=x::l.drop (n+1):=by
  obtain⟨hlt,he⟩:=List.getElem?_eq_some_iff.1 hx
  rw[List.drop_eq_getElem_cons hlt,he]
 have hs:=h x (List.mem_of_getElem? hx)
 rw[Q6a n h,hn]
 simp only[flat,List.flatMap_cons]
 rw[<-hs,List.take_left]
theorem Held.take{a:Addr}{vs:List Value}(h:Held κ a vs)(n:Nat):Held κ a (vs.take n):=λj u hu=>by
 rw[List.getElem?_take] at hu
 split at hu
 ·exact h j u hu
 ·cases hu
theorem SlA.elem{l:List AV}{a:Addr}{n c i sz:Nat}{x:AV}(h:SlA κ l a n c)(hx:l[i]? = some x)(hsz:x.cells.length=sz):VR κ (.cp x.cells) (.pointer (some (a.add (i*sz)))):=by
 obtain⟨h1,h2,h3,sz',vs,h4,h5,h6,h7⟩:=h
 have hmem:=List.mem_of_getElem? hx
 have e:sz'=sz:=by rw[<-hsz,h4 x hmem]
 subst e
 have hpos:0<n:=by rw[<-h1];exact List.length_pos_of_mem hmem
 have hsp:=h3 hpos
 simp only[VR]
 refine⟨_,(vs.drop (i*sz')).take sz',rfl,?_,(h5.drop hsp _).take _,(h6.drop _).take _,?_⟩
 ·obtain⟨b,o,sp⟩:=a
  simp only at hsp
  subst hsp
  rw[Qw]
 ·have:=(h7.drop (i*sz')).take sz'
  rwa [Qfs h4 hx] at this
theorem Qkl(hT:∀ t,TyOK P C t){t e:TypeId}(hk:(C.ti t).k = .slice e)(w:World){sx si sl:Slot}{u v:Value}(hx:SR κ sx u)(hi:SR κ si v)(h:ixS (C.ti e).size sx si=some sl) :
  ∃ z,(Instr.indexAt t u v).run P w = .ok z w/\SR κ sl z:=by
 have hK:=(hT t).kind
 rw[hk] at hK;simp only[KOk] at hK
 unfold ixS at h
 cases hl:sx.list? with
 |none=>
   rw[hl] at h
   simp only[ixO,ixV] at h
   split at h
   ·rename_i loc e' sz lo m k n
    split at h
    ·rename_i hb
     obtain⟨hb,rfl,h0⟩:=hb
     cases h
     simp only[SR,VR] at hx hi
     obtain⟨b,c,a,g1,g2,g3,g4,rfl⟩:=hx
     subst hi
     have h0:(C.ti e).size≠0:=by omega
     have hz:=Z2 (P:=P) hT (nbad hT h0) w
     have ha:=g4 (by omega)
     subst ha
     refine⟨.pointer (some ((⟨b,lo*(C.ti e).size,none⟩:Addr).add (n.toNat*(C.ti e).size))),?_,?_⟩
     ·simp[Instr.indexAt,asIntOf,run_underlying hK,hb,hz]
     ·rw[Qw,<-Nat.add_mul]
      simp only[SR,VR]
      exact⟨b,g1,rfl⟩
    ·cases h
   ·cases h
 |some l=>
 rw[hl] at h
 simp only[ixO,ixL] at h
 split at h
 ·rename_i k n
  simp only[SR,VR] at hi
  subst hi
  obtain⟨a,m,c,rfl,h1,h2,h3,h4⟩:=hx.list hl
  split at h
  ·rename_i hb
   split at h
   ·rename_i x hx'
    split at h
    ·rename_i hs
     obtain⟨hs,h0⟩:=hs
     have h0:(C.ti e).size≠0:=by omega
     cases h
     cases a with
     |none=>rw[h4 rfl] at hx';simp at hx'
     |some a=>
       have hz:=Z2 (P:=P) hT (nbad hT h0) w
       refine⟨.pointer (some (a.add (n.toNat*(C.ti e).size))),?_,(h3 a rfl).elem hx' hs⟩
       have hb':0<=n/\n<(m:Int):=by rw[<-h1];exact hb
       simp[Instr.indexAt,asIntOf,run_underlying hK,hb',hz]
    ·cases h
   ·cases h
  ·cases h
 ·cases h
theorem Qij(hT:∀ t,TyOK P C t){t e:TypeId}{m:Nat}(hk:(C.ti t).k = .array m e)(w:World){sx si sl:Slot}{u v:Value}(hx:SR κ sx u)(hi:SR κ si v)(h:ixA m (C.ti e).size sx si=some sl) :
  ∃ z,(Instr.indexAt t u v).run P w = .ok z w/\SR κ sl z:=by
 have hK:=(hT t).kind
 rw[hk] at hK;simp only[KOk] at hK
 unfold ixA at h
 split at h
 ·rename_i k j
  simp only[SR,VR] at hi
  subst hi
  split at h
  ·rename_i hb
   obtain⟨hb,h0⟩:=hb
   have h0:(C.ti e).size≠0:=by omega
   obtain⟨a,rfl,hr⟩:=QdN hx h
   have hz:=Z2 (P:=P) hT (nbad hT h0) w
   exact⟨_,by simp[Instr.indexAt,asIntOf,run_underlying hK,hb,hz,Instr.sureAddr],hr⟩
  ·cases h
 ·cases h
theorem Qaf(hT:∀ t,TyOK P C t){t:TypeId}(hb:(C.ti t).k≠.bad)(w:World):(isAgg t).run P w = .ok (C.ti t).isAgg w:=by
 have hK:=(hT t).kind
 cases hk:(C.ti t).k<;>rw[hk] at hK<;>simp only[KOk] at hK<;>simp only[TI.isAgg,hk]
 case bad=>exact absurd hk hb
 all_goals
  first
   |simp[isAgg,run_underlying hK]
   |(obtain⟨_,hK⟩:=hK;simp[isAgg,run_underlying hK])
   |(obtain⟨_,hK,_⟩:=hK;simp[isAgg,run_underlying hK])
   |(obtain⟨_,_,_,hK⟩:=hK;simp[isAgg,run_underlying hK])
theorem Q8G{t:TI}{cs:List AV}{vs:List Value}{v:AV}(hc:VRl κ cs vs)(ho:Ones vs)(h:ofCells t cs=some v) :
  (t.isAgg=true/\vs.length=t.size/\VR κ v (.agg vs.toArray))\/(t.isAgg=false/\∃ u,vs=[u]/\VR κ v u):=by
 unfold ofCells at h
 cases ha:t.isAgg with
 |true=>
   rw[ha] at h
   simp only[cond_true] at h
   split at h
   ·rename_i hl
    cases h
    exact .inl ⟨rfl,by rw[<-hc.length];exact hl,by simp only[VR];exact⟨vs,hc,ho,rfl⟩⟩
   ·cases h
 |false=>
   rw[ha] at h
   simp only[cond_false] at h
   split at h
   ·cases h
    simp only[VRl] at hc
    obtain⟨u,us,rfl,h1,rfl⟩:=hc
    exact .inr ⟨rfl,u,rfl,h1⟩
   ·cases h
theorem Qct(hT:∀ t,TyOK P C t){t:TypeId}(hb:(C.ti t).k≠.bad){l:List AV}{vs:List Value}{off:Nat}{v:AV}(hc:VRl κ l vs)(ho:Ones vs)(h:ofCells (C.ti t) ((l.drop off).take (C.ti t).size)=some v)(w:World) :
  ∃ z,(part t vs.toArray off).run P w = .ok z w/\VR κ v z:=by
 have ha:=Qaf (P:=P) hT hb w
 have hs:=Z2 (P:=P) hT hb w
 obtain⟨i,z0,_,_,_,_,_,_,_,_,hone⟩:=(hT t).info hb
 rcases Q8G ((hc.drop off).take (C.ti t).size) ((ho.drop off).take _) h with ⟨h1,h2,h3⟩|⟨h1,u,h2,h3⟩
 ·refine⟨_,?_,h3⟩
  rw[h1] at ha
  simp only[part,Sem.run_bind,ha,Result.andThen_ok,if_true,hs,Sem.run_pure]
  congr 1
  congr 1
  apply Array.toList_inj.1
  simp[List.extract_eq_take_drop]
 ·refine⟨u,?_,h3⟩
  rw[h1] at ha
  have h1s:=(hone h1).2
  have hv:vs.toArray[off]? = some u:=by
   rw[h1s] at h2
   have:=congrArg (·[0]?) h2
   simpa using this
  simp[part,ha,hv]
theorem Qfq(hT:∀ t,TyOK P C t){t:TypeId}{f off:Nat}{ft:TypeId}(h:structField (C.ti t) f=some (off,ft))(w:World){sx sl:Slot}{u:Value}(hx:SR κ sx u)(hf:fieldS (C.ti t) (C.ti ft) off sx=some sl) :
  ∃ z,(Instr.field t u f).run P w = .ok z w/\SR κ sl z:=by
 obtain⟨fields,g,h1,h2,h3,h4⟩:=QbP hT h
 unfold fieldS at hf
 split at hf
 ·rename_i l
  split at hf
  ·rename_i h0
   have h0:(C.ti ft).size≠0:=by omega
   split at hf
   ·rename_i v hv
    cases hf
    simp only[SR,VR] at hx
    obtain⟨vs,hc,ho,rfl⟩:=hx
    obtain⟨z,hz,hr⟩:=Qct hT (nbad hT h0) hc ho hv w
    refine⟨z,?_,hr⟩
    subst h4;subst h3
    simp[Instr.field,run_underlying h1,h2,asAgg,hz]
   ·cases hf
  ·cases hf
 ·cases hf
theorem QfA(hT:∀ t,TyOK P C t){t e:TypeId}(he:∀ n e',(C.ti t).k = .array n e'->e'=e)(w:World){sx si sl:Slot}{u v:Value}(hx:SR κ sx u)(hi:SR κ si v)(h:indexS (C.ti t) (C.ti e) sx si=some sl) :
  ∃ z,(Instr.index t u v).run P w = .ok z w/\SR κ sl z:=by
 have hK:=(hT t).kind
 unfold indexS at h
 split at h
 ·rename_i k n
  simp only[SR,VR] at hi
  subst hi
  split at h
  ·rename_i hk
   rw[hk] at hK;simp only[KOk] at hK
   split at h
   ·rename_i l
    split at h
    ·rename_i h0
     split at h
     ·rename_i b hb
      cases h
      simp only[SR,VR] at hx
      obtain⟨s,rfl,rfl⟩:=hx
      have hs:s[n.toNat]? = some b:=by
       simp only[Array.getElem?_toList] at hb
       obtain⟨hlt,e⟩:=Array.getElem?_eq_some_iff.1 hb
       have hlt':n.toNat<s.size:=hlt
       rw[show s[n.toNat]? = some s[n.toNat] from getElem?_pos s n.toNat hlt']
       exact congrArg some e
      exact⟨.int .u8 b.toNat,by simp[Instr.index,asIntOf,run_underlying hK,h0,hs],by simp[SR,VR]⟩
     ·cases h
    ·cases h
   ·cases h
  ·rename_i len e' hk
   rw[hk] at hK;simp only[KOk] at hK
   have:=he _ _ hk
   subst this
   split at h
   ·rename_i l
    split at h
    ·rename_i hb
     obtain⟨hb,h0⟩:=hb
     have h0:(C.ti e').size≠0:=by omega
     split at h
     ·rename_i x hx'
      cases h
      simp only[SR,VR] at hx
      obtain⟨vs,hc,ho,rfl⟩:=hx
      obtain⟨z,hz,hr⟩:=Qct hT (nbad hT h0) hc ho hx' w
      have hs:=Z2 (P:=P) hT (nbad hT h0) w
      exact⟨z,by simp[Instr.index,asIntOf,run_underlying hK,hb,hs,hz],hr⟩
     ·cases h
    ·cases h
   ·cases h
  ·cases h
 ·cases h
end ops
end Go.Am
namespace Go.Am
open Go Go.RowKit
section ops
variable {P:Program} {C:Cfg} {κ:Kn}
def OptR(κ:Kn):Option Slot->Option Value->Prop
 |none,none=>True
 |some s,some v=>SR κ s v
 |_,_=>False
theorem QO{x:Slot}{v:Value}(hx:SR κ x v){d most n:Nat}(h:bound (some x) d most=some n):n<=most/\∀ (code:BoundsCode) (cap:Nat) (w:World),most<=cap->(Instr.sliceBound v cap code).run P w = .ok n w:=by
 unfold bound at h
 split at h
 ·rename_i h';cases h'
 ·rename_i k i h'
  cases h'
  split at h
  ·rename_i hb
   cases h
   simp only[SR,VR] at hx
   subst hx
   refine⟨by omega,λcode cap w hc=>run_sliceBound w k i cap code hb.1 (by omega)⟩
  ·cases h
 ·cases h
theorem Q0O{d most n:Nat}(h:bound none d most=some n):n=d:=by
 unfold bound at h
 cases h
 rfl
theorem QbH{x:Option Slot}{d most n:Nat}(hd:d<=most)(h:bound x d most=some n):n<=most:=by
 unfold bound at h
 split at h
 ·cases h;exact hd
 ·split at h
  ·cases h;omega
  ·cases h
 ·cases h
theorem SR.list_some{s:Slot}{v:Value}{l:List AV}(h:SR κ s v)(hl:s.list? = some l)(hn:s≠.val .nils):∃ a n c,v = .slice (some a) n c/\SlA κ l a n c:=by
 cases s<;>simp only[Slot.list?] at hl
 case und=>cases hl
 case no=>cases hl
 case val x=>
  cases x<;>simp only[] at hl
  case nils=>exact absurd rfl hn
  case sl m=>cases hl;exact Q1B.1 h
  all_goals cases hl
 case own k e m=>cases hl;exact h.1
 case full m=>cases hl;obtain⟨a,n,rfl,hs⟩:=h;exact⟨a,n,n,rfl,hs⟩
theorem bounds2{lo hi:Option Slot}{lv hv:Option Value}(h1:OptR κ lo lv)(h2:OptR κ hi hv){len cap h a:Nat}(hlc:len<=cap)(b:Bool)(e1:bound hi len len=some h)(e2:bound lo 0 h=some a)(w:World) :
  (Instr.sliceBounds b len cap lv hv none).run P w = .ok (a,h,cap) w/\a<=h/\h<=len:=by
 have hh:h<=len:=by
  cases hi with
  |none=>rw[Q0O e1];exact Yd _
  |some s=>
    cases hv with
    |none=>exact h2.elim
    |some v=>exact (QO (P:=P) h2 e1).1
 have ha:a<=h:=by
  cases lo with
  |none=>rw[Q0O e2];exact Nat.zero_le _
  |some s=>
    cases lv with
    |none=>exact h1.elim
    |some v=>exact (QO (P:=P) h1 e2).1
 refine⟨?_,ha,hh⟩
 cases hi with
 |none=>
   cases hv with
   |some v=>exact h2.elim
   |none=>
     have:=Q0O e1
     subst this
     cases lo with
     |none=>
       cases lv with
       |some v=>exact h1.elim
       |none=>have:=Q0O e2;subst this;simp[Instr.sliceBounds]
     |some s=>
       cases lv with
       |none=>exact h1.elim
       |some v=>simp[Instr.sliceBounds,(QO (P:=P) h1 e2).2 _ _ _ (Yd _)]
 |some sh=>
   cases hv with
   |none=>exact h2.elim
   |some v=>
     have e3:=(QO (P:=P) h2 e1).2
     cases lo with
     |none=>
       cases lv with
       |some v=>exact h1.elim
       |none=>have:=Q0O e2;subst this;simp[Instr.sliceBounds,e3 _ _ _ hlc]
     |some s=>
       cases lv with
       |none=>exact h1.elim
       |some v=>simp[Instr.sliceBounds,e3 _ _ _ hlc,(QO (P:=P) h1 e2).2 _ _ _ (Yd _)]
theorem bounds3{lo:Option Slot}{hi mx:Slot}{lv:Option Value}{hv mv:Value}(h1:OptR κ lo lv)(h2:SR κ hi hv)(h3:SR κ mx mv){len cap c h a:Nat}(hlc:len<=cap)(b:Bool)(e0:bound (some mx) 0 len=some c)(e1:bound (some hi) 0 c=some h)(e2:bound lo 0 h=some a)(w:World) :
  (Instr.sliceBounds b len cap lv (some hv) (some mv)).run P w = .ok (a,h,c) w/\a<=h/\h<=c/\c<=len:=by
 have e3:=QO (P:=P) h3 e0
 have e4:=QO (P:=P) h2 e1
 have ha:a<=h:=by
  cases lo with
  |none=>rw[Q0O e2];exact Nat.zero_le _
  |some s=>
    cases lv with
    |none=>exact h1.elim
    |some v=>exact (QO (P:=P) h1 e2).1
 refine⟨?_,ha,e4.1,e3.1⟩
 cases lo with
 |none=>
   cases lv with
   |some v=>exact h1.elim
   |none=>have:=Q0O e2;subst this;simp[Instr.sliceBounds,e3.2 _ _ _ hlc,e4.2 _ _ _ (Yd _)]
 |some s=>
   cases lv with
   |none=>exact h1.elim
   |some v=>simp[Instr.sliceBounds,e3.2 _ _ _ hlc,e4.2 _ _ _ (Yd _),(QO (P:=P) h1 e2).2 _ _ _ (Yd _)]
theorem SlA.part{l:List AV}{a:Addr}{n c sz x h m:Nat}(k:SlA κ l a n c)(hsz:∀ v ∈ l,v.cells.length=sz)(hx:x<=h)(hh:h<=n)(hm:h<=m) :
  SlA κ ((l.take h).drop x) (if m=x then a else a.add (x*sz)) (h - x) (m - x):=by
 obtain⟨h1,h2,h3,sz',vs,h4,h5,h6,h7⟩:=k
 refine⟨by simp;omega,by omega,λhp=>?_,sz,(vs.take (h*sz)).drop (x*sz),λv hv=>hsz v (List.mem_of_mem_take (List.mem_of_mem_drop hv)),?_,(h6.take _).drop _,?_⟩
 ·have hs:=h3 (by omega)
  split
  ·exact hs
  ·obtain⟨b,o,sp⟩:=a
   simp only at hs
   subst hs
   rw[Qw]
 ·by_cases hmx:m=x
  ·have hxh:x=h:=by omega
   subst hxh
   intro j u hu
   have:(vs.take (x*sz)).drop (x*sz)=[]:=List.drop_of_length_le (by simp;omega)
   rw[this] at hu
   simp at hu
  ·rw[if_neg hmx]
   by_cases hp:0<n
   ·exact (h5.take _).drop (h3 hp) _
   ·have hn:n=0:=by omega
    have:l=[]:=List.length_eq_zero_iff.1 (by omega)
    subst this
    simp only[flat,List.flatMap_nil,VRl] at h7
    subst h7
    intro j u hu
    simp at hu
 ·have:=(h7.take (h*sz)).drop (x*sz)
  rwa [Qad h hsz,Q6a x (λv hv=>hsz v (List.mem_of_mem_take hv))] at this
theorem QaB(hT:∀ t,TyOK P C t){t:TypeId}{sz:Nat}(hsz:∀ e,(C.ti t).k = .slice e->sz=(C.ti e).size)(w:World){sx sl:Slot}{u:Value}{lo hi mx:Option Slot}{lv hv mv:Option Value}
  (hx:SR κ sx u) (h1:OptR κ lo lv) (h2:OptR κ hi hv) (h3:OptR κ mx mv) (h:sliceS (C.ti t) sz sx lo hi mx=some sl) :
  ∃ z,(Instr.sliceAt t u lv hv mv).run P w = .ok z w/\SR κ sl z:=by
 have hK:=(hT t).kind
 unfold sliceS at h
 split at h
 ·rename_i hk
  rw[hk] at hK;simp only[KOk] at hK
  split at h
  ·rename_i l
   split at h
   ·cases h
   ·cases mv with
    |some v=>exact h3.elim
    |none=>
      split at h
      ·rename_i hh e1
       split at h
       ·rename_i a e2
        cases h
        simp only[SR,VR] at hx
        obtain⟨s,rfl,rfl⟩:=hx
        have hl:s.data.toList.length=s.size:=by simp
        rw[hl] at e1
        obtain⟨r,ha,hb⟩:=bounds2 (P:=P) h1 h2 (Yd _) false e1 e2 w
        refine⟨.string (s.extract a hh),by simp[run_sliceAt_string w t _ _ _ _ hK,Instr.slice,run_underlying hK,r],?_⟩
        refine⟨s.extract a hh,?_,rfl⟩
        simp[ByteArray.extract,ByteArray.copySlice,List.drop_take]
        try omega
       ·cases h
      ·cases h
  ·cases h
 ·rename_i e hk
  have hel:=(hT t).elem e hk
  rw[hk] at hK;simp only[KOk] at hK
  have hK':P.underlying t=some (.slice (P.elem t)):=by rw[hK];simp[Program.elem,hK]
  have hee:P.elem t=e:=by rw[hK] at hK';injection hK' with hK';injection hK' with hK';exact hK'.symm
  obtain⟨i,hi'⟩:=Option.isSome_iff_exists.1 hel
  have hs0:(sizeOf (P.elem t)).run P w = .ok i.size w:=by rw[hee];simp[sizeOf,typeInfo,hi']
  split at h
  ·split at h
   ·cases h
   ·cases mv with
    |some v=>exact h3.elim
    |none=>
      split at h
      ·rename_i hh e1
       split at h
       ·rename_i a e2
        cases h
        simp only[SR,VR] at hx
        subst hx
        have h0:hh=0:=by have:=QbH (Yd 0) e1;omega
        subst h0
        obtain⟨r,ha,hb⟩:=bounds2 (P:=P) h1 h2 (Yd 0) true e1 e2 w
        have h0:a=0:=by omega
        subst h0
        refine⟨.slice none 0 0,?_,by simp only[SR,VR]⟩
        rw[run_sliceAt_slice w t _ _ _ _ hK',run_slice_any w t _ _ _ hK',r,Result.andThen_ok,hs0,Result.andThen_ok]
        simp[sliced]
       ·cases h
      ·cases h
  ·rename_i x hnn
   split at h
   ·rename_i l hl
    cases hc:(l.all (λv=>v.cells.length == sz)&&Nat.blt 0 sz) with
    |false=>rw[hc] at h;cases h
    |true=>
      rw[hc] at h
      simp only[cond_true] at h
      simp only[Ya,List.all_eq_true,beq_iff_eq] at hc
      obtain⟨hall,hpos⟩:=hc
      have hsz':=hsz e hk
      have hpos':(C.ti e).size≠0:=by
       rw[<-hsz']
       intro h0
       rw[h0] at hpos
       cases hpos
      have hs0:(sizeOf (P.elem t)).run P w = .ok sz w:=by rw[hee,hsz'];exact Z2 hT (nbad hT hpos') w
      obtain⟨b,n,c,rfl,g3⟩:=hx.list_some hl (λe=>hnn e)
      have g1:=g3.1
      have g2:=g3.2.1
      split at h
      ·cases mv with
       |some v=>exact h3.elim
       |none=>
         split at h
         ·rename_i hh e1
          split at h
          ·rename_i a e2
           cases h
           rw[g1] at e1
           obtain⟨r,ha,hb⟩:=bounds2 (P:=P) h1 h2 g2 true e1 e2 w
           have:=g3.part hall ha hb (Nat.le_trans hb g2)
           refine⟨_,?_,Q1B.2 ⟨_,_,_,rfl,this⟩⟩
           rw[run_sliceAt_slice w t _ _ _ _ hK',run_slice_any w t _ _ _ hK',r,Result.andThen_ok,hs0,Result.andThen_ok]
           simp only[sliced]
           split<;>simp_all
          ·cases h
         ·cases h
      ·cases mv with
       |none=>exact h3.elim
       |some mv=>
         split at h
         ·rename_i cc e0
          split at h
          ·cases hv with
           |none=>exact h2.elim
           |some hv=>
             split at h
             ·rename_i hh e1
              split at h
              ·rename_i a e2
               rw[g1] at e0
               obtain⟨r,ha,hb,hcc⟩:=bounds3 (P:=P) h1 h2 h3 g2 true e0 e1 e2 w
               have:=g3.part (m:=cc) hall ha (by omega) hb
               have run:(Instr.sliceAt t (.slice (some b) n c) lv (some hv) (some mv)).run P w = .ok (.slice (some (if cc=a then b else b.add (a*sz))) (hh - a) (cc - a)) w:=by
                rw[run_sliceAt_slice w t _ _ _ _ hK',run_slice_any w t _ _ _ hK',r,Result.andThen_ok,hs0,Result.andThen_ok]
                simp only[sliced]
                split<;>simp_all
               cases hq:Nat.beq hh cc with
               |true=>
                 rw[hq] at h
                 cases h
                 have hq':=Yf hq
                 subst hq'
                 exact⟨_,run,_,_,rfl,this⟩
               |false=>
                 rw[hq] at h
                 cases h
                 exact⟨_,run,Q1B.2 ⟨_,_,_,rfl,this⟩⟩
              ·cases h
             ·cases h
          ·cases h
         ·cases h
   ·simp only[sliceV] at h
    split at h
    ·rename_i loc e' sz' l0 n _
     cases hc:Nat.beq sz' sz&&Nat.blt 0 sz' with
     |false=>rw[hc] at h;cases h
     |true=>
       rw[hc] at h
       simp only[cond_true] at h
       simp only[Ya] at hc
       obtain⟨hc1,hc2⟩:=hc
       have hc1:=Yf hc1
       subst hc1
       have hsz':=hsz e hk
       have hpos':(C.ti e).size≠0:=by
        rw[<-hsz']
        intro h0
        rw[h0] at hc2
        cases hc2
       have hs0:(sizeOf (P.elem t)).run P w = .ok sz' w:=by rw[hee,hsz'];exact Z2 hT (nbad hT hpos') w
       cases mv with
       |some v=>exact h3.elim
       |none=>
         split at h
         ·rename_i hh e1
          split at h
          ·rename_i a e2
           cases h
           simp only[SR,VR] at hx
           obtain⟨b,c,ad,g1,g2,g3,g4,rfl⟩:=hx
           obtain⟨r,ha,hb⟩:=bounds2 (P:=P) h1 h2 (show n<=c - l0 by omega) true e1 e2 w
           refine⟨.slice (some (if c - l0=a then ad else ad.add (a*sz'))) (hh - a) (c - l0 - a),?_,?_⟩
           ·rw[run_sliceAt_slice w t _ _ _ _ hK',run_slice_any w t _ _ _ hK',r,Result.andThen_ok,hs0,Result.andThen_ok]
            simp only[sliced]
            split<;>simp_all
           ·simp only[SR,VR]
            refine⟨b,c,_,g1,g2,by omega,λhlt=>?_,by rw[Nat.sub_sub]⟩
            rw[if_neg (by omega),g4 (by omega),Qw,<-Nat.add_mul]
          ·cases h
         ·cases h
    ·cases h
 ·cases h
theorem Qe5{κ:Kn}:∀ {l:List AV} {ns:List Int} {vs:List Value},u8s l=some ns->VRl κ (flat l) vs->vs=ns.map (Value.int .u8)
 |[],ns,vs,h,hv=>by cases h;simpa [flat,VRl] using hv
 |x::r,ns,vs,h,hv=>by
   cases x<;>(try simp only[u8s] at h)
   case int k n=>
    cases k<;>(try simp only[u8s] at h)
    case u8=>
     cases hr:u8s r with
     |none=>rw[hr] at h;cases h
     |some l=>
       rw[hr] at h
       cases h
       have hf:flat (AV.int IntKind.u8 n::r)=AV.int IntKind.u8 n::flat r:=rfl
       rw[hf] at hv
       simp only[VRl,VR] at hv
       obtain⟨u,us,rfl,rfl,h2⟩:=hv
       rw[Qe5 hr h2]
       rfl
    all_goals cases h
   all_goals cases h
theorem Qe4:∀ {l:List AV} {ns:List Int},u8s l=some ns->ns.length=l.length
 |[],ns,h=>by cases h;rfl
 |x::r,ns,h=>by
   cases x<;>(try simp only[u8s] at h)
   case int k n=>
    cases k<;>(try simp only[u8s] at h)
    case u8=>
     cases hr:u8s r with
     |none=>rw[hr] at h;cases h
     |some l=>rw[hr] at h;cases h;simp[Qe4 hr]
    all_goals cases h
   all_goals cases h
theorem Qf2(n:Int)(h0:0<=n)(h:n<128):(Utf8.encode n).data.toList=[UInt8.ofNat n.toNat]:=by
 have hv:Utf8.valid n=true:=by simp only[Utf8.valid];simp;omega
 have hn:n.toNat<128:=by omega
 unfold Utf8.encode
 simp[hv,hn]
theorem QgH{B:Nat}{s0:St}(hT:∀ t,TyOK P C t)(s d:TypeId)(w:World)(hI:Inv C κ B s0 w){sx sl:Slot}{u:Value}(hx:SR κ sx u)(h:convS (C.ti s) (C.ti d) sx (C.sub s)=some sl):∃ z,(convert s d u).run P w = .ok z w/\SR κ sl z:=by
 have hKd:=(hT d).kind
 unfold convS at h
 split at h
 ·rename_i k _ n hk
  rw[hk] at hKd
  have hs:(C.ti s).k≠.bad/\some (Slot.val (.int k (k.wrap n)))=some sl:=by
   split at h
   ·cases h
   ·rename_i hs;exact⟨hs,h⟩
  obtain⟨hs,h⟩:=hs
  obtain⟨ds,hds⟩:∃ ds,P.underlying s=some ds:=by
   have hK:=(hT s).kind
   cases hk:(C.ti s).k<;>rw[hk] at hK<;>simp only[KOk] at hK<;>first|exact absurd hk hs|exact⟨_,hK⟩|(obtain⟨_,hK⟩:=hK;exact⟨_,hK⟩)|(obtain⟨_,hK,_⟩:=hK;exact⟨_,hK⟩)|(obtain⟨_,_,_,hK⟩:=hK;exact⟨_,hK⟩)
  cases h
  simp only[SR,VR] at hx
  subst hx
  refine⟨.int k (k.wrap n),?_,by simp[SR,VR]⟩
  simp only[convert,Sem.run_bind,run_underlying hds,run_underlying hKd,Result.andThen_ok]
  cases ds<;>rfl
 ·rename_i l hk
  rw[hk] at hKd
  split at h
  ·cases h
   simp only[SR,VR] at hx
   obtain⟨x,hx1,rfl⟩:=hx
   rename_i hks
   have hKs:=(hT s).kind
   rw[hks] at hKs
   refine⟨.string x,?_,x,hx1,rfl⟩
   simp only[KOk] at hKs hKd
   simp[convert,run_underlying hKs,run_underlying hKd]
  ·cases h
 ·rename_i hk hns
  rw[hk] at hKd
  simp only[KOk] at hKd
  unfold convStr at h
  have hKs:=(hT s).kind
  split at h
  ·rename_i k j n hks
   rw[hks] at hKs
   simp only[KOk] at hKs
   split at h
   ·rename_i hn
    cases h
    simp only[SR,VR] at hx
    subst hx
    refine⟨_,run_convert_int_string w s d j n (by rw[hKs];rfl) hKd,?_⟩
    exact⟨_,Qf2 n hn.1 hn.2,rfl⟩
   ·cases h
  ·rename_i e hks
   split at h
   ·rename_i l hse hxl
    split at h
    ·rename_i ns hu
     cases h
     rw[hks] at hKs
     simp only[KOk] at hKs
     have hKe:P.underlying e=some (.int .u8):=by
      have:=(hT e).kind
      have he:(C.ti e).k = .int .u8:=by
       have:=hse
       simp only[Cfg.sub,hks] at this
       exact this
      rw[he] at this
      exact this
     obtain⟨a,n,c,rfl,hn,hc,hA,hE⟩:=SR.list hx hxl
     cases a with
     |none=>
       have hl:=hE rfl
       subst hl
       cases hu
       exact⟨_,run_convert_bytes_nil w s e hKs hKe n c d hKd,ByteArray.empty,rfl,rfl⟩
     |some a=>
       obtain⟨_,_,hsp,sz,vs,_,hH,_,hvr⟩:=hA a rfl
       have hvs:=Qe5 hu hvr
       have hnl:=Qe4 hu
       by_cases h0:n=0
       ·subst h0
        have hl:l=[]:=List.eq_nil_of_length_eq_zero hn
        subst hl
        cases hu
        refine⟨.string ByteArray.empty,?_,ByteArray.empty,rfl,rfl⟩
        rw[run_convert_bytes_string w s d e _ 0 c hKs hKe hKd]
        simp[Conv.bytesToString,loadCells]
        rfl
       ·have hsp:=hsp (by omega)
        obtain⟨b,o,sp⟩:=a
        simp only at hsp
        subst hsp
        refine⟨_,run_convert_bytes_arg w s e hKs hKe b o n c ns (by omega) (λi hi=>?_) d hKd,strOfNums ns,strOfNums_data ns,rfl⟩
        refine hI.im _ _ _ (hH i _ ?_)
        rw[hvs,List.getElem?_map]
        rw[List.getD,List.getElem?_eq_getElem (show i<ns.length by omega)]
        rfl
    ·cases h
   ·cases h
  ·cases h
 ·cases h
end ops
end Go.Am
namespace Go.Am
open Go Go.RowKit
def Kn.block(κ:Kn)(n:Nat)(vs:List Value):Kn:={ κ with im:=λb o=>if b=n then vs[o]? else κ.im b o }
section
variable {C:Cfg} {κ:Kn} {B:Nat} {s:St} {w w':World}
theorem Inv.grown(h:Inv C κ B s w)(hg:w.grownBy w' none):Inv C κ B s w':=by
 refine⟨λb o v k=>hg.cell (h.im b o v k) (by simp),λl x hx=>?_,h.locn,λk L hk=>?_,h.tokn,h.locinj,h.tokinj,h.loctok,h.locim,h.lv,λl e sz c hc=>?_,h.bls,h.tabs.mono (λ_ v k=>⟨v,k⟩) λb _ hs _=>hg.block b hs (by simp)⟩
 ·obtain⟨b,o,h1,h2,h3,h4⟩:=h.locs l x hx
  exact⟨b,o,h1,h2,by rw[hg.block b (Array.getElem?_eq_some_iff.1 h3).1 (by simp)];exact h3,h4⟩
 ·obtain⟨e,v,h1,h2⟩:=h.toks k L hk
  refine⟨e,v,h1,λg hgv=>?_⟩
  obtain⟨xs,h2,h3⟩:=h2 g hgv
  exact⟨xs,h2.kept hg (by cases v.ownBlock<;>simp),h3⟩
 ·obtain⟨k1,k2,k3,k4,k5⟩:=h.caps l e sz c hc
  refine⟨k1,k2,k3,k4,λhg' b hb=>?_⟩
  obtain⟨cs,k6,k7⟩:=k5 hg' b hb
  exact⟨cs,by rw[hg.block b (Array.getElem?_eq_some_iff.1 k6).1 (by simp)];exact k6,k7⟩
theorem Mv.grown(κ:Kn)(hg:w.grownBy w' none):Mv κ κ w w':=
 ⟨.refl κ,hg.os,hg.tape,hg.output,hg.size,λb hb _=>hg.block b hb (by simp),λ_ h=>.inl h,λ_ _ _ h _ _=>h⟩
theorem Inv.const_le(h:Inv C κ B s w){n:Nat}(hn:w.heap.size<=n)(vs:List Value):LE κ (κ.block n vs):=
 ⟨λb o v k=>by
   have:b≠n:=by have:=h.im_lt k;omega
   simp only[Kn.block,this,if_false]
   exact k,λ_ _ k=>k,λ_ L _ v k=>⟨L,v,k,Yd _,λ_=>rfl⟩,λ_ _ k=>k⟩
theorem Inv.const(h:Inv C κ B s w){n:Nat}(hn:w.heap.size<=n){vs:List Value}(hc:∀ j u,vs[j]? = some u->w'.cell? ⟨n,j,none⟩=some u)(hg:w.grownBy w' none):Inv C (κ.block n vs) B s w':=by
 have hle:=h.const_le hn vs
 have h':=h.grown hg
 refine⟨λb o v k=>?_,λl x hx=>?_,h'.locn,λk L hk=>?_,h'.tokn,h'.locinj,h'.tokinj,h'.loctok,λl b o hl hg'=>?_,h'.lv,h'.caps,h'.bls,h'.tabs.mono (λ_ v k=>⟨v,hle.im _ _ _ k⟩) λ_ _ _ _=>rfl⟩
 ·simp only[Kn.block] at k
  split at k
  ·rename_i e;subst e;exact hc o v k
  ·exact h'.im b o v k
 ·obtain⟨b,o,h1,h2,h3,h4⟩:=h'.locs l x hx
  exact⟨b,o,h1,h2,h3,h4.mono hle⟩
 ·obtain⟨e,v,h1,h2⟩:=h'.toks k L hk
  obtain⟨e2,v2,k1,k2⟩:=h.toks k L hk
  rw[h1] at k1
  cases k1
  refine⟨e,v,h1,λg h3=>?_⟩
  obtain⟨xs,h2,h4,h5,h6,h7⟩:=h2 g h3
  obtain⟨xs2,k2,_⟩:=k2 g h3
  have hg2:g≠n:=by have:=(k2.lt g h3).2;omega
  refine⟨xs,h2,h4,h5,λj u hj=>hle.im _ _ _ (h6 j u hj),λo ho=>?_⟩
  simp only[Kn.block,hg2,if_false]
  exact h7 o ho
 ·have:b≠n:=by
   have hlt:=h.locn l b hl
   obtain⟨b',o',h1,_,h3,_⟩:=h.locs l _ (List.getElem?_eq_getElem hlt)
   have hl':κ.loc l=some b:=hl
   rw[hl'] at h1;cases h1
   have:=(Array.getElem?_eq_some_iff.1 h3).1
   omega
  simp only[Kn.block,this,if_false]
  exact h.locim l b o hl hg'
theorem Inv.const_Mv(h:Inv C κ B s w){n:Nat}(hn:w.heap.size<=n)(vs:List Value)(hg:w.grownBy w' none):Mv κ (κ.block n vs) w w':=
 ⟨h.const_le hn vs,hg.os,hg.tape,hg.output,hg.size,λb hb _=>hg.block b hb (by simp),λ_ h=>.inl h,λb o v k hb _=>by
   have:b≠n:=by omega
   simpa only[Kn.block,this,if_false] using k⟩
theorem Kn.block_held(κ:Kn)(n:Nat)(vs:List Value):Held (κ.block n vs) ⟨n,0,none⟩ vs:=λj u hu=>by
 simpa [Kn.block] using hu
theorem Inv.constBlock(h:Inv C κ B s w)(vs:List Value)(t:TypeId):Inv C (κ.block w.heap.size vs) B s (w.alloc (.cells vs.toArray t))/\Mv κ (κ.block w.heap.size vs) w (w.alloc (.cells vs.toArray t)):=by
 have hg:=World.grownBy_alloc w (.cells vs.toArray t) none
 refine⟨h.const (Yd _) (λj u hj=>?_) hg,h.const_Mv (Yd _) vs hg⟩
 rw[cell_of_row _ w.heap.size j _ t (0,0) (heap_alloc_new w _)]
 simpa using hj
end
section ops
variable {P:Program} {C:Cfg} {κ:Kn}
theorem Q3G:∀ {xs:List Slot} {vs:List Value} {l:List AV},SRs κ xs vs->avs xs=some l->VRl κ l vs
 |[],vs,l,h,hl=>by simp only[avs] at hl;cases hl;simpa only[VRl,SRs] using h
 |x::xs,vs,l,h,hl=>by
   obtain⟨u,us,rfl,h1,h2⟩:=h
   simp only[avs] at hl
   split at hl
   ·rename_i v hv
    split at hl
    ·rename_i l' hl'
     cases hl
     exact⟨u,us,rfl,h1.av hv,Q3G h2 hl'⟩
    ·cases hl
   ·cases hl
theorem Qkj{f:FuncId}{xs:List Slot}{vs:List Value}{sl:Slot}(h:SRs κ xs vs)(hs:fnS f xs=some sl):SR κ sl (.func (.func f) #[] vs.toArray):=by
 unfold fnS at hs
 split at hs
 ·rename_i l hl
  cases hs
  simp only[SR,VR]
  exact⟨vs,Q3G h hl,rfl⟩
 ·cases hs
theorem Qii(hT:∀ t,TyOK P C t){t:TypeId}(hk1:(C.ti t).k≠.bad)(hk2:(C.ti t).k≠.iface)(w:World){x sl:Slot}{u:Value}(hx:SR κ x u)(h:ifcS t x=some sl):∃ z,(Instr.makeInterface t u).run P w = .ok z w/\SR κ sl z:=by
 unfold ifcS at h
 split at h
 ·rename_i v hv
  cases h
  refine⟨.iface t u,?_,by simp only[SR,VR];exact⟨u,hx.av hv,rfl⟩⟩
  have hK:=(hT t).kind
  cases hk:(C.ti t).k<;>rw[hk] at hK<;>simp only[KOk] at hK
  case bad=>exact absurd hk hk1
  case iface=>exact absurd hk hk2
  all_goals
   first
    |simp[Instr.makeInterface,run_underlying hK]
    |(obtain⟨_,hK⟩:=hK;simp[Instr.makeInterface,run_underlying hK])
    |(obtain⟨_,hK,_⟩:=hK;simp[Instr.makeInterface,run_underlying hK])
    |(obtain⟨_,_,_,hK⟩:=hK;simp[Instr.makeInterface,run_underlying hK])
 ·cases h
theorem QfZ{l cs l':List AV}{vs us:List Value}{off:Nat}(hl:VRl κ l vs)(hc:VRl κ cs us)(h:setAt l off cs=some l'):off+us.length<=vs.length/\VRl κ l' (vs.take off++(us++vs.drop (off+us.length))):=by
 unfold setAt at h
 have e1:=hl.length
 have e2:=hc.length
 split at h
 ·rename_i hle
  cases h
  refine⟨by omega,VRl.append.2 ⟨_,_,rfl,hl.take off,VRl.append.2 ⟨_,_,rfl,hc,?_⟩⟩⟩
  rw[e2]
  exact hl.drop _
 ·cases h
theorem QgR(vs us:List Value)(off:Nat)(h:off+us.length<=vs.length) :
  us.toArray.zipIdx.foldl (λcs (x:Value × Nat)=>cs.setIfInBounds (off+x.2) x.1) vs.toArray=(vs.take off++(us++vs.drop (off+us.length))).toArray:=by
 obtain⟨g1,g2⟩:=Great.foldl_set off us 0 vs.toArray
 rw[<-Array.foldl_toList,Array.toList_zipIdx]
 apply Array.ext_getElem?
 intro k
 rw[g2 k]
 simp only[Nat.add_zero,List.size_toArray,List.getElem?_toArray]
 by_cases h1:k<off
 ·rw[if_neg (by omega),List.getElem?_append_left (by simp;omega),List.getElem?_take_of_lt h1]
 ·rw[List.getElem?_append_right (by simp;omega),List.length_take,Nat.min_eq_left (by omega)]
  by_cases h2:k<off+us.length
  ·rw[if_pos ⟨by omega,h2,by omega⟩,List.getElem?_append_left (by omega)]
  ·rw[if_neg (by omega),List.getElem?_append_right (by omega),List.getElem?_drop]
   congr 1
   omega
def PartsR(κ:Kn)(pl:Nat->Option (Nat × Nat)):List (Nat × Nat × Slot)->List (Nat × Value)->Prop
 |[],ps=>ps=[]
 |(off,size,x)::r,ps=>∃ i u us,ps=(i,u)::us/\pl i=some (off,size)/\SR κ x u/\PartsR κ pl r us
theorem Q7G(pl:Nat->Option (Nat × Nat)):∀ {ps:List (Nat × Nat × Slot)} {parts:List (Nat × Value)} {l l':List AV} {vs:List Value},PartsR κ pl ps parts->VRl κ l vs->Ones vs->fillS l ps=some l'->
  ∃ vs',Instr.fill pl vs.toArray parts=some vs'.toArray/\VRl κ l' vs'/\Ones vs'
 |[],parts,l,l',vs,hp,hl,ho,h=>by
   simp only[PartsR] at hp
   subst hp
   simp only[fillS] at h
   cases h
   exact⟨vs,rfl,hl,ho⟩
 |(off,size,x)::r,parts,l,l',vs,hp,hl,ho,h=>by
   obtain⟨i,u,us,rfl,h1,h2,h3⟩:=hp
   simp only[fillS] at h
   split at h
   ·rename_i v hv
    split at h
    ·rename_i hs
     split at h
     ·rename_i l1 hl1
      have hu:=h2.av hv
      obtain⟨e1,e2⟩:=QfZ hl hu.cells hl1
      have hones:=hu.ones hs.2
      have hsz:u.cells.size=size:=by rw[hu.size];exact hs.1
      obtain⟨vs',k1,k2,k3⟩:=Q7G pl h3 e2 ((ho.take off).append (hones.append (ho.drop _))) h
      refine⟨vs',?_,k2,k3⟩
      unfold Instr.fill
      simp only[h1]
      have e1':off+u.cells.size<=vs.length:=by simpa using e1
      rw[if_neg (by simp[hsz];omega)]
      rw[<-k1]
      congr 1
      have:=QgR vs u.cells.toList off (by simpa using e1')
      simpa using this
     ·cases h
    ·cases h
   ·cases h
theorem Q5q(hT:∀ t,TyOK P C t){e:Env}{ev:Operand->Value}(hev:∀ x,SR κ (opnd C e x) (ev x)){t:TypeId}{pl:Nat->Option (Nat × Nat)}
  (hpl:∀ i off size,size≠0->(match (C.ti t).k with
    |.struct fs=>(match fs[i]? with|some (off,ft)=>some (off,(C.ti ft).size)|none=>none)
    |.array _ et=>some (i*(C.ti et).size,(C.ti et).size)
    |_=>none)=some (off,size)->pl i=some (off,size)):∀ {ps:List (Nat × Operand)} {l:List (Nat × Nat × Slot)},places C e (C.ti t) ps=some l->PartsR κ pl l (ps.map λ(i,x)=>(i,ev x))
 |[],l,h=>by simp only[places] at h;cases h;rfl
 |(i,x)::r,l,h=>by
   simp only[places] at h
   split at h
   ·rename_i off size hs
    cases h0:Nat.beq size 0 with
    |true=>rw[h0] at h;cases h
    |false=>
      rw[h0] at h
      simp only[cond_false] at h
      split at h
      ·rename_i l' hl'
       cases h
       exact⟨i,ev x,_,rfl,hpl i off size (by intro e;subst e;cases h0) hs,hev x,Q5q hT hev hpl hl'⟩
      ·cases h
   ·cases h
theorem Qg3(hT:∀ t,TyOK P C t){t:TypeId}(h:(C.ti t).size≠0){i:TypeInfo}(hi:P.info? t=some i):i.size=(C.ti t).size:=by
 obtain⟨i',z,h1,h2,_⟩:=(hT t).info (nbad hT h)
 rw[hi] at h1
 cases h1
 exact h2
theorem Qfi(hT:∀ t,TyOK P C t){e:Env}{ev:Operand->Value}(hev:∀ x,SR κ (opnd C e x) (ev x)){t:TypeId}{ps:Array (Nat × Operand)}{l:List (Nat × Nat × Slot)}{sl:Slot}(hp:places C e (C.ti t) ps.toList=some l)(h:buildS (C.ti t).zero l=some sl)(hk:∃ fs,(C.ti t).k = .struct fs\/∃ n et,(C.ti t).k = .array n et/\(C.ti et).size≠0)(w:World) :
  ∃ z,(Instr.build t (ps.map λ(i,x)=>(i,ev x))).run P w = .ok z w/\SR κ sl z:=by
 have hb:(C.ti t).k≠.bad:=by rcases hk with ⟨fs,h|⟨n,et,h,_⟩⟩<;>rw[h]<;>simp
 obtain⟨i,z,h1,h2,h3,h4,h5,h6,h7,_⟩:=(hT t).info hb
 have hK:=(hT t).kind
 unfold buildS at h
 split at h
 ·rename_i l' hl'
  cases h
  have hparts:(ps.map λ(i,x)=>(i,ev x)).toList=ps.toList.map λ(i,x)=>(i,ev x):=by simp
  rcases hk with ⟨fs,hk|⟨n,et,hk,hne⟩⟩
  ·rw[hk] at hK
   obtain⟨fields,hf1,hf2⟩:=hK
   have hfl:=(hT t).flds fields hf1 hb
   obtain⟨places,hpl⟩:∃ places,fields.toList.mapM (λf=>(P.info? f.type).map λi=>(f.offset,i.size))=some places/\∀ (i off size:Nat),size≠0->(match fs[i]? with|some (off,ft)=>some (off,(C.ti ft).size)|none=>none)=some (off,size)->places[i]? = some (off,size):=by
    rw[<-hf2]
    clear hf1 hf2 hk
    revert hfl
    generalize fields.toList=fl
    intro hfl
    induction fl with
    |nil=>exact⟨[],rfl,by intro i off size _ h;simp at h⟩
    |cons f fl ih=>
      obtain⟨pl,hp1,hp2⟩:=ih (λg hg=>hfl g (Yb _ hg))
      obtain⟨i,hi⟩:=Option.isSome_iff_exists.1 (hfl f Yc)
      refine⟨(f.offset,i.size)::pl,by simp[List.mapM_cons,hi,hp1],λj off size h0 hj=>?_⟩
      cases j with
      |zero=>
        simp at hj
        obtain⟨rfl,rfl⟩:=hj
        simp[Qg3 hT h0 hi]
      |succ j=>simpa using hp2 j off size h0 (by simpa using hj)
   obtain⟨vs',k1,k2,k3⟩:=Q7G (λi=>places.toArray[i]?) (Q5q (P:=P) hT hev (t:=t) (pl:=λi=>places.toArray[i]?) (by rw[hk];intro i off size h0 hs;simpa using hpl.2 i off size h0 hs) hp) (h6 κ) h7 hl'
   have hbt:P.built t (ps.map λ(i,x)=>(i,ev x)).toList=some vs'.toArray:=by
    unfold Program.built
    simp only[h1,hf1,h4,hpl.1]
    rw[hparts]
    simpa using k1
   exact⟨_,run_build w t _ _ hbt,by simp only[SR,VR];exact⟨vs',k2,k3,rfl⟩⟩
  ·rw[hk] at hK;simp only[KOk] at hK
   obtain⟨ie,ze,g1,g2,_⟩:=(hT et).info (nbad hT hne)
   obtain⟨vs',k1,k2,k3⟩:=Q7G (λi=>some (i*ie.size,ie.size)) (Q5q (P:=P) hT hev (t:=t) (pl:=λi=>some (i*ie.size,ie.size)) (by rw[hk];intro i off size h0 hs;rw[g2];exact hs) hp) (h6 κ) h7 hl'
   have hbt:P.built t (ps.map λ(i,x)=>(i,ev x)).toList=some vs'.toArray:=by
    unfold Program.built
    simp only[h1,hK,h4,g1]
    rw[hparts]
    simpa using k1
   exact⟨_,run_build w t _ _ hbt,by simp only[SR,VR];exact⟨vs',k2,k3,rfl⟩⟩
 ·cases h
theorem Q9n{size:Nat}:∀ {xs:List Slot} {l:List AV} {vs:List Value},SRs κ xs vs->bslS size xs=some l->(∀ x ∈ l,x.cells.length=size)/\l.length=vs.length/\(∀ v ∈ vs,v.cells.size=size)/\VRl κ (flat l) (vs.flatMap λv=>v.cells.toList)/\Ones (vs.flatMap λv=>v.cells.toList)
 |[],l,vs,h,hl=>by
   simp only[bslS] at hl
   cases hl
   simp only[SRs] at h
   subst h
   exact⟨by simp,rfl,by simp,by simp[flat,VRl],by intro u hu;simp at hu⟩
 |x::xs,l,vs,h,hl=>by
   obtain⟨u,us,rfl,h1,h2⟩:=h
   simp only[bslS] at hl
   split at hl
   ·rename_i v hv
    split at hl
    ·rename_i hs
     split at hl
     ·rename_i l' hl'
      cases hl
      obtain⟨k1,k2,k3,k4,k5⟩:=Q9n h2 hl'
      have hu:=h1.av hv
      refine⟨λy hy=>?_,by simp[k2],λy hy=>?_,?_,?_⟩
      ·rcases List.mem_cons.1 hy with rfl|hy
       ·exact hs.1
       ·exact k1 y hy
      ·rcases List.mem_cons.1 hy with rfl|hy
       ·rw[hu.size];exact hs.1
       ·exact k3 y hy
      ·simp only[flat,List.flatMap_cons] at k4 |-
       exact VRl.append.2 ⟨_,_,rfl,hu.cells,k4⟩
      ·simp only[List.flatMap_cons]
       exact (hu.ones hs.2).append k5
     ·cases hl
    ·cases hl
   ·cases hl
theorem Q7j{ev:Operand->Value}:∀ {n:Nat} {ps:List (Nat × Operand)},inOrder n ps=true->ps.map (λ(i,x)=>(i,ev x))=((ps.map λp=>ev p.2).zipIdx n).map λx=>(x.2,x.1)
 |n,[],_=>rfl
 |n,(i,x)::r,h=>by
   simp only[inOrder,Ya] at h
   have:=Yf h.1
   subst this
   simp[Q7j h.2]
theorem Q4H(hT:∀ t,TyOK P C t){w:World}{ev:Operand->Value}{t et:TypeId}(hk:(C.ti t).k = .slice et)(h0:(C.ti et).size≠0){n:Nat}{ps:Array (Nat × Operand)}(hin:inOrder 0 ps.toList=true)(hn:ps.toList.length=n)(hsm:n*(C.ti et).size<=16777216)
  (k3:∀ v ∈ ps.toList.map λp=>ev p.2,v.cells.size=(C.ti et).size) :
  (Instr.buildSlice t n (ps.map λ(i,x)=>(i,ev x))).run P w = .ok (.slice (some ⟨w.heap.size,0,none⟩) n n) (w.alloc (.cells ((ps.toList.map λp=>ev p.2).flatMap λv=>v.cells.toList).toArray et)):=by
 have hK:=(hT t).kind
 rw[hk] at hK;simp only[KOk] at hK
 obtain⟨ie,ze,g1,g2,g3,g4,g5,_⟩:=(hT et).info (nbad hT h0)
 have hparts:(ps.map λ(i,x)=>(i,ev x)).toList=((ps.toList.map λp=>ev p.2).zipIdx 0).map λx=>(x.2,x.1):=by
  rw[Array.toList_map]
  exact Q7j hin
 by_cases hz:n*ie.size=0
 ·have hn0:n=0:=by
   rcases Nat.mul_eq_zero.1 hz with h|h
   ·exact h
   ·rw[g2] at h;exact absurd h h0
  subst hn0
  have hps:ps.toList=[]:=List.length_eq_zero_iff.1 hn
  have hps':ps = #[]:=Array.toList_inj.1 hps
  subst hps'
  have hr:Array.range 0 = #[]:=Array.eq_empty_of_size_eq_zero (by simp)
  simp[Instr.buildSlice,run_underlying hK,sizeOf,typeInfo,g1,newRow,Instr.fill,hr]
 ·refine run_buildSlice w t et n _ _ ie ze hK g1 g4 (by rw[g2];omega) hz ?_
  rw[hparts,g2]
  refine Great.fill_whole (by omega) _ _ k3 ?_
  rw[Array.size_map,Array.size_range,<-hn]
  simp
theorem Q9o(hT:∀ t,TyOK P C t){B:Nat}{s:St}{w:World}(hI:Inv C κ B s w){e:Env}{ev:Operand->Value}(hev:∀ x,SR κ (opnd C e x) (ev x)){t et:TypeId}(hk:(C.ti t).k = .slice et)(h0:(C.ti et).size≠0){n:Nat}{ps:Array (Nat × Operand)}(hin:inOrder 0 ps.toList=true)(hn:ps.toList.length=n)(hsm:n*(C.ti et).size<=16777216){sl:Slot}(h:bslF (C.ti et).size (ps.toList.map λp=>opnd C e p.2)=some sl) :
  ∃ z κ' w',(Instr.buildSlice t n (ps.map λ(i,x)=>(i,ev x))).run P w = .ok z w'/\Mv κ κ' w w'/\Inv C κ' B s w'/\SR κ' sl z:=by
 unfold bslF at h
 split at h
 ·rename_i l hl
  cases h
  have hsr:SRs κ (ps.toList.map λp=>opnd C e p.2) (ps.toList.map λp=>ev p.2):=by
   clear hin hn hsm hl
   induction ps.toList with
   |nil=>rfl
   |cons p r ih=>exact⟨_,_,rfl,hev p.2,ih⟩
  obtain⟨k1,k2,k3,k4,k5⟩:=Q9n hsr hl
  have hlen:l.length=n:=by rw[k2];simpa using hn
  obtain⟨hI',hM⟩:=hI.constBlock ((ps.toList.map λp=>ev p.2).flatMap λv=>v.cells.toList) et
  refine⟨.slice (some ⟨w.heap.size,0,none⟩) n n,_,_,?_,hM,hI',_,_,rfl,hlen,Yd _,λ_=>rfl,(C.ti et).size,_,k1,Kn.block_held _ _ _,k5,VRl.mono hM.le _ _ k4⟩
  exact Q4H hT hk h0 hin hn hsm k3
 ·cases h
end ops
end Go.Am
namespace Go.Am
open Go Go.RowKit
def PutR(κ:Kn)(e:Env)(β:Nat->Option Nat):Ent->Value->Prop
 |.s sl,v=>SR κ sl v
 |.ptr g d off,v=>(g=true->∃ b,β d=some b/\v = .pointer (some ⟨b,off,none⟩))/\e.get d≠.none
 |_,_=>False
section
variable {P:Program} {C:Cfg} {κ:Kn} {B B' N:Nat} {s:St} {w:World} {e:Env} {a:Act} {β:Nat->Option Nat} {δ:List Nat}
def DoesV(P:Program)(C:Cfg)(κ:Kn)(B:Nat)(s:St)(w:World)(e:Env)(β:Nat->Option Nat)(m:Sem Next)(k:Ent->Res)(R:Out × St):Prop:=
 ∃ v κ' w' x,m.run P w = .ok (.value v) w'/\Mv κ κ' w w'/\Inv C κ' B s w'/\PutR κ' e β x v/\k x=some R
theorem DoesV.of(hI:Inv C κ B s w){m:Sem Value}{r:Option Slot}{k:Ent->Res}{R:Out × St}(h:bind1 (gd true r) (λv=>k (.s v))=some R)(hm:∀ sl,r=some sl->∃ z,m.run P w = .ok z w/\SR κ sl z) :
  DoesV P C κ B s w e β (do pure (.value (<-m))) k R:=by
 simp only[gd,cond_true] at h
 cases r with
 |none=>cases h
 |some sl=>
   obtain⟨z,h1,h2⟩:=hm sl rfl
   exact⟨z,κ,w,.s sl,by simp only[Sem.run_bind,h1,Result.andThen_ok,Sem.run_pure],.refl _ _,hI,h2,h⟩
theorem DoesV.ofN(hI:Inv C κ B s w){m:Sem Next}{r:Option Slot}{k:Ent->Res}{R:Out × St}(h:bind1 (gd true r) (λv=>k (.s v))=some R)(hm:∀ sl,r=some sl->∃ z,m.run P w = .ok (.value z) w/\SR κ sl z) :
  DoesV P C κ B s w e β m k R:=by
 simp only[gd,cond_true] at h
 cases r with
 |none=>cases h
 |some sl=>
   obtain⟨z,h1,h2⟩:=hm sl rfl
   exact⟨z,κ,w,.s sl,h1,.refl _ _,hI,h2,h⟩
theorem Q0R(hev:∀ x,SR κ (opnd C e x) (a.eval x))(x:Option Operand):OptR κ (x.map (opnd C e)) (x.map a.eval):=by
 cases x with
 |none=>trivial
 |some x=>exact hev x
theorem Q9R(hev:∀ x,SR κ (opnd C e x) (a.eval x)):∀ l:List Operand,SRs κ (l.map (opnd C e)) (l.map a.eval)
 |[]=>rfl
 |x::l=>⟨_,_,rfl,hev x,Q9R hev l⟩
theorem Q2Y:∀ {l:List AV} {vs:List Value},VRl κ l vs->Ones vs->∀ y ∈ l,y.cells=[y]
 |[],_,_,_,y,hy=>by simp at hy
 |x::l,vs,h,ho,y,hy=>by
   simp only[VRl] at h
   obtain⟨u,us,rfl,h1,h2⟩:=h
   rcases List.mem_cons.1 hy with rfl|hy
   ·have hu:=ho u Yc
    cases y<;>first|rfl|(simp only[VR] at h1;obtain⟨_,_,_,rfl⟩:=h1;simp[Value.oneCell'] at hu)
   ·exact Q2Y h2 (λu hu=>ho u (Yb _ hu)) y hy
theorem QeN(hT:∀ t,TyOK P C t){t e':TypeId}{n:Nat}(hk:(C.ti t).k = .array n e')(w:World){sx sl:Slot}{u:Value}{lo hi mx:Option Slot}{lv hv mv:Option Value}
  (hx:SR κ sx u) (h1:OptR κ lo lv) (h2:OptR κ hi hv) (h3:OptR κ mx mv) (h:sliceA n (C.ti e') sx lo hi mx=some sl):∃ z,(Instr.sliceAt t u lv hv mv).run P w = .ok z w/\SR κ sl z:=by
 have hK:=(hT t).kind
 rw[hk] at hK;simp only[KOk] at hK
 unfold sliceA at h
 split at h
 ·rename_i cs
  cases h0:Nat.beq (C.ti e').size 0 with
  |true=>rw[h0] at h;cases h
  |false=>
    rw[h0] at h
    simp only[cond_false] at h
    have hz:(C.ti e').size≠0:=by intro e;rw[e] at h0;cases h0
    split at h
    ·cases h
    ·cases mv with
     |some v=>exact h3.elim
     |none=>
       split at h
       ·rename_i hh e1
        split at h
        ·rename_i x e2
         split at h
         ·rename_i l hl
          cases h
          obtain⟨r,ha,hb⟩:=bounds2 (P:=P) h1 h2 (Yd _) false e1 e2 w
          simp only[SR,VR] at hx
          obtain⟨b,vs,rfl,g1,g2,g3,g4⟩:=hx
          have hone:=Q2Y g4 g3
          have key:∀ (n:Nat) (cs l:List AV),(∀ y ∈ cs,y.cells=[y])->rows (C.ti e') n cs=some l->l.length=n/\(∀ x ∈ l,x.cells.length=(C.ti e').size)/\flat l=cs.take (n*(C.ti e').size):=by
           intro n
           induction n with
           |zero=>intro cs l _ h;simp only[rows] at h;cases h;simp[flat]
           |succ n ih=>
             intro cs l hcs h
             simp only[rows] at h
             split at h
             ·rename_i v hv
              split at h
              ·rename_i l' hl'
               cases h
               obtain⟨k1,k2,k3⟩:=ih _ _ (λy hy=>hcs y (List.mem_of_mem_drop hy)) hl'
               have hc:v.cells=cs.take (C.ti e').size/\v.cells.length=(C.ti e').size:=by
                unfold ofCells at hv
                cases hag:(C.ti e').isAgg with
                |true=>
                  rw[hag] at hv
                  simp only[cond_true] at hv
                  split at hv
                  ·rename_i hlen
                   cases hv
                   exact⟨rfl,hlen⟩
                  ·cases hv
                |false=>
                  rw[hag] at hv
                  simp only[cond_false] at hv
                  obtain⟨_,_,_,_,_,_,_,_,_,_,hone⟩:=(hT e').info (nbad hT hz)
                  have h1s:=(hone hag).2
                  split at hv
                  ·rename_i y hy
                   cases hv
                   have hm:v ∈ cs:=List.mem_of_mem_take (by rw[hy];exact Yc)
                   rw[hcs v hm,hy,h1s]
                   exact⟨rfl,rfl⟩
                  ·cases hv
               refine⟨by simp[k1],λy hy=>?_,?_⟩
               ·rcases List.mem_cons.1 hy with rfl|hy
                ·exact hc.2
                ·exact k2 y hy
               ·simp only[flat,List.flatMap_cons] at k3 |-
                rw[k3,hc.1,Nat.add_mul,Nat.one_mul,Nat.add_comm,List.take_add]
              ·cases h
             ·cases h
          obtain⟨k1,k2,k3⟩:=key n cs l hone hl
          have hsa:SlA κ l b n n:=⟨k1,Yd _,λ_=>g1,_,vs.take (n*(C.ti e').size),k2,g2.take _,g3.take _,by rw[k3];exact g4.take _⟩
          have:=hsa.part k2 ha hb hb
          refine⟨_,?_,Q1B.2 ⟨_,_,_,rfl,this⟩⟩
          simp[Instr.sliceAt,run_underlying hK,Instr.sureAddr,r,Z2 (P:=P) hT (nbad hT hz)]
         ·cases h
        ·cases h
       ·cases h
 ·cases h
theorem Qbt(hf:FrameR κ B w N e a β δ)(hG:GlobOK C κ){x:Operand}{v:Slot}(h:ent C e x = .s v):SR κ v (a.eval x):=by
 cases x with
 |tmp t=>
   have:=hf.ent t
   simp only[ent] at h
   rw[h] at this
   exact this
 |const v'=>simp only[ent] at h;cases h;exact Zv hf hG _
 |global g=>simp only[ent] at h;cases h;exact Zv hf hG _
 |func f=>simp only[ent] at h;cases h;exact Zv hf hG _
theorem Q3H(hf:FrameR κ B w N e a β δ){x:Operand}{g:Bool}{d off:Nat}(h:ent C e x = .ptr g d off):PutR κ e β (.ptr g d off) (a.eval x):=by
 cases x with
 |tmp t=>
   have:=hf.ent t
   simp only[ent] at h
   rw[h] at this
   exact⟨this,hf.ptr t g d off h⟩
 |const v'=>simp only[ent] at h;cases h
 |global g=>simp only[ent] at h;cases h
 |func f=>simp only[ent] at h;cases h
theorem Q6S{x:Operand}{cs:List Slot}(h:ent C e x = .var cs):∃ d,x = .tmp d/\e.get d = .var cs:=by
 cases x with
 |tmp t=>exact⟨t,rfl,h⟩
 |const v'=>simp only[ent] at h;cases h
 |global g=>simp only[ent] at h;cases h
 |func f=>simp only[ent] at h;cases h
theorem Qhf(hT:∀ t,TyOK P C t)(hG:GlobOK C κ)(hf:FrameR κ B' w N e a β δ)(hI:Inv C κ B s w)(o:Oper)(hp:isPure C o.op=true){k:Ent->Res}{R:Out × St}(h:pureK C e true o.op k=some R) :
  DoesV P C κ B s w e β (execOp a.eval o) k R:=by
 have hev:=λx=>Zv hf hG x
 unfold execOp
 cases hop:o.op<;>rw[hop] at h hp<;>simp only[isPure] at hp<;>try (cases hp;done)
 case move x=>exact⟨_,κ,w,.s _,rfl,.refl _ _,hI,hev x,h⟩
 case assign x=>exact⟨_,κ,w,.s _,rfl,.refl _ _,hI,hev x,h⟩
 case pick c x y=>exact DoesV.ofN hI h λsl hs=>Qhe w (hev c) (hev x) (hev y) hs
 case build t ps=>
  refine DoesV.of hI h λsl hs=>?_
  simp only[pureS] at hs
  cases hb:bldOk C (C.ti t) with
  |false=>rw[hb] at hs;cases hs
  |true=>
    rw[hb] at hs
    simp only[cond_true] at hs
    split at hs
    ·rename_i l hl
     refine Qfi hT hev hl hs ?_ w
     unfold bldOk at hb
     split at hb
     ·rename_i fs hk;exact⟨fs,.inl hk⟩
     ·rename_i n et hk
      refine⟨[],.inr ⟨n,et,hk,λe=>?_⟩⟩
      rw[e] at hb
      cases hb
     ·cases hb
    ·cases hs
 case buildSlice t n ps=>
  simp only[pureK,gd,cond_true,pureS] at h
  cases hk:(C.ti t).k<;>rw[hk] at h<;>try (cases h;done)
  case slice et=>
   simp only[] at h
   cases hb:inOrder 0 ps.toList&&Nat.beq ps.toList.length n&&Nat.ble (n*(C.ti et).size) 16777216&&Nat.blt 0 (C.ti et).size with
   |false=>rw[hb] at h;cases h
   |true=>
     rw[hb] at h
     simp only[cond_true] at h
     simp only[Ya] at hb
     obtain⟨⟨⟨b1,b2⟩,b3⟩,b4⟩:=hb
     have b4':(C.ti et).size≠0:=by intro e;rw[e] at b4;cases b4
     cases hs:bslF (C.ti et).size (ps.toList.map λp=>opnd C e p.2) with
     |none=>rw[hs] at h;cases h
     |some sl=>
       rw[hs] at h
       obtain⟨z,κ',w',r1,r2,r3,r4⟩:=Q9o hT hI hev hk b4' b1 (Yf b2) (Nat.le_of_ble_eq_true b3) hs
       exact⟨z,κ',w',.s sl,by simp only[Sem.run_bind,r1,Result.andThen_ok,Sem.run_pure],r2,r3,r4,h⟩
 case nilCheck x=>
  simp only[pureK] at h
  split at h
  ·rename_i w' d o he
   have hr:=Q3H hf he
   unfold chkP at h
   cases w' with
   |false=>cases h
   |true=>
     obtain⟨b,hb,hv⟩:=hr.1 rfl
     simp only[hv]
     exact⟨_,κ,w,.ptr true d o,rfl,.refl _ _,hI,⟨λ_=>⟨b,hb,rfl⟩,hr.2⟩,h⟩
  ·rename_i v he
   have hr:=Qbt hf hG he
   refine DoesV.ofN hI h λsl hs=>?_
   obtain⟨p,hp,hq⟩:=QaW hr hs
   rw[hp] at hq
   simp only[hp]
   exact⟨_,rfl,hq⟩
  ·cases h
 case binOp op t x y _=>exact DoesV.of hI h λsl hs=>Qi9 hT t op x y w (hev x) (hev y) hs
 case unOp op _ x=>exact DoesV.of hI h λsl hs=>Ql5 op w (hev x) hs
 case convert s' d x=>exact DoesV.of hI h λsl hs=>QgH hT s' d w hI (hev x) hs
 case makeInterface t x=>
  refine DoesV.of hI h λsl hs=>?_
  simp only[pureS] at hs
  split at hs
  ·cases hs
  ·cases hs
  ·rename_i h1 h2
   exact Qii hT h1 h2 w (hev x) hs
 case makeFunc fn first cap=>
  cases fn<;>try (cases h;done)
  case func f=>
   refine DoesV.of hI h λsl hs=>?_
   simp only[pureS] at hs
   cases hb:first.isEmpty with
   |false=>rw[hb] at hs;cases hs
   |true=>
     rw[hb] at hs
     have hf:first = #[]:=by simpa using hb
     subst hf
     have:=Qkj (Q9R hev cap.toList) hs
     exact⟨.func (.func f) #[] (cap.map a.eval),by simp[Instr.makeFunc],by rw[show cap.map a.eval=(cap.toList.map a.eval).toArray from Array.toList_inj.1 (by simp)];exact this⟩
 case slice t x lo hi mx=>
  refine DoesV.of hI h λsl hs=>?_
  simp only[pureS] at hs
  split at hs
  ·rename_i n et hk
   exact QeN hT hk w (hev x) (Q0R hev lo) (Q0R hev hi) (Q0R hev mx) hs
  ·rename_i et hk
   exact QaB hT (λe' h=>by rw[hk] at h;cases h;rfl) w (hev x) (Q0R hev lo) (Q0R hev hi) (Q0R hev mx) hs
  ·rename_i h1 h2
   exact QaB hT (λe' h=>absurd h (h2 e')) w (hev x) (Q0R hev lo) (Q0R hev hi) (Q0R hev mx) hs
 case fieldAddr t x f=>
  simp only[pureK] at h
  split at h
  ·rename_i off ft hft
   cases h0:Nat.beq (C.ti ft).size 0 with
   |true=>rw[h0] at h;cases h
   |false=>
     rw[h0] at h
     simp only[cond_false] at h
     have hz:(C.ti ft).size≠0:=by intro e;rw[e] at h0;cases h0
     have hrun:=λp=>Qdb (P:=P) hT hft hz (nbad hT hz) p w
     unfold faK at h
     split at h
     ·rename_i cs he
      obtain⟨d,rfl,hd⟩:=Q6S he
      simp only[Operand.tmp?] at h
      have:=hf.ent d
      rw[hd] at this
      obtain⟨b,_,_,h1,h2,_⟩:=this
      refine⟨.pointer (some ⟨b,off,none⟩),κ,w,.ptr true d off,?_,.refl _ _,hI,⟨λ_=>⟨b,h1,rfl⟩,by rw[hd];simp⟩,h⟩
      have h2':a.eval (.tmp d) = .pointer (some ⟨b,0,none⟩):=h2
      simp only[h2',Sem.run_bind,hrun,Result.andThen_ok,Sem.run_pure,Qw,Nat.zero_add]
     ·rename_i w' d o he
      have hr:=Q3H hf he
      unfold chkP at h
      cases w' with
      |false=>cases h
      |true=>
        obtain⟨b,hb,hv⟩:=hr.1 rfl
        refine⟨.pointer (some ⟨b,o+off,none⟩),κ,w,.ptr true d (o+off),?_,.refl _ _,hI,⟨λ_=>⟨b,hb,rfl⟩,hr.2⟩,h⟩
        simp only[hv,Sem.run_bind,hrun,Result.andThen_ok,Sem.run_pure,Qw]
     ·rename_i v he
      have hr:=Qbt hf hG he
      refine DoesV.of hI h λsl hs=>?_
      obtain⟨p,hp,hq⟩:=QdN hr hs
      simp only[hp]
      exact⟨_,hrun p,hq⟩
     ·cases h
  ·cases h
 case field t x f=>
  refine DoesV.of hI h λsl hs=>?_
  simp only[pureS] at hs
  split at hs
  ·rename_i off ft hft
   exact Qfq hT hft w (hev x) hs
  ·cases hs
 case indexAddr t x i=>
  refine DoesV.of hI h λsl hs=>?_
  simp only[pureS] at hs
  split at hs
  ·rename_i et hk;exact Qkl hT hk w (hev x) (hev i) hs
  ·rename_i n et hk;exact Qij hT hk w (hev x) (hev i) hs
  ·cases hs
 case index t x i=>
  exact DoesV.of hI h λsl hs=>QfA hT (λn e' hk=>by rw[hk]) w (hev x) (hev i) hs
 case extract x i=>exact DoesV.of hI h λsl hs=>Qda w (hev x) hs
 case call c=>
  obtain⟨cal,args,ts⟩:=c
  cases cal with
  |invoke r n=>cases hp
  |value f=>cases hp
  |builtin b=>
    cases b<;>try (cases hp;done)
    case len=>
     simp only at hp
     split at hp
     ·rename_i t hts
      refine DoesV.ofN hI h λsl hs=>?_
      simp only[pureS] at hs
      split at hs
      ·rename_i x t' hx ht'
       rw[hts] at ht'
       cases ht'
       have e1:args = #[x]:=Array.toList_inj.1 hx
       have e2:ts = #[t]:=Array.toList_inj.1 hts
       subst e1;subst e2
       obtain⟨z,h1,h2⟩:=Qim hT t o.type w (hev x) hs
       exact⟨z,by simp[resolve,invoke,builtin,h1],h2⟩
      ·cases hs
     ·cases hp
    case max=>
     refine DoesV.ofN hI h λsl hs=>?_
     simp only[pureS] at hs
     split at hs
     ·rename_i x y hx
      have e1:args = #[x,y]:=Array.toList_inj.1 hx
      subst e1
      obtain⟨z,h1,h2⟩:=Q7L (P:=P) w (hev x) (hev y) hs
      exact⟨z,by simp[resolve,invoke,builtin,Builtin.max_,h1],h2⟩
     ·rename_i x y z' hx
      have e1:args = #[x,y,z']:=Array.toList_inj.1 hx
      subst e1
      unfold max3 at hs
      split at hs
      ·rename_i v hv
       obtain⟨z,h1,h2⟩:=Q7L (P:=P) w (hev x) (hev y) hv
       obtain⟨z2,h3,h4⟩:=Q7L (P:=P) w h2 (hev z') hs
       exact⟨z2,by simp[resolve,invoke,builtin,Builtin.max_,h1,h3],h4⟩
      ·cases hs
     ·cases hs
    case min=>
     refine DoesV.ofN hI h λsl hs=>?_
     simp only[pureS] at hs
     split at hs
     ·rename_i x y hx
      have e1:args = #[x,y]:=Array.toList_inj.1 hx
      subst e1
      obtain⟨z,h1,h2⟩:=Qh4 (P:=P) w (hev x) (hev y) hs
      exact⟨z,by simp[resolve,invoke,builtin,Builtin.min_,h1],h2⟩
     ·cases hs
end
end Go.Am
namespace Go.Am
open Go Go.RowKit
theorem Env.get_cons(d i:Nat)(v:Ent)(e:Env):Env.get ((d,v)::e) i=if d=i then v else e.get i:=by
 simp only[Env.get]
 by_cases h:d=i
 ·subst h;simp
 ·have:Nat.beq d i=false:=by
   cases hb:Nat.beq d i with
   |false=>rfl
   |true=>exact absurd (Yf hb) h
  simp[this,h]
section
variable {κ:Kn}
theorem SRs.take:∀ {l:List Slot} {vs:List Value} (n:Nat),SRs κ l vs->SRs κ (l.take n) (vs.take n)
 |[],vs,n,h=>by simp only[SRs] at h;simp[h,SRs]
 |_::_,vs,0,h=>by simp[SRs]
 |y::l,vs,n+1,h=>by
   obtain⟨u,us,rfl,h1,h2⟩:=h
   simp only[List.take_succ_cons,SRs]
   exact⟨u,_,rfl,h1,SRs.take n h2⟩
theorem SRs.drop:∀ {l:List Slot} {vs:List Value} (n:Nat),SRs κ l vs->SRs κ (l.drop n) (vs.drop n)
 |[],vs,n,h=>by simp only[SRs] at h;simp[h,SRs]
 |_::_,vs,0,h=>by simpa using h
 |y::l,vs,n+1,h=>by
   obtain⟨u,us,rfl,h1,h2⟩:=h
   simpa using SRs.drop n h2
theorem SRs.append:∀ {l m:List Slot} {us vs:List Value},SRs κ l us->SRs κ m vs->SRs κ (l++m) (us++vs)
 |[],m,us,vs,h,k=>by simp only[SRs] at h;subst h;simpa using k
 |x::l,m,us,vs,⟨u,us',h1,h2,h3⟩,k=>by subst h1;exact⟨u,us'++vs,rfl,h2,SRs.append h3 k⟩
theorem SRs.vals:∀ {l:List AV} {vs:List Value},VRl κ l vs->SRs κ (l.map .val) vs
 |[],vs,h=>by simp only[VRl] at h;subst h;rfl
 |x::l,vs,h=>by
   simp only[VRl] at h
   obtain⟨u,us,rfl,h1,h2⟩:=h
   exact⟨u,us,rfl,h1,SRs.vals h2⟩
theorem Qas{l cs l':List Slot}{vs us:List Value}{off:Nat}(hl:SRs κ l vs)(hc:SRs κ cs us)(h:putAt l off cs=some l'):off+us.length<=vs.length/\SRs κ l' (vs.take off++(us++vs.drop (off+us.length))):=by
 unfold putAt at h
 have e1:=hl.length
 have e2:=hc.length
 split at h
 ·cases h
  refine⟨by omega,(hl.take off).append (hc.append ?_)⟩
  rw[e2]
  exact hl.drop _
 ·cases h
end
section
variable {P:Program} {C:Cfg} {κ:Kn} {B B' N:Nat} {s:St} {w:World} {e:Env} {a:Act} {β:Nat->Option Nat} {δ:List Nat}
theorem Qb7{p:Addr}{v:Value}(h:w.cell? p=some v):(load p).run P w = .ok v w:=by simp[h]
theorem Q2u(hT:∀ t,TyOK P C t){t:TypeId}(hb:(C.ti t).k≠.bad){p:Addr}{vs:List Value}(hlen:(C.ti t).isAgg=true->vs.length=(C.ti t).size)(hc:∀ j v,vs[j]? = some v->w.cell? (p.add j)=some v) :
  ((C.ti t).isAgg=true->(Instr.loadAt t (.pointer (some p))).run P w = .ok (.agg vs.toArray) w)/\((C.ti t).isAgg=false->∀ v,vs=[v]->p.add 0=p->(Instr.loadAt t (.pointer (some p))).run P w = .ok v w):=by
 have ha:=Qaf (P:=P) hT hb w
 have hs:=Z2 (P:=P) hT hb w
 constructor
 ·intro hag
  have hl:=run_loadCells_list (P:=P) w p vs hc
  rw[hlen hag] at hl
  simp[Instr.loadAt,Instr.sureAddr,loadVar,ha,hag,hs,hl]
 ·intro hag v hv hp
  have:=hc 0 v (by rw[hv];rfl)
  rw[hp] at this
  have hl:=Qb7 (P:=P) this
  simp only[Instr.loadAt,Instr.sureAddr,loadVar,Sem.run_bind,Sem.run_pure,Result.andThen_ok,ha,hag]
  simpa using hl
theorem Qcn(hT:∀ t,TyOK P C t){t:TypeId}{cs:List Slot}{sl:Slot}(h:ofSlots (C.ti t) (cs.take (C.ti t).size)=some sl):(C.ti t).k≠.bad:=λhk=>by
 have hs:=(hT t).bad hk
 have ha:(C.ti t).isAgg=false:=by simp[TI.isAgg,hk]
 rw[hs] at h
 simp[ofSlots,ha] at h
theorem Qcm(hT:∀ t,TyOK P C t){t:TypeId}{cs:List AV}{v:AV}(h:ofCells (C.ti t) (cs.take (C.ti t).size)=some v):(C.ti t).k≠.bad:=λhk=>by
 have hs:=(hT t).bad hk
 have ha:(C.ti t).isAgg=false:=by simp[TI.isAgg,hk]
 rw[hs] at h
 simp[ofCells,ha] at h
theorem loadSlots(hT:∀ t,TyOK P C t){t:TypeId}{b off:Nat}{cs:List Slot}{vs:List Value}(h:SRs κ cs vs)(ho:Ones vs)(hc:∀ j v,vs[j]? = some v->w.cell? ⟨b,off+j,none⟩=some v){sl:Slot}(hs:ofSlots (C.ti t) (cs.take (C.ti t).size)=some sl) :
  ∃ z,(Instr.loadAt t (.pointer (some ⟨b,off,none⟩))).run P w = .ok z w/\SR κ sl z:=by
 have hb:=Qcn hT hs
 have hc':∀ j v,(vs.take (C.ti t).size)[j]? = some v->w.cell? ((⟨b,off,none⟩:Addr).add j)=some v:=λj v hj=>by
  rw[Qw]
  rw[List.getElem?_take] at hj
  split at hj
  ·exact hc j v hj
  ·cases hj
 have h':=h.take (C.ti t).size
 have ho':=ho.take (C.ti t).size
 unfold ofSlots at hs
 cases hag:(C.ti t).isAgg with
 |true=>
   rw[hag] at hs
   simp only[cond_true] at hs
   split at hs
   ·rename_i l hl
    split at hs
    ·rename_i hlen
     cases hs
     have hv:=Q3G h' hl
     refine⟨_,(Q2u (P:=P) hT hb (λ_=>by rw[<-hv.length];exact hlen) hc').1 hag,?_⟩
     simp only[SR,VR]
     exact⟨_,hv,ho',rfl⟩
    ·cases hs
   ·cases hs
 |false=>
   rw[hag] at hs
   simp only[cond_false] at hs
   split at hs
   ·rename_i x hx
    cases hs
    rw[hx] at h'
    obtain⟨u,us,h1,h2,h3⟩:=h'
    simp only[SRs] at h3
    subst h3
    exact⟨u,(Q2u (P:=P) hT hb (λh=>by rw[hag] at h;cases h) hc').2 hag u h1 (by rw[Qw];rfl),h2⟩
   ·cases hs
theorem loadConst(hT:∀ t,TyOK P C t)(hI:Inv C κ B s w){t:TypeId}{p:Addr}(hp:p.spot=none){cs:List AV}{vs:List Value}(h:VRl κ cs vs)(ho:Ones vs)(hh:Held κ p vs){v:AV}(hs:ofCells (C.ti t) (cs.take (C.ti t).size)=some v) :
  ∃ z,(Instr.loadAt t (.pointer (some p))).run P w = .ok z w/\VR κ v z:=by
 have hb:=Qcm hT hs
 obtain⟨b,off,sp⟩:=p
 simp only at hp
 subst hp
 have hc':∀ j v,(vs.take (C.ti t).size)[j]? = some v->w.cell? ((⟨b,off,none⟩:Addr).add j)=some v:=λj v hj=>by
  rw[Qw]
  exact hI.im _ _ _ (hh.take _ j v hj)
 rcases Q8G (h.take (C.ti t).size) (ho.take _) hs with ⟨h1,h2,h3⟩|⟨h1,u,h2,h3⟩
 ·exact⟨_,(Q2u (P:=P) hT hb (λ_=>h2) hc').1 h1,h3⟩
 ·exact⟨u,(Q2u (P:=P) hT hb (λh=>by rw[h1] at h;cases h) hc').2 h1 u h2 (by rw[Qw];rfl),h3⟩
theorem Q6O{b:Nat}{cs:Array Value}{t:TypeId}(h:w.heap[b]? = some (.cells cs t (0,0)))(off:Nat):∀ j v,(cs.toList.drop off)[j]? = some v->w.cell? ⟨b,off+j,none⟩=some v:=λj v hj=>by
 rw[cell_of_row w b (off+j) cs t (0,0) h]
 rw[List.getElem?_drop] at hj
 simpa using hj
theorem Q2T{b:Nat}{cs:Array Value}{t:TypeId}(h:w.heap[b]? = some (.cells cs t (0,0)))(off n:Nat):∀ j v,((cs.toList.take n).drop off)[j]? = some v->w.cell? ⟨b,off+j,none⟩=some v:=λj v hj=>by
 refine Q6O h off j v ?_
 rw[List.getElem?_drop] at hj |-
 rw[List.getElem?_take] at hj
 split at hj
 ·exact hj
 ·cases hj
theorem Qhs{α:Type}{cs us:List α}{off n:Nat}(h:off+us.length<=n)(hn:n<=cs.length):(cs.take off++(us++cs.drop (off+us.length))).take n=(cs.take n).take off++(us++(cs.take n).drop (off+us.length)):=by
 have h1:(cs.take off).length=off:=by rw[List.length_take];omega
 rw[List.take_append,h1,List.take_append,List.take_of_length_le (l:=cs.take off) (by omega),List.take_of_length_le (l:=us) (by omega),List.take_take,Nat.min_eq_left (by omega:off<=n),List.drop_take,Nat.sub_sub]
theorem Qcd(hT:∀ t,TyOK P C t)(hG:GlobOK C κ)(hf:FrameR κ B' w N e a β δ)(hI:Inv C κ B s w){t:TypeId}{r:Bool}{rt:Root}{x:Operand}{sl:Slot}(h:ldS (C.ti t) r rt (Operand.tmp? x) e s (ent C e x)=some sl) :
  ∃ z,(Instr.loadAt t (a.eval x)).run P w = .ok z w/\SR κ sl z:=by
 unfold ldS at h
 cases hr:rootOk rt (Operand.tmp? x) (ent C e x) with
 |false=>rw[hr] at h;cases h
 |true=>
   rw[hr] at h
   simp only[cond_true] at h
   split at h
   ·rename_i cs he
    obtain⟨d,rfl,hd⟩:=Q6S he
    have:=hf.ent d
    rw[hd] at this
    obtain⟨b,cs',t',h1,h2,h3,h4,h5⟩:=this
    have h2':a.eval (.tmp d) = .pointer (some ⟨b,0,none⟩):=h2
    rw[h2']
    exact loadSlots hT h4 h5 (by simpa using Q6O h3 0) h
   ·rename_i g d off he
    have hp:=Q3H hf he
    split at h
    ·rename_i cs hd
     cases g with
     |false=>cases h
     |true=>
       obtain⟨b,hb,hv⟩:=hp.1 rfl
       have:=hf.ent d
       rw[hd] at this
       obtain⟨b',cs',t',h1,h2,h3,h4,h5⟩:=this
       rw[hb] at h1
       cases h1
       rw[hv]
       exact loadSlots hT (h4.drop off) (h5.drop off) (Q6O h3 off) h
    ·cases h
   ·rename_i v he
    have hv:=Qbt hf hG he
    unfold ldV at h
    split at h
    ·rename_i l
     split at h
     ·rename_i v' hv'
      cases h
      simp only[SR,VR] at hv
      obtain⟨p,vs,hp,h1,h2,h3,h4⟩:=hv
      rw[hp]
      exact loadConst hT hI h1 h4 h3 h2 hv'
     ·cases h
    ·rename_i loc off
     cases r with
     |true=>cases h
     |false=>
       simp only[cond_false] at h
       split at h
       ·rename_i cs hl
        simp only[SR,VR] at hv
        obtain⟨b,hb,hv⟩:=hv
        obtain⟨b',o,h1,_,h3,h4⟩:=hI.locs _ _ hl
        rw[hb] at h1
        cases h1
        obtain⟨cs',t',rfl,_,h5,h6⟩:=h4
        rw[hv]
        exact loadSlots hT (h5.drop off) (h6.drop off) (Q2T h3 off _) h
       ·cases h
    ·cases h
   ·cases h
theorem QdI(hT:∀ t,TyOK P C t){t:TypeId}{x:Slot}{u:Value}{cs:List Slot}(hx:SR κ x u)(h:boxCells (C.ti t) x=some cs):(C.ti t).k≠.bad/\u.cells.size=(C.ti t).size/\SRs κ cs u.cells.toList/\Ones u.cells.toList:=by
 unfold boxCells at h
 cases hag:(C.ti t).isAgg with
 |true=>
   rw[hag] at h
   simp only[cond_true] at h
   split at h
   ·rename_i l
    split at h
    ·rename_i hl
     cases h
     simp only[SR,VR] at hx
     obtain⟨vs,h1,h2,rfl⟩:=hx
     refine⟨λhk=>by simp[TI.isAgg,hk] at hag,by rw[<-hl,h1.length];simp[Value.cells],by simpa [Value.cells] using SRs.vals h1,by simpa [Value.cells] using h2⟩
    ·cases h
   ·cases h
 |false=>
   rw[hag] at h
   simp only[cond_false] at h
   cases hc:x.cellOk&&(C.ti t).isGood with
   |false=>rw[hc] at h;cases h
   |true=>
     rw[hc] at h
     simp only[cond_true] at h
     cases h
     rw[Ya] at hc
     have hb:(C.ti t).k≠.bad:=λhk=>by simp[TI.isGood,hk] at hc
     obtain⟨_,_,_,_,_,_,_,_,_,_,hone⟩:=(hT t).info hb
     have hsz:=(hone hag).2
     have hu:u.cells = #[u]/\u.oneCell'=true:=by
      cases x with
      |und=>simp[Slot.cellOk] at hc
      |no=>simp[Slot.cellOk] at hc
      |own k e l=>obtain⟨⟨a,n,c,rfl,_⟩,_⟩:=hx;exact⟨rfl,rfl⟩
      |full l=>obtain⟨a,n,rfl,_⟩:=hx;exact⟨rfl,rfl⟩
      |val v=>
        cases v<;>simp[Slot.cellOk] at hc<;>simp only[SR,VR] at hx<;>first
         |(subst hx;exact⟨rfl,rfl⟩)
         |(obtain⟨_,rfl,_⟩:=hx;exact⟨rfl,rfl⟩)
         |(obtain⟨_,_,rfl⟩:=hx;exact⟨rfl,rfl⟩)
         |(obtain⟨_,_,rfl,_⟩:=hx;exact⟨rfl,rfl⟩)
         |(obtain⟨_,_,_,_,_,rfl,_⟩:=hx;exact⟨rfl,rfl⟩)
         |(obtain⟨_,_,_,_,_,_,_,rfl⟩:=hx;exact⟨rfl,rfl⟩)
     rw[hu.1]
     exact⟨hb,hsz.symm,⟨u,[],rfl,hx,rfl⟩,λv hv=>by simp at hv;subst hv;exact hu.2⟩
theorem Q7s(hT:∀ t,TyOK P C t){t:TypeId}(hb:(C.ti t).k≠.bad){b off:Nat}{cur:Array Value}{t':TypeId}(hg:w.heap[b]? = some (.cells cur t' (0,0))){u:Value}(hu:u.cells.size=(C.ti t).size)(ho:Ones u.cells.toList)(hle:off+u.cells.toList.length<=cur.toList.length) :
  (Instr.storeAt t (.pointer (some ⟨b,off,none⟩)) u).run P w = .ok () (w.setRow b (cur.toList.take off++(u.cells.toList++cur.toList.drop (off+u.cells.toList.length))).toArray):=by
 have hs:=Z2 (P:=P) hT hb w
 have:=run_storeCells_at P b off t' u.cells.toList 0 cur w hg (by simpa using hle) (λv hv=>ho v hv)
 simp only[Nat.add_zero,Yr] at this
 simp[Instr.storeAt,Instr.sureAddr,storeVar,hs,hu,this]
theorem Q2K{w':World}{l b:Nat}{o:Go.Obj}(h1:κ.loc l=some b)(h2:B<=b)(h3:w.heap[b]? = some o)(hs:w.heap.size<=w'.heap.size):∃ b o,κ.loc l=some b/\B<=b/\w'.heap[b]? = some o/\ObjR C κ o .dead:=
 ⟨b,_,h1,h2,Array.getElem?_eq_getElem (Nat.lt_of_lt_of_le (Array.getElem?_eq_some_iff.1 h3).1 hs),trivial⟩
theorem Inv.setPriv(h:Inv C κ B s w){b:Nat}(hw:¬ Wr κ b)(hi:∀ o,κ.im b o=none)(cs:Array Value):Inv C κ B s (w.setRow b cs):=by
 refine⟨λb' o v k=>?_,λl x hx=>?_,h.locn,λk L hk=>?_,h.tokn,h.locinj,h.tokinj,h.loctok,h.locim,h.lv,λl e sz c hc=>?_,h.bls,
  h.tabs.mono (λ_ v k=>⟨v,k⟩) λb' _ _ hv=>setRow_other w b b' cs (λe=>by subst e;obtain⟨v,hv⟩:=hv;rw[hi 0] at hv;cases hv)⟩
 ·have:b'≠b:=λe=>by subst e;rw[hi o] at k;cases k
  rw[cell_setRow_other w b cs ⟨b',o,none⟩ this]
  exact h.im b' o v k
 ·obtain⟨b',o,h1,h2,h3,h4⟩:=h.locs l x hx
  by_cases hx0:x = .dead
  ·subst hx0
   exact Q2K h1 h2 h3 (by simp)
  have:b'≠b:=λe=>by subst e;exact hw (.inl ⟨l,h1,h.lv l x hx hx0⟩)
  exact⟨b',o,h1,h2,by rw[setRow_other w b b' cs this];exact h3,h4⟩
 ·obtain⟨e,v,h1,h2⟩:=h.toks k L hk
  refine⟨e,v,h1,λg h3=>?_⟩
  obtain⟨xs,h2,h4⟩:=h2 g h3
  have hne:g≠b:=λe'=>by subst e';exact hw (.inr ⟨k,L,e,v,h1,h3⟩)
  refine⟨xs,?_,h4⟩
  refine h2.kept (row:=some b) ⟨rfl,rfl,rfl,by simp,λi hi hne=>setRow_other w b i cs (λe=>hne (by rw[e]))⟩ (.inr ?_)
  rw[h3]
  intro e
  cases e
  exact hne rfl
 ·obtain⟨k1,k2,k3,k4,k5⟩:=h.caps l e sz c hc
  refine⟨k1,k2,k3,k4,λhg' b' hb=>?_⟩
  obtain⟨cs',k6,k7⟩:=k5 hg' b' hb
  exact⟨cs',by rw[setRow_other w b b' cs (λe=>by subst e;exact hw (.inl ⟨l,hb,hg'⟩))];exact k6,k7⟩
end
end Go.Am
namespace Go.Am
open Go Go.RowKit
theorem Q6T(d i:Nat)(v:Ent)(e:Env):(put (some d) v e).get i=if d=i then v else e.get i:=Env.get_cons d i v e
structure Ok (C:Cfg) (κ0:Kn) (w0:World) (B N:Nat) (e:Env) (s:St) (a:Act) (w:World) (κ:Kn) (β:Nat->Option Nat) (δ:List Nat):Prop where
 mv:Mv κ0 κ w0 w
 inv:Inv C κ B s w
 fr:FrameR κ w0.heap.size w N e a β δ
def OkX(C:Cfg)(κ0:Kn)(w0:World)(B N:Nat)(e:Env)(s:St)(a:Act)(w:World):Prop:=∃ κ β δ,Ok C κ0 w0 B N e s a w κ β δ
section
variable {P:Program} {C:Cfg} {κ κ' κ0:Kn} {B B' N:Nat} {s s':St} {w w' w0:World} {e:Env} {a:Act} {β:Nat->Option Nat} {δ:List Nat}
theorem FrameR.setE(h:FrameR κ B w N e a β δ)(dst:Option Tmp)(hd:∀ d,dst=some d->d<N){x:Ent}{v:Value}(hv:PutR κ e β x v):FrameR κ B w N (put dst x e) (a.put dst v) β δ:=by
 cases dst with
 |none=>exact h
 |some d=>
   have hlt:d<a.tmps.size:=by rw[h.size];exact hd d rfl
   refine⟨by simp[Act.put,h.size],λi=>?_,λi g d' off hi=>?_,h.priv,h.inj,h.defers,h.dpriv,h.dnodup⟩
   ·rw[Q6T]
    by_cases hi:d=i
    ·subst hi
     simp only[if_true,Act.put,Yl,Array.getElem?_setIfInBounds_self,hlt,if_true,Option.getD_some]
     cases x with
     |none=>exact hv.elim
     |var cs=>exact hv.elim
     |s sl=>exact hv
     |ptr g d' off=>exact hv.1
    ·simp only[hi,if_false]
     have:=h.ent i
     simp only[Act.put,Yl,Array.getElem?_setIfInBounds_ne hi] at this |-
     exact this
   ·rw[Q6T] at hi |-
    by_cases hi':d=i
    ·rw[if_pos hi'] at hi
     subst hi
     by_cases hd':d=d'
     ·simp[hd']
     ·simp only[hd',if_false]
      exact hv.2
    ·rw[if_neg hi'] at hi
     by_cases hd':d=d'
     ·subst hd'
      rw[if_pos rfl]
      intro hx
      subst hx
      exact hv.elim
     ·simp only[hd',if_false]
      exact h.ptr i g d' off hi
theorem Ok.step(h:Ok C κ0 w0 B N e s a w κ β δ)(hm:Mv κ κ' w w')(hi:Inv C κ' B s' w')(dst:Option Tmp)(hd:∀ d,dst=some d->d<N){x:Ent}{v:Value}(hv:PutR κ' e β x v):OkX C κ0 w0 B N (put dst x e) s' (a.put dst v) w':=
 ⟨κ',β,δ,h.mv.trans hm,hi,(h.fr.move hm).setE dst hd hv⟩
theorem Ok.turn(h:Ok C κ0 w0 B N e s a w κ β δ)(hm:Mv κ κ' w w')(hi:Inv C κ' B s' w'):Ok C κ0 w0 B N e s' a w' κ' β δ:=
 ⟨h.mv.trans hm,hi,h.fr.move hm⟩
theorem Ok.newVar(h:Ok C κ0 w0 B N e s a w κ β δ){d:Nat}(hd:d<N)(hold:e.get d = .none){cs:List Slot}{vs:List Value}(hc:SRs κ cs vs)(ho:Ones vs)(t:TypeId) :
  OkX C κ0 w0 B N (put (some d) (.var cs) e) s (a.put (some d) (.pointer (some ⟨w.heap.size,0,none⟩))) (w.alloc (.cells vs.toArray t)):=by
 have hg:=World.grownBy_alloc w (.cells vs.toArray t) none
 have hm:=Mv.grown κ hg
 have hf:=h.fr.move hm
 have hlt:d<a.tmps.size:=by rw[h.fr.size];exact hd
 have hnw:¬ Wr κ w.heap.size:=λhw=>by have:=(h.inv.wr_lt hw).2;omega
 refine⟨κ,λi=>if i=d then some w.heap.size else β i,δ,h.mv.trans hm,h.inv.grown hg,?_⟩
 refine⟨by simp[Act.put,hf.size],λi=>?_,λi g d' off hi=>?_,λi b hb=>?_,λi j b hi hj=>?_,hf.defers,λr hr=>?_,hf.dnodup⟩
 ·rw[Q6T]
  by_cases hi:d=i
  ·subst hi
   simp only[if_true,Act.put,Yl,Array.getElem?_setIfInBounds_self,hlt,if_true,Option.getD_some]
   exact⟨w.heap.size,vs.toArray,t,by simp,rfl,heap_alloc_new w _,by simpa using hc,by simpa using ho⟩
  ·simp only[hi,if_false]
   have:=hf.ent i
   have hg2:((a.put (some d) (.pointer (some ⟨w.heap.size,0,none⟩))).tmps.getD i undef)=a.tmps.getD i undef:=by
    simp only[Act.put,Yl,Array.getElem?_setIfInBounds_ne hi]
   rw[hg2]
   cases hx:e.get i with
   |none=>trivial
   |s v=>rw[hx] at this;exact this
   |var cs'=>
     rw[hx] at this
     obtain⟨b,cs2,t2,h1,h2⟩:=this
     exact⟨b,cs2,t2,by simp only[Ne.symm hi,if_false];exact h1,h2⟩
   |ptr g d' off=>
     rw[hx] at this
     intro hgt
     obtain⟨b,h1,h2⟩:=this hgt
     have hne:d'≠d:=λe'=>by
      subst e'
      exact h.fr.ptr i g d' off hx hold
     exact⟨b,by simp only[hne,if_false];exact h1,h2⟩
 ·rw[Q6T] at hi |-
  by_cases hi':d=i
  ·rw[if_pos hi'] at hi;cases hi
  ·rw[if_neg hi'] at hi
   by_cases hd':d=d'
   ·rw[if_pos hd'];simp
   ·rw[if_neg hd'];exact hf.ptr i g d' off hi
 ·by_cases hi:i=d
  ·simp only[hi,if_true,Option.some.injEq] at hb
   subst hb
   refine⟨h.mv.size,by simp,hnw,λo=>?_⟩
   cases ho:κ.im w.heap.size o with
   |none=>rfl
   |some v=>have:=h.inv.im_lt ho;omega
  ·simp only[hi,if_false] at hb
   exact hf.priv i b hb
 ·by_cases h1:i=d
  ·by_cases h2:j=d
   ·rw[h1,h2]
   ·simp only[h1,if_true,Option.some.injEq] at hi
    simp only[h2,if_false] at hj
    have:=(h.fr.priv j b hj).2.1
    omega
  ·simp only[h1,if_false] at hi
   by_cases h2:j=d
   ·simp only[h2,if_true,Option.some.injEq] at hj
    have:=(h.fr.priv i b hi).2.1
    omega
   ·simp only[h2,if_false] at hj
    exact hf.inj i j b hi hj
 ·obtain⟨h1,h2,h3,h4,h5⟩:=hf.dpriv r hr
  refine⟨h1,h2,h3,h4,λi=>?_⟩
  by_cases hi:i=d
  ·simp only[hi,if_true]
   intro he
   have hlt:=(Array.getElem?_eq_some_iff.1 (h.fr.dpriv r hr).2.1).1
   simp only[Option.some.injEq] at he
   omega
  ·simp only[hi,if_false]
   exact h5 i
theorem Ok.setVar(h:Ok C κ0 w0 B N e s a w κ β δ){d b:Nat}{old cs:List Slot}(hd:e.get d = .var old)(hb:β d=some b){vs:List Value}(hc:SRs κ cs vs)(ho:Ones vs) :
  Ok C κ0 w0 B N ((d,.var cs)::e) s a (w.setRow b vs.toArray) κ β δ:=by
 obtain⟨hb1,hb2,hb3,hb4⟩:=h.fr.priv d b hb
 obtain⟨b',cs',t',g1,g2,g3,_⟩:=(by have:=h.fr.ent d;rw[hd] at this;exact this:EntR κ w β d (.var old) _)
 rw[hb] at g1
 cases g1
 refine⟨⟨h.mv.le,h.mv.os,h.mv.tape,h.mv.output,by simpa using h.mv.size,λx hx hw=>?_,h.mv.newW,h.mv.newim⟩,h.inv.setPriv hb3 hb4 _,?_⟩
 ·rw[setRow_other w b x _ (by omega)]
  exact h.mv.frame x hx hw
 ·refine⟨h.fr.size,λi=>?_,λi g d' off hi=>?_,λi x hx=>?_,h.fr.inj,h.fr.defers,λr hr=>?_,h.fr.dnodup⟩
  ·rw[Env.get_cons]
   by_cases hi:d=i
   ·subst hi
    rw[if_pos rfl]
    exact⟨b,vs.toArray,t',hb,g2,setRow_heap w b cs' _ t' (0,0) g3,by simpa using hc,by simpa using ho⟩
   ·rw[if_neg hi]
    have:=h.fr.ent i
    cases hx:e.get i with
    |none=>trivial
    |s v=>rw[hx] at this;exact this
    |var cs'=>
      rw[hx] at this
      obtain⟨b2,cs2,t2,h1,h2,h3,h4⟩:=this
      have hne:b2≠b:=λe'=>by subst e';exact hi (h.fr.inj d i b2 hb h1)
      exact⟨b2,cs2,t2,h1,h2,by rw[setRow_other w b b2 _ hne];exact h3,h4⟩
    |ptr g d' off=>rw[hx] at this;exact this
  ·rw[Env.get_cons] at hi |-
   by_cases hi':d=i
   ·rw[if_pos hi'] at hi;cases hi
   ·rw[if_neg hi'] at hi
    by_cases hd':d=d'
    ·rw[if_pos hd'];simp
    ·rw[if_neg hd'];exact h.fr.ptr i g d' off hi
  ·obtain⟨h1,h2,h3⟩:=h.fr.priv i x hx
   exact⟨h1,by simpa using h2,h3⟩
  ·obtain⟨h1,h2,h3,h4,h5⟩:=h.fr.dpriv r hr
   have hne:r≠b:=λe'=>by subst e';exact h5 d hb
   exact⟨h1,by rw[setRow_other w b r _ hne];exact h2,h3,h4,h5⟩
def Kn.addLoc(κ:Kn)(l n:Nat):Kn:={ κ with loc:=λi=>if i=l then some n else κ.loc i,gone:=λi=>if i=l then false else κ.gone i }
theorem Inv.addLoc_le(h:Inv C κ B s w)(n:Nat):LE κ (κ.addLoc s.locs.length n):=
 ⟨λ_ _ _ k=>k,λl b hl=>by
   have:=h.locn l b hl
   have:l≠s.locs.length:=by omega
   simp only[Kn.addLoc,this,if_false];exact hl,λ_ L _ v k=>⟨L,v,k,Yd _,λ_=>rfl⟩,λ_ _ k=>k⟩
theorem Inv.addLoc(h:Inv C κ B s w)(hB:B<=w.heap.size){o:Go.Obj}{x:Obj}(hx:ObjR C (κ.addLoc s.locs.length w.heap.size) o x) :
  Inv C (κ.addLoc s.locs.length w.heap.size) B (s.addLoc x) (w.alloc o)/\Mv κ (κ.addLoc s.locs.length w.heap.size) w (w.alloc o):=by
 have hg:=World.grownBy_alloc w o none
 have h':=h.grown hg
 have hnl:∀ l b,κ.loc l=some b->l≠s.locs.length:=λl b hl=>by have:=h.locn l b hl;omega
 have hbl:∀ l b,κ.loc l=some b->b≠w.heap.size:=λl b hl=>by
  obtain⟨b',o,h1,_,h3,_⟩:=h.locs l _ (List.getElem?_eq_getElem (h.locn l b hl))
  rw[hl] at h1
  cases h1
  have:=(Array.getElem?_eq_some_iff.1 h3).1
  omega
 have hgn:∀ l,l≠s.locs.length->(κ.addLoc s.locs.length w.heap.size).gone l=κ.gone l:=λl hl=>by simp only[Kn.addLoc,hl,if_false]
 have hle:LE κ (κ.addLoc s.locs.length w.heap.size):=
  ⟨λ_ _ _ k=>k,λl b hl=>by simp only[Kn.addLoc,hnl l b hl,if_false];exact hl,λ_ L _ v k=>⟨L,v,k,Yd _,λ_=>rfl⟩,λ_ _ k=>k⟩
 have hloc:∀ l b,(κ.addLoc s.locs.length w.heap.size).loc l=some b->(l=s.locs.length/\b=w.heap.size)\/κ.loc l=some b:=λl b hl=>by
  simp only[Kn.addLoc] at hl
  split at hl
  ·rename_i e;cases hl;exact .inl ⟨e,rfl⟩
  ·exact .inr hl
 refine⟨⟨h'.im,λl y hy=>?_,λl b hl=>?_,?_,h'.tokn,?_,h'.tokinj,?_,?_,λl y hy hd=>?_,λl e sz c hc=>?_,h'.bls,h'.tabs⟩,⟨hle,hg.os,hg.tape,hg.output,hg.size,λb hb _=>hg.block b hb (by simp),λb hb=>?_,λ_ _ _ k _ _=>k⟩⟩
 ·simp only[St.addLoc] at hy
  by_cases hl:l<s.locs.length
  ·rw[List.getElem?_append_left hl] at hy
   obtain⟨b,o',h1,h2,h3,h4⟩:=h'.locs l y hy
   exact⟨b,o',hle.loc l b h1,h2,h3,h4.mono hle⟩
  ·rw[List.getElem?_append_right (by omega)] at hy
   obtain⟨hl',rfl⟩:l=s.locs.length/\y=x:=by
    cases hq:l - s.locs.length with
    |zero=>rw[hq] at hy;simp at hy;exact⟨by omega,hy.symm⟩
    |succ n=>rw[hq] at hy;simp at hy
   exact⟨w.heap.size,o,by simp[Kn.addLoc,hl'],hB,heap_alloc_new w o,hx⟩
 ·simp only[St.addLoc,Ye,Yj]
  rcases hloc l b hl with ⟨rfl,_⟩|hl
  ·omega
  ·have:=h.locn l b hl;omega
 ·intro k L hk
  exact h'.toks k L hk
 ·intro i j b hi hj gi gj
  rcases hloc i b hi with ⟨rfl,rfl⟩|hi<;>rcases hloc j _ hj with ⟨rfl,hb⟩|hj
  ·rfl
  ·exact absurd rfl (hbl j _ hj)
  ·exact absurd hb (hbl i _ hi)
  ·exact h.locinj i j b hi hj (by rw[<-hgn i (hnl i b hi)];exact gi) (by rw[<-hgn j (hnl j b hj)];exact gj)
 ·intro l b k L e v hl gl hk
  rcases hloc l b hl with ⟨rfl,rfl⟩|hl
  ·intro hv
   have:=(h.wr_lt (.inr ⟨k,L,e,v,hk,hv⟩)).2
   omega
  ·exact h.loctok l b k L e v hl (by rw[<-hgn l (hnl l b hl)];exact gl) hk
 ·intro l b o' hl gl
  rcases hloc l b hl with ⟨rfl,rfl⟩|hl
  ·cases ho:κ.im w.heap.size o' with
   |none=>exact ho
   |some v=>have:=h.im_lt ho;omega
  ·exact h.locim l b o' hl (by rw[<-hgn l (hnl l b hl)];exact gl)
 ·by_cases hl:l=s.locs.length
  ·simp[Kn.addLoc,hl]
  ·rw[hgn l hl]
   simp only[St.addLoc] at hy
   rcases Nat.lt_or_ge l s.locs.length with h1|h1
   ·rw[List.getElem?_append_left h1] at hy
    exact h.lv l y hy hd
   ·rw[List.getElem?_eq_none (by simp;omega)] at hy
    cases hy
 ·obtain⟨k1,k2,k3,k4,k5⟩:=h'.caps l e sz c hc
  refine⟨by simp only[St.addLoc,Ye,Yj];omega,k2,k3,k4,λhg' b hb=>?_⟩
  rcases hloc l b hb with ⟨rfl,_⟩|hb
  ·omega
  ·exact k5 (by rw[<-hgn l (by omega)];exact hg') b hb
 ·rcases hb with ⟨l,hl,gl⟩|ht
  ·rcases hloc l b hl with ⟨rfl,rfl⟩|hl
   ·exact .inr (Yd _)
   ·exact .inl (.inl ⟨l,hl,by rw[<-hgn l (hnl l b hl)];exact gl⟩)
  ·exact .inl (.inr ht)
theorem Inv.setLoc(h:Inv C κ B s w){l b:Nat}(hl:κ.loc l=some b)(gl:κ.gone l=false){x:Obj}{o:Go.Obj}(hx:ObjR C κ o x)(hw:w'.heap[b]? = some o)(hg:w.grownBy w' (some b))
  (hsh:∀ cs t z,w.heap[b]? = some (.cells cs t z)->∃ cs',o = .cells cs' t z/\cs'.size=cs.size) :
  Inv C κ B { s with locs:=s.locs.set l x } w'/\Mv κ κ w w':=by
 have hll:=h.locn l b hl
 refine⟨⟨λb' o' v k=>?_,λi y hy=>?_,λi b' hi=>by simpa using h.locn i b' hi,λk L hk=>?_,h.tokn,h.locinj,h.tokinj,h.loctok,h.locim,λi y hy hd=>?_,λi e sz c hc=>?_,h.bls,
   h.tabs.mono (λ_ v k=>⟨v,k⟩) λb' _ hs hv=>hg.block b' hs (λe=>by cases e;obtain⟨v,hv⟩:=hv;rw[h.locim l b 0 hl gl] at hv;cases hv)⟩,
  ⟨.refl κ,hg.os,hg.tape,hg.output,hg.size,λx hx hnw=>hg.block x hx (λe=>by cases e;exact hnw (.inl ⟨l,hl,gl⟩)),λ_ hb=>.inl hb,λ_ _ _ k _ _=>k⟩⟩
 ·have hne:b'≠b:=λe=>by subst e;rw[h.locim l b' o' hl gl] at k;cases k
  exact hg.cell (h.im b' o' v k) (λe=>hne (by cases e;rfl))
 ·by_cases hil:l=i
  ·subst hil
   rw[List.getElem?_set_self hll] at hy
   cases hy
   obtain⟨b',o',h1,h2,_⟩:=h.locs l _ (List.getElem?_eq_getElem hll)
   rw[hl] at h1
   cases h1
   exact⟨b,o,hl,h2,hw,hx⟩
  ·rw[List.getElem?_set_ne hil] at hy
   obtain⟨b',o',h1,h2,h3,h4⟩:=h.locs i y hy
   by_cases hd:y = .dead
   ·subst hd
    exact Q2K h1 h2 h3 hg.size
   have hne:b'≠b:=λe=>by subst e;exact hil (h.locinj l i b' hl h1 gl (h.lv i y hy hd))
   exact⟨b',o',h1,h2,by rw[hg.block b' (Array.getElem?_eq_some_iff.1 h3).1 (λe=>hne (by cases e;rfl))];exact h3,h4⟩
 ·obtain⟨e,v,h1,h2⟩:=h.toks k L hk
  refine⟨e,v,h1,λg h3=>?_⟩
  obtain⟨xs,h2,h4⟩:=h2 g h3
  refine⟨xs,h2.kept hg (.inr (λe'=>?_)),h4⟩
  exact h.loctok l b k L e v hl gl h1 e'
 ·by_cases hil:l=i
  ·subst hil;exact gl
  ·rw[List.getElem?_set_ne hil] at hy
   exact h.lv i y hy hd
 ·obtain⟨k1,k2,k3,k4,k5⟩:=h.caps i e sz c hc
  refine⟨by simpa using k1,k2,k3,k4,λhg' b' hb=>?_⟩
  obtain⟨cs',k6,k7⟩:=k5 hg' b' hb
  by_cases hbb:b'=b
  ·subst hbb
   obtain⟨cs2,rfl,k8⟩:=hsh cs' e (0,0) k6
   exact⟨cs2,hw,by rw[k8];exact k7⟩
  ·exact⟨cs',by rw[hg.block b' (Array.getElem?_eq_some_iff.1 k6).1 (λe=>hbb (by cases e;rfl))];exact k6,k7⟩
end
end Go.Am
namespace Go.Am
open Go Go.RowKit
def Kn.setTok(κ:Kn)(k L:Nat)(e:TypeId)(v:Value)(g:Nat)(xs:List Value):Kn:=
 { κ with im:=λb o=>if b=g then xs[o]? else κ.im b o,tok:=λi=>if i=k then some (L,e,v) else κ.tok i }
section
variable {P:Program} {C:Cfg} {κ κ' κ0:Kn} {B B' N:Nat} {s s':St} {w w' w0:World} {e:Env} {a:Act} {β:Nat->Option Nat} {δ:List Nat}
theorem Inv.tok_step(h:Inv C κ B s w){k L g:Nat}{et:TypeId}{v:Value}{xs:List Value}{row:Option Nat}(hk:k<=s.toks.length)
  (hg:w.grownBy w' row) (hrow:(row=none/\w.heap.size<=g)\/(row=some g/\∃ L0 v0,κ.tok k=some (L0,et,v0)/\v0.ownBlock=some g))
  (hown:w'.ownsRow B et (C.ti et).size v L xs) (hv:v.ownBlock=some g) (hsz:0<(C.ti et).size) (ho:Ones xs)
  (hold:∀ L0 e0 v0,κ.tok k=some (L0,e0,v0)->e0=et/\L0<L) (him:∀ j u,κ.im g j=some u->xs[j]? = some u)
  (htoks:∀ i,s'.toks[i]? = if i=k then some L else s.toks[i]?) (hlocs:s'.locs=s.locs) (hbl:s'.bl=s.bl:=by rfl) :
  Inv C (κ.setTok k L et v g xs) B s' w'/\Mv κ (κ.setTok k L et v g xs) w w':=by
 have hxl:xs.length=L*(C.ti et).size:=hown.1
 have hle:LE κ (κ.setTok k L et v g xs):=by
  refine⟨λb o u hu=>?_,λ_ _ h=>h,λi L1 e1 v1 h1=>?_,λ_ _ h=>h⟩
  ·simp only[Kn.setTok]
   split
   ·rename_i e;subst e;exact him o u hu
   ·exact hu
  ·by_cases hi:i=k
   ·subst hi
    obtain⟨rfl,h2⟩:=hold _ _ _ h1
    exact⟨L,v,by simp[Kn.setTok],by omega,λe=>by omega⟩
   ·exact⟨L1,v1,by simp only[Kn.setTok,hi,if_false];exact h1,Yd _,λ_=>rfl⟩
 have hgloc:∀ l b,κ.loc l=some b->κ.gone l=false->b≠g:=λl b hl gl e=>by
  subst e
  rcases hrow with ⟨_,hge⟩|⟨_,L0,v0,h0,h1⟩
  ·have:=(h.wr_lt (.inl ⟨l,hl,gl⟩)).2;omega
  ·exact h.loctok l b k L0 et v0 hl gl h0 h1
 have hgtok:∀ i L1 e1 v1,i≠k->κ.tok i=some (L1,e1,v1)->v1.ownBlock≠some g:=λi L1 e1 v1 hi h1 e=>by
  rcases hrow with ⟨_,hge⟩|⟨_,L0,v0,h0,h2⟩
  ·have:=(h.wr_lt (.inr ⟨i,L1,e1,v1,h1,e⟩)).2;omega
  ·exact hi (h.tokinj i k L1 e1 v1 L0 et v0 g h1 h0 e h2)
 have hne:∀ b,b≠g->some b≠row:=λb hb e=>by
  rcases hrow with ⟨h1,_⟩|⟨h1,_⟩<;>rw[h1] at e<;>cases e
  exact hb rfl
 refine⟨⟨λb o u hu=>?_,λl x hx=>?_,λl b hl=>by rw[hlocs];exact h.locn l b hl,λi L1 hi=>?_,λi L1 e1 v1 h1=>?_,h.locinj,?_,?_,λl b o hl gl=>?_,λl x hx=>by rw[hlocs] at hx;exact h.lv l x hx,λl e sz c hc=>?_,λp hp=>h.bls p (by rw[<-hbl];exact hp),
   h.tabs.mono (λ_ v k=>⟨v,hle.im _ _ _ k⟩) λb hb hs _=>hg.block b hs (hne b (λe=>by subst e;have:=(hown.lt b hv).1;omega))⟩,
  ⟨hle,hg.os,hg.tape,hg.output,hg.size,λb hb hw=>hg.block b hb (λe=>?_),λb hb=>?_,λb o u hu hb hw=>?_⟩⟩
 ·simp only[Kn.setTok] at hu
  split at hu
  ·rename_i e
   subst e
   have:=hown.cells hv o u hu
   rwa [Qw,Nat.zero_add] at this
  ·rename_i hb
   exact hg.cell (h.im b o u hu) (hne b hb)
 ·rw[hlocs] at hx
  obtain⟨b,o,h1,h2,h3,h4⟩:=h.locs l x hx
  by_cases hd:x = .dead
  ·subst hd
   exact Q2K h1 h2 h3 hg.size
  exact⟨b,o,h1,h2,by rw[hg.block b (Array.getElem?_eq_some_iff.1 h3).1 (hne b (hgloc l b h1 (h.lv l x hx hd)))];exact h3,h4.mono hle⟩
 ·rw[htoks] at hi
  by_cases hik:i=k
  ·subst hik
   simp only[if_true,Option.some.injEq] at hi
   subst hi
   refine⟨et,v,by simp[Kn.setTok],λg' hv'=>?_⟩
   rw[hv] at hv'
   cases hv'
   refine⟨xs,hown,hsz,ho,λj u hj=>by simp only[Kn.setTok,if_true];exact hj,λo ho'=>?_⟩
   simp only[Kn.setTok,if_true]
   exact List.getElem?_eq_none (by omega)
  ·rw[if_neg hik] at hi
   obtain⟨e1,v1,h1,h2⟩:=h.toks i L1 hi
   refine⟨e1,v1,by simp only[Kn.setTok,hik,if_false];exact h1,λg1 h3=>?_⟩
   obtain⟨xs1,h2,h4,h5,h6,h7⟩:=h2 g1 h3
   have hg1:g1≠g:=λe=>by subst e;exact hgtok i L1 e1 v1 hik h1 h3
   refine⟨xs1,h2.kept hg (.inr (by rw[h3];exact hne g1 hg1)),h4,h5,λj u hj=>?_,λo ho'=>?_⟩
   ·simp only[Kn.setTok,hg1,if_false];exact h6 j u hj
   ·simp only[Kn.setTok,hg1,if_false];exact h7 o ho'
 ·rw[htoks]
  simp only[Kn.setTok] at h1
  split at h1
  ·rename_i e';rw[if_pos e'];cases h1;rfl
  ·rename_i e';rw[if_neg e'];exact h.tokn i L1 e1 v1 h1
 ·intro i j L1 e1 v1 L2 e2 v2 b h1 h2 h3 h4
  simp only[Kn.setTok] at h1 h2
  split at h1<;>split at h2
  ·omega
  ·rename_i e1' e2'
   cases h1
   rw[hv] at h3
   cases h3
   exact absurd h4 (hgtok j L2 e2 v2 e2' h2)
  ·rename_i e1' e2'
   cases h2
   rw[hv] at h4
   cases h4
   exact absurd h3 (hgtok i L1 e1 v1 e1' h1)
  ·exact h.tokinj i j L1 e1 v1 L2 e2 v2 b h1 h2 h3 h4
 ·intro l b i L1 e1 v1 hl gl h1 h2
  simp only[Kn.setTok] at h1
  split at h1
  ·cases h1
   rw[hv] at h2
   cases h2
   exact hgloc l g hl gl rfl
  ·exact h.loctok l b i L1 e1 v1 hl gl h1 h2
 ·have:=hgloc l b hl gl
  simp only[Kn.setTok,this,if_false]
  exact h.locim l b o hl gl
 ·obtain⟨k1,k2,k3,k4,k5⟩:=h.caps l e sz c hc
  refine⟨by rw[hlocs];exact k1,k2,k3,k4,λhg' b hb=>?_⟩
  obtain⟨cs,k6,k7⟩:=k5 hg' b hb
  exact⟨cs,by rw[hg.block b (Array.getElem?_eq_some_iff.1 k6).1 (hne b (hgloc l b hb hg'))];exact k6,k7⟩
 ·rcases hrow with ⟨h1,_⟩|⟨h1,L0,v0,h0,h2⟩
  ·rw[h1] at e;cases e
  ·rw[h1] at e
   cases e
   exact hw (.inr ⟨k,L0,et,v0,h0,h2⟩)
 ·rcases hb with ⟨l,hl,gl⟩|⟨i,L1,e1,v1,h1,h2⟩
  ·exact .inl (.inl ⟨l,hl,gl⟩)
  ·simp only[Kn.setTok] at h1
   split at h1
   ·cases h1
    rw[hv] at h2
    cases h2
    rcases hrow with ⟨_,hge⟩|⟨_,L0,v0,h0,h3⟩
    ·exact .inr hge
    ·exact .inl (.inr ⟨k,L0,et,v0,h0,h3⟩)
   ·exact .inl (.inr ⟨i,L1,e1,v1,h1,h2⟩)
 ·simp only[Kn.setTok] at hu
  split at hu
  ·rename_i e'
   subst e'
   rcases hrow with ⟨_,hge⟩|⟨_,L0,v0,h0,h3⟩
   ·omega
   ·exact absurd (.inr ⟨k,L0,et,v0,h0,h3⟩) hw
  ·exact hu
theorem Q4P{xs ys:List Value}(hl:xs.length=ys.length)(h:∀ (j:Nat) (u v:Value),xs[j]? = some u->ys[j]? = some v->u=v):xs=ys:=by
 apply List.ext_getElem hl
 intro i h1 h2
 exact h i _ _ (List.getElem?_eq_getElem h1) (List.getElem?_eq_getElem h2)
theorem Q2P{size:Nat}{l:List AV}(h:okSz size l=true):(∀ v ∈ l,v.cells.length=size)/\0<size:=by
 simp only[okSz,Ya,List.all_eq_true,beq_iff_eq] at h
 refine⟨h.1,?_⟩
 rcases Nat.eq_zero_or_pos size with h0|h0
 ·subst h0;exact absurd h.2 (by decide)
 ·exact h0
theorem Inv.fresh_tok(hI:Inv C κ B s w){et:TypeId}{l':List AV}{v':Value}{zs:List Value}{g:Nat}(hgr:w.grownBy w' none)(hgn:v'.ownBlock=some g)(hge:w.heap.size<=g)(hown:w'.ownsRow B et (C.ti et).size v' l'.length zs)
  (hsz:0<(C.ti et).size) (ho:Ones zs) (hv:VRl κ (flat l') zs) (hszs:∀ v ∈ l',v.cells.length=(C.ti et).size) :
  ∃ κ',Mv κ κ' w w'/\Inv C κ' B { s with toks:=s.toks++[l'.length] } w'/\SR κ' (.own s.toks.length et l') v':=by
 have hno:κ.tok s.toks.length=none:=by
  cases ht:κ.tok s.toks.length with
  |none=>rfl
  |some p=>obtain⟨L,e,u⟩:=p;have:=hI.tokn _ _ _ _ ht;simp at this
 obtain⟨hI',hM⟩:=hI.tok_step (s':={ s with toks:=s.toks++[l'.length] }) (k:=s.toks.length) (Yd _) hgr (.inl ⟨rfl,hge⟩) hown hgn hsz ho
  (λL0 e0 v0 h0=>by rw[hno] at h0;cases h0) (λj u hj=>by have:=hI.im_lt hj;omega) (λi=>by
    by_cases hi:i=s.toks.length
    ·subst hi;simp
    ·rw[if_neg hi]
     rcases Nat.lt_or_ge i s.toks.length with h'|h'
     ·rw[List.getElem?_append_left h']
     ·rw[List.getElem?_eq_none (by simp;omega),List.getElem?_eq_none h']) rfl
 rcases hown.2 with ⟨rfl,_⟩|⟨g2,cap2,cur2,rfl,hb2,hg2,hn2,_⟩
 ·simp[Value.ownBlock] at hgn
 ·simp only[Value.ownBlock,Option.some.injEq] at hgn
  subst hgn
  refine⟨_,hM,hI',⟨⟨⟨g2,0,none⟩,_,cap2,rfl,rfl,hn2,λ_=>rfl,_,zs,hszs,λj u hj=>?_,ho,VRl.mono hM.le _ _ hv⟩,l'.length,_,by simp[Kn.setTok],Yd _,λ_=>rfl⟩⟩
  simp only[Kn.setTok,if_true,Nat.zero_add]
  exact hj
theorem Qef(hT:∀ t,TyOK P C t)(hI:Inv C κ B s w)(hB:B<=w.heap.size){t ty et:TypeId}(hk:(C.ti t).k = .slice et){x y:Slot}{u v:Value}(hx:SR κ x u)(hy:SR κ y v){sl:Slot}(h:appendS et (C.ti et) s x y=some (sl,s')) :
  ∃ z κ' w',(Builtin.append_ #[t,t] ty #[u,v]).run P w = .ok z w'/\Mv κ κ' w w'/\Inv C κ' B s' w'/\SR κ' sl z:=by
 have hK:=(hT t).kind
 have hel:=(hT t).elem et hk
 rw[hk] at hK;simp only[KOk] at hK
 obtain⟨i0,hi0⟩:=Option.isSome_iff_exists.1 hel
 unfold appendS at h
 split at h
 ·rename_i hyl
  split at h
  ·rename_i lx hxl
   cases h
   obtain⟨a1,n1,c1,rfl,h1,h2,_⟩:=hx.list hxl
   obtain⟨a2,n2,c2,rfl,h3,h4,h5,h6⟩:=hy.list hyl
   simp only[Yp] at h3
   subst h3
   refine⟨.slice a1 n1 c1,κ,w,?_,.refl _ _,hI,hx⟩
   have hfc:(Builtin.firstCells i0.size 0 (.slice a2 0 c2)).run P w = .ok #[] w:=by
    cases a2 with
    |none=>simp[Builtin.firstCells]
    |some a2=>simp[Builtin.firstCells,loadCells,loadCellsFrom]
   cases a1 with
   |none=>simp[Builtin.append_,run_underlying hK,sizeOf,typeInfo,hi0,Builtin.lenOf,h2,hfc]
   |some a1=>simp[Builtin.append_,run_underlying hK,sizeOf,typeInfo,hi0,Builtin.lenOf,h2,hfc,storeCells]
  ·cases h
 ·rename_i ys hne hyl
  cases hq:okSz (C.ti et).size ys with
  |false=>rw[hq] at h;cases h
  |true=>
    rw[hq] at h
    simp only[cond_true] at h
    obtain⟨hys,hsz⟩:=Q2P hq
    have hne0:(C.ti et).size≠0:=by omega
    obtain⟨ie,ze,g1,g2,g3,g4,g5,_⟩:=(hT et).info (nbad hT hne0)
    have hyn:y≠.val .nils:=λe=>by subst e;simp only[Slot.list?] at hyl;cases hyl;exact hne rfl
    obtain⟨ya,m,yc,rfl,hm,_,hysp,szy,yvs,hycl,hyh,hyo,hyv⟩:=hy.list_some hyl hyn
    have hmpos:0<m:=by
     rw[<-hm]
     cases ys with
     |nil=>exact absurd rfl hne
     |cons _ _=>simp
    have hyasp:=hysp hmpos
    have hylen:yvs.length=m*(C.ti et).size:=by rw[<-hyv.length,Z1 hys,hm]
    have hynews:∀ j u,yvs[j]? = some u->w.cell? (ya.add j)=some u:=λj u hj=>by
     obtain⟨yb,yo,ysp⟩:=ya
     simp only at hyasp
     subst hyasp
     rw[Qw]
     exact hI.im _ _ _ (hyh j u hj)
    split at h
    ·rename_i k e' l
     cases hq2:okSz (C.ti et).size l with
     |false=>rw[hq2] at h;cases h
     |true=>
       rw[hq2] at h
       simp only[cond_true] at h
       obtain⟨hlsz,_⟩:=Q2P hq2
       split at h
       ·rename_i hc
        obtain⟨rfl,htk,hby,hmx⟩:=hc
        cases h
        obtain⟨⟨xa,n,c,rfl,hxs⟩,L,uu,htok,hLl,hLe⟩:=hx
        obtain⟨hxn,hxc,hxsp,szx,xvs,hxcl,hxh,hxo,hxv⟩:=hxs
        have hLk:=hI.tokn k L e' uu htok
        rw[htk] at hLk
        cases hLk
        have huu:=hLe rfl
        subst huu
        obtain⟨e2,v2,k1,k2⟩:=hI.toks k l.length htk
        rw[htok] at k1
        cases k1
        obtain⟨xs,k2,k4,k5,k6,k7⟩:=k2 xa.block rfl
        obtain⟨g,k3⟩:∃ g,xa.block=g:=⟨_,rfl⟩
        rw[k3] at k6 k7
        rcases k2.2 with ⟨hbad,_⟩|⟨g',cap,cur,hv',hbg,hgg,hncap,hcapm,hcur,htake⟩
        ·cases hbad
        ·cases hv'
         simp only at k3
         subst k3
         have hxl:xvs.length=l.length*(C.ti e').size:=by rw[<-hxv.length,Z1 hlsz]
         have hxs2:xs=xvs:=by
          refine Q4P (by rw[hxl];exact k2.1) λj a b ha hb=>?_
          have h1:=k6 j a ha
          have h2:=hxh j b hb
          simp only[Nat.zero_add] at h2
          rw[h1] at h2
          exact Option.some.inj h2
         subst hxs2
         have hkl:k<s.toks.length:=(List.getElem?_eq_some_iff.1 htk).1
         have htoks':∀ i,(s.toks.set k (l.length+ys.length))[i]? = if i=k then some (l.length+ys.length) else s.toks[i]? :=λi=>by
          by_cases hik:i=k
          ·subst hik;rw[List.getElem?_set_self hkl,if_pos rfl]
          ·rw[List.getElem?_set_ne (Ne.symm hik),if_neg hik]
         have hflat:∀ κ',VRl κ' (flat l) xs->VRl κ' (flat ys) yvs->VRl κ' (flat (l++ys)) (xs++yvs):=λκ' h1 h2=>by
          rw[show flat (l++ys)=flat l++flat ys by simp[flat]]
          exact VRl.append.2 ⟨_,_,rfl,h1,h2⟩
         have hszs:∀ v ∈ l++ys,v.cells.length=(C.ti e').size:=λv hv=>(List.mem_append.1 hv).elim (hlsz v) (hys v)
         by_cases hroom:l.length+m<=c
         ·have hr:=run_append_room (P:=P) w t ty e' ie hK g1 g' l.length c cur hgg ya m yc yvs (by rw[g2];exact hylen) hynews (λu hu=>hyo u hu) hroom (by rw[g2,hylen,hcur,<-Nat.add_mul];exact Nat.mul_le_mul_right _ hroom)
          rw[g2] at hr
          generalize hcur':(cur.toList.take (l.length*(C.ti e').size)++yvs++cur.toList.drop (l.length*(C.ti e').size+yvs.length)).toArray=cur' at hr
          have hgr:w.grownBy (w.setRow g' cur') (some g'):=⟨rfl,rfl,rfl,by simp,λi hi hne=>setRow_other w g' i cur' (λe=>hne (by rw[e]))⟩
          have hown':(w.setRow g' cur').ownsRow B e' (C.ti e').size (.slice (some ⟨g',0,none⟩) (l.length+ys.length) c) (l.length+ys.length) (xs++yvs):=by
           refine⟨by rw[Ye,k2.1,hylen,hm,Nat.add_mul],.inr ⟨g',c,cur',rfl,hbg,setRow_heap w g' cur _ e' (0,0) hgg,by rw[hm];exact hroom,hcapm,?_,?_⟩⟩
           ·rw[<-hcur',<-hcur]
            have hle:l.length*(C.ti e').size+yvs.length<=cur.size:=by rw[hylen,hcur,<-Nat.add_mul];exact Nat.mul_le_mul_right _ hroom
            simp only[List.size_toArray,Ye,List.length_take,List.length_drop,Array.length_toList]
            omega
           ·rw[<-hcur']
            rw[List.take_left' (by rw[Ye,List.length_take,Nat.min_eq_left (by have h9:cur.toList.length=c*(C.ti e').size:=(by rw[<-hcur];simp);rw[h9];exact Nat.mul_le_mul_right _ (by omega)),hylen,hm,Nat.add_mul]),htake]
          obtain⟨hI',hM⟩:=hI.tok_step (s':={ s with toks:=s.toks.set k (l.length+ys.length) }) (Nat.le_of_lt hkl) hgr (.inr ⟨rfl,l.length,_,htok,rfl⟩) hown' rfl hsz (k5.append hyo)
           (λL0 e0 v0 h0=>by rw[htok] at h0;cases h0;exact⟨rfl,by omega⟩) (λj u hj=>by
             have hjl:j<xs.length:=by
              rcases Nat.lt_or_ge j xs.length with h'|h'
              ·exact h'
              ·rw[k7 j (by rw[<-k2.1];exact h')] at hj;cases hj
             rw[List.getElem?_append_left hjl]
             have:=k6 j _ (List.getElem?_eq_getElem hjl)
             rw[hj] at this
             rw[List.getElem?_eq_getElem hjl,<-this]) htoks' rfl
          refine⟨.slice (some ⟨g',0,none⟩) (l.length+ys.length) c,_,_,by rw[hr,hm],hM,hI',⟨⟨⟨g',0,none⟩,_,c,rfl,by simp,by rw[hm];exact hroom,λ_=>rfl,_,xs++yvs,hszs,λj u hj=>?_,k5.append hyo,hflat _ (VRl.mono hM.le _ _ hxv) (VRl.mono hM.le _ _ hyv)⟩,l.length+ys.length,_,by simp[Kn.setTok],by simp,λ_=>rfl⟩⟩
          simp only[Kn.setTok,if_true,Nat.zero_add]
          exact hj
         ·have hgrow:=run_append_arg_grows (P:=P) w t ty e' ie ze (C.ti e').size (C.ti e').bytes hK g1 g4 g2 g3 g5 hsz ⟨g',0,none⟩ l.length c xs k2.1 (λj u hj=>by rw[Qw,Nat.zero_add];exact hI.im _ _ _ (k6 j u hj)) ya m yc yvs hylen hynews (by omega) (by simp only[maxLen];rw[<-hm];omega) (by rw[<-hm];exact hby)
          obtain⟨v',w',hr,hown',hgr⟩:=hgrow
          obtain⟨gn,hgn⟩:∃ gn,v'.ownBlock=some gn:=by
           rcases hown'.2 with ⟨_,h0⟩|⟨g2,cap2,cur2,rfl,_⟩
           ·omega
           ·exact⟨g2,rfl⟩
          have hgn2:=(hown'.lt gn hgn).1
          have hown2:w'.ownsRow B e' (C.ti e').size v' (l.length+ys.length) (xs++yvs):=by
           rw[hm]
           refine⟨hown'.1,hown'.2.imp id λ⟨g2,cap2,cur2,h1,h2,h3⟩=>⟨g2,cap2,cur2,h1,Nat.le_trans hB h2,h3⟩⟩
          obtain⟨hI',hM⟩:=hI.tok_step (s':={ s with toks:=s.toks.set k (l.length+ys.length) }) (Nat.le_of_lt hkl) hgr (.inl ⟨rfl,hgn2⟩) hown2 hgn hsz (k5.append hyo)
           (λL0 e0 v0 h0=>by rw[htok] at h0;cases h0;exact⟨rfl,by omega⟩) (λj u hj=>by have:=hI.im_lt hj;omega) htoks' rfl
          rcases hown2.2 with ⟨_,h0⟩|⟨g2',cap2,cur2,rfl,hb2,hg2,hn2,_⟩
          ·omega
          ·simp only[Value.ownBlock,Option.some.injEq] at hgn
           subst hgn
           refine⟨_,_,_,hr,hM,hI',⟨⟨⟨g2',0,none⟩,_,cap2,rfl,by simp,hn2,λ_=>rfl,_,xs++yvs,hszs,λj u hj=>?_,k5.append hyo,hflat _ (VRl.mono hM.le _ _ hxv) (VRl.mono hM.le _ _ hyv)⟩,l.length+ys.length,_,by simp[Kn.setTok],by simp,λ_=>rfl⟩⟩
           simp only[Kn.setTok,if_true,Nat.zero_add]
           exact hj
       ·cases h
    ·rename_i l
     cases hq2:okSz (C.ti et).size l with
     |false=>rw[hq2] at h;cases h
     |true=>
       rw[hq2] at h
       simp only[cond_true] at h
       obtain⟨hlsz,_⟩:=Q2P hq2
       split at h
       ·rename_i hc
        obtain⟨hby,hmx⟩:=hc
        cases h
        obtain⟨xa,n,rfl,hxn,_,hxsp,szx,xvs,hxcl,hxh,hxo,hxv⟩:=hx
        have hxl:xvs.length=n*(C.ti et).size:=by rw[<-hxv.length,Z1 hlsz,hxn]
        have holds:∀ j u,xvs[j]? = some u->w.cell? (xa.add j)=some u:=λj u hj=>by
         have hn:0<n:=by
          rcases Nat.eq_zero_or_pos n with h0|h0
          ·subst h0
           have:xvs=[]:=List.length_eq_zero_iff.1 (by rw[hxl];simp)
           subst this
           simp at hj
          ·exact h0
         have hsp:=hxsp hn
         obtain⟨xb,xo,xsp⟩:=xa
         simp only at hsp
         subst hsp
         rw[Qw]
         exact hI.im _ _ _ (hxh j u hj)
        obtain⟨v',w',hr,hown',hgr⟩:=run_append_arg_grows (P:=P) w t ty et ie ze (C.ti et).size (C.ti et).bytes hK g1 g4 g2 g3 g5 hsz xa n n xvs hxl holds ya m yc yvs hylen hynews (by omega) (by simp only[maxLen];rw[<-hm,<-hxn];omega) (by rw[<-hm,<-hxn];exact hby)
        obtain⟨gn,hgn⟩:∃ gn,v'.ownBlock=some gn:=by
         rcases hown'.2 with ⟨_,h0⟩|⟨g2,cap2,cur2,rfl,_⟩
         ·omega
         ·exact⟨g2,rfl⟩
        have hlen:(l++ys).length=n+m:=by simp[hxn,hm]
        obtain⟨κ',r1,r2,r3⟩:=hI.fresh_tok (l':=l++ys) hgr hgn (hown'.lt gn hgn).1 (by rw[hlen];exact⟨hown'.1,hown'.2.imp id λ⟨g2,cap2,cur2,h1,h2,h3⟩=>⟨g2,cap2,cur2,h1,Nat.le_trans hB h2,h3⟩⟩) hsz (hxo.append hyo)
         (by rw[show flat (l++ys)=flat l++flat ys by simp[flat]];exact VRl.append.2 ⟨_,_,rfl,hxv,hyv⟩) (λv hv=>(List.mem_append.1 hv).elim (hlsz v) (hys v))
        simp only[Ye] at r2
        exact⟨v',κ',w',hr,r1,r2,r3⟩
       ·cases h
    ·split at h
     ·rename_i hc
      obtain⟨hby,hmx⟩:=hc
      cases h
      simp only[SR,VR] at hx
      subst hx
      obtain⟨v',w',hr,hown',hgr,_,hbl⟩:=run_append_own_at (P:=P) w B t ty et ie ze (C.ti et).size (C.ti et).bytes hK g1 g4 g2 g3 g5 hsz (.slice none 0 0) 0 [] (World.ownsRow_nil _ _ _ _) ya m yc yvs hylen hynews (λu hu=>hyo u hu) (by simp only[maxLen];rw[<-hm];omega) (by rw[<-hm];simpa using hby) hB
      simp only[Nat.zero_add,Yo] at hown'
      obtain⟨gn,hgn⟩:∃ gn,v'.ownBlock=some gn:=by
       rcases hown'.2 with ⟨_,h0⟩|⟨g2,cap2,cur2,rfl,_⟩
       ·omega
       ·exact⟨g2,rfl⟩
      have hge:w.heap.size<=gn:=by
       rw[hgn] at hbl
       rcases hbl with hbl|hbl
       ·cases hbl
       ·cases hbl;exact Yd _
      obtain⟨κ',r1,r2,r3⟩:=hI.fresh_tok (l':=ys) hgr hgn hge (by rw[hm];exact hown') hsz hyo hyv hys
      exact⟨v',κ',w',hr,r1,r2,r3⟩
     ·cases h
    ·cases h
 ·cases h
end
end Go.Am
namespace Go.Am
open Go Go.RowKit
section
variable {P:Program} {C:Cfg} {κ κ' κ0:Kn} {B B' N:Nat} {s s':St} {w w' w0:World} {e:Env} {a:Act} {β:Nat->Option Nat} {δ:List Nat}
theorem VRl.of_get:∀ {l:List AV} {vs:List Value},l.length=vs.length->(∀ (i:Nat) x v,l[i]? = some x->vs[i]? = some v->VR κ x v)->VRl κ l vs
 |[],vs,h,_=>by simp only[VRl];exact List.length_eq_zero_iff.1 h.symm
 |x::l,[],h,_=>by simp at h
 |x::l,v::vs,h,k=>⟨v,vs,rfl,k 0 x v rfl rfl,VRl.of_get (by simpa using h) (λi x v h1 h2=>k (i+1) x v (by simpa using h1) (by simpa using h2))⟩
theorem Q1m{z:AV}{sz:Nat}(h:z.cells.length=sz)(h0:0<sz):∀ (n i:Nat),i<n*sz->(flat (List.replicate n z))[i]? = z.cells[i % sz]?
 |0,i,hi=>by omega
 |n+1,i,hi=>by
   rw[List.replicate_succ]
   simp only[flat,List.flatMap_cons]
   by_cases hlt:i<sz
   ·rw[List.getElem?_append_left (by omega),Nat.mod_eq_of_lt hlt]
   ·rw[List.getElem?_append_right (by omega),h]
    have:=Q1m h h0 n (i - sz) (by rw[Nat.add_mul] at hi;omega)
    simp only[flat] at this
    rw[this,<-Nat.mod_eq_sub_mod (by omega)]
theorem QfG(hT:∀ t,TyOK P C t)(hI:Inv C κ B s w)(hB:B<=w.heap.size){t et:TypeId}(hk:(C.ti t).k = .slice et){l c:Slot}{u v:Value}(hl:SR κ l u)(hc:SR κ c v){sl:Slot}(h:makeS et (C.ti et) s l c=some (sl,s')) :
  ∃ z κ' w',(Instr.makeSlice t u v).run P w = .ok z w'/\Mv κ κ' w w'/\Inv C κ' B s' w'/\SR κ' sl z:=by
 have hK:=(hT t).kind
 rw[hk] at hK;simp only[KOk] at hK
 unfold makeS at h
 split at h
 ·rename_i a b
  split at h
  ·rename_i hcond
   obtain⟨h1,h2,h3,h4,h5⟩:=hcond
   split at h
   ·rename_i z hz
    cases h
    simp only[SR,VR] at hl hc
    subst hl;subst hc
    have hne0:(C.ti et).size≠0:=by omega
    obtain⟨ie,ze,g1,g2,g3,g4,g5,g6,g7,g8,g9⟩:=(hT et).info (nbad hT hne0)
    have hby:(ie.bytes:Int)*b<=281474976710656:=by rw[g3,Int.mul_comm];omega
    have hr:=run_make (P:=P) w t et ie ze hK g1 g4 .i64 .i64 a b h1 h2 hby (by omega)
    rw[g2] at hr
    have hzc:z.cells=(C.ti et).zero/\z.cells.length=(C.ti et).size:=by
     have hzl:(C.ti et).zero.length=(C.ti et).size:=by rw[(g6 κ).length];simpa using g5
     unfold ofCells at hz
     cases hag:(C.ti et).isAgg with
     |true=>
       rw[hag] at hz
       simp only[cond_true] at hz
       rw[if_pos hzl] at hz
       cases hz
       exact⟨rfl,hzl⟩
     |false=>
       rw[hag] at hz
       simp only[cond_false] at hz
       split at hz
       ·rename_i y hy
        cases hz
        have:=Q2Y (g6 κ) g7 z (by rw[hy];exact Yc)
        rw[this,hy]
        rw[hy] at hzl
        exact⟨rfl,hzl⟩
       ·cases hz
    have hsize:(madeCells ze.cells (b.toNat*(C.ti et).size)).size=b.toNat*(C.ti et).size:=by simp[madeCells]
    have hle:a.toNat*(C.ti et).size<=b.toNat*(C.ti et).size:=Nat.mul_le_mul_right _ (by omega)
    have hget:∀ (j:Nat) (x:Value),((madeCells ze.cells (b.toNat*(C.ti et).size)).toList.take (a.toNat*(C.ti et).size))[j]? = some x->j<a.toNat*(C.ti et).size/\ze.cells.toList[j % (C.ti et).size]? = some x:=λj x hx=>by
     rw[List.getElem?_take] at hx
     split at hx
     ·rename_i hj
      refine⟨hj,?_⟩
      have hjb:j<b.toNat*(C.ti et).size:=by omega
      have hm:j % (C.ti et).size<ze.cells.size:=by rw[g5];exact Nat.mod_lt _ h4
      simp[madeCells,hjb,g5] at hx
      rw[Array.getElem?_toList,Array.getElem?_eq_getElem hm,<-hx]
      simp[hm]
     ·cases hx
    obtain⟨κ',r1,r2,r3⟩:=hI.fresh_tok (l':=List.replicate a.toNat z) (et:=et) (World.grownBy_alloc w (.cells (madeCells ze.cells (b.toNat*(C.ti et).size)) et) none) (v':=.slice (some ⟨w.heap.size,0,none⟩) a.toNat b.toNat) (zs:=(madeCells ze.cells (b.toNat*(C.ti et).size)).toList.take (a.toNat*(C.ti et).size)) rfl (Yd _)
     ⟨by simp[hsize,hle],.inr ⟨w.heap.size,b.toNat,_,by simp,hB,heap_alloc_new w _,by simp;omega,by simp only[maxLen];omega,hsize,by simp⟩⟩ h4
     (λx hx=>by
       obtain⟨j,hj⟩:=List.mem_iff_getElem?.1 hx
       obtain⟨_,h2⟩:=hget j x hj
       exact g7 x (List.mem_of_getElem? h2))
     (VRl.of_get (by rw[Z1 (sz:=(C.ti et).size) (λx hx=>by rw[List.eq_of_mem_replicate hx];exact hzc.2)];simp[hsize,hle]) (λi x y hx hy=>by
       obtain⟨hi,hy2⟩:=hget i y hy
       rw[Q1m hzc.2 h4 _ _ hi,hzc.1] at hx
       obtain⟨y',hy3,hvr⟩:=(g6 κ).get hx
       rw[hy2] at hy3
       cases hy3
       exact hvr))
     (λx hx=>by rw[List.eq_of_mem_replicate hx];exact hzc.2)
    simp only[List.length_replicate] at r2
    exact⟨_,κ',_,hr,r1,r2,r3⟩
   ·cases h
  ·cases h
 ·cases h
def Does(P:Program)(C:Cfg)(κ0:Kn)(w0:World)(B N:Nat)(dst:Option Tmp)(a:Act)(w:World)(m:Sem Next)(k:Ent->Env->St->Res)(R:Out × St):Prop:=
 ∃ v w' x e' s',(m.run P w = .ok (.value v) w'\/(m.run P w = .ok .skip w'/\v=undef))/\k x e' s'=some R/\OkX C κ0 w0 B N (put dst x e') s' (a.put dst v) w'
theorem Ok.value(h:Ok C κ0 w0 B N e s a w κ β δ){dst:Option Tmp}(hd:∀ d,dst=some d->d<N){m:Sem Value}{k:Ent->Env->St->Res}{R:Out × St}{sl:Slot}{z:Value}
  (hr:m.run P w = .ok z w') (hm:Mv κ κ' w w') (hi:Inv C κ' B s' w') (hs:SR κ' sl z) (hk:k (.s sl) e s'=some R):Does P C κ0 w0 B N dst a w (do pure (.value (<-m))) k R:=
 ⟨z,w',.s sl,e,s',.inl (by simp only[Sem.run_bind,hr,Result.andThen_ok,Sem.run_pure]),hk,h.step hm hi dst hd (v:=z) hs⟩
theorem Qip(h:Ok C κ0 w0 B N e s a w κ β δ)(hB:B<=w0.heap.size){f:FuncId}{o:Oper}(hd:∀ d,o.dst=some d->d<N){cs:List Slot}{vs:List Value}(hc:SRs κ cs vs)(ho:Ones vs){t:TypeId}{m:Sem Value}
  (hr:m.run P w = .ok (.pointer (some ⟨w.heap.size,0,none⟩)) (w.alloc (.cells vs.toArray t))) {k:Ent->Env->St->Res} {R:Out × St} (hk:newS (dstMode C f o) t cs (dstOld e o) s (λv s=>k v e s)=some R) (hnt:dstMode C f o≠.tl) :
  Does P C κ0 w0 B N o.dst a w (do pure (.value (<-m))) k R:=by
 have hBw:B<=w.heap.size:=Nat.le_trans hB h.mv.size
 have hr':(do pure (.value (<-m)):Sem Next).run P w = .ok (.value (.pointer (some ⟨w.heap.size,0,none⟩))) (w.alloc (.cells vs.toArray t)):=by simp only[Sem.run_bind,hr,Result.andThen_ok,Sem.run_pure]
 cases hm:dstMode C f o with
 |var=>
   rw[hm] at hk
   simp only[newS] at hk
   cases hdst:o.dst with
   |none=>simp[dstMode,hdst] at hm
   |some d=>
     simp only[dstOld,hdst] at hk
     cases hold:e.get d with
     |none=>
       rw[hold] at hk
       exact⟨_,_,.var cs,e,s,.inl hr',hk,h.newVar (hd d hdst) hold hc ho t⟩
     |s v=>rw[hold] at hk;cases hk
     |var c=>rw[hold] at hk;cases hk
     |ptr g d' off=>rw[hold] at hk;cases hk
 |con=>
   rw[hm] at hk
   simp only[newS] at hk
   cases hl:avs cs with
   |none=>rw[hl] at hk;cases hk
   |some l=>
     rw[hl] at hk
     obtain⟨hI',hM⟩:=h.inv.constBlock vs t
     refine⟨_,_,_,e,s,.inl hr',hk,h.step hM hI' _ hd ?_⟩
     simp only[PutR,SR,VR]
     exact⟨⟨w.heap.size,0,none⟩,vs,rfl,rfl,Kn.block_held _ _ _,ho,VRl.mono hM.le _ _ (Q3G hc hl)⟩
 |tl=>exact absurd hm hnt
 |loc=>
   rw[hm] at hk
   simp only[newS] at hk
   obtain⟨hI',hM⟩:=h.inv.addLoc hBw (x:=.var cs) (o:=.cells vs.toArray t) (by
    have hlen:=hc.length
    refine⟨vs.toArray,t,rfl,by simp[hlen],?_,by rw[hlen];simpa using ho⟩
    have:=hc.mono (h.inv.addLoc_le w.heap.size)
    rw[hlen]
    simpa using this)
   refine⟨_,_,_,e,_,.inl hr',hk,h.step hM hI' _ hd ?_⟩
   simp only[PutR,SR,VR]
   exact⟨w.heap.size,by simp[Kn.addLoc],rfl⟩
theorem Qg8(hT:∀ t,TyOK P C t)(hG:GlobOK C κ)(h:Ok C κ0 w0 B N e s a w κ β δ){dst:Option Tmp}(hd:∀ d,dst=some d->d<N){t:TypeId}{x y:Operand}{rt:Root}{cs:List Slot}(hc:boxCells (C.ti t) (opnd C e y)=some cs){k:Ent->Env->St->Res}{R:Out × St}
  (hk:stS rt (Operand.tmp? x) e s (ent C e x) cs (λe s=>k (.s .no) e s)=some R):Does P C κ0 w0 B N dst a w (do Instr.storeAt t (a.eval x) (a.eval y);pure .skip) k R:=by
 obtain⟨hb,hsz,hcs,ho⟩:=QdI hT (Zv h.fr hG y) hc
 have fin:∀ {w':World} {e':Env} {s':St},(Instr.storeAt t (a.eval x) (a.eval y)).run P w = .ok () w'->k (.s .no) e' s'=some R->(∃ κ' β' δ',Ok C κ0 w0 B N e' s' a w' κ' β' δ')->Does P C κ0 w0 B N dst a w (do Instr.storeAt t (a.eval x) (a.eval y);pure .skip) k R:=by
  intro w' e' s' h1 h2 ⟨κ',β',δ',h3⟩
  refine⟨undef,w',.s .no,e',s',.inr ⟨by simp only[Sem.run_bind,h1,Result.andThen_ok,Sem.run_pure],rfl⟩,h2,h3.step (.refl _ _) h3.inv dst hd ?_⟩
  show SR κ' .no undef
  rfl
 unfold stS at hk
 cases hr:rootOk rt (Operand.tmp? x) (ent C e x) with
 |false=>rw[hr] at hk;cases hk
 |true=>
   rw[hr] at hk
   simp only[cond_true] at hk
   have own:∀ {d off b:Nat} {l l':List Slot} {g:Bool},e.get d = .var l->β d=some b->a.eval x = .pointer (some ⟨b,off,none⟩)->putAt l off cs=some l'->k (.s .no) ((d,.var l')::e) s=some R->Does P C κ0 w0 B N dst a w (do Instr.storeAt t (a.eval x) (a.eval y);pure .skip) k R:=by
    intro d off b l l' g hd' hb' hx hp hk'
    have:=h.fr.ent d
    rw[hd'] at this
    obtain⟨b2,cs2,t2,h1,h2,h3,h4,h5⟩:=this
    rw[hb'] at h1
    cases h1
    obtain⟨hle,hnew⟩:=Qas h4 hcs hp
    have hrun:=Q7s (P:=P) hT hb h3 (off:=off) hsz ho hle
    rw[<-hx] at hrun
    exact fin hrun hk' ⟨κ,β,δ,h.setVar hd' hb' hnew (((h5.take _).append (ho.append (h5.drop _))))⟩
   split at hk
   ·rename_i l he
    obtain⟨d,rfl,hd'⟩:=Q6S he
    simp only[Operand.tmp?] at hk
    cases hp:putAt l 0 cs with
    |none=>rw[hp] at hk;cases hk
    |some l'=>
      rw[hp] at hk
      have:=h.fr.ent d
      rw[hd'] at this
      obtain⟨b,cs',t',h1,h2,_⟩:=this
      exact own (g:=true) hd' h1 h2 hp hk
   ·rename_i g d off he
    have hp':=Q3H h.fr he
    split at hk
    ·rename_i l hd'
     cases g with
     |false=>cases hk
     |true=>
       obtain⟨b,hb',hv⟩:=hp'.1 rfl
       simp only[cond_true] at hk
       cases hp:putAt l off cs with
       |none=>rw[hp] at hk;cases hk
       |some l'=>
         rw[hp] at hk
         exact own (g:=true) hd' hb' hv hp hk
    ·cases hk
   ·rename_i v he
    have hv:=Qbt h.fr hG he
    cases hnw:nwOk rt s v with
    |false=>rw[hnw] at hk;cases hk
    |true=>
    rw[hnw] at hk
    simp only[cond_true] at hk
    unfold stV at hk
    split at hk
    ·rename_i loc off
     split at hk
     ·rename_i l hl
      cases hp:putAt l off cs with
      |none=>rw[hp] at hk;cases hk
      |some l'=>
        rw[hp] at hk
        simp only[bindS] at hk
        simp only[SR,VR] at hv
        obtain⟨b,hb',hx⟩:=hv
        obtain⟨b2,o,h1,h2,h3,h4⟩:=h.inv.locs loc _ hl
        rw[hb'] at h1
        cases h1
        obtain⟨cs2,t2,rfl,h50,h5,h6⟩:=h4
        have gl:=h.inv.lv loc _ hl (by simp)
        obtain⟨hle0,hnew⟩:=Qas h5 hcs hp
        have hle:off+(a.eval y).cells.toList.length<=cs2.toList.length:=by rw[List.length_take] at hle0;omega
        have hll:l'.length=l.length:=by have:=hnew.length;have h9:=h5.length;simp only[Ye,List.length_take,List.length_drop] at this h9 hle0;omega
        have hones:=(h6.take off).append (ho.append (h6.drop (off+(a.eval y).cells.toList.length)))
        rw[<-Qhs (by rw[List.length_take] at hle0;omega) h50,<-hll] at hnew hones
        have hrun:=Q7s (P:=P) hT hb h3 (off:=off) hsz ho hle
        rw[<-hx] at hrun
        obtain⟨hI',hM⟩:=h.inv.setLoc (w':=w.setRow b (cs2.toList.take off++((a.eval y).cells.toList++cs2.toList.drop (off+(a.eval y).cells.toList.length))).toArray) hb' gl (x:=.var l') ⟨_,t2,rfl,by rw[hll];simp only[Ye,List.length_take,List.length_drop];omega,hnew,hones⟩ (setRow_heap w b cs2 _ t2 (0,0) h3)
         ⟨rfl,rfl,rfl,by simp,λi hi hne=>setRow_other w b i _ (λe=>hne (by rw[e]))⟩
         (λcs t z e=>by rw[h3] at e;cases e;exact⟨_,rfl,by simp only[List.size_toArray,Ye,List.length_take,List.length_drop,Array.length_toList] at hle |-;omega⟩)
        exact fin hrun hk ⟨κ,β,δ,h.turn hM hI'⟩
     ·cases hk
    ·cases hk
   ·cases hk
end
end Go.Am
namespace Go.Am
open Go Go.RowKit
def GF(F:Fence):Prop:=F=Fence.wide\/∃ l,F=Fence.wide.inRound l
theorem GF.fn{F:Fence}(h:GF F)(f:FuncId):F.fn f:=by
 rcases h with rfl|⟨l,rfl⟩<;>trivial
theorem GF.depth{F:Fence}(h:GF F):F.depth.isSome=true->1<=0:=by
 rcases h with rfl|⟨l,rfl⟩<;>intro h<;>cases h
theorem GF.calls{F:Fence}(h:GF F){n:Nat}{P:Program}{f:FuncId}{args:Array Value}{w:World}{R:Ending->World->Prop}(k:CallsIn Fence.wide n P f args w R):CallsIn F n P f args w R:=by
 rcases h with rfl|⟨l,rfl⟩<;>exact k
theorem GF.round{F:Fence}(h:GF F){n:Nat}{P:Program}{l:Nat}{f:FuncId}{t:Array Value}{x y:Code}{w:World}{R:Ending->World->Prop}(k:RoundIn Fence.wide n P l f t x y w R):RoundIn F n P l f t x y w R:=by
 rcases h with rfl|⟨l,rfl⟩<;>exact k
def OutR(κ:Kn):Out->Ending->Prop
 |.ret sl,.returned v=>SR κ sl v
 |.pan a,.panicked chain=>∃ u,chain=[{ v:=u,recovered:=false }]/\VR κ a u
 |_,_=>False
def CPost(C:Cfg)(κ:Kn)(B:Nat)(w:World)(o:Out)(s':St)(e:Ending)(w':World):Prop:=∃ κ',Mv κ κ' w w'/\Inv C κ' B s' w'/\OutR κ' o e
def Called(P:Program)(f:FuncId)(args:Array Value)(w:World)(post:Ending->World->Prop):Prop:=
 (∃ v w',(callFunc f args).run P w = .ok (.value v) w'/\post (.returned v) w')\/((callFunc f args).run P w = .ok (.enter f args) w/\CallsIn Fence.wide 0 P f args w post)
structure CallsOK (P:Program) (C:Cfg) (cl:CallFn):Prop where
 enter:∀ f l s r,cl (.f f) l s=some r->(C.ext f).isSome=false->∀ args w,(callFunc f args).run P w = .ok (.enter f args) w
 f:∀ f l s o s',cl (.f f) l s=some (o,s')->∀ κ B w vs,Inv C κ B s w->GlobOK C κ->B<=w.heap.size->VRl κ l vs->Called P f vs.toArray w (CPost C κ B w o s')
 y:∀ loc l s o s',cl (.y loc) l s=some (o,s')->∀ κ B w vs b,Inv C κ B s w->GlobOK C κ->B<=w.heap.size->VRl κ l vs->κ.loc loc=some b->
   ∃ fn t x y,(Instr.yield b vs.toArray).run P w = .ok (.round b fn t x y) w/\RoundIn Fence.wide 0 P b fn t x y w (CPost C κ B w o s')
 quiet:QuietOK C cl
section
variable {P:Program} {C:Cfg} {κ κ' κ0:Kn} {B B' N:Nat} {s s':St} {w w' w0:World} {e:Env} {a:Act} {β:Nat->Option Nat} {δ:List Nat} {cl:CallFn} {F:Fence}
theorem Qgm(hf:FrameR κ B w N e a β δ){ops:Array Oper}{g:Option (Nat × Bool)}{o:Oper}(ho:o.guard=g){t:Bool}(h:wants ops.toList e g=some t):Region.wanted o (yielded ops a.tmps)=t:=by
 unfold Region.wanted
 rw[ho]
 cases g with
 |none=>simp only[wants] at h;cases h;rfl
 |some p=>
   obtain⟨j,want⟩:=p
   simp only[wants] at h
   split at h
   ·rename_i d hd
    split at hd
    ·rename_i oj hoj
     have hyj:yielded ops a.tmps j=(match a.tmps[d]? with|some (.bool b)=>some b|_=>none):=by
      unfold yielded
      have:ops[j]? = some oj:=by simpa using hoj
      simp only[this,Option.bind_some,hd]
      rcases a.tmps[d]? with _|x
      ·rfl
      ·cases x<;>rfl
     simp only[hyj]
     have hsr:=Ent.slot_SR (hf.ent d)
     unfold Slot.isB at h
     split at h
     ·rename_i b hb
      cases h
      rw[hb] at hsr
      simp only[SR,VR] at hsr
      have:a.tmps[d]? = some (.bool b):=by
       rw[Yl] at hsr
       cases hx:a.tmps[d]? with
       |none=>rw[hx] at hsr;cases hsr
       |some x=>rw[hx] at hsr;simp at hsr;rw[hsr]
      rw[this]
      cases b<;>cases want<;>rfl
     ·rename_i hb
      cases h
      rw[hb] at hsr
      simp only[SR] at hsr
      have:∀ b,a.tmps[d]?≠some (.bool b):=λb hx=>by
       rw[Yl,hx] at hsr
       cases hsr
      cases hx:a.tmps[d]? with
      |none=>rfl
      |some x=>
        cases x<;>first|rfl|exact absurd hx (this _)
     ·cases h
    ·cases hd
   ·cases h
theorem QfR(hf:FrameR κ B w N e a β δ){op:Op}{k:Ent->Res}{R:Out × St}(h:pureK C e false op k=some R):∃ x,PutR κ e β x undef/\k x=some R:=by
 have no:PutR κ e β (.s .no) undef:=by simp only[PutR,SR]
 have dflt:bind1 (gd false (pureS C e op)) (λv=>k (.s v))=some R->∃ x,PutR κ e β x undef/\k x=some R:=λh=>⟨.s .no,no,h⟩
 cases op<;>try exact dflt h
 case nilCheck x=>
  simp only[pureK] at h
  split at h
  ·rename_i w' d o he
   have hp:=Q3H hf he
   unfold chkP at h
   simp only[Bool.not_false,Bool.or_true,cond_true,Bool.and_false] at h
   exact⟨.ptr false d o,⟨λh=>(by cases h),hp.2⟩,h⟩
  ·exact⟨.s .no,no,h⟩
  ·cases h
 case fieldAddr t x f=>
  simp only[pureK] at h
  split at h
  ·rename_i off ft hft
   cases h0:Nat.beq (C.ti ft).size 0 with
   |true=>rw[h0] at h;cases h
   |false=>
     rw[h0] at h
     simp only[cond_false] at h
     unfold faK at h
     split at h
     ·rename_i cs he
      obtain⟨d,rfl,hd⟩:=Q6S he
      simp only[Operand.tmp?] at h
      exact⟨.ptr false d off,⟨λh=>(by cases h),by rw[hd];simp⟩,h⟩
     ·rename_i w' d o he
      have hp:=Q3H hf he
      unfold chkP at h
      simp only[Bool.not_false,Bool.or_true,cond_true,Bool.and_false] at h
      exact⟨.ptr false d (o+off),⟨λh=>(by cases h),hp.2⟩,h⟩
     ·exact⟨.s .no,no,h⟩
     ·cases h
  ·cases h
theorem Q0H(hF:GF F){o:Oper}:∀ f,o.about P w a.eval=some f->F.fn f:=λf _=>hF.fn f
structure Post (P:Program) (C:Cfg) (κ0:Kn) (w0:World) (B N:Nat) (Q:Exit->Act->World->Prop) (R:Out × St):Prop where
 pan:∀ v s e a w κ β δ chain,R=(.pan v,s)->Ok C κ0 w0 B N e s a w κ β δ->(∃ u,chain=[{ v:=u,recovered:=false }]/\VR κ v u)->Q (.panic chain) a w
theorem Ok.glob(h:Ok C κ0 w0 B N e s a w κ β δ)(hG:GlobOK C κ0):GlobOK C κ:=hG.mono h.mv.le
theorem Q5W{r:Res}{k:Slot->St->Res}{R:Out × St}(h:back r k=some R):(∃ v s,r=some (.ret v,s)/\k v s=some R)\/∃ v s,r=some (.pan v,s)/\R=(.pan v,s):=by
 unfold back at h
 split at h
 ·exact .inl ⟨_,_,rfl,h⟩
 ·cases h;exact .inr ⟨_,_,rfl,rfl⟩
 ·cases h
theorem Qho(hf:FrameR κ B w N e a β δ)(hG:GlobOK C κ)(ags:Array Operand):SRs κ (ags.toList.map (opnd C e)) (ags.map a.eval).toList:=by
 have:=Q9R (C:=C) (λx=>Zv hf hG x) ags.toList
 simpa using this
theorem QgD(hF:GF F)(hcl:CallsOK P C cl)(hB:B<=w0.heap.size)(hG:GlobOK C κ0)(h:Ok C κ0 w0 B N e s a w κ β δ){o:Oper}(hd:∀ d,o.dst=some d->d<N){g:Operand}{ags:Array Operand}{ts:Array TypeId}(ho:o.op = .call { callee:=.value g,args:=ags,argTypes:=ts })
  {Q:Exit->Act->World->Prop} {R:Out × St} (hP:Post P C κ0 w0 B N Q R) {k:Slot->St->Res} {K:Act->World->Prop}
  (hK:∀ v s' a' w',OkX C κ0 w0 B N (put o.dst (.s v) e) s' a' w'->k v s'=some R->K a' w')
  (hk:back (cal cl true (tgtV (opnd C e g) (ags.toList.map (opnd C e))) s) k=some R):o.wpIn F 0 P a w K Q:=by
 have hGκ:=h.glob hG
 have hBw:B<=w.heap.size:=Nat.le_trans hB h.mv.size
 have hargs:=Qho h.fr hGκ ags
 have hg:=Zv h.fr hGκ g
 refine⟨Q0H hF,?_⟩
 rw[Oper.semAt_eq _ _ _ (by rw[ho];simp)]
 unfold tgtV at hk
 cases hl:avs (ags.toList.map (opnd C e)) with
 |none=>rw[hl] at hk;cases hk
 |some l=>
   rw[hl] at hk
   simp only at hk
   have hvl:=Q3G hargs hl
   have fin:∀ {r:Out × St} {en:Ending} {w':World},(∃ v s,r=(.ret v,s)/\k v s=some R)\/(∃ v s,r=(.pan v,s)/\R=(.pan v,s))->CPost C κ B w r.1 r.2 en w'->(match en with | .returned v=>K (a.put o.dst v) w' | .panicked chain=>Q (.panic chain) a w' | .outgrown=>LetsOut Q):=by
    rintro r en w' hr ⟨κ',hm,hi,hout⟩
    rcases hr with ⟨v,s2,rfl,hk2⟩|⟨v,s2,rfl,rfl⟩
    ·cases en with
     |returned u=>exact hK v s2 _ _ (h.step hm hi o.dst hd (x:=.s v) (v:=u) hout) hk2
     |panicked c=>exact hout.elim
     |outgrown=>exact hout.elim
    ·cases en with
     |returned u=>exact hout.elim
     |panicked c=>exact hP.pan v s2 e a w' κ' β δ c rfl (h.turn hm hi) hout
     |outgrown=>exact hout.elim
   split at hk
   ·rename_i f caps hgv
    rw[hgv] at hg
    simp only[SR,VR] at hg
    obtain⟨cs,hcs,hgval⟩:=hg
    simp only[cal,cond_true] at hk
    have hdisj:=Q5W hk
    have hex:∃ r,cl (.f f) (l++caps) s=some r:=by
     rcases hdisj with ⟨v,s2,h1,_⟩|⟨v,s2,h1,_⟩<;>exact⟨_,h1⟩
    obtain⟨r,hr⟩:=hex
    have hdisj':(∃ v s,r=(.ret v,s)/\k v s=some R)\/(∃ v s,r=(.pan v,s)/\R=(.pan v,s)):=by
     rcases hdisj with ⟨v,s2,h1,h2⟩|⟨v,s2,h1,h2⟩
     ·rw[hr] at h1;cases h1;exact .inl ⟨v,s2,rfl,h2⟩
     ·rw[hr] at h1;cases h1;exact .inr ⟨v,s2,rfl,h2⟩
    have hv2:VRl κ (l++caps) ((ags.map a.eval).toList++cs):=VRl.append.2 ⟨_,_,rfl,hvl,hcs⟩
    have hcall:=hcl.f f (l++caps) s r.1 r.2 hr κ B w _ h.inv hGκ hBw hv2
    have hsem:(execOp a.eval o).run P w=(callFunc f ((ags.map a.eval).toList++cs).toArray).run P w:=by
     unfold execOp
     rw[ho]
     simp only[resolve,hgval,Deferred.ofValue,Sem.run_bind,Sem.run_pure,Result.andThen_ok,invoke]
     congr 2
     apply Array.toList_inj.1
     simp
    rw[hsem]
    rcases hcall with ⟨v,w',hrun,hpost⟩|⟨hrun,hin⟩
    ·rw[hrun]
     exact fin hdisj' hpost
    ·rw[hrun]
     exact⟨hF.depth,(hF.calls hin).mono λen w' hp=>by have:=fin hdisj' hp;cases en<;>exact this⟩
   ·rename_i loc hgv
    rw[hgv] at hg
    simp only[SR,VR] at hg
    obtain⟨b,hb,hgval⟩:=hg
    simp only[cal,cond_true] at hk
    have hdisj:=Q5W hk
    have hex:∃ r,cl (.y loc) l s=some r:=by
     rcases hdisj with ⟨v,s2,h1,_⟩|⟨v,s2,h1,_⟩<;>exact⟨_,h1⟩
    obtain⟨r,hr⟩:=hex
    have hdisj':(∃ v s,r=(.ret v,s)/\k v s=some R)\/(∃ v s,r=(.pan v,s)/\R=(.pan v,s)):=by
     rcases hdisj with ⟨v,s2,h1,h2⟩|⟨v,s2,h1,h2⟩
     ·rw[hr] at h1;cases h1;exact .inl ⟨v,s2,rfl,h2⟩
     ·rw[hr] at h1;cases h1;exact .inr ⟨v,s2,rfl,h2⟩
    obtain⟨fn,t,x,y,hrun,hround⟩:=hcl.y loc l s r.1 r.2 hr κ B w _ b h.inv hGκ hBw hvl hb
    have hsem:(execOp a.eval o).run P w=(Instr.yield b (ags.map a.eval)).run P w:=by
     unfold execOp
     rw[ho]
     simp[resolve,hgval,Deferred.ofValue,invoke]
    rw[hsem]
    rw[Array.toArray_toList] at hrun
    rw[hrun]
    exact⟨hF.depth,(hF.round hround).mono λen w' hp=>by have:=fin hdisj' hp;cases en<;>exact this⟩
   ·cases hk
end
end Go.Am