/- A part of the proof: G1. -/
import Derived.Test.YtobelgghegmhhaaGreatDoorM3
import Derived.KernelRfl
import Derived.Test.YtobelgghegmhhaaGreatDoorProg
set_option linter.unusedVariables false
set_option linter.unusedSimpArgs false
namespace Go.Proofs.YtobelgghegmhhaaGreatDoor
open Go Go.Am
def tF:TI:={ k:=.func,size:=1,bytes:=8,zero:=[.nilf] }
def tP:TI:={ k:=.ptr,size:=1,bytes:=8,zero:=[.nilp] }
def tS(e:Nat):TI:={ k:=.slice e,size:=1,bytes:=24,zero:=[.nils] }
noncomputable def tis:List TI:=[{},tF,{ k:=.int .i64,size:=1,bytes:=8,zero:=[.int .i64 0] },{ k:=.int .i64,size:=1,bytes:=8,zero:=[.int .i64 0] },{ k:=.bool,size:=1,bytes:=1,zero:=[.bool false] },{ k:=.int .u8,size:=1,bytes:=1,zero:=[.int .u8 0] },{ k:=.int .u8,size:=1,bytes:=1,zero:=[.int .u8 0] },{ k:=.struct [(0,2),(1,3),(2,4),(3,6)],size:=4,bytes:=24,zero:=[.int .i64 0,.int .i64 0,.bool false,.int .u8 0] },{ k:=.struct [(0,2),(1,3),(2,4),(3,6)],size:=4,bytes:=24,zero:=[.int .i64 0,.int .i64 0,.bool false,.int .u8 0] },{ k:=.str,size:=1,bytes:=16,zero:=[.str []] },{ k:=.str,size:=1,bytes:=16,zero:=[.str []] },{ k:=.str,size:=1,bytes:=16,zero:=[.str []] },{ k:=.int .u64,size:=1,bytes:=8,zero:=[.int .u64 0] },{ k:=.struct [(0,9),(1,12)],size:=2,bytes:=24,zero:=[.str [],.int .u64 0] },{ k:=.struct [(0,9),(1,12)],size:=2,bytes:=24,zero:=[.str [],.int .u64 0] },tP,tP,tP,{ k:=.struct [(0,17)],size:=1,bytes:=8,zero:=[.nilp] },{ k:=.struct [(0,17)],size:=1,bytes:=8,zero:=[.nilp] },{ k:=.iface,size:=1,bytes:=16,zero:=[.nili] },{ k:=.int .i32,size:=1,bytes:=4,zero:=[.int .i32 0] },{ k:=.int .i64,size:=1,bytes:=8,zero:=[.int .i64 0] },tS 25,{ k:=.struct [(0,22),(1,3),(2,9),(3,23)],size:=4,bytes:=56,zero:=[.int .i64 0,.int .i64 0,.str [],.nils] },{ k:=.struct [(0,22),(1,3),(2,9),(3,23)],size:=4,bytes:=56,zero:=[.int .i64 0,.int .i64 0,.str [],.nils] },tS 3,{ k:=.struct [(0,3),(1,25)],size:=5,bytes:=64,zero:=[.int .i64 0,.int .i64 0,.int .i64 0,.str [],.nils] },{ k:=.struct [(0,3),(1,25)],size:=5,bytes:=64,zero:=[.int .i64 0,.int .i64 0,.int .i64 0,.str [],.nils] },tF,tF,tF,tF,tF,tF,tF,{ k:=.int .i64,size:=1,bytes:=8,zero:=[.int .i64 0] },{},tF,tF,tF,tF,tF,tF,tF,{ k:=.map 3 3,size:=1,bytes:=8,zero:=[.nilm] },tS 4,tF,tF,tF,tF,tF,tF,tF,tF,tF,tF,tF,tF,tF,{ k:=.map 3 25,size:=1,bytes:=8,zero:=[.nilm] },{ k:=.struct [(0,25),(4,25)],size:=8,bytes:=112,zero:=[.int .i64 0,.int .i64 0,.str [],.nils,.int .i64 0,.int .i64 0,.str [],.nils] },{ k:=.struct [(0,25),(4,25)],size:=8,bytes:=112,zero:=[.int .i64 0,.int .i64 0,.str [],.nils,.int .i64 0,.int .i64 0,.str [],.nils] },tS 62,{},tP,{ k:=.struct [(0,28),(5,28),(10,46),(11,23)],size:=12,bytes:=176,zero:=[.int .i64 0,.int .i64 0,.int .i64 0,.str [],.nils,.int .i64 0,.int .i64 0,.int .i64 0,.str [],.nils,.nils,.nils] },{ k:=.struct [(0,28),(5,28),(10,46),(11,23)],size:=12,bytes:=176,zero:=[.int .i64 0,.int .i64 0,.int .i64 0,.str [],.nils,.int .i64 0,.int .i64 0,.int .i64 0,.str [],.nils,.nils,.nils] },tF,{},tF,tF,tF,tS 97,tF,{ k:=.int .i64,size:=1,bytes:=8,zero:=[.int .i64 0] },tS 95,tS 91,tS 93,{ k:=.struct [(0,75),(1,3),(2,9),(3,3),(4,76),(5,77),(6,78)],size:=7,bytes:=112,zero:=[.int .i64 0,.int .i64 0,.str [],.int .i64 0,.nils,.nils,.nils] },{ k:=.struct [(0,75),(1,3),(2,9),(3,3),(4,76),(5,77),(6,78)],size:=7,bytes:=112,zero:=[.int .i64 0,.int .i64 0,.str [],.int .i64 0,.nils,.nils,.nils] },{ k:=.int .i64,size:=1,bytes:=8,zero:=[.int .i64 0] },tS 85,tS 80,{ k:=.struct [(0,81),(1,3),(2,9),(3,3),(4,82),(5,77),(6,83)],size:=7,bytes:=112,zero:=[.int .i64 0,.int .i64 0,.str [],.int .i64 0,.nils,.nils,.nils] },{ k:=.struct [(0,81),(1,3),(2,9),(3,3),(4,82),(5,77),(6,83)],size:=7,bytes:=112,zero:=[.int .i64 0,.int .i64 0,.str [],.int .i64 0,.nils,.nils,.nils] },{ k:=.int .i64,size:=1,bytes:=8,zero:=[.int .i64 0] },tS 89,{ k:=.struct [(0,86),(1,3),(2,9),(3,3),(4,87)],size:=5,bytes:=64,zero:=[.int .i64 0,.int .i64 0,.str [],.int .i64 0,.nils] },{ k:=.struct [(0,86),(1,3),(2,9),(3,3),(4,87)],size:=5,bytes:=64,zero:=[.int .i64 0,.int .i64 0,.str [],.int .i64 0,.nils] },{ k:=.struct [(0,89),(5,85)],size:=12,bytes:=176,zero:=[.int .i64 0,.int .i64 0,.str [],.int .i64 0,.nils,.int .i64 0,.int .i64 0,.str [],.int .i64 0,.nils,.nils,.nils] },{ k:=.struct [(0,89),(5,85)],size:=12,bytes:=176,zero:=[.int .i64 0,.int .i64 0,.str [],.int .i64 0,.nils,.int .i64 0,.int .i64 0,.str [],.int .i64 0,.nils,.nils,.nils] },{ k:=.struct [(0,9),(1,3),(2,91)],size:=14,bytes:=200,zero:=[.str [],.int .i64 0,.int .i64 0,.int .i64 0,.str [],.int .i64 0,.nils,.int .i64 0,.int .i64 0,.str [],.int .i64 0,.nils,.nils,.nils] },{ k:=.struct [(0,9),(1,3),(2,91)],size:=14,bytes:=200,zero:=[.str [],.int .i64 0,.int .i64 0,.int .i64 0,.str [],.int .i64 0,.nils,.int .i64 0,.int .i64 0,.str [],.int .i64 0,.nils,.nils,.nils] },{ k:=.struct [(0,9),(1,3),(2,4),(3,25)],size:=7,bytes:=88,zero:=[.str [],.int .i64 0,.bool false,.int .i64 0,.int .i64 0,.str [],.nils] },{ k:=.struct [(0,9),(1,3),(2,4),(3,25)],size:=7,bytes:=88,zero:=[.str [],.int .i64 0,.bool false,.int .i64 0,.int .i64 0,.str [],.nils] },{ k:=.struct [(0,3),(1,4),(2,3),(3,80),(10,85),(17,89),(22,25),(26,93),(40,95)],size:=47,bytes:=656,zero:=[.int .i64 0,.bool false,.int .i64 0,.int .i64 0,.int .i64 0,.str [],.int .i64 0,.nils,.nils,.nils,.int .i64 0,.int .i64 0,.str [],.int .i64 0,.nils,.nils,.nils,.int .i64 0,.int .i64 0,.str [],.int .i64 0,.nils,.int .i64 0,.int .i64 0,.str [],.nils,.str [],.int .i64 0,.int .i64 0,.int .i64 0,.str [],.int .i64 0,.nils,.int .i64 0,.int .i64 0,.str [],.int .i64 0,.nils,.nils,.nils,.str [],.int .i64 0,.bool false,.int .i64 0,.int .i64 0,.str [],.nils] },{ k:=.struct [(0,3),(1,4),(2,3),(3,80),(10,85),(17,89),(22,25),(26,93),(40,95)],size:=47,bytes:=656,zero:=[.int .i64 0,.bool false,.int .i64 0,.int .i64 0,.int .i64 0,.str [],.int .i64 0,.nils,.nils,.nils,.int .i64 0,.int .i64 0,.str [],.int .i64 0,.nils,.nils,.nils,.int .i64 0,.int .i64 0,.str [],.int .i64 0,.nils,.int .i64 0,.int .i64 0,.str [],.nils,.str [],.int .i64 0,.int .i64 0,.int .i64 0,.str [],.int .i64 0,.nils,.int .i64 0,.int .i64 0,.str [],.int .i64 0,.nils,.nils,.nils,.str [],.int .i64 0,.bool false,.int .i64 0,.int .i64 0,.str [],.nils] },tF,tP,tF,tS 9,tF,tF,tF,tF,{},tF,tF,{},tS 117,{ k:=.struct [(0,36),(1,3),(2,9)],size:=3,bytes:=32,zero:=[.int .i64 0,.int .i64 0,.str []] },{ k:=.struct [(0,36),(1,3),(2,9)],size:=3,bytes:=32,zero:=[.int .i64 0,.int .i64 0,.str []] },{},tF,{ k:=.int .i64,size:=1,bytes:=8,zero:=[.int .i64 0] },{ k:=.struct [(0,115),(1,3),(2,9),(3,3)],size:=4,bytes:=40,zero:=[.int .i64 0,.int .i64 0,.str [],.int .i64 0] },{ k:=.struct [(0,115),(1,3),(2,9),(3,3)],size:=4,bytes:=40,zero:=[.int .i64 0,.int .i64 0,.str [],.int .i64 0] },tP,tS 5,{ k:=.struct [(0,118),(1,119)],size:=2,bytes:=32,zero:=[.nilp,.nils] },{ k:=.struct [(0,118),(1,119)],size:=2,bytes:=32,zero:=[.nilp,.nils] },tF,tF,{ k:=.iface,size:=1,bytes:=16,zero:=[.nili] },{ k:=.iface,size:=1,bytes:=16,zero:=[.nili] },tF,{},tF,tF,tF,tF,tF,tF,tF,tF,{},tF,tF,tF,{},tF,tF,tP,tS 101,{ k:=.int .u64,size:=1,bytes:=8,zero:=[.int .u64 0] },tF,tF,tF,tF,tF,tF,tF,tF,tF,tF,tF,tF,tF,tF,{},tF,tF,tF,tF,tP,tP,tP,tP,tP,tP,{ k:=.struct [(0,165),(1,4),(2,166),(3,167),(4,168),(5,169),(6,170),(7,3)],size:=8,bytes:=64,zero:=[.nilp,.bool false,.nilp,.nilp,.nilp,.nilp,.nilp,.int .i64 0] },{ k:=.struct [(0,165),(1,4),(2,166),(3,167),(4,168),(5,169),(6,170),(7,3)],size:=8,bytes:=64,zero:=[.nilp,.bool false,.nilp,.nilp,.nilp,.nilp,.nilp,.int .i64 0] },tF,tF,{ k:=.struct [(0,174)],size:=1,bytes:=8,zero:=[.nilf] },{ k:=.struct [(0,174)],size:=1,bytes:=8,zero:=[.nilf] },tF,tF,{ k:=.array 24 9,size:=24,bytes:=384,zero:=[.str [],.str [],.str [],.str [],.str [],.str [],.str [],.str [],.str [],.str [],.str [],.str [],.str [],.str [],.str [],.str [],.str [],.str [],.str [],.str [],.str [],.str [],.str [],.str []] },{ k:=.array 19 9,size:=19,bytes:=304,zero:=[.str [],.str [],.str [],.str [],.str [],.str [],.str [],.str [],.str [],.str [],.str [],.str [],.str [],.str [],.str [],.str [],.str [],.str [],.str []] },{ k:=.array 24 5,size:=24,bytes:=24,zero:=[.int .u8 0,.int .u8 0,.int .u8 0,.int .u8 0,.int .u8 0,.int .u8 0,.int .u8 0,.int .u8 0,.int .u8 0,.int .u8 0,.int .u8 0,.int .u8 0,.int .u8 0,.int .u8 0,.int .u8 0,.int .u8 0,.int .u8 0,.int .u8 0,.int .u8 0,.int .u8 0,.int .u8 0,.int .u8 0,.int .u8 0,.int .u8 0] },tF,tF,{},tF,tF,tF,tF,tF,tF,tF,tF,{ k:=.array 20 145,size:=20,bytes:=160,zero:=[.int .u64 0,.int .u64 0,.int .u64 0,.int .u64 0,.int .u64 0,.int .u64 0,.int .u64 0,.int .u64 0,.int .u64 0,.int .u64 0,.int .u64 0,.int .u64 0,.int .u64 0,.int .u64 0,.int .u64 0,.int .u64 0,.int .u64 0,.int .u64 0,.int .u64 0,.int .u64 0] },{ k:=.int .u32,size:=1,bytes:=4,zero:=[.int .u32 0] },{ k:=.array 65 5,size:=65,bytes:=65,zero:=[.int .u8 0,.int .u8 0,.int .u8 0,.int .u8 0,.int .u8 0,.int .u8 0,.int .u8 0,.int .u8 0,.int .u8 0,.int .u8 0,.int .u8 0,.int .u8 0,.int .u8 0,.int .u8 0,.int .u8 0,.int .u8 0,.int .u8 0,.int .u8 0,.int .u8 0,.int .u8 0,.int .u8 0,.int .u8 0,.int .u8 0,.int .u8 0,.int .u8 0,.int .u8 0,.int .u8 0,.int .u8 0,.int .u8 0,.int .u8 0,.int .u8 0,.int .u8 0,.int .u8 0,.int .u8 0,.int .u8 0,.int .u8 0,.int .u8 0,.int .u8 0,.int .u8 0,.int .u8 0,.int .u8 0,.int .u8 0,.int .u8 0,.int .u8 0,.int .u8 0,.int .u8 0,.int .u8 0,.int .u8 0,.int .u8 0,.int .u8 0,.int .u8 0,.int .u8 0,.int .u8 0,.int .u8 0,.int .u8 0,.int .u8 0,.int .u8 0,.int .u8 0,.int .u8 0,.int .u8 0,.int .u8 0,.int .u8 0,.int .u8 0,.int .u8 0,.int .u8 0] },tF,{ k:=.int .u64,size:=1,bytes:=8,zero:=[.int .u64 0] },tF,{ k:=.struct [(0,4),(1,4),(2,4),(3,4),(4,3),(5,3)],size:=6,bytes:=24,zero:=[.bool false,.bool false,.bool false,.bool false,.int .i64 0,.int .i64 0] },{ k:=.struct [(0,4),(1,4),(2,4),(3,4),(4,3),(5,3)],size:=6,bytes:=24,zero:=[.bool false,.bool false,.bool false,.bool false,.int .i64 0,.int .i64 0] },{},tF,tF,tF,{ k:=.array 32 5,size:=32,bytes:=32,zero:=[.int .u8 0,.int .u8 0,.int .u8 0,.int .u8 0,.int .u8 0,.int .u8 0,.int .u8 0,.int .u8 0,.int .u8 0,.int .u8 0,.int .u8 0,.int .u8 0,.int .u8 0,.int .u8 0,.int .u8 0,.int .u8 0,.int .u8 0,.int .u8 0,.int .u8 0,.int .u8 0,.int .u8 0,.int .u8 0,.int .u8 0,.int .u8 0,.int .u8 0,.int .u8 0,.int .u8 0,.int .u8 0,.int .u8 0,.int .u8 0,.int .u8 0,.int .u8 0] },{ k:=.array 64 5,size:=64,bytes:=64,zero:=[.int .u8 0,.int .u8 0,.int .u8 0,.int .u8 0,.int .u8 0,.int .u8 0,.int .u8 0,.int .u8 0,.int .u8 0,.int .u8 0,.int .u8 0,.int .u8 0,.int .u8 0,.int .u8 0,.int .u8 0,.int .u8 0,.int .u8 0,.int .u8 0,.int .u8 0,.int .u8 0,.int .u8 0,.int .u8 0,.int .u8 0,.int .u8 0,.int .u8 0,.int .u8 0,.int .u8 0,.int .u8 0,.int .u8 0,.int .u8 0,.int .u8 0,.int .u8 0,.int .u8 0,.int .u8 0,.int .u8 0,.int .u8 0,.int .u8 0,.int .u8 0,.int .u8 0,.int .u8 0,.int .u8 0,.int .u8 0,.int .u8 0,.int .u8 0,.int .u8 0,.int .u8 0,.int .u8 0,.int .u8 0,.int .u8 0,.int .u8 0,.int .u8 0,.int .u8 0,.int .u8 0,.int .u8 0,.int .u8 0,.int .u8 0,.int .u8 0,.int .u8 0,.int .u8 0,.int .u8 0,.int .u8 0,.int .u8 0,.int .u8 0,.int .u8 0] },{},tF,{ k:=.struct [(0,17),(1,17),(2,17),(3,9)],size:=4,bytes:=40,zero:=[.nilp,.nilp,.nilp,.str []] },{ k:=.struct [(0,17),(1,17),(2,17),(3,9)],size:=4,bytes:=40,zero:=[.nilp,.nilp,.nilp,.str []] },{ k:=.array 0 16,size:=0,bytes:=0,zero:=[] },{ k:=.struct [(0,211)],size:=0,bytes:=0,zero:=[] },{ k:=.struct [(0,211)],size:=0,bytes:=0,zero:=[] },{ k:=.int .u8,size:=1,bytes:=1,zero:=[.int .u8 0] },{ k:=.int .u8,size:=1,bytes:=1,zero:=[.int .u8 0] },tF,{ k:=.int .i32,size:=1,bytes:=4,zero:=[.int .i32 0] },{ k:=.int .i32,size:=1,bytes:=4,zero:=[.int .i32 0] },{ k:=.struct [(0,12),(1,12),(2,194),(3,214),(4,5),(5,5),(6,215),(7,216),(8,143),(9,217),(10,218)],size:=11,bytes:=48,zero:=[.int .u64 0,.int .u64 0,.int .u32 0,.int .u8 0,.int .u8 0,.int .u8 0,.int .u8 0,.nilf,.nilp,.int .i32 0,.int .i32 0] },{ k:=.struct [(0,12),(1,12),(2,194),(3,214),(4,5),(5,5),(6,215),(7,216),(8,143),(9,217),(10,218)],size:=11,bytes:=48,zero:=[.int .u64 0,.int .u64 0,.int .u32 0,.int .u8 0,.int .u8 0,.int .u8 0,.int .u8 0,.nilf,.nilp,.int .i32 0,.int .i32 0] },tF]
noncomputable def modes:List (Nat × Nat × AMode):=[(10,5,.loc),(15,1,.con),(20,25,.loc),(20,143,.loc),(21,17,.loc),(21,28,.loc),(21,38,.loc),(28,3,.loc),(28,4,.loc),(31,3,.con),(31,5,.loc),(38,3,.loc),(46,3,.con),(57,4,.loc),(57,5,.loc),(64,3,.con),(65,3,.tl),(66,2,.con),(97,1,.con),(103,2,.con),(108,4,.loc),(109,1,.con),(126,3,.con),(126,5,.loc)]
noncomputable def keeps:List (Nat × Nat × List Nat):=[(6,9,[2,7,41,42]),(8,3,[1,2,7,8]),(10,7,[1,2,4,5,6,16,17,18]),(10,10,[1,2,4,5,6,8,16,17,18,23,24,25]),(12,7,[1,2,4,5,6,17,18]),(12,14,[1,2,4,5,6,8,39,40]),(18,5,[1,2,4,19,20]),(20,6,[2,3,5,6]),(20,21,[2,3,5,6,7,124,125]),(21,6,[2,3,5,19,20]),(24,4,[1,3,9,10]),(35,5,[3,4,5]),(36,3,[0,1,7,8]),(37,4,[1,2,4,12,13]),(37,12,[1,2,4,6,30,31]),(40,4,[4,5,10,11,12]),(43,15,[1,2,6,73,74]),(47,4,[3,7,8,9]),(48,6,[1,2,5,25,26]),(49,9,[1,2,4,5,25,26]),(50,5,[2,3,5]),(52,12,[0,4,5,113,114]),(53,6,[1,2,3,23,24]),(58,3,[0,1,7,8]),(59,6,[2,4,5,23,24,25]),(61,4,[3,4]),(62,4,[1,2,5,6]),(63,3,[0,1,5]),(65,4,[0,3,6,7,8]),(67,5,[2,3,9,10,11]),(72,3,[0,1,7,8]),(73,6,[1,4,5,23,24,25]),(75,5,[1,2,15,16,17]),(80,7,[0,3,4,5,6]),(89,4,[0,2,7,9,10]),(95,7,[0,3,4]),(102,3,[0,1,5]),(104,3,[0,1,7,8]),(106,4,[0,3,9,10,11]),(106,12,[6,25,26,27]),(108,7,[4]),(111,4,[3,7,8,9]),(112,5,[0,5]),(113,3,[0,1,5]),(116,3,[1,2,6]),(118,6,[0,1,6,22,23]),(122,3,[0,3]),(126,4,[3,5]),(129,5,[1,2,20,21]),(150,3,[0,3])]
noncomputable def cuts:List (Nat × Nat × List Nat):=[(37,9,[1,2,4]),(43,20,[1,2,6,7,73,74]),(43,23,[1,2,6,7,73,74]),(52,6,[0,4,5]),(64,18,[2,3,5,52,87]),(64,25,[2,3,6]),(66,15,[1,5,6]),(76,7,[5,6]),(80,23,[3,4,5]),(95,5,[0,3]),(99,7,[4,5]),(103,21,[2,4]),(127,17,[1,2,3,4]),(138,14,[1,3,5,7,8]),(142,16,[1,3,4,5,6]),(143,18,[1,3,4,5,56,61]),(143,24,[3,4,5]),(153,33,[2,3]),(153,35,[2,3]),(153,37,[2,3])]
noncomputable def rankl:List (Nat × Nat × List Nat):=[(21,7,[0,1,2,3,4,5,6,7,11,12,8,9,10]),(57,4,[0,2,1,3]),(80,7,[0,1,2,3,4,5,6,7,8,9,10,11,12,13,14,15,16,17,18,21,19,20,22]),(80,23,[1,0,2]),(80,24,[0,2,1,3]),(127,3,[0,1,2,3,4,6,7,8,9,10,5,11]),(127,5,[0,1,3,4,5,6,7,2,8]),(127,11,[0,1,2,3,4,6,7,8,9,10,5,11]),(127,13,[0,1,2,3,4,6,7,8,9,10,5,11]),(127,15,[0,1,2,3,4,6,7,8,9,10,5,11]),(138,2,[0,1,2,3,4,5,6,7,8,9,10,23,11,12,13,14,15,16,25,26,27,28,29,30,17,18,19,20,21,32,22,24,31,33])]
noncomputable def drawl:List (Nat × Nat × Bool × List (Option Nat)):=[(3,4,false,[some 7,some 3,none,none,none,none,some 5,none,some 5,none,none,none,none,some 5,none,some 5,none,none,none,none,some 7,none,some 7,none,none,none,none,none,none,none]),(5,3,false,[some 2,some 3,none,some 2,some 3,none,none,none,some 2,some 3,none,some 2,some 3,none,none,none,none,none,none,none]),(6,4,false,[none,none,none,some 2,some 5,none,none,none,none]),(7,3,false,[some 3,some 3,none,some 3,none,none,none,some 3,some 4,none,some 4,some 3,none,none,none]),(9,5,false,[some 1,none,none,none,some 2,some 3,none,none,none,some 3,some 2,none,none,none,none,none,none,none,none,some 4,none,none,none,none,none,none]),(20,22,false,[none,none,none,some 7,none,none,none,none,none,some 7,none,none,none,none,none,none,none]),(21,7,false,[none,none,none,none,none,none,none,none,none,some 100000,none,none,some 100001]),(24,5,false,[none,none,none,none,none,some 1,none]),(37,5,false,[none,none,none,none,none,some 2,none]),(37,13,false,[none,some 6,none,some 2,none,none,none,none,none,none,none,none,some 6]),(39,3,true,[none,none,none,none,none,none,none,none,none,none,none,none,none,none,none,none,none,some 3]),(40,5,false,[none,some 5,some 7,none,none,none,none,some 5]),(43,9,true,[none,some 2,none,none,none,none,none,none,some 2,none,none,none,none,none,none]),(43,11,false,[none,some 2,none,none,none,none,none,none,some 2,none,none]),(49,10,false,[none,some 5,none,some 2,none,none,none,none,none,none,none,none,some 5]),(50,6,false,[none,some 2,none,none,none,none,some 3,none,none,none,none,none]),(52,1,false,[none,some 4,none,none,none,some 4,none,none,none,none,none,none,none]),(52,2,false,[none,none,none,none,none,some 4,none,none,none]),(52,3,false,[none,none,none,none,none,some 4,none,none]),(52,4,false,[none,none,none,none,none,some 4,some 5,none,none]),(52,5,false,[none,none,none,none,none,some 4,none,none,some 5,none,none]),(52,7,false,[none,some 5,none,none,none,some 5,none,none,none,none,none,none,none,none,none,some 5,none,none,none,none,none,none,none,some 4,none,none,none,none,none,none,none,none,none]),(52,13,false,[none,none,some 4,none,none,none,none,some 5,none,none,none,none,none]),(57,4,false,[some 6,none,some 2,none]),(59,7,false,[none,some 5,none,some 7,none,none,none,none,some 5]),(64,12,false,[none,some 8,none,none,none,none,none,none,none,none,none,none,none,none,none,none,none,none,none,none,none,some 2,none,none,none,none,none,none,none]),(65,5,true,[none,none,none,none,none,none,none,none,none,none,none,none,none,none,none,none,none,none,none,none]),(66,3,true,[none,none,none,none,none,none,none,none,none,none,none,none,none]),(66,7,true,[none,none,none,none,none,none,none,none,none,none,none,none,none,none,none,none]),(66,13,true,[none,none,none,none,none,none,none,none,none,none,none,none]),(67,6,false,[none,some 3,some 5,none,none,none,none,some 3]),(73,7,false,[none,some 5,some 7,none,none,none,none,none,some 5]),(80,7,false,[none,none,none,none,none,none,none,none,none,none,none,none,none,none,none,none,none,none,none,none,none,some 8,none]),(80,23,false,[some 5,none,some 3]),(80,24,false,[none,some 5,none,some 3]),(122,4,false,[none,none,none,none,none]),(127,3,true,[none,some 1,none,none,none,none,some 1,none,none,none,none,none]),(127,5,true,[some 1,none,none,some 1,none,none,none,none,none]),(127,11,true,[none,some 1,none,none,none,none,some 1,none,none,none,none,none]),(127,13,true,[none,some 1,none,none,none,none,some 1,none,none,none,none,none]),(127,15,true,[none,some 1,none,none,none,none,some 1,none,none,none,none,none]),(129,1,false,[none,some 2,none,none,none,none,none,none,none,none]),(129,6,false,[some 2,none,none,none,none,none,none,none,none]),(138,2,false,[none,none,none,none,none,none,none,none,none,none,none,none,none,none,none,none,none,none,none,none,none,none,none,none,none,none,none,none,none,none,none,none,none,none])]
noncomputable def frzs:List (Nat × Nat × List Nat):=[]
noncomputable def codes:List (Nat × Func):=[(3,Tryz.f3),(4,Tryz.f4),(5,Tryz.f5),(6,Tryz.f6),(7,Tryz.f7),(8,Tryz.f8),(9,Tryz.f9),(10,Tryz.f10),(11,Tryz.f11),(12,Tryz.f12),(13,Tryz.f13),(14,Tryz.f14),(15,Tryz.f15),(16,Tryz.f16),(17,Tryz.f17),(18,Tryz.f18),(19,Tryz.f19),(20,Tryz.f20),(21,Tryz.f21),(22,Tryz.f22),(23,Tryz.f23),(24,Tryz.f24),(25,Tryz.f25),(26,Tryz.f26),(27,Tryz.f27),(28,Tryz.f28),(29,Tryz.f29),(30,Tryz.f30),(31,Tryz.f31),(32,Tryz.f32),(33,Tryz.f33),(34,Tryz.f34),(35,Tryz.f35),(36,Tryz.f36),(37,Tryz.f37),(38,Tryz.f38),(39,Tryz.f39),(40,Tryz.f40),(41,Tryz.f41),(42,Tryz.f42),(43,Tryz.f43),(44,Tryz.f44),(45,Tryz.f45),(46,Tryz.f46),(47,Tryz.f47),(48,Tryz.f48),(49,Tryz.f49),(50,Tryz.f50),(51,Tryz.f51),(52,Tryz.f52),(53,Tryz.f53),(54,Tryz.f54),(55,Tryz.f55),(56,Tryz.f56),(57,Tryz.f57),(58,Tryz.f58),(59,Tryz.f59),(60,Tryz.f60),(61,Tryz.f61),(62,Tryz.f62),(63,Tryz.f63),(64,Tryz.f64),(65,Tryz.f65),(66,Tryz.f66),(67,Tryz.f67),(68,Tryz.f68),(69,Tryz.f69),(70,Tryz.f70),(71,Tryz.f71),(72,Tryz.f72),(73,Tryz.f73),(74,Tryz.f74),(75,Tryz.f75),(76,Tryz.f76),(77,Tryz.f77),(78,Tryz.f78),(79,Tryz.f79),(80,Tryz.f80),(81,Tryz.f81),(82,Tryz.f82),(83,Tryz.f83),(84,Tryz.f84),(85,Tryz.f85),(87,Tryz.f87),(88,Tryz.f88),(89,Tryz.f89),(90,Tryz.f90),(91,Tryz.f91),(92,Tryz.f92),(93,Tryz.f93),(95,Tryz.f95),(96,Tryz.f96),(97,Tryz.f97),(98,Tryz.f98),(99,Tryz.f99),(101,Tryz.f101),(102,Tryz.f102),(103,Tryz.f103),(104,Tryz.f104),(106,Tryz.f106),(108,Tryz.f108),(109,Tryz.f109),(110,Tryz.f110),(111,Tryz.f111),(112,Tryz.f112),(113,Tryz.f113),(114,Tryz.f114),(116,Tryz.f116),(117,Tryz.f117),(118,Tryz.f118),(119,Tryz.f119),(120,Tryz.f120),(121,Tryz.f121),(122,Tryz.f122),(126,Tryz.f126),(127,Tryz.f127),(128,Tryz.f128),(129,Tryz.f129),(130,Tryz.f130),(131,Tryz.f131),(137,Tryz.f137),(138,Tryz.f138),(139,Tryz.f139),(140,Tryz.f140),(141,Tryz.f141),(142,Tryz.f142),(143,Tryz.f143),(149,Tryz.f149),(150,Tryz.f150),(152,Tryz.f152),(153,Tryz.f153),(154,Tryz.f154),(155,Tryz.f155),(158,Tryz.f158)]
noncomputable def exts:List (Nat × (List AV->St->Option (Slot × St))):=[(86,extBString 5),(94,pureX extItoa),(100,pureX extIndexByte),(105,extCopyCheck 121),(124,extGrow 9 (tis.getD 9 {})),(151,pureX extContains)]
def glob0:List AV:=[.str [97,110,100],.str [97,110,100,97,108,115,111],.str [97,115],.str [99,97,115,101],.str [100,97,116,97,116,121,112,101],.str [100,105,118],.str [101,108,115,101],.str [101,110,100],.str [101,120,99,101,112,116,105,111,110],.str [102,110],.str [102,117,110],.str [104,97,110,100,108,101],.str [105,102],.str [105,110],.str [108,101,116],.str [109,111,100],.str [111,102],.str [111,114,101,108,115,101],.str [112,114,105,110,116],.str [114,97,105,115,101],.str [114,101,97,100],.str [114,101,102],.str [116,104,101,110],.str [118,97,108]]
def glob1:List AV:=[.str [33],.str [40],.str [41],.str [42],.str [43],.str [44],.str [45],.str [45,62],.str [58],.str [58,61],.str [59],.str [60],.str [60,61],.str [60,62],.str [61],.str [61,62],.str [95],.str [124],.str [126]]
noncomputable def C:Cfg where
 ti t:=tis.getD t {}
 mode f d:=findMode f d modes
 keep f r:=findKeep f r keeps
 cut f r:=findCut f r cuts
 draws f r:=findDraw f r drawl
 ranks f r:=findKeep f r rankl
 frz f r:=findKeep f r frzs
 glob g:=bif Nat.beq g 0 then some glob0 else bif Nat.beq g 1 then some glob1 else none
 ints:=[2]
 ext f:=findExt f exts
 code f:=findCode f codes
 tabs:=[(3,(Go.Lib.pow10Tab.map λz=>Value.int .u64 z).toArray)]
noncomputable abbrev cw:CallFn:=callw C
def Q8b:List UInt8:=[32,97,110,100,32,97,110,100,97,108,115,111,32,97,115,32,99,97,115,101,32,100,97,116,97,116,121,112,101,32,100,105,118,32,101,108,115,101,32,101,110,100,32,101,120,99,101,112,116,105,111,110,32,102,110,32,102,117,110,32,104,97,110,100,108,101,32,105,102,32,105,110,32,108,101,116,32,109,111,100,32,111,102,32,111,114,101,108,115,101,32,112,114,105,110,116,32,114,97,105,115,101,32,114,101,97,100,32,114,101,102,32,116,104,101,110,32,118,97,108,32,116,114,117,101,32,102,97,108,115,101,32,95,32]
abbrev T_0:Nat:=0
abbrev Q1:Nat:=3
abbrev Qd:Nat:=4
abbrev Qb:Nat:=5
abbrev Q0:Nat:=9
abbrev Q0y:Nat:=21
abbrev Qa:Nat:=22
abbrev Q8:Nat:=23
abbrev Q2:Nat:=25
abbrev ZW:Nat:=26
abbrev Q6:Nat:=28
abbrev QE:Nat:=36
abbrev QN:Nat:=40
abbrev Qo:Nat:=44
abbrev Qm:Nat:=45
abbrev ZA:Nat:=46
abbrev Qv:Nat:=62
abbrev Q0m:Nat:=63
abbrev Q1j:Nat:=67
abbrev Qk:Nat:=72
abbrev Zi:Nat:=73
abbrev QH:Nat:=75
abbrev Q0w:Nat:=76
abbrev Z6:Nat:=77
abbrev Q2J:Nat:=78
abbrev Q4:Nat:=81
abbrev Zu:Nat:=82
abbrev Q0x:Nat:=83
abbrev Q5a:Nat:=85
abbrev QL:Nat:=86
abbrev Za:Nat:=87
abbrev ZK:Nat:=89
abbrev Q59:Nat:=95
abbrev Qz:Nat:=97
abbrev Q1y:Nat:=99
abbrev Qu:Nat:=101
abbrev Q1z:Nat:=110
abbrev Qc:Nat:=112
abbrev Zo:Nat:=115
abbrev Qg:Nat:=117
abbrev QR:Nat:=119
abbrev QX:Nat:=121
abbrev Q0l:Nat:=144
abbrev Q1w:Nat:=165
abbrev Q12:Nat:=166
abbrev Q0v:Nat:=167
abbrev Q1x:Nat:=168
abbrev Q13:Nat:=169
abbrev Q3N:Nat:=170
abbrev QZ:Nat:=172
abbrev QA:Nat:=174
abbrev Q1k:Nat:=176
abbrev Q7:Nat:=200
abbrev Qgr:Nat:=3
abbrev Qf9:Nat:=4
abbrev Q1f:Nat:=5
abbrev Qe7:Nat:=6
abbrev Qf4:Nat:=7
abbrev Q1G:Nat:=8
abbrev Q1R:Nat:=9
abbrev Q1I:Nat:=10
abbrev QiE:Nat:=11
abbrev Qm8:Nat:=12
abbrev ZT:Nat:=13
abbrev Q1U:Nat:=14
abbrev Q1W:Nat:=15
abbrev Qjd:Nat:=16
abbrev Q3b:Nat:=17
abbrev Qjc:Nat:=18
abbrev Q2e:Nat:=19
abbrev Z5:Nat:=20
abbrev Q0s:Nat:=21
abbrev Q3c:Nat:=22
abbrev Q3L:Nat:=23
abbrev Qj9:Nat:=24
abbrev Q04:Nat:=25
abbrev Q1T:Nat:=26
abbrev Q0K:Nat:=27
abbrev Q2p:Nat:=28
abbrev Q5Q:Nat:=29
abbrev Zz:Nat:=30
abbrev Q0L:Nat:=31
abbrev Q1V:Nat:=32
abbrev ZF:Nat:=33
abbrev Q3a:Nat:=34
abbrev Qjb:Nat:=35
abbrev Ql8:Nat:=36
abbrev QhI:Nat:=37
abbrev Q2U:Nat:=38
abbrev Q1d:Nat:=39
abbrev Q6P:Nat:=40
abbrev Q0M:Nat:=41
abbrev Q3d:Nat:=42
abbrev Qjf:Nat:=43
abbrev Qn:Nat:=44
abbrev Zs:Nat:=45
abbrev Q7z:Nat:=46
abbrev Q22:Nat:=47
abbrev Qje:Nat:=48
abbrev Ql7:Nat:=49
abbrev Q0r:Nat:=50
abbrev Q21:Nat:=51
abbrev Zg:Nat:=52
abbrev Q0T:Nat:=53
abbrev Q2q:Nat:=54
abbrev Q5R:Nat:=55
abbrev ZV:Nat:=56
abbrev Q56:Nat:=57
abbrev Zd:Nat:=58
abbrev Zm:Nat:=59
abbrev Q3J:Nat:=60
abbrev Q1u:Nat:=61
abbrev Zl:Nat:=62
abbrev QiF:Nat:=63
abbrev Q10:Nat:=64
abbrev Q2V:Nat:=65
abbrev ZJ:Nat:=66
abbrev Q2I:Nat:=67
abbrev Z0:Nat:=68
abbrev Q3v:Nat:=69
abbrev Ql6:Nat:=70
abbrev Qm9:Nat:=71
abbrev QK:Nat:=72
abbrev Q11:Nat:=73
abbrev Q57:Nat:=74
abbrev QM:Nat:=75
abbrev Q3w:Nat:=76
abbrev Q7A:Nat:=77
abbrev Q3M:Nat:=78
abbrev Q3K:Nat:=79
abbrev Q2a:Nat:=80
abbrev Q01:Nat:=81
abbrev Qf:Nat:=82
abbrev Q0k:Nat:=83
abbrev Zn:Nat:=84
abbrev QQ:Nat:=85
abbrev ZX:Nat:=86
abbrev Q2f:Nat:=87
abbrev Q05:Nat:=88
abbrev Q0t:Nat:=89
abbrev Q1g:Nat:=90
abbrev Q45:Nat:=91
abbrev Q1h:Nat:=92
abbrev Qy:Nat:=93
abbrev Q2G:Nat:=94
abbrev Qja:Nat:=95
abbrev QiG:Nat:=96
abbrev Q2g:Nat:=97
abbrev Q4t:Nat:=98
abbrev Q2d:Nat:=99
abbrev Q1b:Nat:=100
abbrev Q1a:Nat:=101
abbrev Q2c:Nat:=102
abbrev Q44:Nat:=103
abbrev QP:Nat:=104
abbrev QW:Nat:=105
abbrev QG:Nat:=106
abbrev Q2k:Nat:=108
abbrev Q2H:Nat:=109
abbrev Q1D:Nat:=110
abbrev ZU:Nat:=111
abbrev Q1t:Nat:=112
abbrev Q1S:Nat:=113
abbrev Q39:Nat:=114
abbrev Q0j:Nat:=116
abbrev Q0i:Nat:=117
abbrev Q2b:Nat:=118
abbrev Q1H:Nat:=119
abbrev ZL:Nat:=120
abbrev Q4s:Nat:=121
abbrev Q3u:Nat:=122
abbrev Zh:Nat:=124
abbrev Q2h:Nat:=126
abbrev Q07:Nat:=127
abbrev Q1Y:Nat:=128
abbrev Z7:Nat:=129
abbrev Q2F:Nat:=130
abbrev Q3I:Nat:=131
abbrev Q1E:Nat:=137
abbrev Zt:Nat:=138
abbrev Q0N:Nat:=139
abbrev Q2n:Nat:=140
abbrev Q2o:Nat:=141
abbrev Q1e:Nat:=142
abbrev Q0u:Nat:=143
abbrev Q2m:Nat:=149
abbrev Q2l:Nat:=150
abbrev Q1i:Nat:=151
abbrev Q1v:Nat:=152
abbrev Q0U:Nat:=153
abbrev Q06:Nat:=154
abbrev Q2j:Nat:=155
abbrev Q2i:Nat:=158
@[go_sem] theorem Q3x:(C.ti Q1).size=1:=by kernel_rfl
@[go_sem] theorem Q1A:(C.ti Q1).k = .int .i64:=by kernel_rfl
@[go_sem] theorem Q9U:(C.ti Q1).isAgg=false:=by kernel_rfl
@[go_sem] theorem Q8e:(C.ti Q1).isGood=true:=by kernel_rfl
@[go_sem] theorem QcX:(C.ti Q1).bytes=8:=by kernel_rfl
@[go_sem] theorem Q8f:(C.ti Q1).zero=[.int .i64 0]:=by kernel_rfl
@[go_sem] theorem Q14:(C.ti Qd).size=1:=by kernel_rfl
@[go_sem] theorem Qpv:(C.ti Qd).k = .bool:=by kernel_rfl
@[go_sem] theorem Qmu:(C.ti Qd).isAgg=false:=by kernel_rfl
@[go_sem] theorem Qlz:(C.ti Qd).isGood=true:=by kernel_rfl
@[go_sem] theorem Qbw:(C.ti Qd).bytes=1:=by kernel_rfl
@[go_sem] theorem QlA:(C.ti Qd).zero=[.bool false]:=by kernel_rfl
@[go_sem] theorem Qka:(C.ti Qb).size=1:=by kernel_rfl
@[go_sem] theorem Qfe:(C.ti Qb).k = .int .u8:=by kernel_rfl
@[go_sem] theorem QlG:(C.ti Qb).isAgg=false:=by kernel_rfl
@[go_sem] theorem Qk9:(C.ti Qb).isGood=true:=by kernel_rfl
@[go_sem] theorem Qkb:(C.ti Qb).zero=[.int .u8 0]:=by kernel_rfl
@[go_sem] theorem Q5z:(C.ti Q0).size=1:=by kernel_rfl
@[go_sem] theorem Qi:(C.ti Q0).k = .str:=by kernel_rfl
@[go_sem] theorem Qk5:(C.ti Q0).isAgg=false:=by kernel_rfl
@[go_sem] theorem Qj4:(C.ti Q0).isGood=true:=by kernel_rfl
@[go_sem] theorem Qj5:(C.ti Q0).zero=[.str []]:=by kernel_rfl
@[go_sem] theorem Qk3:(C.ti Q0y).size=1:=by kernel_rfl
@[go_sem] theorem QoK:(C.ti Q0y).k = .int .i32:=by kernel_rfl
@[go_sem] theorem QlB:(C.ti Q0y).isAgg=false:=by kernel_rfl
@[go_sem] theorem Qk2:(C.ti Q0y).isGood=true:=by kernel_rfl
@[go_sem] theorem Qk4:(C.ti Q0y).zero=[.int .i32 0]:=by kernel_rfl
@[go_sem] theorem Qj1:(C.ti Qa).size=1:=by kernel_rfl
@[go_sem] theorem Qe9:(C.ti Qa).k = .int .i64:=by kernel_rfl
@[go_sem] theorem Qk1:(C.ti Qa).isAgg=false:=by kernel_rfl
@[go_sem] theorem Qj0:(C.ti Qa).isGood=true:=by kernel_rfl
@[go_sem] theorem Qj2:(C.ti Qa).zero=[.int .i64 0]:=by kernel_rfl
@[go_sem] theorem Qlu:(C.ti Q8).size=1:=by kernel_rfl
@[go_sem] theorem Qgv:(C.ti Q8).k = .slice 25:=by kernel_rfl
@[go_sem] theorem Qmp:(C.ti Q8).isAgg=false:=by kernel_rfl
@[go_sem] theorem Qlt:(C.ti Q8).isGood=true:=by kernel_rfl
@[go_sem] theorem Qlv:(C.ti Q8).zero=[.nils]:=by kernel_rfl
@[go_sem] theorem ZM:(C.ti Q2).size=4:=by kernel_rfl
@[go_sem] theorem Qfc:(C.ti Q2).k = .struct [(0,22),(1,3),(2,9),(3,23)]:=by kernel_rfl
@[go_sem] theorem Qbv:(C.ti Q2).isAgg=true:=by kernel_rfl
@[go_sem] theorem Qfb:(C.ti Q2).isGood=true:=by kernel_rfl
@[go_sem] theorem Q8d:(C.ti Q2).bytes=56:=by kernel_rfl
@[go_sem] theorem Qfd:(C.ti Q2).zero=[.int .i64 0,.int .i64 0,.str [],.nils]:=by kernel_rfl
@[go_sem] theorem QjW:(C.ti ZW).size=1:=by kernel_rfl
@[go_sem] theorem QoH:(C.ti ZW).k = .slice 3:=by kernel_rfl
@[go_sem] theorem Qlw:(C.ti ZW).isAgg=false:=by kernel_rfl
@[go_sem] theorem QjV:(C.ti ZW).isGood=true:=by kernel_rfl
@[go_sem] theorem QjX:(C.ti ZW).zero=[.nils]:=by kernel_rfl
@[go_sem] theorem QiX:(C.ti Q6).size=5:=by kernel_rfl
@[go_sem] theorem Qmr:(C.ti Q6).k = .struct [(0,3),(1,25)]:=by kernel_rfl
@[go_sem] theorem Qk0:(C.ti Q6).isAgg=true:=by kernel_rfl
@[go_sem] theorem QiW:(C.ti Q6).isGood=true:=by kernel_rfl
@[go_sem] theorem QiY:(C.ti Q6).zero=[.int .i64 0,.int .i64 0,.int .i64 0,.str [],.nils]:=by kernel_rfl
@[go_sem] theorem Qjh:(C.ti QE).size=1:=by kernel_rfl
@[go_sem] theorem Qos:(C.ti QE).k = .int .i64:=by kernel_rfl
@[go_sem] theorem Qlb:(C.ti QE).isAgg=false:=by kernel_rfl
@[go_sem] theorem Qjg:(C.ti QE).isGood=true:=by kernel_rfl
@[go_sem] theorem Qji:(C.ti QE).zero=[.int .i64 0]:=by kernel_rfl
@[go_sem] theorem QbA:(C.ti QN).size=1:=by kernel_rfl
@[go_sem] theorem QdE:(C.ti QN).k = .func:=by kernel_rfl
@[go_sem] theorem QcV:(C.ti QN).isAgg=false:=by kernel_rfl
@[go_sem] theorem Qbz:(C.ti QN).isGood=true:=by kernel_rfl
@[go_sem] theorem QbB:(C.ti QN).zero=[.nilf]:=by kernel_rfl
@[go_sem] theorem Qbp:(C.ti Qo).size=1:=by kernel_rfl
@[go_sem] theorem QcY:(C.ti Qo).k = .func:=by kernel_rfl
@[go_sem] theorem Qby:(C.ti Qo).isAgg=false:=by kernel_rfl
@[go_sem] theorem Qbo:(C.ti Qo).isGood=true:=by kernel_rfl
@[go_sem] theorem Qbq:(C.ti Qo).zero=[.nilf]:=by kernel_rfl
@[go_sem] theorem Qec:(C.ti Qm).size=1:=by kernel_rfl
@[go_sem] theorem Qgq:(C.ti Qm).k = .map 3 3:=by kernel_rfl
@[go_sem] theorem Qf8:(C.ti Qm).isAgg=false:=by kernel_rfl
@[go_sem] theorem Qeb:(C.ti Qm).isGood=true:=by kernel_rfl
@[go_sem] theorem Qed:(C.ti Qm).zero=[.nilm]:=by kernel_rfl
@[go_sem] theorem QiQ:(C.ti ZA).size=1:=by kernel_rfl
@[go_sem] theorem Qmq:(C.ti ZA).k = .slice 4:=by kernel_rfl
@[go_sem] theorem QjU:(C.ti ZA).isAgg=false:=by kernel_rfl
@[go_sem] theorem QiP:(C.ti ZA).isGood=true:=by kernel_rfl
@[go_sem] theorem QiR:(C.ti ZA).zero=[.nils]:=by kernel_rfl
@[go_sem] theorem Q15:(C.ti Qv).size=8:=by kernel_rfl
@[go_sem] theorem Qpw:(C.ti Qv).k = .struct [(0,25),(4,25)]:=by kernel_rfl
@[go_sem] theorem Qea:(C.ti Qv).isAgg=true:=by kernel_rfl
@[go_sem] theorem QlC:(C.ti Qv).isGood=true:=by kernel_rfl
@[go_sem] theorem Q5S:(C.ti Qv).bytes=112:=by kernel_rfl
@[go_sem] theorem QlD:(C.ti Qv).zero=[.int .i64 0,.int .i64 0,.str [],.nils,.int .i64 0,.int .i64 0,.str [],.nils]:=by kernel_rfl
@[go_sem] theorem QiT:(C.ti Q0m).size=1:=by kernel_rfl
@[go_sem] theorem Qe8:(C.ti Q0m).k = .slice 62:=by kernel_rfl
@[go_sem] theorem QjY:(C.ti Q0m).isAgg=false:=by kernel_rfl
@[go_sem] theorem QiS:(C.ti Q0m).isGood=true:=by kernel_rfl
@[go_sem] theorem QiU:(C.ti Q0m).zero=[.nils]:=by kernel_rfl
@[go_sem] theorem Qi2:(C.ti Q1j).size=12:=by kernel_rfl
@[go_sem] theorem QlE:(C.ti Q1j).k = .struct [(0,28),(5,28),(10,46),(11,23)]:=by kernel_rfl
@[go_sem] theorem Qj3:(C.ti Q1j).isAgg=true:=by kernel_rfl
@[go_sem] theorem Qi1:(C.ti Q1j).isGood=true:=by kernel_rfl
@[go_sem] theorem Qi3:(C.ti Q1j).zero=[.int .i64 0,.int .i64 0,.int .i64 0,.str [],.nils,.int .i64 0,.int .i64 0,.int .i64 0,.str [],.nils,.nils,.nils]:=by kernel_rfl
@[go_sem] theorem Q9W:(C.ti Qk).size=1:=by kernel_rfl
@[go_sem] theorem Qbx:(C.ti Qk).k = .func:=by kernel_rfl
@[go_sem] theorem QaO:(C.ti Qk).isAgg=false:=by kernel_rfl
@[go_sem] theorem Q9V:(C.ti Qk).isGood=true:=by kernel_rfl
@[go_sem] theorem Q9X:(C.ti Qk).zero=[.nilf]:=by kernel_rfl
@[go_sem] theorem Qf6:(C.ti Zi).size=1:=by kernel_rfl
@[go_sem] theorem Qgw:(C.ti Zi).k = .slice 97:=by kernel_rfl
@[go_sem] theorem Qfa:(C.ti Zi).isAgg=false:=by kernel_rfl
@[go_sem] theorem Qf5:(C.ti Zi).isGood=true:=by kernel_rfl
@[go_sem] theorem Qf7:(C.ti Zi).zero=[.nils]:=by kernel_rfl
@[go_sem] theorem QhM:(C.ti QH).size=1:=by kernel_rfl
@[go_sem] theorem Qla:(C.ti QH).k = .int .i64:=by kernel_rfl
@[go_sem] theorem QiI:(C.ti QH).isAgg=false:=by kernel_rfl
@[go_sem] theorem QhL:(C.ti QH).isGood=true:=by kernel_rfl
@[go_sem] theorem QhN:(C.ti QH).zero=[.int .i64 0]:=by kernel_rfl
@[go_sem] theorem QjD:(C.ti Q0w).size=1:=by kernel_rfl
@[go_sem] theorem QoB:(C.ti Q0w).k = .slice 95:=by kernel_rfl
@[go_sem] theorem Qln:(C.ti Q0w).isAgg=false:=by kernel_rfl
@[go_sem] theorem QjC:(C.ti Q0w).isGood=true:=by kernel_rfl
@[go_sem] theorem QjE:(C.ti Q0w).zero=[.nils]:=by kernel_rfl
@[go_sem] theorem QiN:(C.ti Z6).size=1:=by kernel_rfl
@[go_sem] theorem Qmo:(C.ti Z6).k = .slice 91:=by kernel_rfl
@[go_sem] theorem QjB:(C.ti Z6).isAgg=false:=by kernel_rfl
@[go_sem] theorem QiM:(C.ti Z6).isGood=true:=by kernel_rfl
@[go_sem] theorem QiO:(C.ti Z6).zero=[.nils]:=by kernel_rfl
@[go_sem] theorem QjM:(C.ti Q2J).size=1:=by kernel_rfl
@[go_sem] theorem QoE:(C.ti Q2J).k = .slice 93:=by kernel_rfl
@[go_sem] theorem Qlq:(C.ti Q2J).isAgg=false:=by kernel_rfl
@[go_sem] theorem QjL:(C.ti Q2J).isGood=true:=by kernel_rfl
@[go_sem] theorem QjN:(C.ti Q2J).zero=[.nils]:=by kernel_rfl
@[go_sem] theorem QhP:(C.ti Q4).size=1:=by kernel_rfl
@[go_sem] theorem Qlc:(C.ti Q4).k = .int .i64:=by kernel_rfl
@[go_sem] theorem QiJ:(C.ti Q4).isAgg=false:=by kernel_rfl
@[go_sem] theorem QhO:(C.ti Q4).isGood=true:=by kernel_rfl
@[go_sem] theorem QhQ:(C.ti Q4).zero=[.int .i64 0]:=by kernel_rfl
@[go_sem] theorem QjJ:(C.ti Zu).size=1:=by kernel_rfl
@[go_sem] theorem QoD:(C.ti Zu).k = .slice 85:=by kernel_rfl
@[go_sem] theorem Qlp:(C.ti Zu).isAgg=false:=by kernel_rfl
@[go_sem] theorem QjI:(C.ti Zu).isGood=true:=by kernel_rfl
@[go_sem] theorem QjK:(C.ti Zu).zero=[.nils]:=by kernel_rfl
@[go_sem] theorem QjG:(C.ti Q0x).size=1:=by kernel_rfl
@[go_sem] theorem QoC:(C.ti Q0x).k = .slice 80:=by kernel_rfl
@[go_sem] theorem Qlo:(C.ti Q0x).isAgg=false:=by kernel_rfl
@[go_sem] theorem QjF:(C.ti Q0x).isGood=true:=by kernel_rfl
@[go_sem] theorem QjH:(C.ti Q0x).zero=[.nils]:=by kernel_rfl
@[go_sem] theorem Qmi:(C.ti Q5a).size=7:=by kernel_rfl
@[go_sem] theorem QqQ:(C.ti Q5a).k = .struct [(0,81),(1,3),(2,9),(3,3),(4,82),(5,77),(6,83)]:=by kernel_rfl
@[go_sem] theorem Qot:(C.ti Q5a).isAgg=true:=by kernel_rfl
@[go_sem] theorem Qmh:(C.ti Q5a).isGood=true:=by kernel_rfl
@[go_sem] theorem Qmj:(C.ti Q5a).zero=[.int .i64 0,.int .i64 0,.str [],.int .i64 0,.nils,.nils,.nils]:=by kernel_rfl
@[go_sem] theorem QhS:(C.ti QL).size=1:=by kernel_rfl
@[go_sem] theorem Qlm:(C.ti QL).k = .int .i64:=by kernel_rfl
@[go_sem] theorem QiK:(C.ti QL).isAgg=false:=by kernel_rfl
@[go_sem] theorem QhR:(C.ti QL).isGood=true:=by kernel_rfl
@[go_sem] theorem QhT:(C.ti QL).zero=[.int .i64 0]:=by kernel_rfl
@[go_sem] theorem QjP:(C.ti Za).size=1:=by kernel_rfl
@[go_sem] theorem QoF:(C.ti Za).k = .slice 89:=by kernel_rfl
@[go_sem] theorem Qlr:(C.ti Za).isAgg=false:=by kernel_rfl
@[go_sem] theorem QjO:(C.ti Za).isGood=true:=by kernel_rfl
@[go_sem] theorem QjQ:(C.ti Za).zero=[.nils]:=by kernel_rfl
@[go_sem] theorem Qmm:(C.ti ZK).size=5:=by kernel_rfl
@[go_sem] theorem QqR:(C.ti ZK).k = .struct [(0,86),(1,3),(2,9),(3,3),(4,87)]:=by kernel_rfl
@[go_sem] theorem QoA:(C.ti ZK).isAgg=true:=by kernel_rfl
@[go_sem] theorem Qml:(C.ti ZK).isGood=true:=by kernel_rfl
@[go_sem] theorem Qmn:(C.ti ZK).zero=[.int .i64 0,.int .i64 0,.str [],.int .i64 0,.nils]:=by kernel_rfl
@[go_sem] theorem Qmf:(C.ti Q59).size=7:=by kernel_rfl
@[go_sem] theorem QqP:(C.ti Q59).k = .struct [(0,9),(1,3),(2,4),(3,25)]:=by kernel_rfl
@[go_sem] theorem Qor:(C.ti Q59).isAgg=true:=by kernel_rfl
@[go_sem] theorem Qme:(C.ti Q59).isGood=true:=by kernel_rfl
@[go_sem] theorem Qmg:(C.ti Q59).zero=[.str [],.int .i64 0,.bool false,.int .i64 0,.int .i64 0,.str [],.nils]:=by kernel_rfl
@[go_sem] theorem Q3i:(C.ti Qz).size=47:=by kernel_rfl
@[go_sem] theorem Qi0:(C.ti Qz).k = .struct [(0,3),(1,4),(2,3),(3,80),(10,85),(17,89),(22,25),(26,93),(40,95)]:=by kernel_rfl
@[go_sem] theorem Qgx:(C.ti Qz).isAgg=true:=by kernel_rfl
@[go_sem] theorem Qgo:(C.ti Qz).isGood=true:=by kernel_rfl
@[go_sem] theorem Q5T:(C.ti Qz).bytes=656:=by kernel_rfl
@[go_sem] theorem Qgp:(C.ti Qz).zero=[.int .i64 0,.bool false,.int .i64 0,.int .i64 0,.int .i64 0,.str [],.int .i64 0,.nils,.nils,.nils,.int .i64 0,.int .i64 0,.str [],.int .i64 0,.nils,.nils,.nils,.int .i64 0,.int .i64 0,.str [],.int .i64 0,.nils,.int .i64 0,.int .i64 0,.str [],.nils,.str [],.int .i64 0,.int .i64 0,.int .i64 0,.str [],.int .i64 0,.nils,.int .i64 0,.int .i64 0,.str [],.int .i64 0,.nils,.nils,.nils,.str [],.int .i64 0,.bool false,.int .i64 0,.int .i64 0,.str [],.nils]:=by kernel_rfl
@[go_sem] theorem Qjz:(C.ti Q1y).size=1:=by kernel_rfl
@[go_sem] theorem Qoz:(C.ti Q1y).k = .ptr:=by kernel_rfl
@[go_sem] theorem Qll:(C.ti Q1y).isAgg=false:=by kernel_rfl
@[go_sem] theorem Qjy:(C.ti Q1y).isGood=true:=by kernel_rfl
@[go_sem] theorem QjA:(C.ti Q1y).zero=[.nilp]:=by kernel_rfl
@[go_sem] theorem QhG:(C.ti Qu).size=1:=by kernel_rfl
@[go_sem] theorem QjZ:(C.ti Qu).k = .slice 9:=by kernel_rfl
@[go_sem] theorem QhU:(C.ti Qu).isAgg=false:=by kernel_rfl
@[go_sem] theorem QhF:(C.ti Qu).isGood=true:=by kernel_rfl
@[go_sem] theorem QhH:(C.ti Qu).zero=[.nils]:=by kernel_rfl
@[go_sem] theorem QjS:(C.ti Q1z).size=1:=by kernel_rfl
@[go_sem] theorem QoG:(C.ti Q1z).k = .slice 117:=by kernel_rfl
@[go_sem] theorem Qls:(C.ti Q1z).isAgg=false:=by kernel_rfl
@[go_sem] theorem QjR:(C.ti Q1z).isGood=true:=by kernel_rfl
@[go_sem] theorem QjT:(C.ti Q1z).zero=[.nils]:=by kernel_rfl
@[go_sem] theorem Qmc:(C.ti Qc).size=3:=by kernel_rfl
@[go_sem] theorem QqO:(C.ti Qc).k = .struct [(0,36),(1,3),(2,9)]:=by kernel_rfl
@[go_sem] theorem Qoq:(C.ti Qc).isAgg=true:=by kernel_rfl
@[go_sem] theorem Qmb:(C.ti Qc).isGood=true:=by kernel_rfl
@[go_sem] theorem Qmd:(C.ti Qc).zero=[.int .i64 0,.int .i64 0,.str []]:=by kernel_rfl
@[go_sem] theorem QhY:(C.ti Zo).size=1:=by kernel_rfl
@[go_sem] theorem Qly:(C.ti Zo).k = .int .i64:=by kernel_rfl
@[go_sem] theorem QiZ:(C.ti Zo).isAgg=false:=by kernel_rfl
@[go_sem] theorem QhX:(C.ti Zo).isGood=true:=by kernel_rfl
@[go_sem] theorem QhZ:(C.ti Zo).zero=[.int .i64 0]:=by kernel_rfl
@[go_sem] theorem Q8c:(C.ti Qg).size=4:=by kernel_rfl
@[go_sem] theorem QqS:(C.ti Qg).k = .struct [(0,115),(1,3),(2,9),(3,3)]:=by kernel_rfl
@[go_sem] theorem QoI:(C.ti Qg).isAgg=true:=by kernel_rfl
@[go_sem] theorem Qms:(C.ti Qg).isGood=true:=by kernel_rfl
@[go_sem] theorem QcW:(C.ti Qg).bytes=40:=by kernel_rfl
@[go_sem] theorem Qmt:(C.ti Qg).zero=[.int .i64 0,.int .i64 0,.str [],.int .i64 0]:=by kernel_rfl
@[go_sem] theorem Q4G:(C.ti QR).size=1:=by kernel_rfl
@[go_sem] theorem Qlx:(C.ti QR).k = .slice 5:=by kernel_rfl
@[go_sem] theorem QiV:(C.ti QR).isAgg=false:=by kernel_rfl
@[go_sem] theorem QhV:(C.ti QR).isGood=true:=by kernel_rfl
@[go_sem] theorem QhW:(C.ti QR).zero=[.nils]:=by kernel_rfl
@[go_sem] theorem QhK:(C.ti QX).size=2:=by kernel_rfl
@[go_sem] theorem Ql9:(C.ti QX).k = .struct [(0,118),(1,119)]:=by kernel_rfl
@[go_sem] theorem QiH:(C.ti QX).isAgg=true:=by kernel_rfl
@[go_sem] theorem QhJ:(C.ti QX).isGood=true:=by kernel_rfl
@[go_sem] theorem Q9k:(C.ti QX).zero=[.nilp,.nils]:=by kernel_rfl
@[go_sem] theorem Qgt:(C.ti Q0l).size=1:=by kernel_rfl
@[go_sem] theorem QiL:(C.ti Q0l).k = .slice 101:=by kernel_rfl
@[go_sem] theorem QhE:(C.ti Q0l).isAgg=false:=by kernel_rfl
@[go_sem] theorem Qgs:(C.ti Q0l).isGood=true:=by kernel_rfl
@[go_sem] theorem Qgu:(C.ti Q0l).zero=[.nils]:=by kernel_rfl
@[go_sem] theorem Qjn:(C.ti Q1w).size=1:=by kernel_rfl
@[go_sem] theorem Qov:(C.ti Q1w).k = .ptr:=by kernel_rfl
@[go_sem] theorem Qle:(C.ti Q1w).isAgg=false:=by kernel_rfl
@[go_sem] theorem Qjm:(C.ti Q1w).isGood=true:=by kernel_rfl
@[go_sem] theorem Qjo:(C.ti Q1w).zero=[.nilp]:=by kernel_rfl
@[go_sem] theorem Qjt:(C.ti Q12).size=1:=by kernel_rfl
@[go_sem] theorem Qox:(C.ti Q12).k = .ptr:=by kernel_rfl
@[go_sem] theorem Qlg:(C.ti Q12).isAgg=false:=by kernel_rfl
@[go_sem] theorem Qjs:(C.ti Q12).isGood=true:=by kernel_rfl
@[go_sem] theorem Qju:(C.ti Q12).zero=[.nilp]:=by kernel_rfl
@[go_sem] theorem Qjk:(C.ti Q0v).size=1:=by kernel_rfl
@[go_sem] theorem Qou:(C.ti Q0v).k = .ptr:=by kernel_rfl
@[go_sem] theorem Qld:(C.ti Q0v).isAgg=false:=by kernel_rfl
@[go_sem] theorem Qjj:(C.ti Q0v).isGood=true:=by kernel_rfl
@[go_sem] theorem Qjl:(C.ti Q0v).zero=[.nilp]:=by kernel_rfl
@[go_sem] theorem Qjq:(C.ti Q1x).size=1:=by kernel_rfl
@[go_sem] theorem Qow:(C.ti Q1x).k = .ptr:=by kernel_rfl
@[go_sem] theorem Qlf:(C.ti Q1x).isAgg=false:=by kernel_rfl
@[go_sem] theorem Qjp:(C.ti Q1x).isGood=true:=by kernel_rfl
@[go_sem] theorem Qjr:(C.ti Q1x).zero=[.nilp]:=by kernel_rfl
@[go_sem] theorem Qjw:(C.ti Q13).size=1:=by kernel_rfl
@[go_sem] theorem Qoy:(C.ti Q13).k = .ptr:=by kernel_rfl
@[go_sem] theorem Qlh:(C.ti Q13).isAgg=false:=by kernel_rfl
@[go_sem] theorem Qjv:(C.ti Q13).isGood=true:=by kernel_rfl
@[go_sem] theorem Qjx:(C.ti Q13).zero=[.nilp]:=by kernel_rfl
@[go_sem] theorem Qlj:(C.ti Q3N).size=1:=by kernel_rfl
@[go_sem] theorem Qpu:(C.ti Q3N).k = .ptr:=by kernel_rfl
@[go_sem] theorem Qmk:(C.ti Q3N).isAgg=false:=by kernel_rfl
@[go_sem] theorem Qli:(C.ti Q3N).isGood=true:=by kernel_rfl
@[go_sem] theorem Qlk:(C.ti Q3N).zero=[.nilp]:=by kernel_rfl
@[go_sem] theorem Qk7:(C.ti QZ).size=8:=by kernel_rfl
@[go_sem] theorem QoL:(C.ti QZ).k = .struct [(0,165),(1,4),(2,166),(3,167),(4,168),(5,169),(6,170),(7,3)]:=by kernel_rfl
@[go_sem] theorem QlF:(C.ti QZ).isAgg=true:=by kernel_rfl
@[go_sem] theorem Qk6:(C.ti QZ).isGood=true:=by kernel_rfl
@[go_sem] theorem Qk8:(C.ti QZ).zero=[.nilp,.bool false,.nilp,.nilp,.nilp,.nilp,.nilp,.int .i64 0]:=by kernel_rfl
@[go_sem] theorem Q9i:(C.ti QA).size=1:=by kernel_rfl
@[go_sem] theorem QaP:(C.ti QA).k = .func:=by kernel_rfl
@[go_sem] theorem Q9l:(C.ti QA).isAgg=false:=by kernel_rfl
@[go_sem] theorem Q9h:(C.ti QA).isGood=true:=by kernel_rfl
@[go_sem] theorem Q9j:(C.ti QA).zero=[.nilf]:=by kernel_rfl
@[go_sem] theorem Qj7:(C.ti Q1k).size=1:=by kernel_rfl
@[go_sem] theorem Qmy:(C.ti Q1k).k = .struct [(0,174)]:=by kernel_rfl
@[go_sem] theorem Qkc:(C.ti Q1k).isAgg=true:=by kernel_rfl
@[go_sem] theorem Qj6:(C.ti Q1k).isGood=true:=by kernel_rfl
@[go_sem] theorem Qj8:(C.ti Q1k).zero=[.nilf]:=by kernel_rfl
@[go_sem] theorem Qmw:(C.ti Q7).size=6:=by kernel_rfl
@[go_sem] theorem QqT:(C.ti Q7).k = .struct [(0,4),(1,4),(2,4),(3,4),(4,3),(5,3)]:=by kernel_rfl
@[go_sem] theorem QoJ:(C.ti Q7).isAgg=true:=by kernel_rfl
@[go_sem] theorem Qmv:(C.ti Q7).isGood=true:=by kernel_rfl
@[go_sem] theorem Qmx:(C.ti Q7).zero=[.bool false,.bool false,.bool false,.bool false,.int .i64 0,.int .i64 0]:=by kernel_rfl
noncomputable def gC(T:Nat)(k:Nat)(c:List Slot)(K:Slot->Res):Res:=bind1 (ofSlots (C.ti T) (List.take (C.ti T).size (List.drop k c))) K
@[go_sem] theorem QrN(T:Nat)(k:Nat)(c:List Slot)(K:Slot->Res):gC T k c K=bind1 (ofSlots (C.ti T) (List.take (C.ti T).size (List.drop k c))) K:=id rfl
@[congr] theorem Qq8{T:Nat}{k:Nat}{c c':List Slot}{K:Slot->Res}(h0:c=c'):gC T k c K=gC T k c' K:=by rw[h0]
noncomputable def gA(T:Nat)(c:List Slot)(K:Slot->Res):Res:=bind1 (ofSlots (C.ti T) (List.take (C.ti T).size c)) K
@[go_sem] theorem QrL(T:Nat)(c:List Slot)(K:Slot->Res):gA T c K=bind1 (ofSlots (C.ti T) (List.take (C.ti T).size c)) K:=id rfl
@[congr] theorem Qq6{T:Nat}{c c':List Slot}{K:Slot->Res}(h0:c=c'):gA T c K=gA T c' K:=by rw[h0]
noncomputable def bx(T:Nat)(v:Slot)(K:List Slot->Res):Res:=bindL (boxCells (C.ti T) v) K
@[go_sem] theorem QrF(T:Nat)(v:Slot)(K:List Slot->Res):bx T v K=bindL (boxCells (C.ti T) v) K:=id rfl
@[congr] theorem QpQ{T:Nat}{v v':Slot}{K:List Slot->Res}(h0:v=v'):bx T v K=bx T v' K:=by rw[h0]
noncomputable def pZ(T:Nat)(c:List Slot)(K:List Slot->Res):Res:=bindL (putAt (List.map .val (C.ti T).zero) 0 c) K
@[go_sem] theorem Qs7(T:Nat)(c:List Slot)(K:List Slot->Res):pZ T c K=bindL (putAt (List.map .val (C.ti T).zero) 0 c) K:=id rfl
@[congr] theorem QqI{T:Nat}{c c':List Slot}{K:List Slot->Res}(h0:c=c'):pZ T c K=pZ T c' K:=by rw[h0]
noncomputable def bn(T:Nat)(op:BinOp)(x:Slot)(y:Slot)(K:Slot->Res):Res:=bind1 (binS (C.ti T) op x y) K
@[go_sem] theorem Qbs(T:Nat)(op:BinOp)(x:Slot)(y:Slot)(K:Slot->Res):bn T op x y K=bind1 (binS (C.ti T) op x y) K:=id rfl
@[congr] theorem QpO{T:Nat}{op:BinOp}{x x':Slot}{y y':Slot}{K:Slot->Res}(h0:x=x')(h1:y=y'):bn T op x y K=bn T op x' y' K:=by rw[h0,h1]
noncomputable def ix(T:Nat)(x:Slot)(i:Slot)(K:Slot->Res):Res:=bind1 (ixS (C.ti T).size x i) K
@[go_sem] theorem Qs2(T:Nat)(x:Slot)(i:Slot)(K:Slot->Res):ix T x i K=bind1 (ixS (C.ti T).size x i) K:=id rfl
@[congr] theorem Qqr{T:Nat}{x x':Slot}{i i':Slot}{K:Slot->Res}(h0:x=x')(h1:i=i'):ix T x i K=ix T x' i' K:=by rw[h0,h1]
noncomputable def ld(T:Nat)(s:St)(a:Slot)(K:Slot->Res):Res:=bind1 (ldV (C.ti T) false s a) K
@[go_sem] theorem Qs3(T:Nat)(s:St)(a:Slot)(K:Slot->Res):ld T s a K=bind1 (ldV (C.ti T) false s a) K:=id rfl
@[congr] theorem Qqs{T:Nat}{s s':St}{a a':Slot}{K:Slot->Res}(h0:s=s')(h1:a=a'):ld T s a K=ld T s' a' K:=by rw[h0,h1]
noncomputable def ln(T:Nat)(x:Slot)(K:Slot->Res):Res:=bind1 (lenS (C.ti T) x) K
@[go_sem] theorem Qbu(T:Nat)(x:Slot)(K:Slot->Res):ln T x K=bind1 (lenS (C.ti T) x) K:=id rfl
@[congr] theorem Qqv{T:Nat}{x x':Slot}{K:Slot->Res}(h0:x=x'):ln T x K=ln T x' K:=by rw[h0]
noncomputable def ca(f:Nat)(l:List Slot)(s:St)(K:Slot->St->Res):Res:=back (cal cw true (tgtV (.val (.fn f [])) l) s) K
@[go_sem] theorem QrG(f:Nat)(l:List Slot)(s:St)(K:Slot->St->Res):ca f l s K=back (cal cw true (tgtV (.val (.fn f [])) l) s) K:=id rfl
@[congr] theorem QpR{f:Nat}{l l':List Slot}{s s':St}{K:Slot->St->Res}(h0:l=l')(h1:s=s'):ca f l s K=ca f l' s' K:=by rw[h0,h1]
noncomputable def cn(f:Nat)(l:List Slot)(s:St)(K:Slot->St->Res):Res:=back (noPan (cal cw true (tgtV (.val (.fn f [])) l) s)) K
@[go_sem] theorem QrI(f:Nat)(l:List Slot)(s:St)(K:Slot->St->Res):cn f l s K=back (noPan (cal cw true (tgtV (.val (.fn f [])) l) s)) K:=id rfl
@[congr] theorem QpX{f:Nat}{l l':List Slot}{s s':St}{K:Slot->St->Res}(h0:l=l')(h1:s=s'):cn f l s K=cn f l' s' K:=by rw[h0,h1]
noncomputable def cg(w:Bool)(f:Nat)(l:List Slot)(s:St)(K:Slot->St->Res):Res:=back (cal cw w (tgtV (.val (.fn f [])) l) s) K
@[go_sem] theorem QrH(w:Bool)(f:Nat)(l:List Slot)(s:St)(K:Slot->St->Res):cg w f l s K=back (cal cw w (tgtV (.val (.fn f [])) l) s) K:=id rfl
@[congr] theorem QpW{f:Nat}{w w':Bool}{l l':List Slot}{s s':St}{K:Slot->St->Res}(h0:w=w')(h1:l=l')(h2:s=s'):cg w f l s K=cg w' f l' s' K:=by rw[h0,h1,h2]
noncomputable def iT(v:Slot)(K:Bool->Res):Res:=bindB (Slot.isB v true) K
@[go_sem] theorem QrY(v:Slot)(K:Bool->Res):iT v K=bindB (Slot.isB v true) K:=id rfl
@[congr] theorem Qql  {v v':Slot} {K:Bool->Res} (h0:v=v'):iT v K=iT v' K:=by rw[h0]
noncomputable def iF(v:Slot)(K:Bool->Res):Res:=bindB (Slot.isB v false) K
@[go_sem] theorem QrX(v:Slot)(K:Bool->Res):iF v K=bindB (Slot.isB v false) K:=id rfl
@[congr] theorem Qqk  {v v':Slot} {K:Bool->Res} (h0:v=v'):iF v K=iF v' K:=by rw[h0]
noncomputable def gG(w:Bool)(b:Bool)(T:Nat)(k:Nat)(c:List Slot)(K:Slot->Res):Res:=bind1 (gd w (bif b then (ofSlots (C.ti T) (List.take (C.ti T).size (List.drop k c))) else none)) K
@[go_sem] theorem QrO(w:Bool)(b:Bool)(T:Nat)(k:Nat)(c:List Slot)(K:Slot->Res):gG w b T k c K=bind1 (gd w (bif b then (ofSlots (C.ti T) (List.take (C.ti T).size (List.drop k c))) else none)) K:=id rfl
@[congr] theorem Qq9{b:Bool}{T:Nat}{k:Nat}{c:List Slot}{w w':Bool}{K:Slot->Res}(h0:w=w'):gG w b T k c K=gG w' b T k c K:=by rw[h0]
noncomputable def gB(w:Bool)(T:Nat)(op:BinOp)(x:Slot)(y:Slot)(K:Slot->Res):Res:=bind1 (gd w (binS (C.ti T) op x y)) K
@[go_sem] theorem QrM(w:Bool)(T:Nat)(op:BinOp)(x:Slot)(y:Slot)(K:Slot->Res):gB w T op x y K=bind1 (gd w (binS (C.ti T) op x y)) K:=id rfl
@[congr] theorem Qq7{T:Nat}{op:BinOp}{x:Slot}{y:Slot}{w w':Bool}{K:Slot->Res}(h0:w=w'):gB w T op x y K=gB w' T op x y K:=by rw[h0]
noncomputable def gN(w:Bool)(x:Slot)(K:Slot->Res):Res:=bind1 (gd w (unS .not x)) K
@[go_sem] theorem QrQ(w:Bool)(x:Slot)(K:Slot->Res):gN w x K=bind1 (gd w (unS .not x)) K:=id rfl
@[congr] theorem Qqb{x:Slot}{w w':Bool}{K:Slot->Res}(h0:w=w'):gN w x K=gN w' x K:=by rw[h0]
noncomputable def gL(w:Bool)(T:Nat)(x:Slot)(K:Slot->Res):Res:=bind1 (gd w (lenS (C.ti T) x)) K
@[go_sem] theorem QrP(w:Bool)(T:Nat)(x:Slot)(K:Slot->Res):gL w T x K=bind1 (gd w (lenS (C.ti T) x)) K:=id rfl
@[congr] theorem Qqa{T:Nat}{x:Slot}{w w':Bool}{K:Slot->Res}(h0:w=w'):gL w T x K=gL w' T x K:=by rw[h0]
noncomputable def nt(x:Slot)(K:Slot->Res):Res:=bind1 (unS .not x) K
@[go_sem] theorem Qs5(x:Slot)(K:Slot->Res):nt x K=bind1 (unS .not x) K:=id rfl
@[congr] theorem Qqz  {x x':Slot} {K:Slot->Res} (h0:x=x'):nt x K=nt x' K:=by rw[h0]
noncomputable def pk(a:Slot)(b:Slot)(c:Slot)(K:Slot->Res):Res:=bind1 (pickS a b c) K
@[go_sem] theorem Qs8(a:Slot)(b:Slot)(c:Slot)(K:Slot->Res):pk a b c K=bind1 (pickS a b c) K:=id rfl
@[congr] theorem QqJ  {a a':Slot} {b b':Slot} {c c':Slot} {K:Slot->Res} (h0:a=a') (h1:b=b') (h2:c=c'):pk a b c K=pk a' b' c' K:=by rw[h0,h1,h2]
noncomputable def ex(a:Slot)(i:Nat)(K:Slot->Res):Res:=bind1 (extractS a i) K
@[go_sem] theorem QrJ(a:Slot)(i:Nat)(K:Slot->Res):ex a i K=bind1 (extractS a i) K:=id rfl
@[congr] theorem Qq0{i:Nat}{a a':Slot}{K:Slot->Res}(h0:a=a'):ex a i K=ex a' i K:=by rw[h0]
noncomputable def fa(i:Nat)(a:Slot)(K:Slot->Res):Res:=bind1 (faV i a) K
@[go_sem] theorem QrK(i:Nat)(a:Slot)(K:Slot->Res):fa i a K=bind1 (faV i a) K:=id rfl
@[congr] theorem Qq4{i:Nat}{a a':Slot}{K:Slot->Res}(h0:a=a'):fa i a K=fa i a' K:=by rw[h0]
noncomputable def pt(c:List Slot)(i:Nat)(d:List Slot)(K:List Slot->Res):Res:=bindL (putAt c i d) K
@[go_sem] theorem Qs9(c:List Slot)(i:Nat)(d:List Slot)(K:List Slot->Res):pt c i d K=bindL (putAt c i d) K:=id rfl
@[congr] theorem QqK{i:Nat}{c c':List Slot}{d d':List Slot}{K:List Slot->Res}(h0:c=c')(h1:d=d'):pt c i d K=pt c' i d' K:=by rw[h0,h1]
noncomputable def bs(T:Nat)(l:List Slot)(K:Slot->Res):Res:=bind1 (bslF (C.ti T).size l) K
@[go_sem] theorem QrD(T:Nat)(l:List Slot)(K:Slot->Res):bs T l K=bind1 (bslF (C.ti T).size l) K:=id rfl
@[congr] theorem QpP{T:Nat}{l l':List Slot}{K:Slot->Res}(h0:l=l'):bs T l K=bs T l' K:=by rw[h0]
noncomputable def ap(T:Nat)(s:St)(x:Slot)(y:Slot)(K:Slot->St->Res):Res:=bind2 (appendS T (C.ti T) s x y) K
@[go_sem] theorem QrB(T:Nat)(s:St)(x:Slot)(y:Slot)(K:Slot->St->Res):ap T s x y K=bind2 (appendS T (C.ti T) s x y) K:=id rfl
@[congr] theorem Qpx{T:Nat}{s s':St}{x x':Slot}{y y':Slot}{K:Slot->St->Res}(h0:s=s')(h1:x=x')(h2:y=y'):ap T s x y K=ap T s' x' y' K:=by rw[h0,h1,h2]
noncomputable def sto(s:St)(a:Slot)(c:List Slot)(K:St->Res):Res:=bindS (stV s a c) K
@[go_sem] theorem Qry(s:St)(a:Slot)(c:List Slot)(K:St->Res):sto s a c K=bindS (stV s a c) K:=id rfl
@[congr] theorem Qps  {s s':St} {a a':Slot} {c c':List Slot} {K:St->Res} (h0:s=s') (h1:a=a') (h2:c=c'):sto s a c K=sto s' a' c' K:=by rw[h0,h1,h2]
noncomputable def upd2(A:Nat)(B:Nat)(s:St)(a:Slot)(b:Slot)(c:Slot)(K:Slot->St->Res):Res:=bind2 (updateS (C.ti A) (C.ti B) s a b c) K
@[go_sem] theorem Qrh(A:Nat)(B:Nat)(s:St)(a:Slot)(b:Slot)(c:Slot)(K:Slot->St->Res):upd2 A B s a b c K=bind2 (updateS (C.ti A) (C.ti B) s a b c) K:=id rfl
@[congr] theorem Qoo{A:Nat}{B:Nat}{s s':St}{a a':Slot}{b b':Slot}{c c':Slot}{K:Slot->St->Res}(h0:s=s')(h1:a=a')(h2:b=b')(h3:c=c'):upd2 A B s a b c K=upd2 A B s' a' b' c' K:=by rw[h0,h1,h2,h3]
noncomputable def lk(A:Nat)(B:Nat)(s:St)(a:Slot)(b:Slot)(q:Bool)(K:Slot->Res):Res:=bind1 (lookupS (C.ti A) (C.ti B) s a b q) K
@[go_sem] theorem Qs4(A:Nat)(B:Nat)(s:St)(a:Slot)(b:Slot)(q:Bool)(K:Slot->Res):lk A B s a b q K=bind1 (lookupS (C.ti A) (C.ti B) s a b q) K:=id rfl
@[congr] theorem Qqu{A:Nat}{B:Nat}{q:Bool}{s s':St}{a a':Slot}{b b':Slot}{K:Slot->Res}(h0:s=s')(h1:a=a')(h2:b=b'):lk A B s a b q K=lk A B s' a' b' q K:=by rw[h0,h1,h2]
noncomputable def bdL:List (Nat × Nat × Slot)->List (Nat × Nat × Slot)
 |[]=>[]
 |p::r=>(p.1,(C.ti p.2.1).size,p.2.2)::bdL r
@[go_sem] theorem QqY:bdL []=[]:=id rfl
@[go_sem] theorem QpC(a b:Nat)(v:Slot)(r:List (Nat × Nat × Slot)):bdL ((a,b,v)::r)=(a,(C.ti b).size,v)::bdL r:=id rfl
noncomputable def bd(T:Nat)(l:List (Nat × Nat × Slot))(K:Slot->Res):Res:=bind1 (buildS (C.ti T).zero (bdL l)) K
@[go_sem] theorem QrC(T:Nat)(l:List (Nat × Nat × Slot))(K:Slot->Res):bd T l K=bind1 (buildS (C.ti T).zero (bdL l)) K:=id rfl
@[congr] theorem QpD{T:Nat}{l l':List (Nat × Nat × Slot)}{K:Slot->Res}(h0:l=l'):bd T l K=bd T l' K:=by rw[h0]
noncomputable def rt(l:List (Option Slot))(s:St):Res:=bind1 (tupS l) λv=>some (.ret v,s)
@[go_sem] theorem Qsa(l:List (Option Slot))(s:St):rt l s=bind1 (tupS l) λv=>some (.ret v,s):=id rfl
@[reducible] def iv(n:Int):Slot:=.val (.int .i64 n)
@[go_sem] theorem Qs1(n:Int):iv n = .val (.int .i64 n):=id rfl
@[reducible] def bv(b:Bool):Slot:=.val (.bool b)
@[go_sem] theorem QrE(b:Bool):bv b = .val (.bool b):=id rfl
@[reducible] def sv(l:List UInt8):Slot:=.val (.str l)
@[go_sem] theorem Qsb(l:List UInt8):sv l = .val (.str l):=id rfl
noncomputable def nx(x:Slot)(K:Slot->Res):Res:=bind1 (binS (C.ti Q1) .add x (.val (.int .i64 1))) K
@[go_sem] theorem Qs6(x:Slot)(K:Slot->Res):nx x K=bind1 (binS (C.ti Q1) .add x (.val (.int .i64 1))) K:=id rfl
@[congr] theorem QqA  {x x':Slot} {K:Slot->Res} (h0:x=x'):nx x K=nx x' K:=by rw[h0]
@[reducible] noncomputable def lpD(f:FuncId)(p:List Step)(fn:Func)(e:Env)(s:St):Res:=loopR C false f p (body fn) e s (ctxR C false f p (body fn) (outK C fn.results.toList))
@[reducible] noncomputable def pwD(f:FuncId)(p:List Step)(fn:Func)(e:Env)(s:St):Res:=pw (run C false f (codeAt p (body fn)) e s (ctxR C false f p (body fn) (outK C fn.results.toList)))
end Go.Proofs.YtobelgghegmhhaaGreatDoor