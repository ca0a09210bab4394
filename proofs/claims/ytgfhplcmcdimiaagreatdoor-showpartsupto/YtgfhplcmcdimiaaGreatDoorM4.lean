/- A part of the proof: G1. -/
import Derived.Test.YtgfhplcmcdimiaaGreatDoorM3
import Derived.KernelRfl
import Derived.Test.YtgfhplcmcdimiaaGreatDoorProg
set_option linter.unusedVariables false
set_option linter.unusedSimpArgs false
namespace Go.Proofs.YtgfhplcmcdimiaaGreatDoor
open Go Go.Am
def tF:TI:={ k:=.func,size:=1,bytes:=8,zero:=[.nilf] }
def tP:TI:={ k:=.ptr,size:=1,bytes:=8,zero:=[.nilp] }
def tS(e:Nat):TI:={ k:=.slice e,size:=1,bytes:=24,zero:=[.nils] }
noncomputable def tis:List TI:=[{},tF,{ k:=.int .i64,size:=1,bytes:=8,zero:=[.int .i64 0] },{ k:=.int .i64,size:=1,bytes:=8,zero:=[.int .i64 0] },{ k:=.bool,size:=1,bytes:=1,zero:=[.bool false] },{ k:=.int .u8,size:=1,bytes:=1,zero:=[.int .u8 0] },{ k:=.int .u8,size:=1,bytes:=1,zero:=[.int .u8 0] },{ k:=.struct [(0,2),(1,3),(2,4),(3,6)],size:=4,bytes:=24,zero:=[.int .i64 0,.int .i64 0,.bool false,.int .u8 0] },{ k:=.struct [(0,2),(1,3),(2,4),(3,6)],size:=4,bytes:=24,zero:=[.int .i64 0,.int .i64 0,.bool false,.int .u8 0] },{ k:=.str,size:=1,bytes:=16,zero:=[.str []] },{ k:=.str,size:=1,bytes:=16,zero:=[.str []] },{ k:=.str,size:=1,bytes:=16,zero:=[.str []] },{ k:=.int .u64,size:=1,bytes:=8,zero:=[.int .u64 0] },{ k:=.struct [(0,9),(1,12)],size:=2,bytes:=24,zero:=[.str [],.int .u64 0] },{ k:=.struct [(0,9),(1,12)],size:=2,bytes:=24,zero:=[.str [],.int .u64 0] },tP,tP,tP,{ k:=.struct [(0,17)],size:=1,bytes:=8,zero:=[.nilp] },{ k:=.struct [(0,17)],size:=1,bytes:=8,zero:=[.nilp] },{ k:=.iface,size:=1,bytes:=16,zero:=[.nili] },{ k:=.int .i32,size:=1,bytes:=4,zero:=[.int .i32 0] },{ k:=.int .i64,size:=1,bytes:=8,zero:=[.int .i64 0] },tS 27,tS 125,tS 76,{ k:=.struct [(0,22),(1,3),(2,9),(3,3),(4,23),(5,24),(6,25)],size:=7,bytes:=112,zero:=[.int .i64 0,.int .i64 0,.str [],.int .i64 0,.nils,.nils,.nils] },{ k:=.struct [(0,22),(1,3),(2,9),(3,3),(4,23),(5,24),(6,25)],size:=7,bytes:=112,zero:=[.int .i64 0,.int .i64 0,.str [],.int .i64 0,.nils,.nils,.nils] },{ k:=.int .i64,size:=1,bytes:=8,zero:=[.int .i64 0] },tS 31,{ k:=.struct [(0,28),(1,3),(2,9),(3,3),(4,29)],size:=5,bytes:=64,zero:=[.int .i64 0,.int .i64 0,.str [],.int .i64 0,.nils] },{ k:=.struct [(0,28),(1,3),(2,9),(3,3),(4,29)],size:=5,bytes:=64,zero:=[.int .i64 0,.int .i64 0,.str [],.int .i64 0,.nils] },{ k:=.int .i64,size:=1,bytes:=8,zero:=[.int .i64 0] },tS 35,{ k:=.struct [(0,32),(1,3),(2,9),(3,33)],size:=4,bytes:=56,zero:=[.int .i64 0,.int .i64 0,.str [],.nils] },{ k:=.struct [(0,32),(1,3),(2,9),(3,33)],size:=4,bytes:=56,zero:=[.int .i64 0,.int .i64 0,.str [],.nils] },tF,tF,tF,tF,tF,tF,tF,tF,tF,tF,tF,tF,tF,tF,tF,{ k:=.int .i64,size:=1,bytes:=8,zero:=[.int .i64 0] },tF,{ k:=.int .i64,size:=1,bytes:=8,zero:=[.int .i64 0] },{ k:=.struct [(0,53),(1,3),(2,9)],size:=3,bytes:=32,zero:=[.int .i64 0,.int .i64 0,.str []] },{ k:=.struct [(0,53),(1,3),(2,9)],size:=3,bytes:=32,zero:=[.int .i64 0,.int .i64 0,.str []] },tF,tF,tS 9,tF,tF,tF,tF,tP,tF,tF,tF,tF,tP,tS 5,{ k:=.struct [(0,68),(1,69)],size:=2,bytes:=32,zero:=[.nilp,.nils] },{ k:=.struct [(0,68),(1,69)],size:=2,bytes:=32,zero:=[.nilp,.nils] },{ k:=.int .i64,size:=1,bytes:=8,zero:=[.int .i64 0] },tS 123,tS 127,{ k:=.struct [(0,72),(1,3),(2,9),(3,3),(4,73),(5,24),(6,74)],size:=7,bytes:=112,zero:=[.int .i64 0,.int .i64 0,.str [],.int .i64 0,.nils,.nils,.nils] },{ k:=.struct [(0,72),(1,3),(2,9),(3,3),(4,73),(5,24),(6,74)],size:=7,bytes:=112,zero:=[.int .i64 0,.int .i64 0,.str [],.int .i64 0,.nils,.nils,.nils] },{ k:=.iface,size:=1,bytes:=16,zero:=[.nili] },{ k:=.iface,size:=1,bytes:=16,zero:=[.nili] },{},tF,tF,tF,tF,tF,tF,tF,tF,tF,tF,tF,tF,tF,tF,tF,tF,tF,tF,tF,tF,tF,tF,tS 157,tF,tF,tF,tF,tF,tF,tF,tF,tF,tF,tS 118,{},tF,{ k:=.int .i64,size:=1,bytes:=8,zero:=[.int .i64 0] },{ k:=.struct [(0,116),(1,3),(2,9),(3,3)],size:=4,bytes:=40,zero:=[.int .i64 0,.int .i64 0,.str [],.int .i64 0] },{ k:=.struct [(0,116),(1,3),(2,9),(3,3)],size:=4,bytes:=40,zero:=[.int .i64 0,.int .i64 0,.str [],.int .i64 0] },tF,tF,tF,{ k:=.struct [(0,9),(1,3),(2,4),(3,35)],size:=7,bytes:=88,zero:=[.str [],.int .i64 0,.bool false,.int .i64 0,.int .i64 0,.str [],.nils] },{ k:=.struct [(0,9),(1,3),(2,4),(3,35)],size:=7,bytes:=88,zero:=[.str [],.int .i64 0,.bool false,.int .i64 0,.int .i64 0,.str [],.nils] },{ k:=.struct [(0,31),(5,27)],size:=12,bytes:=176,zero:=[.int .i64 0,.int .i64 0,.str [],.int .i64 0,.nils,.int .i64 0,.int .i64 0,.str [],.int .i64 0,.nils,.nils,.nils] },{ k:=.struct [(0,31),(5,27)],size:=12,bytes:=176,zero:=[.int .i64 0,.int .i64 0,.str [],.int .i64 0,.nils,.int .i64 0,.int .i64 0,.str [],.int .i64 0,.nils,.nils,.nils] },{ k:=.struct [(0,9),(1,3),(2,125)],size:=14,bytes:=200,zero:=[.str [],.int .i64 0,.int .i64 0,.int .i64 0,.str [],.int .i64 0,.nils,.int .i64 0,.int .i64 0,.str [],.int .i64 0,.nils,.nils,.nils] },{ k:=.struct [(0,9),(1,3),(2,125)],size:=14,bytes:=200,zero:=[.str [],.int .i64 0,.int .i64 0,.int .i64 0,.str [],.int .i64 0,.nils,.int .i64 0,.int .i64 0,.str [],.int .i64 0,.nils,.nils,.nils] },tF,tF,tF,tP,tF,tF,tF,tP,tP,tP,tP,tP,tP,{ k:=.struct [(0,135),(1,4),(2,136),(3,137),(4,138),(5,139),(6,140),(7,3)],size:=8,bytes:=64,zero:=[.nilp,.bool false,.nilp,.nilp,.nilp,.nilp,.nilp,.int .i64 0] },{ k:=.struct [(0,135),(1,4),(2,136),(3,137),(4,138),(5,139),(6,140),(7,3)],size:=8,bytes:=64,zero:=[.nilp,.bool false,.nilp,.nilp,.nilp,.nilp,.nilp,.int .i64 0] },tF,tF,{ k:=.struct [(0,144)],size:=1,bytes:=8,zero:=[.nilf] },{ k:=.struct [(0,144)],size:=1,bytes:=8,zero:=[.nilf] },tF,tF,tF,tS 58,tF,{ k:=.array 9 9,size:=9,bytes:=144,zero:=[.str [],.str [],.str [],.str [],.str [],.str [],.str [],.str [],.str []] },tF,{},tF,{ k:=.struct [(0,3),(1,4),(2,3),(3,76),(10,27),(17,31),(22,35),(26,127),(40,123)],size:=47,bytes:=656,zero:=[.int .i64 0,.bool false,.int .i64 0,.int .i64 0,.int .i64 0,.str [],.int .i64 0,.nils,.nils,.nils,.int .i64 0,.int .i64 0,.str [],.int .i64 0,.nils,.nils,.nils,.int .i64 0,.int .i64 0,.str [],.int .i64 0,.nils,.int .i64 0,.int .i64 0,.str [],.nils,.str [],.int .i64 0,.int .i64 0,.int .i64 0,.str [],.int .i64 0,.nils,.int .i64 0,.int .i64 0,.str [],.int .i64 0,.nils,.nils,.nils,.str [],.int .i64 0,.bool false,.int .i64 0,.int .i64 0,.str [],.nils] },{ k:=.struct [(0,3),(1,4),(2,3),(3,76),(10,27),(17,31),(22,35),(26,127),(40,123)],size:=47,bytes:=656,zero:=[.int .i64 0,.bool false,.int .i64 0,.int .i64 0,.int .i64 0,.str [],.int .i64 0,.nils,.nils,.nils,.int .i64 0,.int .i64 0,.str [],.int .i64 0,.nils,.nils,.nils,.int .i64 0,.int .i64 0,.str [],.int .i64 0,.nils,.int .i64 0,.int .i64 0,.str [],.nils,.str [],.int .i64 0,.int .i64 0,.int .i64 0,.str [],.int .i64 0,.nils,.int .i64 0,.int .i64 0,.str [],.int .i64 0,.nils,.nils,.nils,.str [],.int .i64 0,.bool false,.int .i64 0,.int .i64 0,.str [],.nils] },tF,tF,tF,tF,tF,tF,tF,{},tF,tF,tF,tF,{},tF,tF,tF,tF,tF,tF,tF,tF,tF,tF,{ k:=.array 21 3,size:=21,bytes:=168,zero:=[.int .i64 0,.int .i64 0,.int .i64 0,.int .i64 0,.int .i64 0,.int .i64 0,.int .i64 0,.int .i64 0,.int .i64 0,.int .i64 0,.int .i64 0,.int .i64 0,.int .i64 0,.int .i64 0,.int .i64 0,.int .i64 0,.int .i64 0,.int .i64 0,.int .i64 0,.int .i64 0,.int .i64 0] },tF,tF,{ k:=.int .u64,size:=1,bytes:=8,zero:=[.int .u64 0] },tF,tF,{},tF,tF,tF,tF,{ k:=.struct [(0,4),(1,4),(2,4),(3,4),(4,3),(5,3)],size:=6,bytes:=24,zero:=[.bool false,.bool false,.bool false,.bool false,.int .i64 0,.int .i64 0] },{ k:=.struct [(0,4),(1,4),(2,4),(3,4),(4,3),(5,3)],size:=6,bytes:=24,zero:=[.bool false,.bool false,.bool false,.bool false,.int .i64 0,.int .i64 0] },{},tF,tF,tF,{},tF,{},tF,tF,tF,tF,{ k:=.array 24 9,size:=24,bytes:=384,zero:=[.str [],.str [],.str [],.str [],.str [],.str [],.str [],.str [],.str [],.str [],.str [],.str [],.str [],.str [],.str [],.str [],.str [],.str [],.str [],.str [],.str [],.str [],.str [],.str []] },{ k:=.array 19 9,size:=19,bytes:=304,zero:=[.str [],.str [],.str [],.str [],.str [],.str [],.str [],.str [],.str [],.str [],.str [],.str [],.str [],.str [],.str [],.str [],.str [],.str [],.str []] },tF,tF,tF,tF,tF,tF,tF,tF,tF,{ k:=.array 24 5,size:=24,bytes:=24,zero:=[.int .u8 0,.int .u8 0,.int .u8 0,.int .u8 0,.int .u8 0,.int .u8 0,.int .u8 0,.int .u8 0,.int .u8 0,.int .u8 0,.int .u8 0,.int .u8 0,.int .u8 0,.int .u8 0,.int .u8 0,.int .u8 0,.int .u8 0,.int .u8 0,.int .u8 0,.int .u8 0,.int .u8 0,.int .u8 0,.int .u8 0,.int .u8 0] },tF,tF,{},tF,{ k:=.int .u64,size:=1,bytes:=8,zero:=[.int .u64 0] },tF,{ k:=.array 20 184,size:=20,bytes:=160,zero:=[.int .u64 0,.int .u64 0,.int .u64 0,.int .u64 0,.int .u64 0,.int .u64 0,.int .u64 0,.int .u64 0,.int .u64 0,.int .u64 0,.int .u64 0,.int .u64 0,.int .u64 0,.int .u64 0,.int .u64 0,.int .u64 0,.int .u64 0,.int .u64 0,.int .u64 0,.int .u64 0] },{ k:=.int .u32,size:=1,bytes:=4,zero:=[.int .u32 0] },{ k:=.array 65 5,size:=65,bytes:=65,zero:=[.int .u8 0,.int .u8 0,.int .u8 0,.int .u8 0,.int .u8 0,.int .u8 0,.int .u8 0,.int .u8 0,.int .u8 0,.int .u8 0,.int .u8 0,.int .u8 0,.int .u8 0,.int .u8 0,.int .u8 0,.int .u8 0,.int .u8 0,.int .u8 0,.int .u8 0,.int .u8 0,.int .u8 0,.int .u8 0,.int .u8 0,.int .u8 0,.int .u8 0,.int .u8 0,.int .u8 0,.int .u8 0,.int .u8 0,.int .u8 0,.int .u8 0,.int .u8 0,.int .u8 0,.int .u8 0,.int .u8 0,.int .u8 0,.int .u8 0,.int .u8 0,.int .u8 0,.int .u8 0,.int .u8 0,.int .u8 0,.int .u8 0,.int .u8 0,.int .u8 0,.int .u8 0,.int .u8 0,.int .u8 0,.int .u8 0,.int .u8 0,.int .u8 0,.int .u8 0,.int .u8 0,.int .u8 0,.int .u8 0,.int .u8 0,.int .u8 0,.int .u8 0,.int .u8 0,.int .u8 0,.int .u8 0,.int .u8 0,.int .u8 0,.int .u8 0,.int .u8 0] },tF,{},tF,tF,{ k:=.array 32 5,size:=32,bytes:=32,zero:=[.int .u8 0,.int .u8 0,.int .u8 0,.int .u8 0,.int .u8 0,.int .u8 0,.int .u8 0,.int .u8 0,.int .u8 0,.int .u8 0,.int .u8 0,.int .u8 0,.int .u8 0,.int .u8 0,.int .u8 0,.int .u8 0,.int .u8 0,.int .u8 0,.int .u8 0,.int .u8 0,.int .u8 0,.int .u8 0,.int .u8 0,.int .u8 0,.int .u8 0,.int .u8 0,.int .u8 0,.int .u8 0,.int .u8 0,.int .u8 0,.int .u8 0,.int .u8 0] },{ k:=.array 64 5,size:=64,bytes:=64,zero:=[.int .u8 0,.int .u8 0,.int .u8 0,.int .u8 0,.int .u8 0,.int .u8 0,.int .u8 0,.int .u8 0,.int .u8 0,.int .u8 0,.int .u8 0,.int .u8 0,.int .u8 0,.int .u8 0,.int .u8 0,.int .u8 0,.int .u8 0,.int .u8 0,.int .u8 0,.int .u8 0,.int .u8 0,.int .u8 0,.int .u8 0,.int .u8 0,.int .u8 0,.int .u8 0,.int .u8 0,.int .u8 0,.int .u8 0,.int .u8 0,.int .u8 0,.int .u8 0,.int .u8 0,.int .u8 0,.int .u8 0,.int .u8 0,.int .u8 0,.int .u8 0,.int .u8 0,.int .u8 0,.int .u8 0,.int .u8 0,.int .u8 0,.int .u8 0,.int .u8 0,.int .u8 0,.int .u8 0,.int .u8 0,.int .u8 0,.int .u8 0,.int .u8 0,.int .u8 0,.int .u8 0,.int .u8 0,.int .u8 0,.int .u8 0,.int .u8 0,.int .u8 0,.int .u8 0,.int .u8 0,.int .u8 0,.int .u8 0,.int .u8 0,.int .u8 0] },{ k:=.struct [(0,17),(1,17),(2,17),(3,9)],size:=4,bytes:=40,zero:=[.nilp,.nilp,.nilp,.str []] },{ k:=.struct [(0,17),(1,17),(2,17),(3,9)],size:=4,bytes:=40,zero:=[.nilp,.nilp,.nilp,.str []] },{ k:=.array 0 16,size:=0,bytes:=0,zero:=[] },{ k:=.struct [(0,234)],size:=0,bytes:=0,zero:=[] },{ k:=.struct [(0,234)],size:=0,bytes:=0,zero:=[] },{ k:=.int .u8,size:=1,bytes:=1,zero:=[.int .u8 0] },{ k:=.int .u8,size:=1,bytes:=1,zero:=[.int .u8 0] },tF,{ k:=.int .i32,size:=1,bytes:=4,zero:=[.int .i32 0] },{ k:=.int .i32,size:=1,bytes:=4,zero:=[.int .i32 0] },{ k:=.struct [(0,12),(1,12),(2,224),(3,237),(4,5),(5,5),(6,238),(7,239),(8,131),(9,240),(10,241)],size:=11,bytes:=48,zero:=[.int .u64 0,.int .u64 0,.int .u32 0,.int .u8 0,.int .u8 0,.int .u8 0,.int .u8 0,.nilf,.nilp,.int .i32 0,.int .i32 0] },{ k:=.struct [(0,12),(1,12),(2,224),(3,237),(4,5),(5,5),(6,238),(7,239),(8,131),(9,240),(10,241)],size:=11,bytes:=48,zero:=[.int .u64 0,.int .u64 0,.int .u32 0,.int .u8 0,.int .u8 0,.int .u8 0,.int .u8 0,.nilf,.nilp,.int .i32 0,.int .i32 0] }]
noncomputable def modes:List (Nat × Nat × AMode):=[(13,3,.loc),(16,3,.tl),(23,1,.con),(24,3,.tl),(25,1,.con),(28,1,.con),(32,3,.con),(33,2,.con),(37,1,.con),(39,1,.con),(45,4,.loc),(46,1,.con),(57,1,.con),(68,1,.con),(71,2,.con),(84,1,.con),(95,3,.con),(95,5,.loc),(122,2,.con)]
noncomputable def keeps:List (Nat × Nat × List Nat):=[(16,6,[3,10,11,12]),(18,6,[1,2,3,23,24]),(19,6,[1,2,3,23,24]),(20,6,[1,2,3,23,24]),(24,4,[0,3,6,7,8]),(25,27,[3,6,102,103,104]),(31,12,[1,3,29,30]),(35,9,[1,3,33,34]),(35,21,[1,3,72,73]),(36,3,[0,1,2,12,13]),(36,11,[0,1,2,8,12,13,42,43]),(36,18,[0,1,2,8,12,13,71,72]),(43,4,[0,1,5,8,9]),(44,3,[0,1,2,9,10]),(45,7,[4]),(48,4,[3,14,15,16]),(55,4,[0,2,7,9,10]),(60,7,[0,4,5]),(61,4,[1,3,4]),(61,8,[1,3,5]),(61,12,[1,3,6]),(62,4,[1,3,4]),(62,8,[1,3,5]),(65,4,[0,1,5,8,9]),(66,4,[0,3,7,8]),(70,4,[3,7,8,9]),(72,4,[1,3,4]),(73,4,[1,3,4]),(75,7,[0,3,4,5,6]),(81,6,[1,2,17,18]),(86,4,[3,11,12,13]),(86,8,[3,5,6,11,12,13,21,22,23]),(86,13,[3,6,11,12,13,35,36,37]),(92,4,[0,3,4]),(93,4,[0,3,4]),(93,8,[0,3,4,5,6]),(93,12,[0,3,4,5,7]),(93,16,[0,3,4,5,8]),(94,9,[1,3,44,45]),(94,19,[1,3,67,68]),(95,4,[3,5]),(98,5,[1,2,29,30]),(99,4,[3,6,7,8]),(100,3,[0,1,7,8]),(102,4,[0,3,9,10,11]),(102,12,[6,25,26,27]),(106,4,[0,3,4]),(108,4,[2,5,6]),(108,8,[2,5,7]),(108,13,[2,5,8]),(110,7,[0,3,4]),(116,5,[1,2,20,21]),(121,3,[0,1,5]),(123,3,[0,1,7,8]),(127,3,[1,2,3,14,15]),(127,9,[1,2,3,8,14,15,45,46]),(127,16,[1,2,3,8,14,15,80,81]),(128,4,[3,7,8,9]),(130,4,[1,3,4]),(132,6,[0,3,7,8]),(140,3,[1,2,7,8]),(150,4,[1,2,5,6]),(153,3,[1,2,6]),(155,6,[0,1,6,22,23]),(159,3,[0,3]),(160,6,[0,3,4,5]),(161,5,[1,2,3,19,20]),(163,3,[0,3]),(175,5,[0,5]),(176,3,[0,1,5]),(179,2,[0,1]),(189,4,[0,5,6]),(191,4,[0,1,2,6,8,9]),(192,3,[0,1,5]),(194,5,[0,1,5,6,10,11]),(202,3,[0,1,7,8])]
noncomputable def cuts:List (Nat × Nat × List Nat):=[(25,23,[1,4]),(31,16,[1,3,4,29,30]),(32,18,[2,3,5,52,87]),(32,25,[2,3,6]),(33,15,[1,5,6]),(35,13,[1,3,4,33,34]),(35,25,[1,3,5,72,73]),(39,12,[1,3]),(39,14,[1,3]),(59,9,[1,3]),(59,19,[1,4,5]),(60,13,[0,4,5,6,7]),(65,8,[0,1,5,6,8,9]),(66,8,[0,3,4,7,8]),(71,16,[1,5,6]),(75,23,[3,4,5]),(94,13,[1,3,4,44,45]),(94,23,[1,3,5,67,68]),(96,17,[1,2,3,4]),(103,5,[0,1,4]),(104,6,[1,4,5]),(104,9,[1,4,9]),(110,5,[0,3]),(112,7,[1,4,5]),(112,20,[1,4,18]),(113,6,[1,4,5]),(113,9,[1,4,9]),(122,21,[2,4]),(124,12,[1,3,38,39]),(134,14,[1,3,5,7,8]),(138,16,[1,3,4,5,6]),(139,18,[1,3,4,5,56,61]),(139,24,[3,4,5]),(166,33,[2,3]),(166,35,[2,3]),(166,37,[2,3]),(171,14,[5,10]),(171,20,[5,18]),(174,7,[4,5]),(184,5,[3])]
noncomputable def rankl:List (Nat × Nat × List Nat):=[(75,7,[0,1,2,3,4,5,6,7,8,9,10,11,12,13,14,15,16,17,18,21,19,20,22]),(75,23,[1,0,2]),(75,24,[0,2,1,3]),(96,3,[0,1,2,3,4,6,7,8,9,10,5,11]),(96,5,[0,1,3,4,5,6,7,2,8]),(96,11,[0,1,2,3,4,6,7,8,9,10,5,11]),(96,13,[0,1,2,3,4,6,7,8,9,10,5,11]),(96,15,[0,1,2,3,4,6,7,8,9,10,5,11]),(107,3,[0,1,2,3,4,6,7,8,5,9]),(107,5,[0,1,2,4,5,6,3,7]),(107,7,[0,1,2,4,5,6,3,7]),(107,9,[0,1,2,4,5,6,3,7]),(107,12,[1,2,3,0,4]),(107,17,[1,2,3,0,4]),(134,2,[0,1,2,3,4,5,6,7,8,9,10,23,11,12,13,14,15,16,25,26,27,28,29,30,17,18,19,20,21,32,22,24,31,33]),(143,1,[0,1,2,4,5,6,8,9,10,12,13,14,3,7,11,15])]
noncomputable def drawl:List (Nat × Nat × Bool × List (Option Nat)):=[(3,3,false,[some 3,none,some 3,none,none,none,some 4,none,some 4,none,none,none,none,some 5,none,some 5,none,none,none,none,none,none,none]),(24,5,true,[none,none,none,none,none,none,none,none,none,none,none,none,none,none,none,none,none,none,none,none]),(25,16,true,[none,none,none,none,none,none,none,none]),(25,34,true,[none,none,none,none,none,none,none,none,none,none,none,none]),(26,1,false,[some 1,none,some 1,none,none,some 2]),(27,9,false,[none,some 1,none,none,some 1,none,none,none,none,none]),(27,17,true,[none,some 1,none,none,none,none,some 1,none,none,none,none,none,none]),(27,19,true,[none,some 1,none,none,none,none,none,none,some 1,none,none,none,none,none,none,some 1,none,none,none,none,none]),(27,21,false,[none,some 1,none,none,none,none,none,none,some 1,none,none,none]),(27,23,false,[none,some 1,none,none,none,none,none,some 1,none,none,none]),(30,1,false,[some 1,none,some 1,none,none,some 2]),(31,8,false,[none,some 1,none,none,some 1,none,none,none,none,none]),(31,19,false,[none,some 1,none,none,some 1,none,none,none,none,none]),(32,12,false,[none,some 8,none,none,none,none,none,none,none,none,none,none,none,none,none,none,none,none,none,none,none,some 2,none,none,none,none,none,none,none]),(33,3,true,[none,none,none,none,none,none,none,none,none,none,none,none,none]),(33,7,true,[none,none,none,none,none,none,none,none,none,none,none,none,none,none,none,none]),(33,13,true,[none,none,none,none,none,none,none,none,none,none,none,none]),(35,4,true,[none,some 1,none,none,none,none,none,some 1,none,none,none,none,none]),(35,18,false,[none,some 1,none,none,none,none,none,some 1,none,none]),(36,12,false,[none,some 8,none,none,none,none,none,none,none,some 8,none,none,none,none,none,none,none,none,none,none,none]),(36,19,false,[none,some 8,none,none,none,none,none,none,none,none,some 8,none,none,none,none,none,none,none,none,none,none,none]),(39,3,true,[none,none,none,none,none,none,none,none,none,none,none,none,none,none,none,none,none,none,none]),(39,5,true,[none,none,none,none,none,none,none,none,none,none]),(39,7,true,[none,none,none,none,none,none,none,none,none,none]),(39,13,true,[none,none,none,none,none,none,none,none,none,none,none,none,none,none,none]),(48,1,false,[none,some 1,none,none,some 1,none,none,none]),(53,1,true,[none,none,none,none,some 3,none,none,none,none,none,none]),(59,3,false,[none,some 1,none,none,none,none,none,none,some 1,none,none,none,none]),(59,8,true,[none,none,none,none,some 1,none,none,none,none,none,none]),(59,10,true,[none,some 1,none,none,none,none,none,none,some 1,none,none,none,none,none,none]),(59,12,true,[none,some 1,none,none,none,none,none,none,some 1,none,none,none,none,none,none]),(59,18,true,[none,some 1,none,none,none,none,none,some 1,none,none,none,none,none,none,some 1,none,none,none,none,none,none,none,none]),(62,9,true,[none,none,some 1,none,none,none,none,none,none,some 1,none,none,none,none,none,none,none]),(64,1,false,[some 2,none,some 2,none,none,none,none,none]),(66,8,false,[none,none,none,none,none,none,none,none,none,some 5,none,none,none,none,none,none,none,some 5,none,none,none,none,none]),(67,5,false,[some 3,none,some 3,none,none,none,none,some 3,none,none,none,none,some 4,none,none,none]),(67,7,false,[some 3,none,none,some 4,none,none,none]),(67,9,false,[some 3,none,none,some 4,none,none,none]),(67,12,false,[some 3,none,some 3,none,none,none,none,none,none,none,some 4,none,none,none]),(67,15,false,[some 3,none,none,some 1,none,none,some 4,none,none,none]),(67,16,false,[some 3,none,none,none,some 1,none,none,some 4,none,none,none,none,none]),(71,14,true,[none,none,none,none,none,none,none,none,none,none,none,none,none]),(74,1,false,[some 2,none,some 2,none,none,none,none,none]),(75,7,false,[none,none,none,none,none,none,none,none,none,none,none,none,none,none,none,none,none,none,none,none,none,some 8,none]),(75,23,false,[some 5,none,some 3]),(75,24,false,[none,some 5,none,some 3]),(83,1,false,[some 2,none,some 2,none,none,none,none,none]),(88,2,false,[none,some 4,none,none,none,none,some 4,none,none,none,none,none,some 4,none,none,none,none]),(89,3,false,[none,some 1,none,none,none,some 1,none,none,none,none]),(93,9,true,[none,none,none,none,none,none,none,none,none,none,none,none,none,none,none,none,none,none,none,none,none,none,none]),(93,13,true,[none,none,none,none,none,none,none,none,none,none,none,none,none,none,none,none,none,none,none,none,none,none,none,none,none]),(94,3,true,[none,some 1,none,none,none,none,none,none,none,some 1,none,none,none,none,none,none]),(94,6,false,[none,some 1,none,none,none,some 1,none,none,none]),(94,23,false,[none,none,some 6,none,none,none,none,some 6,none,none,none,none,none,some 6,none,none,none]),(96,3,true,[none,some 1,none,none,none,none,some 1,none,none,none,none,none]),(96,5,true,[some 1,none,none,some 1,none,none,none,none,none]),(96,11,true,[none,some 1,none,none,none,none,some 1,none,none,none,none,none]),(96,13,true,[none,some 1,none,none,none,none,some 1,none,none,none,none,none]),(96,15,true,[none,some 1,none,none,none,none,some 1,none,none,none,none,none]),(98,1,false,[none,some 2,none,none,none,none,none,none,none,none,none,some 2,none,none,none,none,none,none,none]),(98,6,false,[some 2,none,none,none,none,none,none,none,none]),(98,9,false,[some 2,none,none,none,none,none,none]),(99,5,false,[none,none,some 5,none,none,some 5,none,none,none]),(107,3,false,[none,some 1,none,some 1,none,none,none,some 1,none,none]),(107,5,false,[none,some 1,none,none,none,some 1,none,none]),(107,7,false,[none,some 1,none,none,none,some 1,none,none]),(107,9,false,[none,some 1,none,none,none,some 1,none,none]),(107,12,false,[none,none,some 1,none,none]),(107,17,false,[none,none,some 1,none,none]),(108,9,false,[none,none,some 2,none,none,none,none,some 2,none,none,none,none,none,none,none,none]),(109,1,false,[none,some 1,none,none,some 1,none,none,none]),(116,1,false,[none,some 2,none,none,none,none,none,none,none,none]),(116,6,false,[some 2,none,none,none,none,none,none,none,none]),(124,19,false,[none,some 5,none,none,none,none,none,none,none,none,none,none,none,none,none,none,none,none,none,none,none,some 1,none,none,none,none,none,none,none]),(127,5,false,[none,some 3,none,none,none,none,none,none,none,none,none,none,some 3,none,none,none,none,none,none,none]),(127,11,false,[none,some 3,none,none,none,none,none,none,none,none,none,some 3,none,none,none,none,none,none,none,none]),(127,18,false,[none,some 3,none,none,none,none,none,none,none,none,none,none,none,none,none,none,some 3,none,none,none,none,none,none,none,none,none,none,none]),(131,2,false,[none,some 1,none,none,some 1,none,none,none]),(134,2,false,[none,none,none,none,none,none,none,none,none,none,none,none,none,none,none,none,none,none,none,none,none,none,none,none,none,none,none,none,none,none,none,none,none,none]),(140,4,false,[some 2,none,none,none,none,none,none,none,some 2,none,none,none,none,none,none,none]),(143,1,false,[none,some 2,none,none,some 2,none,none,some 2,none,none,some 2,none,none,none,none,none]),(159,4,false,[none,none,none,none,none]),(161,6,false,[some 3,none,none,none,none,none,none,none,none,none]),(193,2,false,[none,none,some 7,none])]
noncomputable def frzs:List (Nat × Nat × List Nat):=[]
noncomputable def codes:List (Nat × Func):=[(3,Tryz.f3),(4,Tryz.f4),(5,Tryz.f5),(6,Tryz.f6),(7,Tryz.f7),(8,Tryz.f8),(9,Tryz.f9),(10,Tryz.f10),(11,Tryz.f11),(12,Tryz.f12),(13,Tryz.f13),(14,Tryz.f14),(15,Tryz.f15),(16,Tryz.f16),(17,Tryz.f17),(18,Tryz.f18),(19,Tryz.f19),(20,Tryz.f20),(21,Tryz.f21),(22,Tryz.f22),(23,Tryz.f23),(24,Tryz.f24),(25,Tryz.f25),(26,Tryz.f26),(27,Tryz.f27),(28,Tryz.f28),(29,Tryz.f29),(30,Tryz.f30),(31,Tryz.f31),(32,Tryz.f32),(33,Tryz.f33),(34,Tryz.f34),(35,Tryz.f35),(36,Tryz.f36),(37,Tryz.f37),(38,Tryz.f38),(39,Tryz.f39),(40,Tryz.f40),(42,Tryz.f42),(43,Tryz.f43),(44,Tryz.f44),(45,Tryz.f45),(46,Tryz.f46),(47,Tryz.f47),(48,Tryz.f48),(49,Tryz.f49),(50,Tryz.f50),(51,Tryz.f51),(52,Tryz.f52),(53,Tryz.f53),(54,Tryz.f54),(55,Tryz.f55),(56,Tryz.f56),(57,Tryz.f57),(58,Tryz.f58),(59,Tryz.f59),(60,Tryz.f60),(61,Tryz.f61),(62,Tryz.f62),(63,Tryz.f63),(64,Tryz.f64),(65,Tryz.f65),(66,Tryz.f66),(67,Tryz.f67),(68,Tryz.f68),(69,Tryz.f69),(70,Tryz.f70),(71,Tryz.f71),(72,Tryz.f72),(73,Tryz.f73),(74,Tryz.f74),(75,Tryz.f75),(76,Tryz.f76),(77,Tryz.f77),(78,Tryz.f78),(79,Tryz.f79),(80,Tryz.f80),(81,Tryz.f81),(82,Tryz.f82),(83,Tryz.f83),(84,Tryz.f84),(85,Tryz.f85),(86,Tryz.f86),(88,Tryz.f88),(89,Tryz.f89),(90,Tryz.f90),(91,Tryz.f91),(92,Tryz.f92),(93,Tryz.f93),(94,Tryz.f94),(95,Tryz.f95),(96,Tryz.f96),(97,Tryz.f97),(98,Tryz.f98),(99,Tryz.f99),(100,Tryz.f100),(101,Tryz.f101),(102,Tryz.f102),(103,Tryz.f103),(104,Tryz.f104),(105,Tryz.f105),(106,Tryz.f106),(107,Tryz.f107),(108,Tryz.f108),(109,Tryz.f109),(110,Tryz.f110),(111,Tryz.f111),(112,Tryz.f112),(113,Tryz.f113),(114,Tryz.f114),(115,Tryz.f115),(116,Tryz.f116),(117,Tryz.f117),(118,Tryz.f118),(120,Tryz.f120),(121,Tryz.f121),(122,Tryz.f122),(123,Tryz.f123),(124,Tryz.f124),(125,Tryz.f125),(126,Tryz.f126),(127,Tryz.f127),(128,Tryz.f128),(130,Tryz.f130),(131,Tryz.f131),(132,Tryz.f132),(133,Tryz.f133),(134,Tryz.f134),(135,Tryz.f135),(136,Tryz.f136),(137,Tryz.f137),(138,Tryz.f138),(139,Tryz.f139),(140,Tryz.f140),(143,Tryz.f143),(144,Tryz.f144),(145,Tryz.f145),(146,Tryz.f146),(147,Tryz.f147),(148,Tryz.f148),(149,Tryz.f149),(150,Tryz.f150),(152,Tryz.f152),(153,Tryz.f153),(154,Tryz.f154),(155,Tryz.f155),(156,Tryz.f156),(157,Tryz.f157),(158,Tryz.f158),(159,Tryz.f159),(160,Tryz.f160),(161,Tryz.f161),(162,Tryz.f162),(163,Tryz.f163),(165,Tryz.f165),(166,Tryz.f166),(167,Tryz.f167),(168,Tryz.f168),(170,Tryz.f170),(171,Tryz.f171),(172,Tryz.f172),(173,Tryz.f173),(174,Tryz.f174),(175,Tryz.f175),(176,Tryz.f176),(177,Tryz.f177),(179,Tryz.f179),(180,Tryz.f180),(181,Tryz.f181),(184,Tryz.f184),(185,Tryz.f185),(186,Tryz.f186),(187,Tryz.f187),(188,Tryz.f188),(189,Tryz.f189),(190,Tryz.f190),(191,Tryz.f191),(192,Tryz.f192),(193,Tryz.f193),(194,Tryz.f194),(200,Tryz.f200),(201,Tryz.f201),(202,Tryz.f202),(203,Tryz.f203),(204,Tryz.f204)]
noncomputable def exts:List (Nat × (List AV->St->Option (Slot × St))):=[(41,extBString 5),(87,extCopyCheck 71),(119,pureX extIndexByte),(141,pureX extItoa),(142,extGrow 9 (tis.getD 9 {})),(164,pureX extContains)]
def glob0:List AV:=[.str [43],.str [45],.str [42],.str [100,105,118],.str [109,111,100],.str [61],.str [60,62],.str [60],.str [60,61]]
def glob1:List AV:=[.int .i64 9,.int .i64 9,.int .i64 9,.int .i64 9,.int .i64 9,.int .i64 0,.int .i64 8,.int .i64 9,.int .i64 0,.int .i64 0,.int .i64 9,.int .i64 2,.int .i64 0,.int .i64 5,.int .i64 4,.int .i64 3,.int .i64 8,.int .i64 8,.int .i64 1,.int .i64 8,.int .i64 9]
def glob2:List AV:=[.str [97,110,100],.str [97,110,100,97,108,115,111],.str [97,115],.str [99,97,115,101],.str [100,97,116,97,116,121,112,101],.str [100,105,118],.str [101,108,115,101],.str [101,110,100],.str [101,120,99,101,112,116,105,111,110],.str [102,110],.str [102,117,110],.str [104,97,110,100,108,101],.str [105,102],.str [105,110],.str [108,101,116],.str [109,111,100],.str [111,102],.str [111,114,101,108,115,101],.str [112,114,105,110,116],.str [114,97,105,115,101],.str [114,101,97,100],.str [114,101,102],.str [116,104,101,110],.str [118,97,108]]
def glob3:List AV:=[.str [33],.str [40],.str [41],.str [42],.str [43],.str [44],.str [45],.str [45,62],.str [58],.str [58,61],.str [59],.str [60],.str [60,61],.str [60,62],.str [61],.str [61,62],.str [95],.str [124],.str [126]]
noncomputable def C:Cfg where
 ti t:=tis.getD t {}
 mode f d:=findMode f d modes
 keep f r:=findKeep f r keeps
 cut f r:=findCut f r cuts
 draws f r:=findDraw f r drawl
 ranks f r:=findKeep f r rankl
 frz f r:=findKeep f r frzs
 glob g:=bif Nat.beq g 0 then some glob0 else bif Nat.beq g 1 then some glob1 else bif Nat.beq g 2 then some glob2 else bif Nat.beq g 3 then some glob3 else none
 ints:=[4]
 ext f:=findExt f exts
 code f:=findCode f codes
 tabs:=[(5,(Go.Lib.pow10Tab.map λz=>Value.int .u64 z).toArray)]
noncomputable abbrev cw:CallFn:=callw C
def Qdm:List UInt8:=[32,97,110,100,32,97,110,100,97,108,115,111,32,97,115,32,99,97,115,101,32,100,97,116,97,116,121,112,101,32,100,105,118,32,101,108,115,101,32,101,110,100,32,101,120,99,101,112,116,105,111,110,32,102,110,32,102,117,110,32,104,97,110,100,108,101,32,105,102,32,105,110,32,108,101,116,32,109,111,100,32,111,102,32,111,114,101,108,115,101,32,112,114,105,110,116,32,114,97,105,115,101,32,114,101,97,100,32,114,101,102,32,116,104,101,110,32,118,97,108,32,116,114,117,101,32,102,97,108,115,101,32,95,32]
abbrev T_0:Nat:=0
abbrev Q1:Nat:=3
abbrev QD:Nat:=4
abbrev Qb:Nat:=5
abbrev Q0:Nat:=9
abbrev Q27:Nat:=21
abbrev Q2:Nat:=22
abbrev Q8:Nat:=23
abbrev Qf:Nat:=24
abbrev QG:Nat:=25
abbrev Q6:Nat:=27
abbrev Qi:Nat:=28
abbrev Qv:Nat:=29
abbrev Ql:Nat:=31
abbrev Qt:Nat:=32
abbrev Qn:Nat:=33
abbrev Qo:Nat:=35
abbrev QB:Nat:=53
abbrev Qa:Nat:=55
abbrev Qj:Nat:=58
abbrev Q3M:Nat:=63
abbrev QQ:Nat:=69
abbrev Zz:Nat:=71
abbrev Qx:Nat:=72
abbrev QC:Nat:=73
abbrev QE:Nat:=74
abbrev QL:Nat:=76
abbrev Q0b:Nat:=102
abbrev Q0W:Nat:=113
abbrev Z3:Nat:=116
abbrev Q9:Nat:=118
abbrev Z6:Nat:=123
abbrev QF:Nat:=125
abbrev Zi:Nat:=127
abbrev Q32:Nat:=135
abbrev Q26:Nat:=136
abbrev Q1o:Nat:=137
abbrev Q33:Nat:=138
abbrev Q34:Nat:=139
abbrev Q6E:Nat:=140
abbrev Z7:Nat:=142
abbrev Qw:Nat:=144
abbrev QH:Nat:=146
abbrev Q1O:Nat:=150
abbrev Qh:Nat:=157
abbrev Za:Nat:=184
abbrev Q7:Nat:=193
abbrev Q3V:Nat:=3
abbrev QmL:Nat:=4
abbrev Q6e:Nat:=5
abbrev Q6f:Nat:=6
abbrev Q7d:Nat:=7
abbrev Q4s:Nat:=8
abbrev Q2Z:Nat:=9
abbrev Q82:Nat:=10
abbrev Q3K:Nat:=11
abbrev Q5h:Nat:=12
abbrev Q47:Nat:=13
abbrev Q83:Nat:=14
abbrev QsH:Nat:=15
abbrev Qog:Nat:=16
abbrev Qob:Nat:=17
abbrev Q0U:Nat:=18
abbrev Q0V:Nat:=19
abbrev Q1m:Nat:=20
abbrev Q3F:Nat:=21
abbrev Q2w:Nat:=22
abbrev Q5p:Nat:=23
abbrev Q30:Nat:=24
abbrev ZL:Nat:=25
abbrev Q4F:Nat:=26
abbrev Zg:Nat:=27
abbrev Q5q:Nat:=28
abbrev Q2A:Nat:=29
abbrev Q4G:Nat:=30
abbrev Q0q:Nat:=31
abbrev Q1N:Nat:=32
abbrev Q0e:Nat:=33
abbrev Q3W:Nat:=34
abbrev Zu:Nat:=35
abbrev Q0p:Nat:=36
abbrev QpP:Nat:=37
abbrev Zl:Nat:=38
abbrev Q5l:Nat:=39
abbrev Q0i:Nat:=40
abbrev Q15:Nat:=41
abbrev Qpt:Nat:=42
abbrev Q5i:Nat:=43
abbrev Q07:Nat:=44
abbrev Q3q:Nat:=45
abbrev Q3Z:Nat:=46
abbrev Q3X:Nat:=47
abbrev Q09:Nat:=48
abbrev Qz:Nat:=49
abbrev Qq:Nat:=50
abbrev Q14:Nat:=51
abbrev Q4x:Nat:=52
abbrev Q31:Nat:=53
abbrev Zx:Nat:=54
abbrev QX:Nat:=55
abbrev Qs:Nat:=56
abbrev Q3l:Nat:=57
abbrev Zd:Nat:=58
abbrev Q48:Nat:=59
abbrev Q1l:Nat:=60
abbrev ZJ:Nat:=61
abbrev Z9:Nat:=62
abbrev Q3I:Nat:=63
abbrev QA:Nat:=64
abbrev Q21:Nat:=65
abbrev Q0A:Nat:=66
abbrev Q90:Nat:=67
abbrev Q6h:Nat:=68
abbrev Q3Y:Nat:=69
abbrev Q0a:Nat:=70
abbrev Q23:Nat:=71
abbrev Q0z:Nat:=72
abbrev Zf:Nat:=73
abbrev Q0M:Nat:=74
abbrev Q58:Nat:=75
abbrev Zv:Nat:=76
abbrev Zs:Nat:=77
abbrev Q3f:Nat:=78
abbrev Q3n:Nat:=79
abbrev Q3o:Nat:=80
abbrev Q2K:Nat:=81
abbrev Q46:Nat:=82
abbrev Q2z:Nat:=83
abbrev Qoi:Nat:=84
abbrev Qoh:Nat:=85
abbrev Q0r:Nat:=86
abbrev Zy:Nat:=87
abbrev Q5m:Nat:=88
abbrev Q7M:Nat:=89
abbrev Q5n:Nat:=90
abbrev Q5o:Nat:=91
abbrev QtE:Nat:=92
abbrev Q13:Nat:=93
abbrev Q1M:Nat:=94
abbrev Q5r:Nat:=95
abbrev Q1v:Nat:=96
abbrev Q3a:Nat:=97
abbrev ZR:Nat:=98
abbrev ZO:Nat:=99
abbrev Zk:Nat:=100
abbrev Q5b:Nat:=101
abbrev Z2:Nat:=102
abbrev Q22:Nat:=103
abbrev Q0N:Nat:=104
abbrev Q3m:Nat:=105
abbrev Q4v:Nat:=106
abbrev Q7c:Nat:=107
abbrev Q1k:Nat:=108
abbrev Q1X:Nat:=109
abbrev Q12:Nat:=110
abbrev Zc:Nat:=111
abbrev ZK:Nat:=112
abbrev Q0h:Nat:=113
abbrev Q7L:Nat:=114
abbrev Q4I:Nat:=115
abbrev Zn:Nat:=116
abbrev Q24:Nat:=117
abbrev Q4H:Nat:=118
abbrev Q39:Nat:=119
abbrev Q38:Nat:=120
abbrev Q5a:Nat:=121
abbrev Q8y:Nat:=122
abbrev Zh:Nat:=123
abbrev Q5j:Nat:=124
abbrev Q5k:Nat:=125
abbrev QmO:Nat:=126
abbrev ZQ:Nat:=127
abbrev Q1n:Nat:=128
abbrev Q0T:Nat:=130
abbrev Q6z:Nat:=131
abbrev Q3J:Nat:=132
abbrev Q40:Nat:=133
abbrev Q0s:Nat:=134
abbrev Q2B:Nat:=135
abbrev Q5w:Nat:=136
abbrev Q5x:Nat:=137
abbrev Q3g:Nat:=138
abbrev Q25:Nat:=139
abbrev ZC:Nat:=140
abbrev Q6g:Nat:=141
abbrev Q08:Nat:=142
abbrev Q8X:Nat:=143
abbrev Q8Y:Nat:=144
abbrev Q8Z:Nat:=145
abbrev Q9D:Nat:=146
abbrev Q1L:Nat:=147
abbrev Q6d:Nat:=148
abbrev Q3e:Nat:=149
abbrev Q1Y:Nat:=150
abbrev ZN:Nat:=152
abbrev Q1K:Nat:=153
abbrev Q1J:Nat:=154
abbrev Q59:Nat:=155
abbrev Q44:Nat:=156
abbrev Q0L:Nat:=157
abbrev Q8V:Nat:=158
abbrev Q7J:Nat:=159
abbrev Q5d:Nat:=160
abbrev ZD:Nat:=161
abbrev Q5v:Nat:=162
abbrev Q5u:Nat:=163
abbrev Q3p:Nat:=164
abbrev Q3L:Nat:=165
abbrev Q2L:Nat:=166
abbrev Q1u:Nat:=167
abbrev Q5t:Nat:=168
abbrev Q1t:Nat:=170
abbrev Q1Z:Nat:=171
abbrev Q6y:Nat:=172
abbrev Q4w:Nat:=173
abbrev Q5g:Nat:=174
abbrev Q20:Nat:=175
abbrev Q4u:Nat:=176
abbrev Q7b:Nat:=177
abbrev Q5e:Nat:=179
abbrev Q8W:Nat:=180
abbrev Q5s:Nat:=181
abbrev Q5c:Nat:=184
abbrev Q6c:Nat:=185
abbrev Q81:Nat:=186
abbrev Q79:Nat:=187
abbrev Q2Y:Nat:=188
abbrev Q3H:Nat:=189
abbrev Q2J:Nat:=190
abbrev Q3G:Nat:=191
abbrev Q45:Nat:=192
abbrev Q80:Nat:=193
abbrev Q5f:Nat:=194
abbrev Q7a:Nat:=200
abbrev Q4t:Nat:=201
abbrev Q7K:Nat:=202
abbrev Q78:Nat:=203
abbrev Q77:Nat:=204
@[go_sem] theorem Qu6:(C.ti Q1).size=1:=by kernel_rfl
@[go_sem] theorem Q35:(C.ti Q1).k = .int .i64:=by kernel_rfl
@[go_sem] theorem Qwo:(C.ti Q1).isAgg=false:=by kernel_rfl
@[go_sem] theorem Qu5:(C.ti Q1).isGood=true:=by kernel_rfl
@[go_sem] theorem Qu7:(C.ti Q1).zero=[.int .i64 0]:=by kernel_rfl
@[go_sem] theorem Qt8:(C.ti QD).size=1:=by kernel_rfl
@[go_sem] theorem QmW:(C.ti QD).k = .bool:=by kernel_rfl
@[go_sem] theorem Qu1:(C.ti QD).isAgg=false:=by kernel_rfl
@[go_sem] theorem Qt7:(C.ti QD).isGood=true:=by kernel_rfl
@[go_sem] theorem Qt9:(C.ti QD).zero=[.bool false]:=by kernel_rfl
@[go_sem] theorem QqF:(C.ti Qb).size=1:=by kernel_rfl
@[go_sem] theorem QlG:(C.ti Qb).k = .int .u8:=by kernel_rfl
@[go_sem] theorem Qtc:(C.ti Qb).isAgg=false:=by kernel_rfl
@[go_sem] theorem QqE:(C.ti Qb).isGood=true:=by kernel_rfl
@[go_sem] theorem QqG:(C.ti Qb).zero=[.int .u8 0]:=by kernel_rfl
@[go_sem] theorem Qag:(C.ti Q0).size=1:=by kernel_rfl
@[go_sem] theorem Qk:(C.ti Q0).k = .str:=by kernel_rfl
@[go_sem] theorem Qqz:(C.ti Q0).isAgg=false:=by kernel_rfl
@[go_sem] theorem QpH:(C.ti Q0).isGood=true:=by kernel_rfl
@[go_sem] theorem QpI:(C.ti Q0).zero=[.str []]:=by kernel_rfl
@[go_sem] theorem Qqx:(C.ti Q27).size=1:=by kernel_rfl
@[go_sem] theorem Qwn:(C.ti Q27).k = .int .i32:=by kernel_rfl
@[go_sem] theorem Qta:(C.ti Q27).isAgg=false:=by kernel_rfl
@[go_sem] theorem Qqw:(C.ti Q27).isGood=true:=by kernel_rfl
@[go_sem] theorem Qqy:(C.ti Q27).zero=[.int .i32 0]:=by kernel_rfl
@[go_sem] theorem Qoq:(C.ti Q2).size=1:=by kernel_rfl
@[go_sem] theorem Qje:(C.ti Q2).k = .int .i64:=by kernel_rfl
@[go_sem] theorem Qpw:(C.ti Q2).isAgg=false:=by kernel_rfl
@[go_sem] theorem Qop:(C.ti Q2).isGood=true:=by kernel_rfl
@[go_sem] theorem Qor:(C.ti Q2).zero=[.int .i64 0]:=by kernel_rfl
@[go_sem] theorem Qqj:(C.ti Q8).size=1:=by kernel_rfl
@[go_sem] theorem QlB:(C.ti Q8).k = .slice 27:=by kernel_rfl
@[go_sem] theorem QsY:(C.ti Q8).isAgg=false:=by kernel_rfl
@[go_sem] theorem Qqi:(C.ti Q8).isGood=true:=by kernel_rfl
@[go_sem] theorem Qqk:(C.ti Q8).zero=[.nils]:=by kernel_rfl
@[go_sem] theorem QpA:(C.ti Qf).size=1:=by kernel_rfl
@[go_sem] theorem Qdo:(C.ti Qf).k = .slice 125:=by kernel_rfl
@[go_sem] theorem Qqb:(C.ti Qf).isAgg=false:=by kernel_rfl
@[go_sem] theorem Qpz:(C.ti Qf).isGood=true:=by kernel_rfl
@[go_sem] theorem QpB:(C.ti Qf).zero=[.nils]:=by kernel_rfl
@[go_sem] theorem Qqg:(C.ti QG).size=1:=by kernel_rfl
@[go_sem] theorem QlA:(C.ti QG).k = .slice 76:=by kernel_rfl
@[go_sem] theorem QsX:(C.ti QG).isAgg=false:=by kernel_rfl
@[go_sem] theorem Qqf:(C.ti QG).isGood=true:=by kernel_rfl
@[go_sem] theorem Qqh:(C.ti QG).zero=[.nils]:=by kernel_rfl
@[go_sem] theorem QtQ:(C.ti Q6).size=7:=by kernel_rfl
@[go_sem] theorem Qk0:(C.ti Q6).k = .struct [(0,22),(1,3),(2,9),(3,3),(4,23),(5,24),(6,25)]:=by kernel_rfl
@[go_sem] theorem Qlw:(C.ti Q6).isAgg=true:=by kernel_rfl
@[go_sem] theorem QtP:(C.ti Q6).isGood=true:=by kernel_rfl
@[go_sem] theorem QtR:(C.ti Q6).zero=[.int .i64 0,.int .i64 0,.str [],.int .i64 0,.nils,.nils,.nils]:=by kernel_rfl
@[go_sem] theorem Qou:(C.ti Qi).size=1:=by kernel_rfl
@[go_sem] theorem Qjf:(C.ti Qi).k = .int .i64:=by kernel_rfl
@[go_sem] theorem Qpx:(C.ti Qi).isAgg=false:=by kernel_rfl
@[go_sem] theorem Qot:(C.ti Qi).isGood=true:=by kernel_rfl
@[go_sem] theorem Qov:(C.ti Qi).zero=[.int .i64 0]:=by kernel_rfl
@[go_sem] theorem Qqp:(C.ti Qv).size=1:=by kernel_rfl
@[go_sem] theorem QlD:(C.ti Qv).k = .slice 31:=by kernel_rfl
@[go_sem] theorem Qt0:(C.ti Qv).isAgg=false:=by kernel_rfl
@[go_sem] theorem Qqo:(C.ti Qv).isGood=true:=by kernel_rfl
@[go_sem] theorem Qqq:(C.ti Qv).zero=[.nils]:=by kernel_rfl
@[go_sem] theorem QtX:(C.ti Ql).size=5:=by kernel_rfl
@[go_sem] theorem Qk1:(C.ti Ql).k = .struct [(0,28),(1,3),(2,9),(3,3),(4,29)]:=by kernel_rfl
@[go_sem] theorem Qly:(C.ti Ql).isAgg=true:=by kernel_rfl
@[go_sem] theorem QtW:(C.ti Ql).isGood=true:=by kernel_rfl
@[go_sem] theorem QtY:(C.ti Ql).zero=[.int .i64 0,.int .i64 0,.str [],.int .i64 0,.nils]:=by kernel_rfl
@[go_sem] theorem QpF:(C.ti Qt).size=1:=by kernel_rfl
@[go_sem] theorem QkH:(C.ti Qt).k = .int .i64:=by kernel_rfl
@[go_sem] theorem Qqv:(C.ti Qt).isAgg=false:=by kernel_rfl
@[go_sem] theorem QpE:(C.ti Qt).isGood=true:=by kernel_rfl
@[go_sem] theorem QpG:(C.ti Qt).zero=[.int .i64 0]:=by kernel_rfl
@[go_sem] theorem Qt3:(C.ti Qn).size=1:=by kernel_rfl
@[go_sem] theorem QmT:(C.ti Qn).k = .slice 35:=by kernel_rfl
@[go_sem] theorem QtZ:(C.ti Qn).isAgg=false:=by kernel_rfl
@[go_sem] theorem Qt2:(C.ti Qn).isGood=true:=by kernel_rfl
@[go_sem] theorem Qt4:(C.ti Qn).zero=[.nils]:=by kernel_rfl
@[go_sem] theorem Qwk:(C.ti Qo).size=4:=by kernel_rfl
@[go_sem] theorem QlF:(C.ti Qo).k = .struct [(0,32),(1,3),(2,9),(3,33)]:=by kernel_rfl
@[go_sem] theorem QmV:(C.ti Qo).isAgg=true:=by kernel_rfl
@[go_sem] theorem Qwj:(C.ti Qo).isGood=true:=by kernel_rfl
@[go_sem] theorem Qwl:(C.ti Qo).zero=[.int .i64 0,.int .i64 0,.str [],.nils]:=by kernel_rfl
@[go_sem] theorem QpR:(C.ti QB).size=1:=by kernel_rfl
@[go_sem] theorem Qwa:(C.ti QB).k = .int .i64:=by kernel_rfl
@[go_sem] theorem QsM:(C.ti QB).isAgg=false:=by kernel_rfl
@[go_sem] theorem QpQ:(C.ti QB).isGood=true:=by kernel_rfl
@[go_sem] theorem QpS:(C.ti QB).zero=[.int .i64 0]:=by kernel_rfl
@[go_sem] theorem QtH:(C.ti Qa).size=3:=by kernel_rfl
@[go_sem] theorem QyK:(C.ti Qa).k = .struct [(0,53),(1,3),(2,9)]:=by kernel_rfl
@[go_sem] theorem Qw9:(C.ti Qa).isAgg=true:=by kernel_rfl
@[go_sem] theorem QtG:(C.ti Qa).isGood=true:=by kernel_rfl
@[go_sem] theorem QtI:(C.ti Qa).zero=[.int .i64 0,.int .i64 0,.str []]:=by kernel_rfl
@[go_sem] theorem Qoe:(C.ti Qj).size=1:=by kernel_rfl
@[go_sem] theorem Qqu:(C.ti Qj).k = .slice 9:=by kernel_rfl
@[go_sem] theorem Qow:(C.ti Qj).isAgg=false:=by kernel_rfl
@[go_sem] theorem Qod:(C.ti Qj).isGood=true:=by kernel_rfl
@[go_sem] theorem Qof:(C.ti Qj).zero=[.nils]:=by kernel_rfl
@[go_sem] theorem Qq9:(C.ti Q3M).size=1:=by kernel_rfl
@[go_sem] theorem Qwg:(C.ti Q3M).k = .ptr:=by kernel_rfl
@[go_sem] theorem QsV:(C.ti Q3M).isAgg=false:=by kernel_rfl
@[go_sem] theorem Qq8:(C.ti Q3M).isGood=true:=by kernel_rfl
@[go_sem] theorem Qqa:(C.ti Q3M).zero=[.nilp]:=by kernel_rfl
@[go_sem] theorem Q9c:(C.ti QQ).size=1:=by kernel_rfl
@[go_sem] theorem Qt5:(C.ti QQ).k = .slice 5:=by kernel_rfl
@[go_sem] theorem QpC:(C.ti QQ).isAgg=false:=by kernel_rfl
@[go_sem] theorem Qox:(C.ti QQ).isGood=true:=by kernel_rfl
@[go_sem] theorem Qoy:(C.ti QQ).zero=[.nils]:=by kernel_rfl
@[go_sem] theorem Qok:(C.ti Zz).size=2:=by kernel_rfl
@[go_sem] theorem QsI:(C.ti Zz).k = .struct [(0,68),(1,69)]:=by kernel_rfl
@[go_sem] theorem Qpu:(C.ti Zz).isAgg=true:=by kernel_rfl
@[go_sem] theorem Qoj:(C.ti Zz).isGood=true:=by kernel_rfl
@[go_sem] theorem QeA:(C.ti Zz).zero=[.nilp,.nils]:=by kernel_rfl
@[go_sem] theorem Qon:(C.ti Qx).size=1:=by kernel_rfl
@[go_sem] theorem Qjd:(C.ti Qx).k = .int .i64:=by kernel_rfl
@[go_sem] theorem Qpv:(C.ti Qx).isAgg=false:=by kernel_rfl
@[go_sem] theorem Qom:(C.ti Qx).isGood=true:=by kernel_rfl
@[go_sem] theorem Qoo:(C.ti Qx).zero=[.int .i64 0]:=by kernel_rfl
@[go_sem] theorem Qqd:(C.ti QC).size=1:=by kernel_rfl
@[go_sem] theorem Qlz:(C.ti QC).k = .slice 123:=by kernel_rfl
@[go_sem] theorem QsW:(C.ti QC).isAgg=false:=by kernel_rfl
@[go_sem] theorem Qqc:(C.ti QC).isGood=true:=by kernel_rfl
@[go_sem] theorem Qqe:(C.ti QC).zero=[.nils]:=by kernel_rfl
@[go_sem] theorem Qqm:(C.ti QE).size=1:=by kernel_rfl
@[go_sem] theorem QlC:(C.ti QE).k = .slice 127:=by kernel_rfl
@[go_sem] theorem QsZ:(C.ti QE).isAgg=false:=by kernel_rfl
@[go_sem] theorem Qql:(C.ti QE).isGood=true:=by kernel_rfl
@[go_sem] theorem Qqn:(C.ti QE).zero=[.nils]:=by kernel_rfl
@[go_sem] theorem QtN:(C.ti QL).size=7:=by kernel_rfl
@[go_sem] theorem QjZ:(C.ti QL).k = .struct [(0,72),(1,3),(2,9),(3,3),(4,73),(5,24),(6,74)]:=by kernel_rfl
@[go_sem] theorem Qlv:(C.ti QL).isAgg=true:=by kernel_rfl
@[go_sem] theorem QtM:(C.ti QL).isGood=true:=by kernel_rfl
@[go_sem] theorem QtO:(C.ti QL).zero=[.int .i64 0,.int .i64 0,.str [],.int .i64 0,.nils,.nils,.nils]:=by kernel_rfl
@[go_sem] theorem Qls:(C.ti Q0b).size=1:=by kernel_rfl
@[go_sem] theorem QmU:(C.ti Q0b).k = .slice 157:=by kernel_rfl
@[go_sem] theorem QlE:(C.ti Q0b).isAgg=false:=by kernel_rfl
@[go_sem] theorem Qlr:(C.ti Q0b).isGood=true:=by kernel_rfl
@[go_sem] theorem Qlt:(C.ti Q0b).zero=[.nils]:=by kernel_rfl
@[go_sem] theorem Qqs:(C.ti Q0W).size=1:=by kernel_rfl
@[go_sem] theorem Qwh:(C.ti Q0W).k = .slice 118:=by kernel_rfl
@[go_sem] theorem Qt1:(C.ti Q0W).isAgg=false:=by kernel_rfl
@[go_sem] theorem Qqr:(C.ti Q0W).isGood=true:=by kernel_rfl
@[go_sem] theorem Qqt:(C.ti Q0W).zero=[.nils]:=by kernel_rfl
@[go_sem] theorem QoA:(C.ti Z3).size=1:=by kernel_rfl
@[go_sem] theorem Qt6:(C.ti Z3).k = .int .i64:=by kernel_rfl
@[go_sem] theorem QpD:(C.ti Z3).isAgg=false:=by kernel_rfl
@[go_sem] theorem Qoz:(C.ti Z3).isGood=true:=by kernel_rfl
@[go_sem] theorem QoB:(C.ti Z3).zero=[.int .i64 0]:=by kernel_rfl
@[go_sem] theorem Qdp:(C.ti Q9).size=4:=by kernel_rfl
@[go_sem] theorem QyL:(C.ti Q9).k = .struct [(0,116),(1,3),(2,9),(3,3)]:=by kernel_rfl
@[go_sem] theorem Qwi:(C.ti Q9).isAgg=true:=by kernel_rfl
@[go_sem] theorem Qu0:(C.ti Q9).isGood=true:=by kernel_rfl
@[go_sem] theorem Qjg:(C.ti Q9).bytes=40:=by kernel_rfl
@[go_sem] theorem QkG:(C.ti Q9).zero=[.int .i64 0,.int .i64 0,.str [],.int .i64 0]:=by kernel_rfl
@[go_sem] theorem QtK:(C.ti Z6).size=7:=by kernel_rfl
@[go_sem] theorem Qol:(C.ti Z6).k = .struct [(0,9),(1,3),(2,4),(3,35)]:=by kernel_rfl
@[go_sem] theorem Qlu:(C.ti Z6).isAgg=true:=by kernel_rfl
@[go_sem] theorem QtJ:(C.ti Z6).isGood=true:=by kernel_rfl
@[go_sem] theorem QtL:(C.ti Z6).zero=[.str [],.int .i64 0,.bool false,.int .i64 0,.int .i64 0,.str [],.nils]:=by kernel_rfl
@[go_sem] theorem QsK:(C.ti QF).size=12:=by kernel_rfl
@[go_sem] theorem QmP:(C.ti QF).k = .struct [(0,31),(5,27)]:=by kernel_rfl
@[go_sem] theorem Qdn:(C.ti QF).isAgg=true:=by kernel_rfl
@[go_sem] theorem QsJ:(C.ti QF).isGood=true:=by kernel_rfl
@[go_sem] theorem QsL:(C.ti QF).zero=[.int .i64 0,.int .i64 0,.str [],.int .i64 0,.nils,.int .i64 0,.int .i64 0,.str [],.int .i64 0,.nils,.nils,.nils]:=by kernel_rfl
@[go_sem] theorem QtT:(C.ti Zi).size=14:=by kernel_rfl
@[go_sem] theorem Qos:(C.ti Zi).k = .struct [(0,9),(1,3),(2,125)]:=by kernel_rfl
@[go_sem] theorem Qlx:(C.ti Zi).isAgg=true:=by kernel_rfl
@[go_sem] theorem QtS:(C.ti Zi).isGood=true:=by kernel_rfl
@[go_sem] theorem QtU:(C.ti Zi).zero=[.str [],.int .i64 0,.int .i64 0,.int .i64 0,.str [],.int .i64 0,.nils,.int .i64 0,.int .i64 0,.str [],.int .i64 0,.nils,.nils,.nils]:=by kernel_rfl
@[go_sem] theorem QpX:(C.ti Q32).size=1:=by kernel_rfl
@[go_sem] theorem Qwc:(C.ti Q32).k = .ptr:=by kernel_rfl
@[go_sem] theorem QsO:(C.ti Q32).isAgg=false:=by kernel_rfl
@[go_sem] theorem QpW:(C.ti Q32).isGood=true:=by kernel_rfl
@[go_sem] theorem QpY:(C.ti Q32).zero=[.nilp]:=by kernel_rfl
@[go_sem] theorem Qq3:(C.ti Q26).size=1:=by kernel_rfl
@[go_sem] theorem Qwe:(C.ti Q26).k = .ptr:=by kernel_rfl
@[go_sem] theorem QsQ:(C.ti Q26).isAgg=false:=by kernel_rfl
@[go_sem] theorem Qq2:(C.ti Q26).isGood=true:=by kernel_rfl
@[go_sem] theorem Qq4:(C.ti Q26).zero=[.nilp]:=by kernel_rfl
@[go_sem] theorem QpU:(C.ti Q1o).size=1:=by kernel_rfl
@[go_sem] theorem Qwb:(C.ti Q1o).k = .ptr:=by kernel_rfl
@[go_sem] theorem QsN:(C.ti Q1o).isAgg=false:=by kernel_rfl
@[go_sem] theorem QpT:(C.ti Q1o).isGood=true:=by kernel_rfl
@[go_sem] theorem QpV:(C.ti Q1o).zero=[.nilp]:=by kernel_rfl
@[go_sem] theorem Qq0:(C.ti Q33).size=1:=by kernel_rfl
@[go_sem] theorem Qwd:(C.ti Q33).k = .ptr:=by kernel_rfl
@[go_sem] theorem QsP:(C.ti Q33).isAgg=false:=by kernel_rfl
@[go_sem] theorem QpZ:(C.ti Q33).isGood=true:=by kernel_rfl
@[go_sem] theorem Qq1:(C.ti Q33).zero=[.nilp]:=by kernel_rfl
@[go_sem] theorem Qq6:(C.ti Q34).size=1:=by kernel_rfl
@[go_sem] theorem Qwf:(C.ti Q34).k = .ptr:=by kernel_rfl
@[go_sem] theorem QsR:(C.ti Q34).isAgg=false:=by kernel_rfl
@[go_sem] theorem Qq5:(C.ti Q34).isGood=true:=by kernel_rfl
@[go_sem] theorem Qq7:(C.ti Q34).zero=[.nilp]:=by kernel_rfl
@[go_sem] theorem QsT:(C.ti Q6E).size=1:=by kernel_rfl
@[go_sem] theorem Qx7:(C.ti Q6E).k = .ptr:=by kernel_rfl
@[go_sem] theorem QtV:(C.ti Q6E).isAgg=false:=by kernel_rfl
@[go_sem] theorem QsS:(C.ti Q6E).isGood=true:=by kernel_rfl
@[go_sem] theorem QsU:(C.ti Q6E).zero=[.nilp]:=by kernel_rfl
@[go_sem] theorem QqB:(C.ti Z7).size=8:=by kernel_rfl
@[go_sem] theorem Qwp:(C.ti Z7).k = .struct [(0,135),(1,4),(2,136),(3,137),(4,138),(5,139),(6,140),(7,3)]:=by kernel_rfl
@[go_sem] theorem Qtb:(C.ti Z7).isAgg=true:=by kernel_rfl
@[go_sem] theorem QqA:(C.ti Z7).isGood=true:=by kernel_rfl
@[go_sem] theorem QqC:(C.ti Z7).zero=[.nilp,.bool false,.nilp,.nilp,.nilp,.nilp,.nilp,.int .i64 0]:=by kernel_rfl
@[go_sem] theorem Qex:(C.ti Qw).size=1:=by kernel_rfl
@[go_sem] theorem Qgw:(C.ti Qw).k = .func:=by kernel_rfl
@[go_sem] theorem QeB:(C.ti Qw).isAgg=false:=by kernel_rfl
@[go_sem] theorem Qew:(C.ti Qw).isGood=true:=by kernel_rfl
@[go_sem] theorem Qey:(C.ti Qw).zero=[.nilf]:=by kernel_rfl
@[go_sem] theorem QpN:(C.ti QH).size=1:=by kernel_rfl
@[go_sem] theorem Qu9:(C.ti QH).k = .struct [(0,144)]:=by kernel_rfl
@[go_sem] theorem QqH:(C.ti QH).isAgg=true:=by kernel_rfl
@[go_sem] theorem QpM:(C.ti QH).isGood=true:=by kernel_rfl
@[go_sem] theorem QpO:(C.ti QH).zero=[.nilf]:=by kernel_rfl
@[go_sem] theorem QmR:(C.ti Q1O).size=1:=by kernel_rfl
@[go_sem] theorem Qpy:(C.ti Q1O).k = .slice 58:=by kernel_rfl
@[go_sem] theorem Qoc:(C.ti Q1O).isAgg=false:=by kernel_rfl
@[go_sem] theorem QmQ:(C.ti Q1O).isGood=true:=by kernel_rfl
@[go_sem] theorem QmS:(C.ti Q1O).zero=[.nils]:=by kernel_rfl
@[go_sem] theorem Q7h:(C.ti Qh).size=47:=by kernel_rfl
@[go_sem] theorem QoC:(C.ti Qh).k = .struct [(0,3),(1,4),(2,3),(3,76),(10,27),(17,31),(22,35),(26,127),(40,123)]:=by kernel_rfl
@[go_sem] theorem QmX:(C.ti Qh).isAgg=true:=by kernel_rfl
@[go_sem] theorem QmM:(C.ti Qh).isGood=true:=by kernel_rfl
@[go_sem] theorem QaC:(C.ti Qh).bytes=656:=by kernel_rfl
@[go_sem] theorem QmN:(C.ti Qh).zero=[.int .i64 0,.bool false,.int .i64 0,.int .i64 0,.int .i64 0,.str [],.int .i64 0,.nils,.nils,.nils,.int .i64 0,.int .i64 0,.str [],.int .i64 0,.nils,.nils,.nils,.int .i64 0,.int .i64 0,.str [],.int .i64 0,.nils,.int .i64 0,.int .i64 0,.str [],.nils,.str [],.int .i64 0,.int .i64 0,.int .i64 0,.str [],.int .i64 0,.nils,.int .i64 0,.int .i64 0,.str [],.int .i64 0,.nils,.nils,.nils,.str [],.int .i64 0,.bool false,.int .i64 0,.int .i64 0,.str [],.nils]:=by kernel_rfl
@[go_sem] theorem QpK:(C.ti Za).size=1:=by kernel_rfl
@[go_sem] theorem Qu8:(C.ti Za).k = .int .u64:=by kernel_rfl
@[go_sem] theorem QqD:(C.ti Za).isAgg=false:=by kernel_rfl
@[go_sem] theorem QpJ:(C.ti Za).isGood=true:=by kernel_rfl
@[go_sem] theorem QpL:(C.ti Za).zero=[.int .u64 0]:=by kernel_rfl
@[go_sem] theorem Qu3:(C.ti Q7).size=6:=by kernel_rfl
@[go_sem] theorem QyM:(C.ti Q7).k = .struct [(0,4),(1,4),(2,4),(3,4),(4,3),(5,3)]:=by kernel_rfl
@[go_sem] theorem Qwm:(C.ti Q7).isAgg=true:=by kernel_rfl
@[go_sem] theorem Qu2:(C.ti Q7).isGood=true:=by kernel_rfl
@[go_sem] theorem Qu4:(C.ti Q7).zero=[.bool false,.bool false,.bool false,.bool false,.int .i64 0,.int .i64 0]:=by kernel_rfl
noncomputable def gC(T:Nat)(k:Nat)(c:List Slot)(K:Slot->Res):Res:=bind1 (ofSlots (C.ti T) (List.take (C.ti T).size (List.drop k c))) K
@[go_sem] theorem QzG(T:Nat)(k:Nat)(c:List Slot)(K:Slot->Res):gC T k c K=bind1 (ofSlots (C.ti T) (List.take (C.ti T).size (List.drop k c))) K:=id rfl
@[congr] theorem QxL{T:Nat}{k:Nat}{c c':List Slot}{K:Slot->Res}(h0:c=c'):gC T k c K=gC T k c' K:=by rw[h0]
noncomputable def gA(T:Nat)(c:List Slot)(K:Slot->Res):Res:=bind1 (ofSlots (C.ti T) (List.take (C.ti T).size c)) K
@[go_sem] theorem QzE(T:Nat)(c:List Slot)(K:Slot->Res):gA T c K=bind1 (ofSlots (C.ti T) (List.take (C.ti T).size c)) K:=id rfl
@[congr] theorem QxJ{T:Nat}{c c':List Slot}{K:Slot->Res}(h0:c=c'):gA T c K=gA T c' K:=by rw[h0]
noncomputable def bx(T:Nat)(v:Slot)(K:List Slot->Res):Res:=bindL (boxCells (C.ti T) v) K
@[go_sem] theorem Qzy(T:Nat)(v:Slot)(K:List Slot->Res):bx T v K=bindL (boxCells (C.ti T) v) K:=id rfl
@[congr] theorem Qxt{T:Nat}{v v':Slot}{K:List Slot->Res}(h0:v=v'):bx T v K=bx T v' K:=by rw[h0]
noncomputable def pZ(T:Nat)(c:List Slot)(K:List Slot->Res):Res:=bindL (putAt (List.map .val (C.ti T).zero) 0 c) K
@[go_sem] theorem QA0(T:Nat)(c:List Slot)(K:List Slot->Res):pZ T c K=bindL (putAt (List.map .val (C.ti T).zero) 0 c) K:=id rfl
@[congr] theorem Qyr{T:Nat}{c c':List Slot}{K:List Slot->Res}(h0:c=c'):pZ T c K=pZ T c' K:=by rw[h0]
noncomputable def bn(T:Nat)(op:BinOp)(x:Slot)(y:Slot)(K:Slot->Res):Res:=bind1 (binS (C.ti T) op x y) K
@[go_sem] theorem Qhk(T:Nat)(op:BinOp)(x:Slot)(y:Slot)(K:Slot->Res):bn T op x y K=bind1 (binS (C.ti T) op x y) K:=id rfl
@[congr] theorem Qxp{T:Nat}{op:BinOp}{x x':Slot}{y y':Slot}{K:Slot->Res}(h0:x=x')(h1:y=y'):bn T op x y K=bn T op x' y' K:=by rw[h0,h1]
noncomputable def ix(T:Nat)(x:Slot)(i:Slot)(K:Slot->Res):Res:=bind1 (ixS (C.ti T).size x i) K
@[go_sem] theorem QzV(T:Nat)(x:Slot)(i:Slot)(K:Slot->Res):ix T x i K=bind1 (ixS (C.ti T).size x i) K:=id rfl
@[congr] theorem Qy4{T:Nat}{x x':Slot}{i i':Slot}{K:Slot->Res}(h0:x=x')(h1:i=i'):ix T x i K=ix T x' i' K:=by rw[h0,h1]
noncomputable def ld(T:Nat)(s:St)(a:Slot)(K:Slot->Res):Res:=bind1 (ldV (C.ti T) false s a) K
@[go_sem] theorem QzW(T:Nat)(s:St)(a:Slot)(K:Slot->Res):ld T s a K=bind1 (ldV (C.ti T) false s a) K:=id rfl
@[congr] theorem Qya{T:Nat}{s s':St}{a a':Slot}{K:Slot->Res}(h0:s=s')(h1:a=a'):ld T s a K=ld T s' a' K:=by rw[h0,h1]
noncomputable def ln(T:Nat)(x:Slot)(K:Slot->Res):Res:=bind1 (lenS (C.ti T) x) K
@[go_sem] theorem Qhm(T:Nat)(x:Slot)(K:Slot->Res):ln T x K=bind1 (lenS (C.ti T) x) K:=id rfl
@[congr] theorem Qye{T:Nat}{x x':Slot}{K:Slot->Res}(h0:x=x'):ln T x K=ln T x' K:=by rw[h0]
noncomputable def ca(f:Nat)(l:List Slot)(s:St)(K:Slot->St->Res):Res:=back (cal cw true (tgtV (.val (.fn f [])) l) s) K
@[go_sem] theorem Qzz(f:Nat)(l:List Slot)(s:St)(K:Slot->St->Res):ca f l s K=back (cal cw true (tgtV (.val (.fn f [])) l) s) K:=id rfl
@[congr] theorem Qxu{f:Nat}{l l':List Slot}{s s':St}{K:Slot->St->Res}(h0:l=l')(h1:s=s'):ca f l s K=ca f l' s' K:=by rw[h0,h1]
noncomputable def cn(f:Nat)(l:List Slot)(s:St)(K:Slot->St->Res):Res:=back (noPan (cal cw true (tgtV (.val (.fn f [])) l) s)) K
@[go_sem] theorem QzB(f:Nat)(l:List Slot)(s:St)(K:Slot->St->Res):cn f l s K=back (noPan (cal cw true (tgtV (.val (.fn f [])) l) s)) K:=id rfl
@[congr] theorem QxA{f:Nat}{l l':List Slot}{s s':St}{K:Slot->St->Res}(h0:l=l')(h1:s=s'):cn f l s K=cn f l' s' K:=by rw[h0,h1]
noncomputable def cg(w:Bool)(f:Nat)(l:List Slot)(s:St)(K:Slot->St->Res):Res:=back (cal cw w (tgtV (.val (.fn f [])) l) s) K
@[go_sem] theorem QzA(w:Bool)(f:Nat)(l:List Slot)(s:St)(K:Slot->St->Res):cg w f l s K=back (cal cw w (tgtV (.val (.fn f [])) l) s) K:=id rfl
@[congr] theorem Qxz{f:Nat}{w w':Bool}{l l':List Slot}{s s':St}{K:Slot->St->Res}(h0:w=w')(h1:l=l')(h2:s=s'):cg w f l s K=cg w' f l' s' K:=by rw[h0,h1,h2]
noncomputable def iT(v:Slot)(K:Bool->Res):Res:=bindB (Slot.isB v true) K
@[go_sem] theorem QzR(v:Slot)(K:Bool->Res):iT v K=bindB (Slot.isB v true) K:=id rfl
@[congr] theorem QxY  {v v':Slot} {K:Bool->Res} (h0:v=v'):iT v K=iT v' K:=by rw[h0]
noncomputable def iF(v:Slot)(K:Bool->Res):Res:=bindB (Slot.isB v false) K
@[go_sem] theorem QzQ(v:Slot)(K:Bool->Res):iF v K=bindB (Slot.isB v false) K:=id rfl
@[congr] theorem QxX  {v v':Slot} {K:Bool->Res} (h0:v=v'):iF v K=iF v' K:=by rw[h0]
noncomputable def gG(w:Bool)(b:Bool)(T:Nat)(k:Nat)(c:List Slot)(K:Slot->Res):Res:=bind1 (gd w (bif b then (ofSlots (C.ti T) (List.take (C.ti T).size (List.drop k c))) else none)) K
@[go_sem] theorem QzH(w:Bool)(b:Bool)(T:Nat)(k:Nat)(c:List Slot)(K:Slot->Res):gG w b T k c K=bind1 (gd w (bif b then (ofSlots (C.ti T) (List.take (C.ti T).size (List.drop k c))) else none)) K:=id rfl
@[congr] theorem QxM{b:Bool}{T:Nat}{k:Nat}{c:List Slot}{w w':Bool}{K:Slot->Res}(h0:w=w'):gG w b T k c K=gG w' b T k c K:=by rw[h0]
noncomputable def gB(w:Bool)(T:Nat)(op:BinOp)(x:Slot)(y:Slot)(K:Slot->Res):Res:=bind1 (gd w (binS (C.ti T) op x y)) K
@[go_sem] theorem QzF(w:Bool)(T:Nat)(op:BinOp)(x:Slot)(y:Slot)(K:Slot->Res):gB w T op x y K=bind1 (gd w (binS (C.ti T) op x y)) K:=id rfl
@[congr] theorem QxK{T:Nat}{op:BinOp}{x:Slot}{y:Slot}{w w':Bool}{K:Slot->Res}(h0:w=w'):gB w T op x y K=gB w' T op x y K:=by rw[h0]
noncomputable def gN(w:Bool)(x:Slot)(K:Slot->Res):Res:=bind1 (gd w (unS .not x)) K
@[go_sem] theorem QzJ(w:Bool)(x:Slot)(K:Slot->Res):gN w x K=bind1 (gd w (unS .not x)) K:=id rfl
@[congr] theorem QxO{x:Slot}{w w':Bool}{K:Slot->Res}(h0:w=w'):gN w x K=gN w' x K:=by rw[h0]
noncomputable def gL(w:Bool)(T:Nat)(x:Slot)(K:Slot->Res):Res:=bind1 (gd w (lenS (C.ti T) x)) K
@[go_sem] theorem QzI(w:Bool)(T:Nat)(x:Slot)(K:Slot->Res):gL w T x K=bind1 (gd w (lenS (C.ti T) x)) K:=id rfl
@[congr] theorem QxN{T:Nat}{x:Slot}{w w':Bool}{K:Slot->Res}(h0:w=w'):gL w T x K=gL w' T x K:=by rw[h0]
noncomputable def nt(x:Slot)(K:Slot->Res):Res:=bind1 (unS .not x) K
@[go_sem] theorem QzY(x:Slot)(K:Slot->Res):nt x K=bind1 (unS .not x) K:=id rfl
@[congr] theorem Qyi  {x x':Slot} {K:Slot->Res} (h0:x=x'):nt x K=nt x' K:=by rw[h0]
noncomputable def pk(a:Slot)(b:Slot)(c:Slot)(K:Slot->Res):Res:=bind1 (pickS a b c) K
@[go_sem] theorem QA1(a:Slot)(b:Slot)(c:Slot)(K:Slot->Res):pk a b c K=bind1 (pickS a b c) K:=id rfl
@[congr] theorem Qys  {a a':Slot} {b b':Slot} {c c':Slot} {K:Slot->Res} (h0:a=a') (h1:b=b') (h2:c=c'):pk a b c K=pk a' b' c' K:=by rw[h0,h1,h2]
noncomputable def ex(a:Slot)(i:Nat)(K:Slot->Res):Res:=bind1 (extractS a i) K
@[go_sem] theorem QzC(a:Slot)(i:Nat)(K:Slot->Res):ex a i K=bind1 (extractS a i) K:=id rfl
@[congr] theorem QxD{i:Nat}{a a':Slot}{K:Slot->Res}(h0:a=a'):ex a i K=ex a' i K:=by rw[h0]
noncomputable def fa(i:Nat)(a:Slot)(K:Slot->Res):Res:=bind1 (faV i a) K
@[go_sem] theorem QzD(i:Nat)(a:Slot)(K:Slot->Res):fa i a K=bind1 (faV i a) K:=id rfl
@[congr] theorem QxH{i:Nat}{a a':Slot}{K:Slot->Res}(h0:a=a'):fa i a K=fa i a' K:=by rw[h0]
noncomputable def pt(c:List Slot)(i:Nat)(d:List Slot)(K:List Slot->Res):Res:=bindL (putAt c i d) K
@[go_sem] theorem QA2(c:List Slot)(i:Nat)(d:List Slot)(K:List Slot->Res):pt c i d K=bindL (putAt c i d) K:=id rfl
@[congr] theorem Qyt{i:Nat}{c c':List Slot}{d d':List Slot}{K:List Slot->Res}(h0:c=c')(h1:d=d'):pt c i d K=pt c' i d' K:=by rw[h0,h1]
noncomputable def bs(T:Nat)(l:List Slot)(K:Slot->Res):Res:=bind1 (bslF (C.ti T).size l) K
@[go_sem] theorem Qzw(T:Nat)(l:List Slot)(K:Slot->Res):bs T l K=bind1 (bslF (C.ti T).size l) K:=id rfl
@[congr] theorem Qxq{T:Nat}{l l':List Slot}{K:Slot->Res}(h0:l=l'):bs T l K=bs T l' K:=by rw[h0]
noncomputable def ap(T:Nat)(s:St)(x:Slot)(y:Slot)(K:Slot->St->Res):Res:=bind2 (appendS T (C.ti T) s x y) K
@[go_sem] theorem Qzu(T:Nat)(s:St)(x:Slot)(y:Slot)(K:Slot->St->Res):ap T s x y K=bind2 (appendS T (C.ti T) s x y) K:=id rfl
@[congr] theorem Qx8{T:Nat}{s s':St}{x x':Slot}{y y':Slot}{K:Slot->St->Res}(h0:s=s')(h1:x=x')(h2:y=y'):ap T s x y K=ap T s' x' y' K:=by rw[h0,h1,h2]
noncomputable def sto(s:St)(a:Slot)(c:List Slot)(K:St->Res):Res:=bindS (stV s a c) K
@[go_sem] theorem Qzr(s:St)(a:Slot)(c:List Slot)(K:St->Res):sto s a c K=bindS (stV s a c) K:=id rfl
@[congr] theorem Qx5  {s s':St} {a a':Slot} {c c':List Slot} {K:St->Res} (h0:s=s') (h1:a=a') (h2:c=c'):sto s a c K=sto s' a' c' K:=by rw[h0,h1,h2]
noncomputable def upd2(A:Nat)(B:Nat)(s:St)(a:Slot)(b:Slot)(c:Slot)(K:Slot->St->Res):Res:=bind2 (updateS (C.ti A) (C.ti B) s a b c) K
@[go_sem] theorem Qza(A:Nat)(B:Nat)(s:St)(a:Slot)(b:Slot)(c:Slot)(K:Slot->St->Res):upd2 A B s a b c K=bind2 (updateS (C.ti A) (C.ti B) s a b c) K:=id rfl
@[congr] theorem Qw1{A:Nat}{B:Nat}{s s':St}{a a':Slot}{b b':Slot}{c c':Slot}{K:Slot->St->Res}(h0:s=s')(h1:a=a')(h2:b=b')(h3:c=c'):upd2 A B s a b c K=upd2 A B s' a' b' c' K:=by rw[h0,h1,h2,h3]
noncomputable def lk(A:Nat)(B:Nat)(s:St)(a:Slot)(b:Slot)(q:Bool)(K:Slot->Res):Res:=bind1 (lookupS (C.ti A) (C.ti B) s a b q) K
@[go_sem] theorem QzX(A:Nat)(B:Nat)(s:St)(a:Slot)(b:Slot)(q:Bool)(K:Slot->Res):lk A B s a b q K=bind1 (lookupS (C.ti A) (C.ti B) s a b q) K:=id rfl
@[congr] theorem Qyd{A:Nat}{B:Nat}{q:Bool}{s s':St}{a a':Slot}{b b':Slot}{K:Slot->Res}(h0:s=s')(h1:a=a')(h2:b=b'):lk A B s a b q K=lk A B s' a' b' q K:=by rw[h0,h1,h2]
noncomputable def bdL:List (Nat × Nat × Slot)->List (Nat × Nat × Slot)
 |[]=>[]
 |p::r=>(p.1,(C.ti p.2.1).size,p.2.2)::bdL r
@[go_sem] theorem QyR:bdL []=[]:=id rfl
@[go_sem] theorem Qxd(a b:Nat)(v:Slot)(r:List (Nat × Nat × Slot)):bdL ((a,b,v)::r)=(a,(C.ti b).size,v)::bdL r:=id rfl
noncomputable def bd(T:Nat)(l:List (Nat × Nat × Slot))(K:Slot->Res):Res:=bind1 (buildS (C.ti T).zero (bdL l)) K
@[go_sem] theorem Qzv(T:Nat)(l:List (Nat × Nat × Slot))(K:Slot->Res):bd T l K=bind1 (buildS (C.ti T).zero (bdL l)) K:=id rfl
@[congr] theorem Qxe{T:Nat}{l l':List (Nat × Nat × Slot)}{K:Slot->Res}(h0:l=l'):bd T l K=bd T l' K:=by rw[h0]
noncomputable def rt(l:List (Option Slot))(s:St):Res:=bind1 (tupS l) λv=>some (.ret v,s)
@[go_sem] theorem QA3(l:List (Option Slot))(s:St):rt l s=bind1 (tupS l) λv=>some (.ret v,s):=id rfl
@[reducible] def iv(n:Int):Slot:=.val (.int .i64 n)
@[go_sem] theorem QzU(n:Int):iv n = .val (.int .i64 n):=id rfl
@[reducible] def bv(b:Bool):Slot:=.val (.bool b)
@[go_sem] theorem Qzx(b:Bool):bv b = .val (.bool b):=id rfl
@[reducible] def sv(l:List UInt8):Slot:=.val (.str l)
@[go_sem] theorem QA4(l:List UInt8):sv l = .val (.str l):=id rfl
noncomputable def nx(x:Slot)(K:Slot->Res):Res:=bind1 (binS (C.ti Q1) .add x (.val (.int .i64 1))) K
@[go_sem] theorem QzZ(x:Slot)(K:Slot->Res):nx x K=bind1 (binS (C.ti Q1) .add x (.val (.int .i64 1))) K:=id rfl
@[congr] theorem Qyj  {x x':Slot} {K:Slot->Res} (h0:x=x'):nx x K=nx x' K:=by rw[h0]
@[reducible] noncomputable def lpD(f:FuncId)(p:List Step)(fn:Func)(e:Env)(s:St):Res:=loopR C false f p (body fn) e s (ctxR C false f p (body fn) (outK C fn.results.toList))
@[reducible] noncomputable def pwD(f:FuncId)(p:List Step)(fn:Func)(e:Env)(s:St):Res:=pw (run C false f (codeAt p (body fn)) e s (ctxR C false f p (body fn) (outK C fn.results.toList)))
end Go.Proofs.YtgfhplcmcdimiaaGreatDoor