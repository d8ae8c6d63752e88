/- The program's types and functions as the abstract machine's tables. -/
import Derived.Test.YtohlmbbmeknfiaaAIAuto
import Derived.Test.YtohlmbbmeknfiaaAIEmb
import Derived.KernelRfl
import Derived.Test.YtohlmbbmeknfiaaChecked
/- The program's types and functions as the abstract machine's tables. -/
namespace Go.Proofs.Ytohlmbbmeknfiaa
open Go Go.AI
abbrev N {α : Type} (l : Tree α) (v : Option α) (r : Tree α) : Tree α := .node l v r
abbrev L {α : Type} : Tree α := .leaf
def ti1 : TInfo := ⟨(.func #[] #[] false), 1, 8, [.nilFunc], .nilFunc, false, true⟩
def ti2 : TInfo := ⟨(.int .i64), 1, 8, [(.int .i64 0)], (.int .i64 0), false, true⟩
def ti3 : TInfo := ⟨(.int .i64), 1, 8, [(.int .i64 0)], (.int .i64 0), false, true⟩
def ti4 : TInfo := ⟨.bool, 1, 1, [(.bool false)], (.bool false), false, true⟩
def ti5 : TInfo := ⟨(.int .u8), 1, 1, [(.int .u8 0)], (.int .u8 0), false, true⟩
def ti6 : TInfo := ⟨(.int .u8), 1, 1, [(.int .u8 0)], (.int .u8 0), false, true⟩
def ti7 : TInfo := ⟨(.struct #[⟨ "x", 2, 0, false, "", "runtime", 0⟩, ⟨ "y", 3, 1, false, "", "runtime", 8⟩, ⟨ "signed", 4, 2, false, "", "runtime", 16⟩, ⟨ "code", 6, 3, false, "", "runtime", 17⟩]), 4, 24, [(.int .i64 0), (.int .i64 0), (.bool false), (.int .u8 0)], (.agg [(.int .i64 0), (.int .i64 0), (.bool false), (.int .u8 0)]), true, true⟩
def ti8 : TInfo := ⟨(.struct #[⟨ "x", 2, 0, false, "", "runtime", 0⟩, ⟨ "y", 3, 1, false, "", "runtime", 8⟩, ⟨ "signed", 4, 2, false, "", "runtime", 16⟩, ⟨ "code", 6, 3, false, "", "runtime", 17⟩]), 4, 24, [(.int .i64 0), (.int .i64 0), (.bool false), (.int .u8 0)], (.agg [(.int .i64 0), (.int .i64 0), (.bool false), (.int .u8 0)]), true, true⟩
def ti9 : TInfo := ⟨.string, 1, 16, [(.str [])], (.str []), false, true⟩
def ti10 : TInfo := ⟨.string, 1, 16, [(.str [])], (.str []), false, true⟩
def ti11 : TInfo := ⟨.string, 1, 16, [(.str [])], (.str []), false, true⟩
def ti12 : TInfo := ⟨(.int .u64), 1, 8, [(.int .u64 0)], (.int .u64 0), false, true⟩
def ti13 : TInfo := ⟨(.struct #[⟨ "msg", 9, 0, false, "", "runtime", 0⟩, ⟨ "addr", 12, 1, false, "", "runtime", 16⟩]), 2, 24, [(.str []), (.int .u64 0)], (.agg [(.str []), (.int .u64 0)]), true, false⟩
def ti14 : TInfo := ⟨(.struct #[⟨ "msg", 9, 0, false, "", "runtime", 0⟩, ⟨ "addr", 12, 1, false, "", "runtime", 16⟩]), 2, 24, [(.str []), (.int .u64 0)], (.agg [(.str []), (.int .u64 0)]), true, false⟩
def ti15 : TInfo := ⟨(.pointer 93), 1, 8, [.nilPtr], .nilPtr, false, true⟩
def ti16 : TInfo := ⟨(.pointer 96), 1, 8, [.nilPtr], .nilPtr, false, true⟩
def ti17 : TInfo := ⟨(.pointer 104), 1, 8, [.nilPtr], .nilPtr, false, true⟩
def ti18 : TInfo := ⟨(.struct #[⟨ "typ", 17, 0, false, "", "internal/runtime/maps", 0⟩]), 1, 8, [.nilPtr], (.agg [.nilPtr]), true, false⟩
def ti19 : TInfo := ⟨(.struct #[⟨ "typ", 17, 0, false, "", "internal/runtime/maps", 0⟩]), 1, 8, [.nilPtr], (.agg [.nilPtr]), true, false⟩
def ti20 : TInfo := ⟨(.interface #[]), 1, 16, [.nilIface], .nilIface, false, true⟩
def ti21 : TInfo := ⟨(.int .i32), 1, 4, [(.int .i32 0)], (.int .i32 0), false, true⟩
def ti22 : TInfo := ⟨(.slice 27), 1, 24, [.nilSlice], .nilSlice, false, true⟩
def ti23 : TInfo := ⟨(.func #[] #[4] false), 1, 8, [.nilFunc], .nilFunc, false, true⟩
def ti24 : TInfo := ⟨(.pointer 53), 1, 8, [.nilPtr], .nilPtr, false, true⟩
def ti25 : TInfo := ⟨(.func #[22] #[24] false), 1, 8, [.nilFunc], .nilFunc, false, true⟩
def ti26 : TInfo := ⟨(.map 3 3), 1, 8, [.nilMap], .nilMap, false, true⟩
def ti27 : TInfo := ⟨(.array 2 3), 2, 16, [(.int .i64 0), (.int .i64 0)], (.agg [(.int .i64 0), (.int .i64 0)]), true, true⟩
def ti28 : TInfo := ⟨(.func #[] #[3] false), 1, 8, [.nilFunc], .nilFunc, false, true⟩
def ti29 : TInfo := ⟨(.slice 3), 1, 24, [.nilSlice], .nilSlice, false, true⟩
def ti30 : TInfo := ⟨(.int .i64), 1, 8, [(.int .i64 0)], (.int .i64 0), false, true⟩
def ti32 : TInfo := ⟨(.func #[] #[3, 29, 30] false), 1, 8, [.nilFunc], .nilFunc, false, true⟩
def ti34 : TInfo := ⟨(.func #[22] #[4] false), 1, 8, [.nilFunc], .nilFunc, false, true⟩
def ti35 : TInfo := ⟨(.func #[] #[22] false), 1, 8, [.nilFunc], .nilFunc, false, true⟩
def ti36 : TInfo := ⟨(.func #[22, 22] #[4] false), 1, 8, [.nilFunc], .nilFunc, false, true⟩
def ti37 : TInfo := ⟨(.func #[22, 5] #[4] false), 1, 8, [.nilFunc], .nilFunc, false, true⟩
def ti38 : TInfo := ⟨(.slice 41), 1, 24, [.nilSlice], .nilSlice, false, true⟩
def ti39 : TInfo := ⟨(.func #[] #[24] false), 1, 8, [.nilFunc], .nilFunc, false, true⟩
def ti40 : TInfo := ⟨(.struct #[⟨ "Kind", 5, 0, false, "", "", 0⟩, ⟨ "Key", 3, 1, false, "", "", 8⟩, ⟨ "At", 3, 2, false, "", "", 16⟩]), 3, 24, [(.int .u8 0), (.int .i64 0), (.int .i64 0)], (.agg [(.int .u8 0), (.int .i64 0), (.int .i64 0)]), true, true⟩
def ti41 : TInfo := ⟨(.struct #[⟨ "Kind", 5, 0, false, "", "", 0⟩, ⟨ "Key", 3, 1, false, "", "", 8⟩, ⟨ "At", 3, 2, false, "", "", 16⟩]), 3, 24, [(.int .u8 0), (.int .i64 0), (.int .i64 0)], (.agg [(.int .u8 0), (.int .i64 0), (.int .i64 0)]), true, true⟩
def ti42 : TInfo := ⟨(.func #[3, 3] #[30] false), 1, 8, [.nilFunc], .nilFunc, false, true⟩
def ti43 : TInfo := ⟨(.func #[3] #[30] false), 1, 8, [.nilFunc], .nilFunc, false, true⟩
def ti44 : TInfo := ⟨(.func #[22, 38] #[4] false), 1, 8, [.nilFunc], .nilFunc, false, true⟩
def ti45 : TInfo := ⟨(.pointer 47), 1, 8, [.nilPtr], .nilPtr, false, true⟩
def ti46 : TInfo := ⟨(.struct #[⟨ "rows", 22, 0, false, "", "netwright/netwrightref16", 0⟩]), 1, 24, [.nilSlice], (.agg [.nilSlice]), true, true⟩
def ti47 : TInfo := ⟨(.struct #[⟨ "rows", 22, 0, false, "", "netwright/netwrightref16", 0⟩]), 1, 24, [.nilSlice], (.agg [.nilSlice]), true, true⟩
def ti48 : TInfo := ⟨(.func #[] #[45] false), 1, 8, [.nilFunc], .nilFunc, false, true⟩
def ti49 : TInfo := ⟨(.func #[24, 45, 41] #[4] false), 1, 8, [.nilFunc], .nilFunc, false, true⟩
def ti50 : TInfo := ⟨(.func #[38] #[4] false), 1, 8, [.nilFunc], .nilFunc, false, true⟩
def ti51 : TInfo := ⟨(.slice 60), 1, 24, [.nilSlice], .nilSlice, false, true⟩
def ti52 : TInfo := ⟨(.struct #[⟨ "made", 4, 0, false, "", "netwright/queue", 0⟩, ⟨ "heap", 51, 1, false, "", "netwright/queue", 8⟩, ⟨ "at", 26, 2, false, "", "netwright/queue", 32⟩]), 3, 40, [(.bool false), .nilSlice, .nilMap], (.agg [(.bool false), .nilSlice, .nilMap]), true, true⟩
def ti53 : TInfo := ⟨(.struct #[⟨ "made", 4, 0, false, "", "netwright/queue", 0⟩, ⟨ "heap", 51, 1, false, "", "netwright/queue", 8⟩, ⟨ "at", 26, 2, false, "", "netwright/queue", 32⟩]), 3, 40, [(.bool false), .nilSlice, .nilMap], (.agg [(.bool false), .nilSlice, .nilMap]), true, true⟩
def ti54 : TInfo := ⟨(.slice 24), 1, 24, [.nilSlice], .nilSlice, false, true⟩
def ti56 : TInfo := ⟨(.func #[3] #[3, 30] false), 1, 8, [.nilFunc], .nilFunc, false, true⟩
def ti57 : TInfo := ⟨(.func #[] #[3, 30] false), 1, 8, [.nilFunc], .nilFunc, false, true⟩
def ti58 : TInfo := ⟨(.func #[3, 3] #[4] false), 1, 8, [.nilFunc], .nilFunc, false, true⟩
def ti59 : TInfo := ⟨(.func #[29, 29] #[4] false), 1, 8, [.nilFunc], .nilFunc, false, true⟩
def ti60 : TInfo := ⟨(.array 2 3), 2, 16, [(.int .i64 0), (.int .i64 0)], (.agg [(.int .i64 0), (.int .i64 0)]), true, true⟩
def ti61 : TInfo := ⟨(.func #[3] #[] false), 1, 8, [.nilFunc], .nilFunc, false, true⟩
def ti62 : TInfo := ⟨(.func #[22, 64] #[] false), 1, 8, [.nilFunc], .nilFunc, false, true⟩
def ti63 : TInfo := ⟨(.func #[60] #[4] false), 1, 8, [.nilFunc], .nilFunc, false, true⟩
def ti64 : TInfo := ⟨(.func #[27, 27] #[3] false), 1, 8, [.nilFunc], .nilFunc, false, true⟩
def ti65 : TInfo := ⟨(.func #[51] #[51] false), 1, 8, [.nilFunc], .nilFunc, false, true⟩
def ti66 : TInfo := ⟨(.func #[22, 3, 3, 3, 64] #[] false), 1, 8, [.nilFunc], .nilFunc, false, true⟩
def ti67 : TInfo := ⟨(.func #[68] #[3] false), 1, 8, [.nilFunc], .nilFunc, false, true⟩
def ti68 : TInfo := ⟨(.int .u64), 1, 8, [(.int .u64 0)], (.int .u64 0), false, true⟩
def ti69 : TInfo := ⟨(.func #[3, 3] #[] false), 1, 8, [.nilFunc], .nilFunc, false, true⟩
def ti70 : TInfo := ⟨(.func #[3] #[3] false), 1, 8, [.nilFunc], .nilFunc, false, true⟩
def ti71 : TInfo := ⟨(.func #[22, 3, 3, 64] #[] false), 1, 8, [.nilFunc], .nilFunc, false, true⟩
def ti72 : TInfo := ⟨(.int .i64), 1, 8, [(.int .i64 0)], (.int .i64 0), false, true⟩
def ti74 : TInfo := ⟨(.func #[22, 3, 3, 64] #[3, 72] false), 1, 8, [.nilFunc], .nilFunc, false, true⟩
def ti75 : TInfo := ⟨(.func #[22, 3, 3, 64] #[4] false), 1, 8, [.nilFunc], .nilFunc, false, true⟩
def ti76 : TInfo := ⟨(.func #[22, 3, 3, 3, 64] #[3] false), 1, 8, [.nilFunc], .nilFunc, false, true⟩
def ti77 : TInfo := ⟨(.func #[22, 3, 3, 3, 64] #[3, 4] false), 1, 8, [.nilFunc], .nilFunc, false, true⟩
def ti78 : TInfo := ⟨(.func #[79] #[3] false), 1, 8, [.nilFunc], .nilFunc, false, true⟩
def ti79 : TInfo := ⟨(.int .u32), 1, 4, [(.int .u32 0)], (.int .u32 0), false, true⟩
def ti80 : TInfo := ⟨(.func #[81] #[3] false), 1, 8, [.nilFunc], .nilFunc, false, true⟩
def ti81 : TInfo := ⟨(.int .u64), 1, 8, [(.int .u64 0)], (.int .u64 0), false, true⟩
def ti82 : TInfo := ⟨(.int .u64), 1, 8, [(.int .u64 0)], (.int .u64 0), false, true⟩
def ti83 : TInfo := ⟨(.func #[3] #[68] false), 1, 8, [.nilFunc], .nilFunc, false, true⟩
def ti84 : TInfo := ⟨(.func #[] #[81] false), 1, 8, [.nilFunc], .nilFunc, false, true⟩
def ti85 : TInfo := ⟨(.func #[22, 3, 86, 64] #[3] false), 1, 8, [.nilFunc], .nilFunc, false, true⟩
def ti86 : TInfo := ⟨(.pointer 3), 1, 8, [.nilPtr], .nilPtr, false, true⟩
def ti87 : TInfo := ⟨(.func #[22, 3, 3, 3, 86, 64] #[3] false), 1, 8, [.nilFunc], .nilFunc, false, true⟩
def ti88 : TInfo := ⟨(.pointer 82), 1, 8, [.nilPtr], .nilPtr, false, true⟩
def ti90 : TInfo := ⟨(.func #[22, 3, 3, 86, 64] #[3, 3] false), 1, 8, [.nilFunc], .nilFunc, false, true⟩
def ti91 : TInfo := ⟨(.func #[] #[9] false), 1, 8, [.nilFunc], .nilFunc, false, true⟩
def ti92 : TInfo := ⟨(.struct #[⟨ "_interface", 17, 0, false, "", "runtime", 0⟩, ⟨ "concrete", 17, 1, false, "", "runtime", 8⟩, ⟨ "asserted", 17, 2, false, "", "runtime", 16⟩, ⟨ "missingMethod", 9, 3, false, "", "runtime", 24⟩]), 4, 40, [.nilPtr, .nilPtr, .nilPtr, (.str [])], (.agg [.nilPtr, .nilPtr, .nilPtr, (.str [])]), true, false⟩
def ti93 : TInfo := ⟨(.struct #[⟨ "_interface", 17, 0, false, "", "runtime", 0⟩, ⟨ "concrete", 17, 1, false, "", "runtime", 8⟩, ⟨ "asserted", 17, 2, false, "", "runtime", 16⟩, ⟨ "missingMethod", 9, 3, false, "", "runtime", 24⟩]), 4, 40, [.nilPtr, .nilPtr, .nilPtr, (.str [])], (.agg [.nilPtr, .nilPtr, .nilPtr, (.str [])]), true, false⟩
def ti94 : TInfo := ⟨(.array 0 16), 0, 0, [], (.agg []), true, true⟩
def ti95 : TInfo := ⟨(.struct #[⟨ "_", 94, 0, false, "", "runtime", 0⟩]), 0, 0, [], (.agg []), true, false⟩
def ti96 : TInfo := ⟨(.struct #[⟨ "_", 94, 0, false, "", "runtime", 0⟩]), 0, 0, [], (.agg []), true, false⟩
def ti97 : TInfo := ⟨(.int .u8), 1, 1, [(.int .u8 0)], (.int .u8 0), false, true⟩
def ti98 : TInfo := ⟨(.int .u8), 1, 1, [(.int .u8 0)], (.int .u8 0), false, true⟩
def ti99 : TInfo := ⟨(.func #[105, 105] #[4] false), 1, 8, [.nilFunc], .nilFunc, false, true⟩
def ti100 : TInfo := ⟨(.pointer 5), 1, 8, [.nilPtr], .nilPtr, false, true⟩
def ti101 : TInfo := ⟨(.int .i32), 1, 4, [(.int .i32 0)], (.int .i32 0), false, true⟩
def ti102 : TInfo := ⟨(.int .i32), 1, 4, [(.int .i32 0)], (.int .i32 0), false, true⟩
def ti103 : TInfo := ⟨(.struct #[⟨ "Size_", 12, 0, false, "", "", 0⟩, ⟨ "PtrBytes", 12, 1, false, "", "", 8⟩, ⟨ "Hash", 79, 2, false, "", "", 16⟩, ⟨ "TFlag", 97, 3, false, "", "", 20⟩, ⟨ "Align_", 5, 4, false, "", "", 21⟩, ⟨ "FieldAlign_", 5, 5, false, "", "", 22⟩, ⟨ "Kind_", 98, 6, false, "", "", 23⟩, ⟨ "Equal", 99, 7, false, "", "", 24⟩, ⟨ "GCData", 100, 8, false, "", "", 32⟩, ⟨ "Str", 101, 9, false, "", "", 40⟩, ⟨ "PtrToThis", 102, 10, false, "", "", 44⟩]), 11, 48, [(.int .u64 0), (.int .u64 0), (.int .u32 0), (.int .u8 0), (.int .u8 0), (.int .u8 0), (.int .u8 0), .nilFunc, .nilPtr, (.int .i32 0), (.int .i32 0)], (.agg [(.int .u64 0), (.int .u64 0), (.int .u32 0), (.int .u8 0), (.int .u8 0), (.int .u8 0), (.int .u8 0), .nilFunc, .nilPtr, (.int .i32 0), (.int .i32 0)]), true, false⟩
def ti104 : TInfo := ⟨(.struct #[⟨ "Size_", 12, 0, false, "", "", 0⟩, ⟨ "PtrBytes", 12, 1, false, "", "", 8⟩, ⟨ "Hash", 79, 2, false, "", "", 16⟩, ⟨ "TFlag", 97, 3, false, "", "", 20⟩, ⟨ "Align_", 5, 4, false, "", "", 21⟩, ⟨ "FieldAlign_", 5, 5, false, "", "", 22⟩, ⟨ "Kind_", 98, 6, false, "", "", 23⟩, ⟨ "Equal", 99, 7, false, "", "", 24⟩, ⟨ "GCData", 100, 8, false, "", "", 32⟩, ⟨ "Str", 101, 9, false, "", "", 40⟩, ⟨ "PtrToThis", 102, 10, false, "", "", 44⟩]), 11, 48, [(.int .u64 0), (.int .u64 0), (.int .u32 0), (.int .u8 0), (.int .u8 0), (.int .u8 0), (.int .u8 0), .nilFunc, .nilPtr, (.int .i32 0), (.int .i32 0)], (.agg [(.int .u64 0), (.int .u64 0), (.int .u32 0), (.int .u8 0), (.int .u8 0), (.int .u8 0), (.int .u8 0), .nilFunc, .nilPtr, (.int .i32 0), (.int .i32 0)]), true, false⟩
def ti105 : TInfo := ⟨.unsafePointer, 1, 8, [.nilPtr], .nilPtr, false, true⟩
def af (f : Func) : AFunc := { ntmps := f.ntmps, nargs := f.params.size + f.nfree, results := f.results.toList, body := f.body.getD .skip }
def tt : Tree TInfo := (N (N (N (N (N (N (N L (some ti63) L) none (N L (some ti95) L)) (some ti15) (N (N L (some ti79) L) (some ti47) L)) (some ti7) (N (N (N L (some ti71) L) (some ti39) (N L (some ti103) L)) (some ti23) (N (N L (some ti87) L) none L))) (some ti3) (N (N (N (N L (some ti67) L) (some ti35) (N L (some ti99) L)) (some ti19) (N (N L (some ti83) L) (some ti51) L)) (some ti11) (N (N (N L (some ti75) L) (some ti43) L) (some ti27) (N (N L (some ti91) L) (some ti59) L)))) (some ti1) (N (N (N (N (N L (some ti65) L) none (N L (some ti97) L)) (some ti17) (N (N L (some ti81) L) (some ti49) L)) (some ti9) (N (N L (some ti41) (N L (some ti105) L)) (some ti25) (N L (some ti57) L))) (some ti5) (N (N (N (N L (some ti69) L) (some ti37) (N L (some ti101) L)) (some ti21) (N (N L (some ti85) L) (some ti53) L)) (some ti13) (N (N (N L (some ti77) L) (some ti45) L) (some ti29) (N (N L (some ti93) L) (some ti61) L))))) none (N (N (N (N (N (N L (some ti64) L) (some ti32) (N L (some ti96) L)) (some ti16) (N (N L (some ti80) L) (some ti48) L)) (some ti8) (N (N (N L (some ti72) L) (some ti40) (N L (some ti104) L)) (some ti24) (N (N L (some ti88) L) (some ti56) L))) (some ti4) (N (N (N (N L (some ti68) L) (some ti36) (N L (some ti100) L)) (some ti20) (N (N L (some ti84) L) (some ti52) L)) (some ti12) (N (N (N L (some ti76) L) (some ti44) L) (some ti28) (N (N L (some ti92) L) (some ti60) L)))) (some ti2) (N (N (N (N (N L (some ti66) L) (some ti34) (N L (some ti98) L)) (some ti18) (N (N L (some ti82) L) (some ti50) L)) (some ti10) (N (N (N L (some ti74) L) (some ti42) L) (some ti26) (N (N L (some ti90) L) (some ti58) L))) (some ti6) (N (N (N (N L (some ti70) L) (some ti38) (N L (some ti102) L)) (some ti22) (N (N L (some ti86) L) (some ti54) L)) (some ti14) (N (N (N L (some ti78) L) (some ti46) L) (some ti30) (N (N L (some ti94) L) (some ti62) L))))))
noncomputable def ft : Tree AFunc := (N (N (N (N (N (N L (some (af Try.f31)) L) (some (af Try.f15)) (N L (some (af Try.f47)) L)) (some (af Try.f7)) (N (N L (some (af Try.f39)) L) (some (af Try.f23)) (N L (some (af Try.f55)) L))) (some (af Try.f3)) (N (N (N L (some (af Try.f35)) L) (some (af Try.f19)) (N L (some (af Try.f51)) L)) (some (af Try.f11)) (N (N L (some (af Try.f43)) L) (some (af Try.f27)) L))) none (N (N (N (N L (some (af Try.f33)) L) (some (af Try.f17)) (N L (some (af Try.f49)) L)) (some (af Try.f9)) (N (N L (some (af Try.f41)) L) (some (af Try.f25)) (N L (some (af Try.f57)) L))) (some (af Try.f5)) (N (N (N L (some (af Try.f37)) L) (some (af Try.f21)) (N L (some (af Try.f53)) L)) (some (af Try.f13)) (N (N L (some (af Try.f45)) L) (some (af Try.f29)) L)))) none (N (N (N (N (N L (some (af Try.f32)) L) (some (af Try.f16)) (N L (some (af Try.f48)) L)) (some (af Try.f8)) (N (N L (some (af Try.f40)) L) (some (af Try.f24)) (N L (some (af Try.f56)) L))) (some (af Try.f4)) (N (N (N L (some (af Try.f36)) L) (some (af Try.f20)) (N L (some (af Try.f52)) L)) (some (af Try.f12)) (N (N L (some (af Try.f44)) L) (some (af Try.f28)) L))) (some (af Try.f2)) (N (N (N (N L (some (af Try.f34)) L) (some (af Try.f18)) (N L (some (af Try.f50)) L)) (some (af Try.f10)) (N (N L (some (af Try.f42)) L) (some (af Try.f26)) L)) (some (af Try.f6)) (N (N (N L (some (af Try.f38)) L) (some (af Try.f22)) (N L (some (af Try.f54)) L)) (some (af Try.f14)) (N (N L (some (af Try.f46)) L) (some (af Try.f30)) L)))))
def xt : Tree Nat := L
noncomputable def TT (gt : Tree (List AV)) : Tab := ⟨tt, ft, xt, gt⟩
theorem tt_eq : mkTT Try.prog Try.prog.types.size .leaf = tt := by kernel_rfl
theorem ft_eq : mkFT Try.prog.funcs.toList 0 .leaf = ft := by kernel_rfl
theorem xt_eq : mkXT Try.prog.funcs.toList 0 .leaf = xt := by kernel_rfl
theorem tab_eq (gt : Tree (List AV)) : mkTab Try.prog gt = TT gt := by unfold mkTab TT; rw [tt_eq, ft_eq, xt_eq]
end Go.Proofs.Ytohlmbbmeknfiaa
