/- Part 3. -/
import Derived.Test.YtikokmdpigploaaGreatMz2
namespace Go.Proofs.YtikokmdpigploaaGreat
set_option linter.unusedVariables false
set_option linter.unusedSimpArgs false
section
set_option maxRecDepth 100000
def bb2:List (Option TD):=[none,some ⟨.bas,false,1,8,[.nilFunc]⟩,some ⟨.int .i64,false,1,8,[.int .i64 0]⟩,some ⟨.int .i64,false,1,8,[.int .i64 0]⟩,some ⟨.bool,false,1,1,[.bool false]⟩,some ⟨.int .u8,false,1,1,[.int .u8 0]⟩,some ⟨.int .u8,false,1,1,[.int .u8 0]⟩,some ⟨.struct [(0,1,false),(1,1,false),(2,1,false),(3,1,false)],true,4,24,[.int .i64 0,.int .i64 0,.bool false,.int .u8 0]⟩,some ⟨.struct [(0,1,false),(1,1,false),(2,1,false),(3,1,false)],true,4,24,[.int .i64 0,.int .i64 0,.bool false,.int .u8 0]⟩,none,none,none,some ⟨.int .u64,false,1,8,[.int .u64 0]⟩,none,none,some ⟨.bas,false,1,8,[.pointer none]⟩,some ⟨.bas,false,1,8,[.pointer none]⟩,some ⟨.bas,false,1,8,[.pointer none]⟩,some ⟨.struct [(0,1,false)],true,1,8,[.pointer none]⟩,some ⟨.struct [(0,1,false)],true,1,8,[.pointer none]⟩,none,some ⟨.int .i32,false,1,4,[.int .i32 0]⟩,some ⟨.slice 160,false,1,24,[.slice none 0 0]⟩,some ⟨.slice 149,false,1,24,[.slice none 0 0]⟩,some ⟨.slice 255,false,1,24,[.slice none 0 0]⟩,some ⟨.slice 264,false,1,24,[.slice none 0 0]⟩,some ⟨.slice 266,false,1,24,[.slice none 0 0]⟩,some ⟨.struct [(0,1,false),(1,1,false),(2,1,false),(3,1,false),(4,1,false),(5,1,false),(6,1,false),(7,1,false)],true,8,144,[.int .i64 0,.int .i64 0,.int .i64 0,.slice none 0 0,.slice none 0 0,.slice none 0 0,.slice none 0 0,.slice none 0 0]⟩,some ⟨.struct [(0,1,false),(1,1,false),(2,1,false),(3,1,false),(4,1,false),(5,1,false),(6,1,false),(7,1,false)],true,8,144,[.int .i64 0,.int .i64 0,.int .i64 0,.slice none 0 0,.slice none 0 0,.slice none 0 0,.slice none 0 0,.slice none 0 0]⟩,some ⟨.slice 43,false,1,24,[.slice none 0 0]⟩,some ⟨.slice 45,false,1,24,[.slice none 0 0]⟩,some ⟨.struct [(0,8,false),(8,1,false),(9,1,false)],true,10,192,[.int .i64 0,.int .i64 0,.int .i64 0,.slice none 0 0,.slice none 0 0,.slice none 0 0,.slice none 0 0,.slice none 0 0,.slice none 0 0,.slice none 0 0]⟩,some ⟨.struct [(0,8,false),(8,1,false),(9,1,false)],true,10,192,[.int .i64 0,.int .i64 0,.int .i64 0,.slice none 0 0,.slice none 0 0,.slice none 0 0,.slice none 0 0,.slice none 0 0,.slice none 0 0,.slice none 0 0]⟩,some ⟨.slice 3,false,1,24,[.slice none 0 0]⟩,some ⟨.bas,false,1,8,[.nilFunc]⟩,some ⟨.bas,false,1,8,[.nilFunc]⟩,some ⟨.slice 33,false,1,24,[.slice none 0 0]⟩,some ⟨.int .i64,false,1,8,[.int .i64 0]⟩,none,some ⟨.bas,false,1,8,[.nilFunc]⟩,some ⟨.bas,false,1,8,[.nilFunc]⟩,some ⟨.bas,false,1,8,[.nilFunc]⟩,some ⟨.struct [(0,1,false),(1,1,false),(2,1,false)],true,3,24,[.int .i64 0,.int .i64 0,.int .i64 0]⟩,some ⟨.struct [(0,1,false),(1,1,false),(2,1,false)],true,3,24,[.int .i64 0,.int .i64 0,.int .i64 0]⟩,some ⟨.struct [(0,1,false),(1,1,false)],true,2,16,[.int .i64 0,.int .i64 0]⟩,some ⟨.struct [(0,1,false),(1,1,false)],true,2,16,[.int .i64 0,.int .i64 0]⟩,some ⟨.bas,false,1,8,[.nilFunc]⟩,some ⟨.bas,false,1,8,[.nilFunc]⟩,some ⟨.bas,false,1,8,[.nilFunc]⟩,some ⟨.slice 86,false,1,24,[.slice none 0 0]⟩,some ⟨.struct [(0,1,false),(1,1,false),(2,1,false),(3,1,false),(4,1,false)],true,5,88,[.int .i64 0,.int .i64 0,.slice none 0 0,.slice none 0 0,.slice none 0 0]⟩,some ⟨.struct [(0,1,false),(1,1,false),(2,1,false),(3,1,false),(4,1,false)],true,5,88,[.int .i64 0,.int .i64 0,.slice none 0 0,.slice none 0 0,.slice none 0 0]⟩,some ⟨.bas,false,1,8,[.nilFunc]⟩,some ⟨.slice 51,false,1,24,[.slice none 0 0]⟩,none,some ⟨.bas,false,1,8,[.nilFunc]⟩,none,some ⟨.bas,false,1,8,[.nilFunc]⟩,some ⟨.bas,false,1,8,[.nilFunc]⟩,some ⟨.slice 109,false,1,24,[.slice none 0 0]⟩,some ⟨.bas,false,1,8,[.nilFunc]⟩,some ⟨.bas,false,1,8,[.nilFunc]⟩,some ⟨.bas,false,1,8,[.nilFunc]⟩,none,some ⟨.bas,false,1,8,[.nilFunc]⟩,none,some ⟨.bas,false,1,8,[.nilFunc]⟩,some ⟨.bas,false,1,8,[.nilFunc]⟩,some ⟨.slice 133,false,1,24,[.slice none 0 0]⟩,some ⟨.struct [(0,1,false),(1,1,false)],true,2,32,[.int .i64 0,.slice none 0 0]⟩,some ⟨.struct [(0,1,false),(1,1,false)],true,2,32,[.int .i64 0,.slice none 0 0]⟩,none,some ⟨.bas,false,1,8,[.nilFunc]⟩,none,some ⟨.bas,false,1,8,[.nilFunc]⟩,some ⟨.bas,false,1,8,[.nilFunc]⟩,some ⟨.bas,false,1,8,[.nilFunc]⟩,some ⟨.bas,false,1,8,[.nilFunc]⟩,some ⟨.bas,false,1,8,[.nilFunc]⟩,some ⟨.bas,false,1,8,[.nilFunc]⟩,some ⟨.bas,false,1,8,[.nilFunc]⟩,some ⟨.bas,false,1,8,[.nilFunc]⟩,some ⟨.bas,false,1,8,[.nilFunc]⟩,some ⟨.struct [(0,1,false),(1,1,false)],true,2,32,[.int .i64 0,.slice none 0 0]⟩,some ⟨.struct [(0,1,false),(1,1,false)],true,2,32,[.int .i64 0,.slice none 0 0]⟩,some ⟨.struct [(0,2,false),(2,2,false)],true,4,64,[.int .i64 0,.slice none 0 0,.int .i64 0,.slice none 0 0]⟩,some ⟨.struct [(0,2,false),(2,2,false)],true,4,64,[.int .i64 0,.slice none 0 0,.int .i64 0,.slice none 0 0]⟩,some ⟨.bas,false,1,8,[.nilFunc]⟩,some ⟨.bas,false,1,8,[.nilFunc]⟩,some ⟨.bas,false,1,8,[.nilFunc]⟩,some ⟨.bas,false,1,8,[.nilFunc]⟩,some ⟨.bas,false,1,8,[.nilFunc]⟩,some ⟨.bas,false,1,8,[.nilFunc]⟩,some ⟨.slice 4,false,1,24,[.slice none 0 0]⟩,some ⟨.bas,false,1,8,[.nilFunc]⟩,some ⟨.bas,false,1,8,[.nilFunc]⟩,some ⟨.bas,false,1,8,[.nilFunc]⟩,some ⟨.bas,false,1,8,[.nilFunc]⟩,some ⟨.bas,false,1,8,[.nilFunc]⟩,some ⟨.bas,false,1,8,[.nilFunc]⟩,some ⟨.bas,false,1,8,[.nilFunc]⟩,some ⟨.bas,false,1,8,[.nilFunc]⟩,some ⟨.bas,false,1,8,[.nilFunc]⟩,some ⟨.bas,false,1,8,[.nilFunc]⟩,none,some ⟨.bas,false,1,8,[.nilFunc]⟩,some ⟨.bas,false,1,8,[.nilFunc]⟩,some ⟨.bas,false,1,8,[.nilFunc]⟩,some ⟨.struct [(0,1,false),(1,4,false)],true,5,72,[.int .i64 0,.int .i64 0,.slice none 0 0,.int .i64 0,.slice none 0 0]⟩,some ⟨.struct [(0,1,false),(1,4,false)],true,5,72,[.int .i64 0,.int .i64 0,.slice none 0 0,.int .i64 0,.slice none 0 0]⟩,some ⟨.bas,false,1,8,[.nilFunc]⟩,some ⟨.bas,false,1,8,[.nilFunc]⟩,some ⟨.bas,false,1,8,[.nilFunc]⟩,some ⟨.bas,false,1,8,[.nilFunc]⟩,some ⟨.bas,false,1,8,[.nilFunc]⟩,none,some ⟨.bas,false,1,8,[.nilFunc]⟩,some ⟨.bas,false,1,8,[.nilFunc]⟩,some ⟨.slice 32,false,1,24,[.slice none 0 0]⟩,some ⟨.bas,false,1,8,[.nilFunc]⟩,some ⟨.bas,false,1,8,[.nilFunc]⟩,none,some ⟨.bas,false,1,8,[.nilFunc]⟩,some ⟨.slice 49,false,1,24,[.slice none 0 0]⟩,none,some ⟨.bas,false,1,8,[.nilFunc]⟩,some ⟨.bas,false,1,8,[.nilFunc]⟩,some ⟨.bas,false,1,8,[.nilFunc]⟩,some ⟨.bas,false,1,8,[.nilFunc]⟩,some ⟨.bas,false,1,8,[.nilFunc]⟩,some ⟨.bas,false,1,8,[.nilFunc]⟩,some ⟨.bas,false,1,8,[.nilFunc]⟩,some ⟨.struct [(0,1,false),(1,1,false),(2,4,false)],true,6,96,[.slice none 0 0,.int .i64 0,.int .i64 0,.slice none 0 0,.int .i64 0,.slice none 0 0]⟩,some ⟨.struct [(0,1,false),(1,1,false),(2,4,false)],true,6,96,[.slice none 0 0,.int .i64 0,.int .i64 0,.slice none 0 0,.int .i64 0,.slice none 0 0]⟩,some ⟨.slice 137,false,1,24,[.slice none 0 0]⟩,some ⟨.bas,false,1,8,[.nilFunc]⟩,some ⟨.struct [(0,1,false),(1,1,false),(2,1,false)],true,3,56,[.int .i64 0,.slice none 0 0,.slice none 0 0]⟩,some ⟨.struct [(0,1,false),(1,1,false),(2,1,false)],true,3,56,[.int .i64 0,.slice none 0 0,.slice none 0 0]⟩,none,some ⟨.bas,false,1,8,[.nilFunc]⟩,some ⟨.bas,false,1,8,[.nilFunc]⟩,some ⟨.bas,false,1,8,[.nilFunc]⟩,some ⟨.bas,false,1,8,[.nilFunc]⟩,some ⟨.bas,false,1,8,[.nilFunc]⟩,some ⟨.slice 147,false,1,24,[.slice none 0 0]⟩,some ⟨.bas,false,1,8,[.nilFunc]⟩,some ⟨.struct [(0,4,false),(4,1,false),(5,1,false),(6,1,false)],true,7,104,[.int .i64 0,.slice none 0 0,.int .i64 0,.slice none 0 0,.bool false,.slice none 0 0,.int .i64 0]⟩,some ⟨.struct [(0,4,false),(4,1,false),(5,1,false),(6,1,false)],true,7,104,[.int .i64 0,.slice none 0 0,.int .i64 0,.slice none 0 0,.bool false,.slice none 0 0,.int .i64 0]⟩,some ⟨.struct [(0,1,false),(1,1,false),(2,1,false),(3,1,false),(4,1,false),(5,1,false)],true,6,48,[.int .i64 0,.int .i64 0,.int .i64 0,.int .i64 0,.int .i64 0,.bool false]⟩,some ⟨.struct [(0,1,false),(1,1,false),(2,1,false),(3,1,false),(4,1,false),(5,1,false)],true,6,48,[.int .i64 0,.int .i64 0,.int .i64 0,.int .i64 0,.int .i64 0,.bool false]⟩,some ⟨.bas,false,1,8,[.nilFunc]⟩,none,some ⟨.bas,false,1,8,[.nilFunc]⟩,some ⟨.bas,false,1,8,[.nilFunc]⟩,some ⟨.bas,false,1,8,[.nilFunc]⟩,some ⟨.bas,false,1,8,[.nilFunc]⟩,some ⟨.bas,false,1,8,[.nilFunc]⟩,some ⟨.bas,false,1,8,[.nilFunc]⟩,some ⟨.bas,false,1,8,[.nilFunc]⟩,some ⟨.struct [(0,1,false),(1,1,false),(2,1,false)],true,3,24,[.int .i64 0,.int .i64 0,.int .i64 0]⟩,some ⟨.struct [(0,1,false),(1,1,false),(2,1,false)],true,3,24,[.int .i64 0,.int .i64 0,.int .i64 0]⟩,some ⟨.bas,false,1,8,[.nilFunc]⟩,some ⟨.bas,false,1,8,[.nilFunc]⟩,some ⟨.bas,false,1,8,[.nilFunc]⟩,some ⟨.bas,false,1,8,[.nilFunc]⟩,some ⟨.bas,false,1,8,[.nilFunc]⟩,some ⟨.bas,false,1,8,[.nilFunc]⟩,some ⟨.bas,false,1,8,[.nilFunc]⟩,some ⟨.bas,false,1,8,[.nilFunc]⟩,some ⟨.bas,false,1,8,[.nilFunc]⟩,none,some ⟨.bas,false,1,8,[.nilFunc]⟩,some ⟨.bas,false,1,8,[.nilFunc]⟩,some ⟨.struct [(0,1,false),(1,4,false),(5,1,false),(6,1,false),(7,1,false)],true,8,144,[.int .i64 0,.int .i64 0,.slice none 0 0,.int .i64 0,.slice none 0 0,.slice none 0 0,.slice none 0 0,.slice none 0 0]⟩,some ⟨.struct [(0,1,false),(1,4,false),(5,1,false),(6,1,false),(7,1,false)],true,8,144,[.int .i64 0,.int .i64 0,.slice none 0 0,.int .i64 0,.slice none 0 0,.slice none 0 0,.slice none 0 0,.slice none 0 0]⟩,none,some ⟨.bas,false,1,8,[.nilFunc]⟩,some ⟨.bas,false,1,8,[.nilFunc]⟩,some ⟨.bas,false,1,8,[.nilFunc]⟩,some ⟨.bas,false,1,8,[.nilFunc]⟩,some ⟨.bas,false,1,8,[.nilFunc]⟩,some ⟨.bas,false,1,8,[.nilFunc]⟩,some ⟨.bas,false,1,8,[.nilFunc]⟩,some ⟨.bas,false,1,8,[.nilFunc]⟩,some ⟨.bas,false,1,8,[.nilFunc]⟩,none,some ⟨.bas,false,1,8,[.nilFunc]⟩,some ⟨.bas,false,1,8,[.nilFunc]⟩,some ⟨.bas,false,1,8,[.nilFunc]⟩,some ⟨.bas,false,1,8,[.nilFunc]⟩,some ⟨.bas,false,1,8,[.nilFunc]⟩,some ⟨.bas,false,1,8,[.nilFunc]⟩,some ⟨.bas,false,1,8,[.nilFunc]⟩,some ⟨.bas,false,1,8,[.nilFunc]⟩,none,some ⟨.bas,false,1,8,[.nilFunc]⟩,some ⟨.bas,false,1,8,[.nilFunc]⟩,some ⟨.bas,false,1,8,[.nilFunc]⟩,some ⟨.bas,false,1,8,[.nilFunc]⟩,some ⟨.slice 59,false,1,24,[.slice none 0 0]⟩,some ⟨.bas,false,1,8,[.nilFunc]⟩,none,some ⟨.bas,false,1,8,[.nilFunc]⟩,some ⟨.bas,false,1,8,[.nilFunc]⟩,some ⟨.bas,false,1,8,[.nilFunc]⟩,some ⟨.bas,false,1,8,[.nilFunc]⟩,none,some ⟨.bas,false,1,8,[.nilFunc]⟩,some ⟨.bas,false,1,8,[.nilFunc]⟩,some ⟨.bas,false,1,8,[.nilFunc]⟩,some ⟨.bas,false,1,8,[.nilFunc]⟩,some ⟨.bas,false,1,8,[.nilFunc]⟩,some ⟨.bas,false,1,8,[.nilFunc]⟩,some ⟨.int .u64,false,1,8,[.int .u64 0]⟩,some ⟨.int .u64,false,1,8,[.int .u64 0]⟩,some ⟨.bas,false,1,8,[.nilFunc]⟩,some ⟨.bas,false,1,8,[.nilFunc]⟩,some ⟨.bas,false,1,8,[.nilFunc]⟩,some ⟨.bas,false,1,8,[.nilFunc]⟩,some ⟨.bas,false,1,8,[.nilFunc]⟩,some ⟨.bas,false,1,8,[.nilFunc]⟩,some ⟨.bas,false,1,8,[.nilFunc]⟩,some ⟨.bas,false,1,8,[.nilFunc]⟩,some ⟨.bas,false,1,8,[.nilFunc]⟩,some ⟨.bas,false,1,8,[.nilFunc]⟩,some ⟨.bas,false,1,8,[.nilFunc]⟩,some ⟨.bas,false,1,8,[.pointer none]⟩,some ⟨.bas,false,1,8,[.nilFunc]⟩,none,some ⟨.bas,false,1,8,[.nilFunc]⟩,some ⟨.bas,false,1,8,[.nilFunc]⟩,some ⟨.bas,false,1,8,[.nilFunc]⟩,some ⟨.bas,false,1,8,[.nilFunc]⟩,some ⟨.bas,false,1,8,[.pointer none]⟩,some ⟨.bas,false,1,8,[.nilFunc]⟩,some ⟨.bas,false,1,8,[.nilFunc]⟩,some ⟨.bas,false,1,8,[.nilFunc]⟩,some ⟨.bas,false,1,8,[.nilFunc]⟩,some ⟨.bas,false,1,8,[.nilFunc]⟩,some ⟨.bas,false,1,8,[.nilFunc]⟩,some ⟨.bas,false,1,8,[.nilFunc]⟩,some ⟨.bas,false,1,8,[.nilFunc]⟩,some ⟨.bas,false,1,8,[.nilFunc]⟩,some ⟨.bas,false,1,8,[.nilFunc]⟩,some ⟨.bas,false,1,8,[.nilFunc]⟩,some ⟨.bas,false,1,8,[.nilFunc]⟩,some ⟨.bas,false,1,8,[.nilFunc]⟩,none,some ⟨.bas,false,1,8,[.nilFunc]⟩,none,some ⟨.bas,false,1,8,[.nilFunc]⟩,some ⟨.bas,false,1,8,[.nilFunc]⟩,some ⟨.bas,false,1,8,[.nilFunc]⟩,some ⟨.bas,false,1,8,[.nilFunc]⟩,some ⟨.struct [(0,1,false),(1,1,false),(2,1,false),(3,1,false),(4,1,false),(5,1,false)],true,6,48,[.int .i64 0,.int .i64 0,.int .i64 0,.int .i64 0,.int .i64 0,.int .i64 0]⟩,some ⟨.struct [(0,1,false),(1,1,false),(2,1,false),(3,1,false),(4,1,false),(5,1,false)],true,6,48,[.int .i64 0,.int .i64 0,.int .i64 0,.int .i64 0,.int .i64 0,.int .i64 0]⟩,some ⟨.bas,false,1,8,[.nilFunc]⟩,some ⟨.bas,false,1,8,[.nilFunc]⟩,none,some ⟨.bas,false,1,8,[.nilFunc]⟩,some ⟨.arr 2 3,true,2,16,[.int .i64 0,.int .i64 0]⟩,some ⟨.slice 260,false,1,24,[.slice none 0 0]⟩,some ⟨.bas,false,1,8,[.nilFunc]⟩,some ⟨.struct [(0,1,false),(1,1,false)],true,2,16,[.int .i64 0,.int .i64 0]⟩,some ⟨.struct [(0,1,false),(1,1,false)],true,2,16,[.int .i64 0,.int .i64 0]⟩,some ⟨.struct [(0,1,false),(1,1,false),(2,1,false),(3,1,false)],true,4,32,[.int .i64 0,.int .i64 0,.int .i64 0,.int .i64 0]⟩,some ⟨.struct [(0,1,false),(1,1,false),(2,1,false),(3,1,false)],true,4,32,[.int .i64 0,.int .i64 0,.int .i64 0,.int .i64 0]⟩,none,some ⟨.bas,false,1,8,[.nilFunc]⟩,some ⟨.bas,false,1,8,[.nilFunc]⟩,some ⟨.bas,false,1,8,[.nilFunc]⟩,some ⟨.slice 84,false,1,24,[.slice none 0 0]⟩,some ⟨.slice 271,false,1,24,[.slice none 0 0]⟩,some ⟨.struct [(0,1,false),(1,1,false),(2,1,false),(3,2,false),(5,1,false),(6,1,false),(7,1,false),(8,1,false),(9,1,false),(10,2,false)],true,12,256,[.slice none 0 0,.slice none 0 0,.slice none 0 0,.int .i64 0,.slice none 0 0,.slice none 0 0,.slice none 0 0,.slice none 0 0,.slice none 0 0,.slice none 0 0,.int .i64 0,.slice none 0 0]⟩,some ⟨.struct [(0,1,false),(1,1,false),(2,1,false),(3,2,false),(5,1,false),(6,1,false),(7,1,false),(8,1,false),(9,1,false),(10,2,false)],true,12,256,[.slice none 0 0,.slice none 0 0,.slice none 0 0,.int .i64 0,.slice none 0 0,.slice none 0 0,.slice none 0 0,.slice none 0 0,.slice none 0 0,.slice none 0 0,.int .i64 0,.slice none 0 0]⟩,some ⟨.bas,false,1,8,[.nilFunc]⟩,some ⟨.bas,false,1,8,[.nilFunc]⟩,some ⟨.bas,false,1,8,[.nilFunc]⟩,some ⟨.bas,false,1,8,[.nilFunc]⟩,some ⟨.bas,false,1,8,[.nilFunc]⟩,some ⟨.bas,false,1,8,[.nilFunc]⟩,some ⟨.bas,false,1,8,[.nilFunc]⟩,some ⟨.slice 288,false,1,24,[.slice none 0 0]⟩,some ⟨.slice 306,false,1,24,[.slice none 0 0]⟩,some ⟨.struct [(0,1,false),(1,1,false),(2,1,false),(3,1,false),(4,1,false),(5,1,false)],true,6,128,[.int .i64 0,.slice none 0 0,.slice none 0 0,.slice none 0 0,.slice none 0 0,.slice none 0 0]⟩,some ⟨.struct [(0,1,false),(1,1,false),(2,1,false),(3,1,false),(4,1,false),(5,1,false)],true,6,128,[.int .i64 0,.slice none 0 0,.slice none 0 0,.slice none 0 0,.slice none 0 0,.slice none 0 0]⟩,some ⟨.bas,false,1,8,[.nilFunc]⟩,some ⟨.struct [(0,4,false),(4,1,false)],true,5,88,[.int .i64 0,.slice none 0 0,.int .i64 0,.slice none 0 0,.slice none 0 0]⟩,some ⟨.struct [(0,4,false),(4,1,false)],true,5,88,[.int .i64 0,.slice none 0 0,.int .i64 0,.slice none 0 0,.slice none 0 0]⟩,some ⟨.bas,false,1,8,[.nilFunc]⟩,none,some ⟨.bas,false,1,8,[.nilFunc]⟩,some ⟨.bas,false,1,8,[.nilFunc]⟩,some ⟨.bas,false,1,8,[.nilFunc]⟩,some ⟨.bas,false,1,8,[.nilFunc]⟩,some ⟨.bas,false,1,8,[.nilFunc]⟩,some ⟨.bas,false,1,8,[.nilFunc]⟩,some ⟨.int .u32,false,1,4,[.int .u32 0]⟩,none,some ⟨.bas,false,1,8,[.nilFunc]⟩,none,some ⟨.bas,false,1,8,[.nilFunc]⟩,some ⟨.bas,false,1,8,[.nilFunc]⟩,some ⟨.bas,false,1,8,[.nilFunc]⟩,some ⟨.bas,false,1,8,[.nilFunc]⟩,some ⟨.struct [(0,1,false),(1,1,false)],true,2,16,[.int .i64 0,.bool false]⟩,some ⟨.struct [(0,1,false),(1,1,false)],true,2,16,[.int .i64 0,.bool false]⟩,some ⟨.bas,false,1,8,[.pointer none]⟩,some ⟨.bas,false,1,8,[.nilFunc]⟩,some ⟨.bas,false,1,8,[.nilFunc]⟩,some ⟨.bas,false,1,8,[.nilFunc]⟩,some ⟨.bas,false,1,8,[.nilFunc]⟩,none,none,some ⟨.arr 0 16,true,0,0,[]⟩,some ⟨.struct [(0,0,false)],true,0,0,[]⟩,some ⟨.struct [(0,0,false)],true,0,0,[]⟩,some ⟨.int .u8,false,1,1,[.int .u8 0]⟩,some ⟨.int .u8,false,1,1,[.int .u8 0]⟩,some ⟨.bas,false,1,8,[.nilFunc]⟩,some ⟨.bas,false,1,8,[.pointer none]⟩,some ⟨.int .i32,false,1,4,[.int .i32 0]⟩,some ⟨.int .i32,false,1,4,[.int .i32 0]⟩,some ⟨.struct [(0,1,false),(1,1,false),(2,1,false),(3,1,false),(4,1,false),(5,1,false),(6,1,false),(7,1,false),(8,1,false),(9,1,false),(10,1,false)],true,11,48,[.int .u64 0,.int .u64 0,.int .u32 0,.int .u8 0,.int .u8 0,.int .u8 0,.int .u8 0,.nilFunc,.pointer none,.int .i32 0,.int .i32 0]⟩,some ⟨.struct [(0,1,false),(1,1,false),(2,1,false),(3,1,false),(4,1,false),(5,1,false),(6,1,false),(7,1,false),(8,1,false),(9,1,false),(10,1,false)],true,11,48,[.int .u64 0,.int .u64 0,.int .u32 0,.int .u8 0,.int .u8 0,.int .u8 0,.int .u8 0,.nilFunc,.pointer none,.int .i32 0,.int .i32 0]⟩,none]
def tab:Tab:=fun t=>bb2.getD t none
theorem tq {P:Program} {t:TypeId} {d:TD} (h1:b8e P t=some d.k:=by kernel_rfl) (h2:d.agg=b9O d.k:=by rfl) (h3:(P.info? t).map (fun i=>(i.zero.map (·.cells.toList),i.size,i.bytes))=some (some d.zero,d.size,d.bytes):=by kernel_rfl) (h4:d.zero.all (·.oneCell')=true:=by rfl) (h5:d.zero.length=d.size:=by rfl):av4 P t d:=b9D h1 h2 h3 h4 h5
theorem e8:D9 Tryz.prog tab:=b5F (l:=bb2) (by kernel_rfl) ⟨tq,tq,tq,tq,tq,tq,tq,tq,tq,tq,tq,tq,tq,tq,tq,tq,tq,tq,tq,tq,tq,tq,tq,tq,tq,tq,tq,tq,tq,tq,tq,tq,tq,tq,tq,tq,tq,tq,tq,tq,tq,tq,tq,tq,tq,tq,tq,tq,tq,tq,tq,tq,tq,tq,tq,tq,tq,tq,tq,tq,tq,tq,tq,tq,tq,tq,tq,tq,tq,tq,tq,tq,tq,tq,tq,tq,tq,tq,tq,tq,tq,tq,tq,tq,tq,tq,tq,tq,tq,tq,tq,tq,tq,tq,tq,tq,tq,tq,tq,tq,tq,tq,tq,tq,tq,tq,tq,tq,tq,tq,tq,tq,tq,tq,tq,tq,tq,tq,tq,tq,tq,tq,tq,tq,tq,tq,tq,tq,tq,tq,tq,tq,tq,tq,tq,tq,tq,tq,tq,tq,tq,tq,tq,tq,tq,tq,tq,tq,tq,tq,tq,tq,tq,tq,tq,tq,tq,tq,tq,tq,tq,tq,tq,tq,tq,tq,tq,tq,tq,tq,tq,tq,tq,tq,tq,tq,tq,tq,tq,tq,tq,tq,tq,tq,tq,tq,tq,tq,tq,tq,tq,tq,tq,tq,tq,tq,tq,tq,tq,tq,tq,tq,tq,tq,tq,tq,tq,tq,tq,tq,tq,tq,tq,tq,tq,tq,tq,tq,tq,tq,tq,tq,tq,tq,tq,tq,tq,tq,tq,tq,tq,tq,tq,tq,tq,tq,tq,tq,tq,tq,tq,tq,tq,tq,tq,tq,tq,tq,tq,tq,tq,tq,tq,tq,tq,tq,tq,tq,tq,tq,tq,tq,tq,tq,tq,tq,tq,tq,tq,tq,tq,tq,tq,tq,tq,tq,tq,tq,tq,tq,tq,tq,tq,tq,tq,tq,tq,tq,tq,trivial⟩
end
section
open Go.RowKit
structure a0i where
 kind:Int
 hh:Int
 mat:Int
structure v7 where
 day:Int
 src:Int
 dst:Int
 scale:Int
 reading:Int
 all:Bool
structure P2 where
 scale:Int
 since:Int
 till:Int
 grams:Int
 permille:Int
 drift:Int
structure J3 where
 scale:Int
 since:Int
structure a2x where
 move:Int
 mat:Int
 least:Int
 most:Int
structure Ev where
 mats:Int
 hhs:Int
 scs:Int
 places:List a0i
 moves:List v7
 certs:List P2
 recalls:List J3
 purities:List a2x
def Rd {α:Type} (k:Nat) (f:α->List Value) (w:World) (A:Option Addr) (n:Nat) (xs:List α):Prop:=
 n=xs.length∧(0<n->∃b off,A=some ⟨b,off,none⟩∧∀i x,xs[i]? =some x->∀j u,(f x)[j]? =some u->w.cell? ⟨b,off+(i*k+j),none⟩=some u)
section
variable {α:Type} {k:Nat} {f:α->List Value} {w w':World} {A:Option Addr} {n:Nat} {xs:List α}
theorem Rd.nil (A:Option Addr):Rd k f w A 0 ([]:List α):=⟨rfl,fun h=>absurd h (by omega)⟩
theorem Rd.len (h:Rd k f w A n xs):n=xs.length:=h.1
end
section
variable {w w':World} {m h s:Int} {A1 A2 A3 A4 A5:Option Addr} {n1 n2 n3 n4 n5:Nat} {e:Ev}
end
end
section
def idx (a b:Int):Bool:=decide (0<=a) && decide (a<b)
def btw (n lo hi:Int):Bool:=decide (lo<=n) && decide (n<=hi)
theorem b6o (a b:Int):btw a 0 (b - 1)=idx a b:=by
 unfold btw idx
 have:decide (a<=b - 1)=decide (a<b):=by simp;omega
 rw [this]
theorem av8 {a b:Int}:idx a b=true↔0<=a∧a<b:=by simp [idx]
theorem a0F {a b c:Int}:btw a b c=true↔b<=a∧a<=c:=by simp [btw]
def ai5 (e:Ev):Bool:=
 decide (6<e.mats) || decide (100<e.hhs) || decide (30<e.scs) || decide (100<e.places.length) || decide (200<e.moves.length) ||
  decide (100<e.certs.length) || decide (30<e.recalls.length) || decide (200<e.purities.length)
def a18 (e:Ev) (p:a0i):Bool:=
 idx p.kind 7 && (if p.kind=0 then idx p.hh e.hhs && idx p.mat e.mats else decide (p.hh=-1) && decide (p.mat=-1))
def z7 (e:Ev) (i:Int):Int:=((e.places[i.toNat]?).map (·.kind)).getD (-1)
def O0 (e:Ev) (m:v7):Bool:=
 idx m.src e.places.length && idx m.dst e.places.length && decide (m.src≠m.dst) && decide (z7 e m.src≠5) && decide (z7 e m.src≠6) &&
  !(decide (z7 e m.src=0) && m.all) && decide (z7 e m.dst≠0) && (if m.scale=-1 then decide (m.reading=0) else idx m.scale e.scs && btw m.reading 0 1099511627776)
def a9T (e:Ev) (c:P2):Bool:=
 decide (0<=c.since) && decide (c.since<=c.till) && decide (c.till<=100000) && idx c.scale e.scs && btw c.grams 0 1099511627776 && btw c.permille 0 1000 && btw c.drift 0 10000000
def a4l (e:Ev) (r:J3):Bool:=idx r.scale e.scs && btw r.since 0 100000
def a45 (e:Ev) (p:a2x):Bool:=
 idx p.move e.moves.length && idx p.mat e.mats && decide (0<=p.least) && decide (p.least<=p.most) && decide (p.most<=1000)
def a3n (e:Ev):Bool:=e.certs.all (a9T e) && e.recalls.all (a4l e) && e.purities.all (a45 e)
def I5 (e:Ev):Int->List v7->Int
 |_,[]=>0
 |last,m::r=>if m.day<last∨100000<m.day then 17 else if O0 e m then I5 e m.day r else 1
def J8 (e:Ev):Int:=
 if ai5 e then 6 else if e.mats<1∨e.hhs<0∨e.scs<0∨e.places.all (a18 e)=false then 1
 else if I5 e 0 e.moves≠0 then I5 e 0 e.moves else if a3n e then 0 else 1
theorem au0 {e:Ev} {i:Nat} {p:a0i} (h:e.places[i]? =some p):z7 e (i:Int)=p.kind:=by
 simp [z7,h]
theorem ak8 {e:Ev} {l:List v7}:∀{last:Int},I5 e last l=0->∀m ∈ l,O0 e m=true:=by
 induction l with
 |nil=>intro last _ m hm;cases hm
 |cons m r ih=>
  intro last h x hx
  unfold I5 at h
  split at h
  ·simp at h
  ·split at h
   ·rename_i hmk
    rcases lbB.1 hx with rfl|hx
    ·exact hmk
    ·exact ih h x hx
   ·simp at h
theorem a0u {e:Ev} (h:J8 e=0):ai5 e=false∧1<=e.mats∧0<=e.hhs∧0<=e.scs∧e.places.all (a18 e)=true∧I5 e 0 e.moves=0∧a3n e=true:=by
 unfold J8 at h
 by_cases h1:ai5 e=true
 ·rw [if_pos h1] at h;simp at h
 rw [if_neg h1] at h
 by_cases h2:e.mats<1∨e.hhs<0∨e.scs<0∨e.places.all (a18 e)=false
 ·rw [if_pos h2] at h;simp at h
 rw [if_neg h2] at h
 by_cases h3:I5 e 0 e.moves≠0
 ·rw [if_pos h3] at h;exact absurd h h3
 rw [if_neg h3] at h
 by_cases h4:a3n e=true
 ·refine ⟨by simpa using h1,by omega,by omega,by omega,?_,by simpa using h3,h4⟩
  rw [← Bool.not_eq_false]
  exact fun hq=>h2 (.inr (.inr (.inr hq)))
 ·rw [if_neg h4] at h;simp at h
theorem K8 {e:Ev} (h:J8 e=0) {m:v7} (hm:m ∈ e.moves):O0 e m=true:=ak8 (a0u h).2.2.2.2.2.1 m hm
theorem R6 {e:Ev} {m:v7} (h:O0 e m=true):0<=m.src∧m.src<e.places.length:=by
 simp [O0] at h
 exact av8.1 h.1.1.1.1.1.1.1
theorem a3s {e:Ev} {m:v7} (h:O0 e m=true):0<=m.dst∧m.dst<e.places.length:=by
 simp [O0] at h
 exact av8.1 h.1.1.1.1.1.1.2
def y3 {α:Type} (p:Nat->α->Bool):Nat->List α->List Int
 |_,[]=>[]
 |k,m::r=>if p k m then (k:Int)::y3 p (k+1) r else y3 p (k+1) r
def Y2 {α:Type} (p:Nat->α->Bool) (l:List α) (k:Nat):List Int:=y3 p 0 (l.take k)
theorem a8T {α:Type} (p:Nat->α->Bool) (a b:List α):∀k,y3 p k (a++b)=y3 p k a++y3 p (k+a.length) b:=by
 induction a with
 |nil=>intro k;simp [y3]
 |cons m r ih=>
  intro k
  simp only [List.cons_append,y3,ih,lbu]
  rw [show k+1+r.length=k+(r.length+1) from by omega]
  split<;>simp
theorem a8s {α:Type} (p:Nat->α->Bool) {l:List α} {k:Nat} {x:α} (h:l[k]? =some x):Y2 p l (k+1)=Y2 p l k++(if p k x then [(k:Int)] else []):=by
 obtain ⟨hk,hx⟩:=lbe.1 h
 unfold Y2
 rw [List.take_succ_eq_append_getElem hk,a8T,hx]
 have:(l.take k).length=k:=by simp;omega
 rw [this]
 simp only [y3,Nat.zero_add]
theorem ae8 {α:Type} (p:Nat->α->Bool) {l:List α} {k:Nat} {x:α} (h:l[k]? =some x) (hp:p k x=true):Y2 p l (k+1)=Y2 p l k++[(k:Int)]:=by
 rw [a8s p h,if_pos hp]
theorem ar6 {α:Type} (p:Nat->α->Bool) {l:List α} {k:Nat} {x:α} (h:l[k]? =some x) (hp:p k x=false):Y2 p l (k+1)=Y2 p l k:=by
 rw [a8s p h,if_neg (by simp [hp])];simp
theorem aU8 {α:Type} (p:Nat->α->Bool) {l:List α} {k:Nat} (h:l.length<=k):Y2 p l k=y3 p 0 l:=by
 unfold Y2;rw [lbn h]
theorem a9S {α:Type} {p q:Nat->α->Bool} (l:List α) (N:Nat) (h:∀k m,k<N->p k m=q k m):∀k,k+l.length<=N->y3 p k l=y3 q k l:=by
 induction l with
 |nil=>intro k _;rfl
 |cons m r ih=>
  intro k hk
  simp only [lbu] at hk
  simp only [y3,h k m (by omega),ih (k+1) (by omega)]
theorem a8X {α:Type} (p:Nat->α->Bool) (l:List α):∀k,(y3 p k l).length<=l.length:=by
 induction l with
 |nil=>intro k;simp [y3]
 |cons m r ih=>
  intro k
  have:=ih (k+1)
  simp only [y3]
  split<;>simp<;>omega
theorem ai9 {α:Type} (p:Nat->α->Bool) (l:List α) (k:Nat):(Y2 p l k).length<=k:=by
 have:=a8X p (l.take k) 0
 have h2:(l.take k).length<=k:=List.length_take_le _ _
 unfold Y2
 omega
def a6d (e:Ev) (hh mat lo hi:Int) (m:v7):Bool:=
 match e.places[m.src.toNat]? with
 |some p=>decide (p.kind=0) && decide (p.hh=hh) && (decide (mat=-1) || decide (p.mat=mat)) && btw m.day lo hi
 |none=>false
def L2 (e:Ev) (hh mat lo hi:Int):List Int:=if J8 e=0 then y3 (fun _ m=>a6d e hh mat lo hi m) 0 e.moves else []
end
section
structure Ev.Sized (e:Ev):Prop where
 s1:e.places.length<=1000000
 s2:e.moves.length<=1000000
 s3:e.certs.length<=1000000
 s4:e.recalls.length<=1000000
 s5:e.purities.length<=1000000
end
section
open Go.RowKit
abbrev ti (n:Int):T:=.atm (.int .i64 n)
abbrev tb (b:Bool):T:=.atm (.bool b)
def a0i.row (p:a0i):List T:=[ti p.kind,ti p.hh,ti p.mat]
def v7.row (m:v7):List T:=[ti m.day,ti m.src,ti m.dst,ti m.scale,ti m.reading,tb m.all]
def P2.row (c:P2):List T:=[ti c.scale,ti c.since,ti c.till,ti c.grams,ti c.permille,ti c.drift]
def J3.row (r:J3):List T:=[ti r.scale,ti r.since]
def a2x.row (p:a2x):List T:=[ti p.move,ti p.mat,ti p.least,ti p.most]
def i5 (n:Int):List T:=[ti n]
abbrev a5m (l:List a0i):T:=.sl 3 .any (l.map a0i.row)
abbrev a3q (l:List v7):T:=.sl 6 .any (l.map v7.row)
abbrev a2m (l:List P2):T:=.sl 6 .any (l.map P2.row)
abbrev T3 (l:List J3):T:=.sl 2 .any (l.map J3.row)
abbrev a1s (l:List a2x):T:=.sl 4 .any (l.map a2x.row)
abbrev E5 (l:List Int):T:=.sl 1 .any (l.map i5)
def evC (e:Ev):List C:=[.t (ti e.mats),.t (ti e.hhs),.t (ti e.scs),.t (a5m e.places),.t (a3q e.moves),.t (a2m e.certs),.t (T3 e.recalls),.t (a1s e.purities)]
def evT (e:Ev):List T:=[ti e.mats,ti e.hhs,ti e.scs,a5m e.places,a3q e.moves,a2m e.certs,T3 e.recalls,a1s e.purities]
abbrev evS (e:Ev):S:=.agg (evC e)
abbrev i6 (l:List Int):S:=.c (.t (E5 l))
def a0i.cs (p:a0i):List C:=p.row.map .t
def v7.cs (m:v7):List C:=m.row.map .t
abbrev b1K (m:v7):S:=.agg m.cs
abbrev evB (e:Ev):Blk:=B6 28 8 [evC e] true
theorem i3 {a b:Bool} {H1:Hp} (h:a=b):Fin 0 (i8 a) H1 (i8 b) []:=v8 (by subst h;exact rfl)
theorem s9 {a b:Int} {k:IntKind} {H1:Hp} (h:a=b):Fin 0 (b7 k a) H1 (b7 k b) []:=v8 (by subst h;exact rfl)
theorem k8 {x y:T} {ρ:List (Option Nat)} {H:Hp} (h:x=y):a63 ρ H (.c (.t x)) (.c (.t y)):=az6 h
theorem g9 {a b:Int} {k:IntKind} {ρ:List (Option Nat)} {H:Hp} (h:a=b):a63 ρ H (b7 k a) (b7 k b):=by subst h;exact rfl
theorem n8 (e:Ev):K7 [evC e]:=by simp [K7,evC,C.isT]
theorem bb3 {H:Hp} {p:Nat->Prop} (e:Ev):VS H p (evS e) (evS e):=ap1 (evT e)
end
section
def bc0 (xs ys:List Int) (k:Nat):Prop:=xs.take k=ys.take k
end
section
open Go.RowKit
set_option maxRecDepth 100000
abbrev C0 (l:List Int):Blk:={ mode:=.live,elem:=3,size:=1,rows:=toC (l.map i5),box:=false }
abbrev a2q (id:Nat) (l:List Int):S:=.c (.own id 0 l.length true)
theorem t6 {α:Type} {xs:List α} {f:α->List T} {n:Int} {x:α} {lo:Nat} {K:List C->Prop} (hx:xs[lo+n.toNat]? =some x) (h:K ((f x).map C.t)):∃row,(toC (xs.map f))[lo+n.toNat]? =some row∧K row:=
 ⟨(f x).map C.t,by simp [toC,hx],h⟩
theorem a7a {a b:Int} {n:Nat} {K:Prop} (h0:0<=a) (h1:a<=b) (h2:b<=1000000) (hn:n<=1000) (k:K):(0<=a∧a<=b∧b*((n:Int)+1)<=140737488355328)∧K:=by
 refine ⟨⟨h0,h1,?_⟩,k⟩
 have:b*((n:Int)+1)<=1000000*1001:=Int.mul_le_mul h2 (by omega) (by omega) (by omega)
 omega
theorem a2Y {α:Type} {xs:List α} {f:α->List T} {i n:Nat} {v:List C} {x:α} {K:List C->Prop} (hne:i≠n) (hx:xs[n]? =some x) (h:K ((f x).map C.t)):∃row,((toC (xs.map f)).set i v)[n]? =some row∧K row:=
 ⟨(f x).map C.t,by rw [List.getElem?_set_ne hne];simp [toC,hx],h⟩
theorem b6s {α:Type} {f:α->List T} {xs:List α} {x:α}:(toC (xs.map f)).take xs.length++toC [f x]=toC ((xs++[x]).map f):=by
 rw [lbn (by simp [toC])];simp [toC]
theorem ae5 {x:Int} (h1:0<=x) (h2:x<18446744073709551616):IntKind.wrap .u64 x=x:=by
 simp only [IntKind.wrap,IntKind.bits,IntKind.signed]
 simp
 omega
theorem aJ2 {k:IntKind} (hk:k.bits=64) (a:Int) (j:Nat) (hj:j<=62):(BitVec.ofInt k.bits a &&& BitVec.ofInt k.bits ((2 ^ j - 1:Nat):Int)).toNat=(a % ((2 ^ j:Nat):Int)).toNat:=by
 rw [hk]
 rw [BitVec.toNat_and,BitVec.toNat_ofInt,BitVec.toNat_ofInt]
 have hp:(2:Nat) ^ j<=2 ^ 62:=Nat.pow_le_pow_right (by decide) hj
 have h0:0<(2:Nat) ^ j:=Nat.pow_pos (by decide)
 have e1:((((2 ^ j - 1:Nat):Int)) % ((2 ^ 64:Nat):Int)).toNat=2 ^ j - 1:=by
  rw [Int.emod_eq_of_lt (by omega) (by omega)];simp
 rw [e1,Nat.and_two_pow_sub_one_eq_mod]
 have hd:(2:Nat) ^ 64=2 ^ j*2 ^ (64 - j):=by rw [← Nat.pow_add];congr 1;omega
 have h2:0<=a % ((2 ^ 64:Nat):Int):=Int.emod_nonneg _ (by decide)
 have e2:((a % ((2 ^ 64:Nat):Int)).toNat % 2 ^ j:Nat)=((a % ((2 ^ 64:Nat):Int)) % ((2 ^ j:Nat):Int)).toNat:=by
  rw [Int.toNat_emod h2 (by omega)];rfl
 rw [e2]
 congr 1
 refine Int.emod_emod_of_dvd _ ?_
 exact ⟨((2 ^ (64 - j):Nat):Int),by exact_mod_cast hd⟩
theorem az8 {a:Int} (j:Nat) (hj:j<=62):IntKind.wrap .u64 (BitVec.ofInt (IntKind.bits .u64) a &&& BitVec.ofInt (IntKind.bits .u64) ((2 ^ j - 1:Nat):Int)).toNat=a % ((2 ^ j:Nat):Int):=by
 rw [aJ2 rfl a j hj]
 have hp:(2:Nat) ^ j<=2 ^ 62:=Nat.pow_le_pow_right (by decide) hj
 have h0:0<(2:Nat) ^ j:=Nat.pow_pos (by decide)
 have h1:0<=a % ((2 ^ j:Nat):Int):=Int.emod_nonneg _ (by omega)
 have h2:a % ((2 ^ j:Nat):Int)<((2 ^ j:Nat):Int):=Int.emod_lt_of_pos _ (by omega)
 rw [lbZ h1,ae5 h1 (by omega)]
theorem aK0 {x:Int} (h1:0<=x) (h2:x<18446744073709551616):J5 .u64 x x:=by unfold J5;exact (ae5 h1 h2).symm
theorem a2v {α:Type} {l:List α} {f:α->Bool} {k:Nat} {x:α} (h:l[k]? =some x):(l.take (k+1)).any f=((l.take k).any f || f x):=by
 rw [lbH,h];simp
theorem G3 {α:Type} {l:List α} {f:α->Bool} {k:Nat} {x:α} (h:l[k]? =some x):(l.take (k+1)).all f=((l.take k).all f && f x):=by
 rw [lbH,h];simp
theorem a60 {α:Type} {l:List α} {f:α->Bool} {k:Nat} {x:α} (h:l[k]? =some x) (hf:f x=true):l.any f=true:=lbx.2 ⟨x,lbm h,hf⟩
theorem K6 {α:Type} {l:List α} {f:α->Bool} {k:Nat} {x:α} (h:l[k]? =some x) (hf:f x=false):l.all f=false:=by
 rw [← lbQ,lbw];intro h';rw [h' x (lbm h)] at hf;cases hf
theorem b1i {x y:T} {H1:Hp} (h:x=y):Fin 0 (.c (.t x)) H1 (.c (.t y)) []:=by subst h;exact v8 (show a90 [] H1 _ _ from k8 (ρ:=[]) (H:=H1) rfl)
theorem b8v {n:Nat} {k:SK} {a b:List (List T)} {H1:Hp} (h:a=b) (hk:k=.any):Fin 0 (.c (.t (.sl n k a))) H1 (.c (.t (.sl n .any b))) []:=by subst h hk;exact v8 (show a90 [] H1 _ _ from k8 (ρ:=[]) (H:=H1) rfl)
theorem at6 {P:Program} {g:FuncId} {args:List S} {H H':Hp} {r:S} (i:Nat) {n:Nat} (hi:args[i]? =some (.c (.t (.sl n .any [])))) (h1:e7 P g (args.set i (.c (.t (.sl n .nul [])))) H r H')
 (h2:e7 P g (args.set i (.c (.t (.sl n .non [])))) H r H'):e7 P g args H r H':=by
 refine ⟨h1.1,fun w ι M vals hl hr hH hM hF=>?_⟩
 have hv:=(hr i _ hi).inv_t
 have hil:=(lbe.1 hi).1
 have key:∀k:SK,RT w M (.sl n k []) (vals.getD i undef)->∀j s,(args.set i (.c (.t (.sl n k []))))[j]? =some s->RS w ι M s (vals.getD j undef):=fun k hk j s hj=>by
  by_cases hji:i=j
  ·subst hji
   rw [List.getElem?_set_self hil] at hj
   injection hj with hj
   subst hj
   exact .c (.t hk)
  ·rw [List.getElem?_set_ne hji] at hj
   exact hr j s hj
 generalize hu:vals.getD i undef=u at hv
 cases hv with
 |@sl _ _ _ b off cap A f hrow hcap hmax hk hn hA hc hr' hx=>
  cases A with
  |none=>exact h1.2 w ι M vals (by simpa using hl) (key .nul (by rw [hu];exact .sl (b:=b) (off:=off) f hrow hcap hmax (by intro h;cases h) (by intro h;cases h) (by simp) hc hr' ⟨(fun _=>⟨rfl,rfl⟩),(fun h=>nomatch h)⟩)) hH hM hF
  |some a=>exact h2.2 w ι M vals (by simpa using hl) (key .non (by rw [hu];exact .sl (b:=b) (off:=off) f hrow hcap hmax (by intro h;cases h) (by intro h;cases h) (by simp) hc hr' ⟨(fun h=>nomatch h),(fun _ h=>nomatch h)⟩)) hH hM hF
theorem an4 {P:Program} {g:FuncId} {args:List S} {H:Hp} {n:Nat} {b:Blk} {rows:List (List T)} (h:e7 P g args [] (.c (.own 0 0 n true)) [b]) (hargs:args=args.map (a5r [])) (hok:args.all (okS 0)=true)
 (hm:b.mode=.live) (hb:b.rows=toC rows):e7 P g args H (.c (.own H.length 0 n true)) (H++[b]):=by
 refine R8 [] h hargs hok rfl List.nodup_nil (by simp) (by intro k hk;simp at hk;subst hk;rw [hm];simp) (by simp) rfl ?_ (by simp) ?_ ?_
 ·simp [a5r,Z5,a3v]
 ·intro i k hk
  match i,hk with
  |0,hk=>
   simp at hk
   subst hk
   exact ⟨b,by simp [a3v],H9 hb⟩
 ·intro j hj _
  rw [lbb hj]
theorem b0f {P:Program} {g:FuncId} {args args':List S} {r:S} {H':Hp} (h:e7 P g args' [] r H') (ha:a3Q [] (fun _=>False) args args'):e7 P g args [] r H':=by
 refine ⟨h.1,fun w ι M vals hl hv hH hM hf=>?_⟩
 obtain ⟨hlen,hget⟩:=a3Q.get ha
 exact h.2 w ι M vals (by omega) (fun j s hj=>by
  obtain ⟨x,hx,hs⟩:=hget j s hj
  exact hs.rs hH (fun _ h=>h) (fun _ _ _ _ _ h _ _ _ _=>h.elim) (hv j x hx)) hH hM hf
end
section
open Go.RowKit
theorem St1.zd {p:Prop} [Decidable p] {k:S->Prop} (a:p->k (i8 true)) (b:¬p->k (i8 false)):aj5 p k:=aj5.mk a b
theorem St2.zd {b:Bool} {k:S->Prop} (a:b=true->k (i8 true)) (c:b=false->k (i8 false)):a27 b k:=a27.mk a c
theorem St1.zz {x:Int} {K:Int->Prop} (k:K x) (h1:-9223372036854775808<=x:=by omega) (h2:x<=9223372036854775807:=by omega):∃n,J5 .i64 x n∧K n:=⟨_,a3E h1 h2,k⟩
theorem St2.zz {n m:Int} {K:Prop} (k:K) (h0:0<=n:=by omega) (h1:n<m:=by omega):(0<=n∧n<m)∧K:=⟨⟨h0,h1⟩,k⟩
theorem St3.zz {ops:List Oper} {K:List Oper->Prop} (k:K ops) (h:a6Y ops=true:=by decide +kernel):b2V ops K:=b4i h k
theorem St4.zz {P:Program} {τ:Tab} {env:Env} {H':Hp} {ops:List Oper} {i:Nat} {K:Prop} (k:K) (h:K2 ops i=true:=by decide +kernel) (h2:Z0 ops i=[]:=by decide +kernel):K2 ops i=true∧∃L,Z0 ops i=L∧a22 P τ ops env H' K L:=b5N h h2 k
theorem St5.zz {s:S} {B:List Blk} {s':S} {K:Prop} (k:K) (h1:B=[]:=by exact rfl) (h2:s=s':=by exact rfl):(B=[]∧s=s')∧K:=b0t h1 h2 k
theorem St6.zz {α:Type} {xs:List α} {a b:Nat} {K:Prop} (k:K) (h:a=b:=by exact rfl):(xs.length=0∨a=b)∧K:=b4E h k
theorem bl0 {P:Program} {τ:Tab} {env:Env} {H':Hp} {ops:List Oper} {i:Nat} {K:Prop} (L:List Nat) (k:a22 P τ ops env H' K L) (h:K2 ops i=true:=by decide +kernel) (h2:Z0 ops i=L:=by decide +kernel):K2 ops i=true∧∃L,Z0 ops i=L∧a22 P τ ops env H' K L:=b3q L h h2 k
theorem qp {P:Program} {g:FuncId} {args:List S} {H:Hp} {r:S} {K:S->List Blk->Prop} {Q:Prop} (c:e7 P g args [] r []) (k:K r []) (h1:args.all S.isT=true:=by exact rfl) (h2:r.isT=true:=by exact rfl):(∃ r B,W5 P g args H r B∧K r B)∨Q:=.inl ⟨_,_,F5 c h1 h2,k⟩
theorem ac {f:FuncId} {fn:Func} {c:Code} {args:List S} {H:Hp} {s:S} {H':Hp} (hf:Go.Proofs.Tryz.prog.funcs[f]? =some fn) (h:a4r Go.Proofs.Tryz.prog tab H.length c (args++List.replicate (fn.ntmps - args.length) .junk) H fun x env' H1=>match x with
 |.exit _=>False
 | _ => a7h tab fn env' H1 fun r => Fin H.length r H1 s H') (hb : fn.body = some c := by exact rfl) (hn : fn.name ≠ "runtime.NumGoroutine" := by decide) : e7 Go.Proofs.Tryz.prog f args H s H' := b4A e8 hf hb hn h
def Jn (n:Nat):Env:=List.replicate n J
theorem St1.zy {a b c:Prop} (h:a):a6l a b c:=a6l.data h
theorem St2.zy {a b:Prop} (h:b):ag3 a b:=ag3.own h
theorem b0x {a b:Prop} (h:a):ag3 a b:=ag3.data h
theorem St7.zz {k:S->Prop} (h:k (i8 true)):a27 true k:=⟨fun _=>h,fun e=>(by cases e)⟩
theorem St8.zz {k:S->Prop} (h:k (i8 false)):a27 false k:=⟨fun e=>(by cases e),fun _=>h⟩
theorem lg0 {α:Type} {l:List α} {i:Nat} (h:i<l.length):l[i]? =some l[i]:=lbf h
theorem lg1 {α:Type} {l:List α} {i:Nat} {a:α} (h:l[i]? =some a):∃h:i<l.length,l[i]=a:=lbe.1 h
theorem lg2 {α:Type} {l:List α} {i:Nat} {a:α} (h:l[i]? =some a):a ∈ l:=lbm h
theorem lg3 {α:Type} (l:List α) (i:Nat) (a:α):l.getD i a=l[i]?.getD a:=lbl
theorem lg4 {α:Type} {l:List α} {i:Nat} (h:l.length<=i):l.take i=l:=lbn h
theorem lg5 {α:Type} {a:α} {l:List α}:a ∈ a::l:=List.mem_cons_self ..
theorem St1.zx {x:Int} {K:Int->Prop} (k:K x) (h1:-9223372036854775808<=x:=by omega) (h2:x<=9223372036854775807:=by omega):∃n,J5 .i64 x n∧K n:=⟨_,a3E h1 h2,k⟩
theorem St2.zx {n m:Int} {K:Prop} (k:K) (h0:0<=n:=by omega) (h1:n<m:=by omega):(0<=n∧n<m)∧K:=⟨⟨h0,h1⟩,k⟩
theorem St3.zx {ops:List Oper} {K:List Oper->Prop} (k:K ops) (h:a6Y ops=true:=by decide +kernel):b2V ops K:=b4i h k
theorem St4.zx {P:Program} {τ:Tab} {env:Env} {H':Hp} {ops:List Oper} {i:Nat} {K:Prop} (k:K) (h:K2 ops i=true:=by decide +kernel) (h2:Z0 ops i=[]:=by decide +kernel):K2 ops i=true∧∃L,Z0 ops i=L∧a22 P τ ops env H' K L:=b5N h h2 k
theorem St5.zx {s:S} {B:List Blk} {s':S} {K:Prop} (k:K) (h1:B=[]:=by exact rfl) (h2:s=s':=by exact rfl):(B=[]∧s=s')∧K:=b0t h1 h2 k
theorem St6.zx {α:Type} {xs:List α} {a b:Nat} {K:Prop} (k:K) (h:a=b:=by exact rfl):(xs.length=0∨a=b)∧K:=b4E h k
theorem St7.zx {k:S->Prop} (h:k (i8 true)):a27 true k:=⟨fun _=>h,fun e=>(by cases e)⟩
theorem St8.zx {k:S->Prop} (h:k (i8 false)):a27 false k:=⟨fun e=>(by cases e),fun _=>h⟩
theorem StA.zx {a b c:Prop} (h:a):a6l a b c:=a6l.data h
theorem StB.zx {a b:Prop} (h:b):ag3 a b:=ag3.own h
end
open St1 St2 St3 St4 St5 St6 St7 St8 StA StB
theorem a3G (i n:Int):e7 Tryz.prog 266 [b7 .i64 i,b7 .i64 n] [] (i8 (idx i n)) []:=by
 (refine ac Tryz.func266 ?_;(conv=>whnf);repeat (refine zy ?_;conv=>whnf))
 repeat' (first|refine zx ?_|refine zd ?_ ?_<;>intro h<;>try omega|fail)<;>conv=>whnf
 all_goals (refine i3 ?_;simp only [idx];simp;omega)
theorem a2S (n lo hi:Int):e7 Tryz.prog 146 [b7 .i64 n,b7 .i64 lo,b7 .i64 hi] [] (i8 (btw n lo hi)) []:=by
 (refine ac Tryz.func146 ?_;(conv=>whnf);repeat (refine zy ?_;conv=>whnf))
 repeat' (first|refine zx ?_|refine zd ?_ ?_<;>intro h<;>try omega|fail)<;>conv=>whnf
 all_goals (refine i3 ?_;simp only [btw];simp;omega)
def b1l (p:Int × Int):List T:=[ti p.1,ti p.2]
def an7 (e:Ev):List (Int × Int):=[(e.mats,6),(e.hhs,100),(e.scs,30),(e.places.length,100),(e.moves.length,200),(e.certs.length,100),(e.recalls.length,30),(e.purities.length,200)]
theorem an0 (e:Ev):ai5 e=(an7 e).any fun p=>decide (p.2<p.1):=by
 rw [Bool.eq_iff_iff]
 simp [ai5,an7]
 omega
set_option maxRecDepth 100000 in
theorem b8X (e:Ev) (hs:e.Sized):e7 Tryz.prog 192 [evS e] [] (i8 (ai5 e)) []:=by
 (refine ac Tryz.func192 ?_;(conv=>whnf);repeat (refine zy ?_;conv=>whnf))
 have hl:(an7 e).length=8:=rfl
 refine j5 e8 (fun k=>(Jn 34++[S.c (C.t (T.sl 2 .full ((an7 e).map b1l))),b7 .i64 8,b7 .i64 k]++Jn 9,[])) 8 (fun k=>((an7 e).take k).any (fun p=>decide (p.2<p.1))=false) [] rfl
  ⟨rfl,rfl,trivial,⟨k8 (by simp [an7,b1l]),rfl,rfl,trivial⟩⟩ ?_
 intro k hk hI
 conv=>whnf
 repeat' (first|refine zx ?_|refine zd ?_ ?_<;>intro h<;>try omega|fail)<;>conv=>whnf
 ·have hlt:k<8:=by omega
  refine g6 (lbf (hl ▸ hlt)) ?_
  conv=>whnf
  repeat' (first|refine zx ?_|refine zd ?_ ?_<;>intro h<;>try omega|fail)<;>conv=>whnf
  ·refine i3 ?_
   rw [an0,a60 (lbf (hl ▸ hlt))]
   simpa using ‹_ > _›
  ·refine ⟨hlt,?_,[],rfl,rfl,trivial,⟨rfl,rfl,rfl,trivial⟩⟩
   rw [a2v (lbf (hl ▸ hlt)),hI]
   have h:=‹¬ _ > _›
   simp;omega
 ·refine i3 ?_
  rw [an0,←hI,lbn (by omega)]
open St1 St2 St3 St4 St5 St6 St7 St8 StA StB
set_option maxRecDepth 100000
theorem b3m (e:Ev) (hs:e.Sized):e7 Tryz.prog 193 [evS e] [] (i8 (e.places.all (a18 e))) []:=by
 have l1:=hs.s1
 have l2:(e.places.map a0i.row).length=e.places.length:=by simp
 (refine ac Tryz.func193 ?_;(conv=>whnf);repeat (refine zy ?_;conv=>whnf))
 refine j5 e8 (fun k=>([J,S.c (C.ptr 0 0 0),J,J,J,J,S.c (C.t (a5m e.places)),b7 .i64 e.places.length,b7 .i64 k]++Jn 36,[evB e])) e.places.length (fun k=>(e.places.take k).all (a18 e)=true) [some 0] rfl
  ⟨rfl,rfl,⟨⟨rfl,rfl,rfl,.inl ⟨rfl,n8 e⟩⟩,trivial⟩,⟨⟨rfl,rfl,rfl⟩,k8 rfl,g9 (by simp),g9 rfl,trivial⟩⟩ ?_
 intro k hk hI
 conv=>whnf
 repeat' (first|refine zx ?_|refine zd ?_ ?_<;>intro h<;>try omega|fail)<;>conv=>whnf
 ·have hlt:k<e.places.length:=by omega
  obtain ⟨x,hx⟩:∃x,e.places[k]? =some x:=⟨_,lbf hlt⟩
  refine g6 hx ?_
  conv=>whnf
  repeat' (first|refine zx ?_|refine qp (a3G _ _) ?_|refine zd ?_ ?_<;>intro h<;>try omega|fail)<;>conv=>whnf
  all_goals first
   |(refine ⟨hlt,?_,[some 0],rfl,rfl,⟨⟨rfl,rfl,rfl,.inl ⟨rfl,n8 e⟩⟩,trivial⟩,⟨⟨rfl,rfl,rfl⟩,rfl,rfl,rfl,trivial⟩⟩;rw [G3 hx,hI];simp_all [a18];done)
   |(refine i3 ?_;rw [K6 hx];simp_all [a18];done)
 ·refine i3 ?_
  rw [← hI,lbn (by omega)]
theorem as6 {e:Ev} {i:Int} (h:idx i e.places.length=true):0<=i∧∃x,e.places[i.toNat]? =some x∧z7 e i=x.kind:=by
 have h':=av8.1 h
 have hlt:i.toNat<e.places.length:=by omega
 refine ⟨h'.1,_,lbf hlt,?_⟩
 unfold z7
 rw [lbf hlt];rfl
theorem b8a (e:Ev) (m:v7) (hs:e.Sized):e7 Tryz.prog 194 [evS e,b1K m] [] (i8 (O0 e m)) []:=by
 have l1:=hs.s1
 have l2:(e.places.map a0i.row).length=e.places.length:=by simp
 by_cases h1:idx m.src e.places.length=true
 ·obtain ⟨hs0,x,hx,kx⟩:=as6 h1
  by_cases h2:idx m.dst e.places.length=true
  ·obtain ⟨hd0,y,hy,ky⟩:=as6 h2
   (refine ac Tryz.func194 ?_;(conv=>whnf);repeat (refine zy ?_;conv=>whnf))
   rw [← l2] at h1 h2
   repeat' (first|refine zx ?_|refine qp (a3G _ _) ?_|refine qp (a2S _ _ _) ?_|refine N6 hs0 hx ?_|refine N6 hd0 hy ?_|refine zd ?_ ?_<;>intro h<;>try omega|fail)<;>conv=>whnf
   all_goals (refine i3 ?_;simp_all [O0];done)
  ·(refine ac Tryz.func194 ?_;(conv=>whnf);repeat (refine zy ?_;conv=>whnf))
   rw [← l2] at h1 h2
   repeat' (first|refine zx ?_|refine qp (a3G _ _) ?_|refine zd ?_ ?_<;>intro h<;>try omega|fail)<;>conv=>whnf
   all_goals first|(exfalso;simp_all;done)|(refine i3 ?_;simp_all [O0];done)
 ·(refine ac Tryz.func194 ?_;(conv=>whnf);repeat (refine zy ?_;conv=>whnf))
  rw [← l2] at h1
  repeat' (first|refine zx ?_|refine qp (a3G _ _) ?_|refine zd ?_ ?_<;>intro h<;>try omega|fail)<;>conv=>whnf
  all_goals first|(exfalso;simp_all;done)|(refine i3 ?_;simp_all [O0];done)
theorem b9h (e:Ev) (hs:e.Sized):e7 Tryz.prog 195 [evS e] [] (i8 (a3n e)) []:=by
 have l1:=hs.s3
 have l2:(e.certs.map P2.row).length=e.certs.length:=by simp
 have l3:=hs.s4
 have l4:(e.recalls.map J3.row).length=e.recalls.length:=by simp
 have l5:=hs.s5
 have l6:(e.purities.map a2x.row).length=e.purities.length:=by simp
 have l7:=hs.s2
 have l8:(e.moves.map v7.row).length=e.moves.length:=by simp
 (refine ac Tryz.func195 ?_;(conv=>whnf);repeat (refine zy ?_;conv=>whnf))
 refine j5 e8 (fun k=>([J,S.c (C.ptr 0 0 0),J,J,J,J,J,J,J,J,J,S.c (C.t (a2m e.certs)),b7 .i64 e.certs.length,b7 .i64 k]++Jn 107,[evB e])) e.certs.length (fun k=>(e.certs.take k).all (a9T e)=true) [some 0] rfl
  ⟨rfl,rfl,⟨⟨rfl,rfl,rfl,.inl ⟨rfl,n8 e⟩⟩,trivial⟩,⟨⟨rfl,rfl,rfl⟩,k8 rfl,g9 (by simp),g9 rfl,trivial⟩⟩ ?_
 intro k hk hI
 conv=>whnf
 repeat' (first|refine zx ?_|refine zd ?_ ?_<;>intro h<;>try omega|fail)<;>conv=>whnf
 ·have hlt:k<e.certs.length:=by omega
  obtain ⟨x,hx⟩:∃x,e.certs[k]? =some x:=⟨_,lbf hlt⟩
  refine g6 hx ?_
  conv=>whnf
  repeat' (first|refine zx ?_|refine qp (a3G _ _) ?_|refine qp (a2S _ _ _) ?_|refine zd ?_ ?_<;>intro h<;>try omega|fail)<;>conv=>whnf
  all_goals first
   |(refine ⟨hlt,?_,[some 0],rfl,rfl,⟨⟨rfl,rfl,rfl,.inl ⟨rfl,n8 e⟩⟩,trivial⟩,⟨⟨rfl,rfl,rfl⟩,rfl,rfl,rfl,trivial⟩⟩;rw [G3 hx,hI];simp_all [a9T];done)
   |(refine i3 ?_;rw [a3n,K6 hx];rfl;simp_all [a9T];(try omega);done)
 ·have hc:e.certs.all (a9T e)=true:=by rw [← hI,lbn (by omega)]
  clear hI h hk
  refine j5 e8 (fun k=>([J,S.c (C.ptr 0 0 0)]++Jn 60++[S.c (C.t (T3 e.recalls)),b7 .i64 e.recalls.length,b7 .i64 k]++Jn 56,[evB e])) e.recalls.length (fun k=>(e.recalls.take k).all (a4l e)=true) [some 0] rfl
   ⟨rfl,rfl,⟨⟨rfl,rfl,rfl,.inl ⟨rfl,n8 e⟩⟩,trivial⟩,⟨⟨rfl,rfl,rfl⟩,k8 rfl,g9 (by simp),g9 rfl,trivial⟩⟩ ?_
  intro k hk hI
  conv=>whnf
  repeat' (first|refine zx ?_|refine zd ?_ ?_<;>intro h<;>try omega|fail)<;>conv=>whnf
  ·have hlt:k<e.recalls.length:=by omega
   obtain ⟨x,hx⟩:∃x,e.recalls[k]? =some x:=⟨_,lbf hlt⟩
   refine g6 hx ?_
   conv=>whnf
   repeat' (first|refine zx ?_|refine qp (a3G _ _) ?_|refine qp (a2S _ _ _) ?_|refine zd ?_ ?_<;>intro h<;>try omega|fail)<;>conv=>whnf
   all_goals first
    |(refine ⟨hlt,?_,[some 0],rfl,rfl,⟨⟨rfl,rfl,rfl,.inl ⟨rfl,n8 e⟩⟩,trivial⟩,⟨⟨rfl,rfl,rfl⟩,rfl,rfl,rfl,trivial⟩⟩;rw [G3 hx,hI];simp_all [a4l];done)
    |(refine i3 ?_;rw [a3n,hc,K6 hx];rfl;simp_all [a4l];done)
  ·have hr:e.recalls.all (a4l e)=true:=by rw [← hI,lbn (by omega)]
   clear hI h hk
   refine j5 e8 (fun k=>([J,S.c (C.ptr 0 0 0)]++Jn 80++[S.c (C.t (a1s e.purities)),b7 .i64 e.purities.length,b7 .i64 k]++Jn 36,[evB e])) e.purities.length (fun k=>(e.purities.take k).all (a45 e)=true) [some 0] rfl
    ⟨rfl,rfl,⟨⟨rfl,rfl,rfl,.inl ⟨rfl,n8 e⟩⟩,trivial⟩,⟨⟨rfl,rfl,rfl⟩,k8 rfl,g9 (by simp),g9 rfl,trivial⟩⟩ ?_
   intro k hk hI
   conv=>whnf
   repeat' (first|refine zx ?_|refine zd ?_ ?_<;>intro h<;>try omega|fail)<;>conv=>whnf
   ·have hlt:k<e.purities.length:=by omega
    obtain ⟨x,hx⟩:∃x,e.purities[k]? =some x:=⟨_,lbf hlt⟩
    refine g6 hx ?_
    conv=>whnf
    repeat' (first|refine zx ?_|refine qp (a3G _ _) ?_|refine qp (a2S _ _ _) ?_|refine zd ?_ ?_<;>intro h<;>try omega|fail)<;>conv=>whnf
    all_goals first
     |(refine ⟨hlt,?_,[some 0],rfl,rfl,⟨⟨rfl,rfl,rfl,.inl ⟨rfl,n8 e⟩⟩,trivial⟩,⟨⟨rfl,rfl,rfl⟩,rfl,rfl,rfl,trivial⟩⟩;rw [G3 hx,hI];simp_all [a45];done)
     |(refine i3 ?_;rw [a3n,hc,hr,K6 hx];rfl;simp_all [a45];(try omega);done)
   ·have hp:e.purities.all (a45 e)=true:=by rw [← hI,lbn (by omega)]
    refine i3 ?_
    rw [a3n,hc,hr,hp];rfl
open St1 St2 St3 St4 St5 St6 St7 St8 StA StB
set_option maxRecDepth 100000
def b0z (e:Ev):Nat->Int
 |0=>0
 |k+1=>((e.moves[k]?).map (·.day)).getD 0
theorem a9w {e:Ev} {k:Nat} {m:v7} (h:e.moves[k]? =some m):b0z e (k+1)=m.day:=by simp [b0z,h]
theorem a40 {α:Type} {l:List α} {k:Nat} {x:α} (h:l[k]? =some x):l.drop k=x::l.drop (k+1):=by
 obtain ⟨h1,h2⟩:=lbe.1 h
 rw [List.drop_eq_getElem_cons h1,h2]
theorem b1p (e:Ev) (hs:e.Sized):e7 Tryz.prog 123 [evS e] [] (b7 .i64 (J8 e)) []:=by
 have l7:=hs.s2
 have l8:(e.moves.map v7.row).length=e.moves.length:=by simp
 (refine ac Tryz.func123 ?_;(conv=>whnf);repeat (refine zy ?_;conv=>whnf))
 repeat' (first|refine zx ?_|refine qp (b8X _ hs) ?_|refine qp (b3m _ hs) ?_|refine zd ?_ ?_<;>intro h<;>try omega|fail)<;>conv=>whnf
 case refine_2.refine_2.refine_2.refine_2.refine_1 hf h1 h2 h3=>
  have h4:=h
  clear h
  have hpre:¬(e.mats<1∨e.hhs<0∨e.scs<0∨e.places.all (a18 e)=false):=by
   rintro (h|h|h|h)
   ·omega
   ·omega
   ·omega
   ·rw [h4] at h;cases h
  have hck:J8 e=if I5 e 0 e.moves≠0 then I5 e 0 e.moves else if a3n e then 0 else 1:=by
   unfold J8;rw [if_neg (by simp [hf]),if_neg hpre]
  refine j5 e8 (fun k=>([J,S.c (C.ptr 0 0 0),J,b7 .i64 (b0z e k)]++Jn 25++[S.c (C.t (a3q e.moves)),b7 .i64 e.moves.length,b7 .i64 k]++Jn 22,[evB e])) e.moves.length (fun k=>I5 e 0 e.moves=I5 e (b0z e k) (e.moves.drop k)) [some 0] rfl
   ⟨rfl,rfl,⟨⟨rfl,rfl,rfl,.inl ⟨rfl,n8 e⟩⟩,trivial⟩,⟨⟨rfl,rfl,rfl⟩,g9 rfl,k8 rfl,g9 (by simp),g9 rfl,trivial⟩⟩ ?_
  intro k hk hI
  conv=>whnf
  repeat' (first|refine zx ?_|refine zd ?_ ?_<;>intro h<;>try omega|fail)<;>conv=>whnf
  ·have hlt:k<e.moves.length:=by omega
   obtain ⟨x,hx⟩:∃x,e.moves[k]? =some x:=⟨_,lbf hlt⟩
   rw [a40 hx,I5] at hI
   refine g6 hx ?_
   conv=>whnf
   repeat' (first|refine zx ?_|refine qp (b8a _ x hs) ?_|refine zd ?_ ?_<;>intro h<;>try omega|fail)<;>conv=>whnf
   all_goals first
    |(refine ⟨hlt,?_,[some 0],rfl,rfl,⟨⟨rfl,rfl,rfl,.inl ⟨rfl,n8 e⟩⟩,trivial⟩,⟨⟨rfl,rfl,rfl⟩,?_,rfl,rfl,rfl,trivial⟩⟩
      ·rw [a9w hx,hI,if_neg (by omega),if_pos (by assumption)]
      ·rw [a9w hx];exact rfl)
    |(have e1:I5 e 0 e.moves=17:=by rw [hI,if_pos (by omega)]
      refine s9 ?_;rw [hck,e1];rfl)
    |(have e1:I5 e 0 e.moves=1:=by rw [hI,if_neg (by omega),if_neg (by simp_all)]
      refine s9 ?_;rw [hck,e1];rfl)
  ·rw [List.drop_eq_nil_of_le (by omega),I5] at hI
   repeat' (first|refine zx ?_|refine qp (b9h _ hs) ?_|refine zd ?_ ?_<;>intro h<;>try omega|fail)<;>conv=>whnf
   all_goals (refine s9 ?_;rw [hck,hI];simp_all)
 all_goals (refine s9 ?_;unfold J8;simp_all;try omega)
open St1 St2 St3 St4 St5 St6 St7 St8 StA StB
def val:List Int->Int
 |[]=>0
 |d::r=>d+1048576*val r
def Okd (l:List Int):Prop:=∀d ∈ l,0<=d∧d<1048576
def dgF:Nat->Nat->List Int
 |0,_=>[]
 |f+1,n=>if n=0 then [] else ((n % 1048576:Nat):Int)::dgF f (n / 1048576)
def dg (n:Nat):List Int:=dgF n n
def pw (i:Nat):Int:=1048576 ^ i
theorem b61:pw 0=1:=rfl
theorem L9 (i:Nat):pw (i+1)=pw i*1048576:=Int.pow_succ ..
theorem T0 (i:Nat):0<pw i:=Int.pow_pos (by decide)
theorem a7I (i j:Nat):pw (i+j)=pw i*pw j:=Int.pow_add ..
theorem a2c {i j:Nat} (h:i<=j):pw i<=pw j:=by
 obtain ⟨k,rfl⟩:=Nat.exists_eq_add_of_le h
 rw [a7I]
 have h1:=T0 i
 have h2:=T0 k
 have:=lbW (a:=1) (b:=pw k) (c:=pw i) (by omega) (by omega)
 omega
theorem Okd.nil:Okd []:=fun _ h=>nomatch h
theorem Okd.cons {d:Int} {l:List Int} (h1:0<=d∧d<1048576) (h2:Okd l):Okd (d::l):=by
 intro x hx
 rcases lbB.1 hx with rfl|hx
 ·exact h1
 ·exact h2 x hx
theorem Okd.head {d:Int} {l:List Int} (h:Okd (d::l)):0<=d∧d<1048576:=h d (by simp)
theorem Okd.tail {d:Int} {l:List Int} (h:Okd (d::l)):Okd l:=fun x hx=>h x (by simp [hx])
theorem Okd.take {l:List Int} (h:Okd l) (n:Nat):Okd (l.take n):=fun x hx=>h x (List.mem_of_mem_take hx)
theorem Okd.drop {l:List Int} (h:Okd l) (n:Nat):Okd (l.drop n):=fun x hx=>h x (List.mem_of_mem_drop hx)
theorem Okd.append {a b:List Int} (h:Okd a) (h2:Okd b):Okd (a++b):=fun x hx=>by
 rcases lbA.1 hx with hx|hx
 ·exact h x hx
 ·exact h2 x hx
theorem Okd.set {l:List Int} (h:Okd l) {i:Nat} {x:Int} (hx:0<=x∧x<1048576):Okd (l.set i x):=fun y hy=>by
 rcases List.mem_or_eq_of_mem_set hy with hy|rfl
 ·exact h y hy
 ·exact hx
theorem Okd.zeros (n:Nat):Okd (List.replicate n 0):=fun x hx=>by rw [List.eq_of_mem_replicate hx];decide
theorem A6 {l:List Int} (h:Okd l):0<=val l:=by
 induction l with
 |nil=>simp [val]
 |cons d l ih=>have:=ih h.tail;have:=h.head;simp only [val];omega
theorem a0q {l:List Int} (h:Okd l):val l<pw l.length:=by
 induction l with
 |nil=>simp [val,pw]
 |cons d l ih=>
  have:=ih h.tail;have:=h.head
  simp only [val,lbu,L9];omega
theorem S0 (a b:List Int):val (a++b)=val a+pw a.length*val b:=by
 induction a with
 |nil=>simp [val,pw]
 |cons d a ih=>simp only [List.cons_append,val,ih,lbu,L9];grind
theorem a7Z (n:Nat):val (List.replicate n 0)=0:=by
 induction n with
 |zero=>rfl
 |succ n ih=>simp [List.replicate_succ,val,ih]
theorem a7A (l:List Int) (i:Nat) (h:i<=l.length):val l=val (l.take i)+pw i*val (l.drop i):=by
 have:=S0 (l.take i) (l.drop i)
 rw [lb8] at this
 rw [this]
 rw [lbs,Nat.min_eq_left h]
theorem a5z {l:List Int} {i:Nat} {x:Int} (h:l[i]? =some x):val (l.take (i+1))=val (l.take i)+pw i*x:=by
 have hi:i<l.length:=by
  rcases Nat.lt_or_ge i l.length with h1|h1
  ·exact h1
  ·rw [lbd h1] at h;cases h
 rw [lbH,h,S0,lbs,Nat.min_eq_left (by omega)]
 simp [val]
theorem a4Q {l:List Int} {i:Nat} {x:Int} (h:l[i]? =some x):val (l.drop i)=x+1048576*val (l.drop (i+1)):=by
 have hi:i<l.length:=by
  rcases Nat.lt_or_ge i l.length with h1|h1
  ·exact h1
  ·rw [lbd h1] at h;cases h
 rw [List.drop_eq_getElem_cons hi]
 rw [lbf hi] at h
 injection h with h
 rw [h];rfl
theorem b5S {l:List Int} {i:Nat} {x y:Int} (h:l[i]? =some y):val (l.set i x)=val l+pw i*(x - y):=by
 induction l generalizing i with
 |nil=>simp at h
 |cons d l ih=>
  cases i with
  |zero=>
   simp only [List.getElem?_cons_zero,lb4] at h
   subst h
   simp [val,pw];omega
  |succ i=>
   simp only [List.getElem?_cons_succ] at h
   simp only [List.set_cons_succ,val,ih h,L9];grind
theorem b4g (f n:Nat) (h:n<=f):dgF f n=dg n:=by
 unfold dg
 induction f using Nat.strongRecOn generalizing n with
 |ind f ih=>
  cases f with
  |zero=>cases Nat.le_zero.1 h;rfl
  |succ f=>
   cases n with
   |zero=>rfl
   |succ n=>
    simp only [dgF,Nat.succ_ne_zero,if_false]
    rw [ih f (by omega) _ (by omega),ih n (by omega) _ (by omega)]
theorem a2b:dg 0=[]:=rfl
theorem a6n {n:Nat} (h:0<n):dg n=((n % 1048576:Nat):Int)::dg (n / 1048576):=by
 obtain ⟨m,rfl⟩:∃m,n=m+1:=⟨n - 1,by omega⟩
 show dgF (m+1) (m+1)=_
 simp only [dgF,Nat.succ_ne_zero,if_false]
 rw [b4g _ _ (by omega)]
theorem aT0 {P:Nat->Prop} (h0:P 0) (h:∀n,0<n->P (n / 1048576)->P n) (n:Nat):P n:=by
 induction n using Nat.strongRecOn with
 |ind n ih=>
  rcases Nat.eq_zero_or_pos n with rfl|hn
  ·exact h0
  ·exact h n hn (ih _ (by omega))
theorem C1 (n:Nat):val (dg n)=n:=by
 induction n using aT0 with
 |h0=>rfl
 |h n hn ih=>rw [a6n hn,val,ih];omega
theorem E7 (n:Nat):Okd (dg n):=by
 induction n using aT0 with
 |h0=>exact .nil
 |h n hn ih=>rw [a6n hn];exact .cons (by omega) ih
theorem U2 {n:Nat}:dg n=[]↔n=0:=by
 constructor
 ·intro h
  have:=C1 n
  rw [h] at this
  simp only [val] at this;omega
 ·rintro rfl;rfl
def O5:List Int->List Int
 |[]=>[]
 |d::r=>if O5 r=[]∧d=0 then [] else d::O5 r
theorem V7 {l:List Int} (h:Okd l):O5 l=dg (val l).toNat:=by
 induction l with
 |nil=>rfl
 |cons d l ih=>
  have h0:=A6 h.tail
  have h1:=h.head
  have hv:(val (d::l)).toNat=d.toNat+1048576*(val l).toNat:=by simp only [val];omega
  rw [O5,ih h.tail,hv]
  split
  ·rename_i hc
   have:=U2.1 hc.1
   rw [this,hc.2];rfl
  ·rename_i hc
   rw [a6n (n:=d.toNat+1048576*(val l).toNat)]
   ·congr 1
    ·omega
    ·congr 1;omega
   ·rcases Nat.eq_zero_or_pos (val l).toNat with h2|h2
    ·have:d≠0:=fun h3=>hc ⟨by rw [h2];rfl,h3⟩
     omega
    ·omega
theorem a61 {l:List Int} {n:Nat} (h1:∀j x,n<=j->l[j]? =some x->x=0) (h2:∀x,0<n->l[n-1]? =some x->x≠0) (hn:n<=l.length):l.take n=O5 l:=by
 induction l generalizing n with
 |nil=>simp [O5]
 |cons d l ih=>
  cases n with
  |zero=>
   have ht:O5 l=[]:=by
    rw [← ih (n:=0) (fun j x _ hx=>h1 (j+1) x (by omega) (by simpa using hx)) (fun x h=>absurd h (by omega)) (by omega)];rfl
   have hd:d=0:=h1 0 d (by omega) (by simp)
   simp [O5,ht,hd]
  |succ n=>
   have ht:O5 l=l.take n:=by
    refine (ih (n:=n) (fun j x hj hx=>h1 (j+1) x (by omega) (by simpa using hx)) (fun x h hx=>h2 x (by omega) ?_) (by simpa using hn)).symm
    obtain ⟨m,rfl⟩:∃m,n=m+1:=⟨n - 1,by omega⟩
    simpa using hx
   rw [O5,ht,List.take_succ_cons,if_neg]
   rintro ⟨h3,h4⟩
   have hn0:n=0:=by
    rcases Nat.eq_zero_or_pos n with h5|h5
    ·exact h5
    ·have:=congrArg List.length h3
     simp only [lbs,List.length_nil,lbu] at this hn
     omega
   subst hn0
   exact h2 d (by omega) (by simp) h4
theorem O1 {n k:Nat} (h:(n:Int)<pw k):(dg n).length<=k:=by
 induction k generalizing n with
 |zero=>have:n=0:=by simp [pw] at h;omega
        subst this;simp [a2b]
 |succ k ih=>
  rcases Nat.eq_zero_or_pos n with rfl|hn
  ·simp [a2b]
  ·rw [a6n hn]
   rw [L9] at h
   have:=ih (n:=n / 1048576) (by omega)
   simp;omega
theorem aC7 {n:Nat} (h:0<n):pw ((dg n).length - 1)<=n:=by
 induction n using aT0 with
 |h0=>omega
 |h n hn ih=>
  rw [a6n hn]
  rcases Nat.eq_zero_or_pos (n / 1048576) with h1|h1
  ·rw [h1,a2b]
   simp [pw];omega
  ·have h2:=ih h1
   have:(dg (n / 1048576)).length≠0:=by rw [Ne,List.length_eq_zero_iff,U2];omega
   obtain ⟨m,hm⟩:∃m,(dg (n / 1048576)).length=m+1:=⟨(dg (n / 1048576)).length - 1,by omega⟩
   rw [hm] at h2
   rw [lbu,hm]
   simp only [Nat.add_sub_cancel] at h2 ⊢
   rw [L9];omega
theorem P9 (n:Nat):(n:Int)<pw (dg n).length:=by
 have:=a0q (E7 n);rw [C1] at this;exact this
theorem C4 {m n:Nat} (h:m<=n):(dg m).length<=(dg n).length:=O1 (by have:=P9 n;omega)
theorem av3 {m n:Nat} (h:(dg m).length<(dg n).length):m<n:=by
 rcases Nat.lt_or_ge m n with h1|h1
 ·exact h1
 ·have:=C4 h1;omega
def Can (l:List Int):Prop:=Okd l∧∀x,l[l.length - 1]? =some x->x≠0
theorem b05 {l:List Int} (h:Can l):l=dg (val l).toNat:=by
 rw [← V7 h.1]
 have:=a61 (l:=l) (n:=l.length) (fun j x hj hx=>by rw [lbd hj] at hx;cases hx) (fun x _ hx=>h.2 x hx) (lbR _)
 rw [List.take_length] at this
 exact this
theorem a1L (n:Nat):Can (dg n):=by
 refine ⟨E7 n,fun x hx h0=>?_⟩
 subst h0
 have hl:0<(dg n).length:=by
  rcases Nat.eq_zero_or_pos (dg n).length with h|h
  ·rw [List.length_eq_zero_iff.1 h] at hx;simp at hx
  ·exact h
 have hp:0<n:=by
  rcases Nat.eq_zero_or_pos n with rfl|h
  ·simp [a2b] at hl
  ·exact h
 have h1:=aC7 hp
 have h2:=a5z hx
 rw [show (dg n).length - 1+1=(dg n).length by omega,List.take_length,C1] at h2
 have h3:=a0q ((E7 n).take ((dg n).length - 1))
 rw [lbs,Nat.min_eq_left (by omega)] at h3
 omega
theorem a8r {a b:List Int} (ha:Okd a) (hb:Okd b) (hl:a.length=b.length) {i:Nat} {x y:Int} (hx:a[i]? =some x) (hy:b[i]? =some y)
 (hd:a.drop (i+1)=b.drop (i+1)) (h:x<y):val a<val b:=by
 have hi:i<a.length:=by
  rcases Nat.lt_or_ge i a.length with h1|h1
  ·exact h1
  ·rw [lbd h1] at hx;cases hx
 have e1:=a7A a i (by omega)
 have e2:=a7A b i (by omega)
 rw [a4Q hx] at e1
 rw [a4Q hy] at e2
 rw [hd] at e1
 have h1:=a0q (ha.take i)
 rw [lbs,Nat.min_eq_left (by omega)] at h1
 have h2:=A6 (hb.take i)
 have h3:=T0 i
 have h4:pw i*(x+1048576*val (b.drop (i+1)))+pw i<=pw i*(y+1048576*val (b.drop (i+1))):=by
  have:=lbW (a:=x+1048576*val (b.drop (i+1))+1) (b:=y+1048576*val (b.drop (i+1))) (c:=pw i) (by omega) (by omega)
  rw [Int.mul_add (pw i) _ 1] at this
  omega
 omega
def dat (l:List Int) (i:Nat):Int:=l.getD i 0
theorem a2H {l:List Int} {i:Nat} {x:Int} (h:l[i]? =some x):dat l i=x:=by unfold dat;rw [lbl,h];rfl
theorem a1W {l:List Int} {i:Nat} (h:l.length<=i):dat l i=0:=by unfold dat;rw [lbl,lbd h];rfl
theorem Okd.dat {l:List Int} (h:Okd l) (i:Nat):0<=dat l i∧dat l i<1048576:=by
 rcases Nat.lt_or_ge i l.length with h1|h1
 ·rw [a2H (lbf h1)]
  exact h _ (lbF h1)
 ·rw [a1W h1];decide
theorem A9 (l:List Int) (i:Nat):val (l.take (i+1))=val (l.take i)+pw i*dat l i:=by
 rcases Nat.lt_or_ge i l.length with h1|h1
 ·rw [a2H (lbf h1)]
  exact a5z (lbf h1)
 ·rw [a1W h1,lbn (by omega),lbn (by omega)];simp
theorem a6U (n:Int):0<=n % 1048576∧n % 1048576<1048576:=by omega
structure a7Q (a b:List Int) (i:Nat) (out:List Int) (c:Int):Prop where
 len:out.length=a.length+1
 ok:Okd out
 le:i<=a.length
 zero:∀j,i<=j->dat out j=0
 c0:0<=c
 c1:c<=1
 eq:val out+pw i*c=val (a.take i)+val (b.take i)
theorem a7Q.init (a b:List Int):a7Q a b 0 (List.replicate (a.length+1) 0) 0:=
 ⟨by simp,.zeros _,Nat.zero_le _,fun j _=>by unfold dat;rw [lbl,lbk];split<;>rfl,by decide,by decide,by rw [a7Z];simp [val]⟩
theorem a58 {l:List Int} {i j:Nat} {x:Int} (h:i≠j):dat (l.set i x) j=dat l j:=by
 unfold dat;rw [lbl,lbl,List.getElem?_set_ne h]
theorem a1M {l:List Int} {i:Nat} {x:Int} (hi:i<l.length):val (l.set i x)=val l+pw i*(x - dat l i):=by
 rw [a2H (lbf hi)];exact b5S (lbf hi)
theorem a7Q.step {a b out:List Int} {i:Nat} {c:Int} (h:a7Q a b i out c) (ha:Okd a) (hb:Okd b) (hi:i<a.length):
 a7Q a b (i+1) (out.set i ((c+dat a i+dat b i) % 1048576)) ((c+dat a i+dat b i) / 1048576):=by
 have h1:=ha.dat i
 have h2:=hb.dat i
 have h3:=h.c0
 have h4:=h.c1
 have hl:=h.len
 refine ⟨by simp [hl],h.ok.set (a6U _),hi,fun j hj=>?_,by omega,by omega,?_⟩
 ·rw [a58 (by omega)];exact h.zero j (by omega)
 ·rw [a1M (by omega),h.zero i (lbR _),A9,A9,L9]
  have h5:=h.eq
  have h6:(c+dat a i+dat b i) % 1048576=c+dat a i+dat b i - 1048576*((c+dat a i+dat b i) / 1048576):=by omega
  rw [h6]
  grind
theorem a7Q.fin {a b out:List Int} {c:Int} (h:a7Q a b a.length out c) (hl:b.length<=a.length):O5 (out.set a.length c)=dg (val a+val b).toNat:=by
 have h1:=h.c0
 have h2:=h.c1
 have h3:=h.eq
 have hl:=h.len
 rw [V7 (h.ok.set (by omega)),a1M (by omega),h.zero _ (lbR _)]
 rw [List.take_length,lbn (by omega)] at h3
 congr 2
 grind
structure aj6 (a b:List Int) (i:Nat) (out:List Int) (c:Int):Prop where
 len:out.length=a.length
 ok:Okd out
 le:i<=a.length
 rest:∀j,i<=j->dat out j=dat a j
 c0:0<=c
 c1:c<=1
 eq:val out - pw i*c=val a - val (b.take i)
theorem aj6.init {a b:List Int} (ha:Okd a):aj6 a b 0 a 0:=⟨rfl,ha,Nat.zero_le _,fun _ _=>rfl,by decide,by decide,by simp [val]⟩
theorem aj6.step {a b out:List Int} {i:Nat} {c:Int} (h:aj6 a b i out c) (ha:Okd a) (hb:Okd b) (hi:i<a.length):
 aj6 a b (i+1) (out.set i ((dat out i - c - dat b i) % 1048576)) ((dat out i - c - dat b i) / 1048576 % 2):=by
 have h1:=h.ok.dat i
 have h2:=hb.dat i
 have h3:=h.c0
 have h4:=h.c1
 have hl:=h.len
 refine ⟨by simp [hl],h.ok.set (a6U _),hi,fun j hj=>?_,by omega,by omega,?_⟩
 ·rw [a58 (by omega)];exact h.rest j (by omega)
 ·rw [a1M (by omega),A9,L9]
  have h5:=h.eq
  have h6:(dat out i - c - dat b i) % 1048576=dat out i - c - dat b i+1048576*((dat out i - c - dat b i) / 1048576 % 2):=by omega
  rw [h6]
  grind
theorem aj6.fin {a b out:List Int} {c:Int} (h:aj6 a b a.length out c) (hl:b.length<=a.length) (hv:val b<=val a):O5 out=dg (val a - val b).toNat:=by
 have h1:=h.c0
 have h2:=h.c1
 have h3:=h.eq
 have hlen:=h.len
 rw [lbn (by omega)] at h3
 have h4:=a0q h.ok
 rw [hlen] at h4
 rw [V7 h.ok]
 rcases Int.lt_or_le 0 c with h5|h5
 ·have:c=1:=by omega
  subst this;omega
 ·have:c=0:=by omega
  subst this
  congr 2;omega
structure aj7 (a b:List Int) (i k:Nat) (out:List Int) (c:Int):Prop where
 len:out.length=a.length+b.length
 ok:Okd out
 le:k<=b.length
 zero:∀j,i+b.length<=j->dat out j=0
 c0:0<=c
 c1:c<1048576
 eq:val out+pw (i+k)*c=val (a.take i)*val b+pw i*dat a i*val (b.take k)
structure a7y (a b:List Int) (i:Nat) (out:List Int):Prop where
 len:out.length=a.length+b.length
 ok:Okd out
 le:i<=a.length
 zero:∀j,i+b.length<=j->dat out j=0
 eq:val out=val (a.take i)*val b
theorem a7y.init (a b:List Int):a7y a b 0 (List.replicate (a.length+b.length) 0):=
 ⟨by simp,.zeros _,Nat.zero_le _,fun j _=>by unfold dat;rw [lbl,lbk];split<;>rfl,by rw [a7Z];simp [val]⟩
theorem a7y.start {a b out:List Int} {i:Nat} (h:a7y a b i out):aj7 a b i 0 out 0:=
 ⟨h.len,h.ok,Nat.zero_le _,h.zero,by decide,by decide,by rw [h.eq];simp [val]⟩
theorem a52 {x y:Int} (hx:0<=x∧x<1048576) (hy:0<=y∧y<1048576):0<=x*y∧x*y<=1048575*1048575:=
 ⟨lb0 hx.1 hy.1,Int.mul_le_mul (by omega) (by omega) hy.1 (by decide)⟩
theorem aj7.step {a b out:List Int} {i k:Nat} {c:Int} (h:aj7 a b i k out c) (ha:Okd a) (hb:Okd b) (hi:i<a.length) (hk:k<b.length):
 aj7 a b i (k+1) (out.set (i+k) ((dat out (i+k)+dat a i*dat b k+c) % 1048576)) ((dat out (i+k)+dat a i*dat b k+c) / 1048576):=by
 have h1:=h.ok.dat (i+k)
 have h2:=a52 (ha.dat i) (hb.dat k)
 have h3:=h.c0
 have h4:=h.c1
 have hl:=h.len
 refine ⟨by simp [hl],h.ok.set (a6U _),hk,fun j hj=>?_,by omega,by omega,?_⟩
 ·rw [a58 (by omega)];exact h.zero j (by omega)
 ·rw [a1M (by omega),A9,show i+(k+1)=i+k+1 by omega,L9]
  have h5:=h.eq
  have h6:(dat out (i+k)+dat a i*dat b k+c) % 1048576=dat out (i+k)+dat a i*dat b k+c - 1048576*((dat out (i+k)+dat a i*dat b k+c) / 1048576):=by omega
  rw [h6]
  have h7:=a7I i k
  grind
theorem aj7.done {a b out:List Int} {i:Nat} {c:Int} (h:aj7 a b i b.length out c) (ha:Okd a) (hb:Okd b) (hi:i<a.length):
 a7y a b (i+1) (out.set (i+b.length) (dat out (i+b.length)+c)):=by
 have h3:=h.c0
 have h4:=h.c1
 have hl:=h.len
 have h8:=h.zero _ (lbR _)
 refine ⟨by simp [hl],h.ok.set (by omega),hi,fun j hj=>?_,?_⟩
 ·rw [a58 (by omega)];exact h.zero j (by omega)
 ·rw [a1M (by omega),A9]
  have h5:=h.eq
  rw [List.take_length] at h5
  grind
theorem a7y.fin {a b out:List Int} (h:a7y a b a.length out):O5 out=dg (val a*val b).toNat:=by
 rw [V7 h.ok,h.eq,List.take_length]
structure a2t (a:List Int) (d:Int) (j:Nat) (out:List Int) (r:Int):Prop where
 len:out.length=a.length
 ok:Okd out
 le:j<=a.length
 r0:0<=r
 r1:r<d
 eq:val (a.drop j)=d*val (out.drop j)+r
theorem a2t.init (a:List Int) {d:Int} (hd:0<d):a2t a d a.length (List.replicate a.length 0) 0:=
 ⟨by simp,.zeros _,lbR _,by decide,hd,by simp [val]⟩
theorem af4 {l:List Int} {i:Nat} (h:i<l.length):val (l.drop i)=dat l i+1048576*val (l.drop (i+1)):=by
 rw [a2H (lbf h)];exact a4Q (lbf h)
theorem a6S {l:List Int} {i:Nat} {x:Int} (h:i<l.length):dat (l.set i x) i=x:=by
 unfold dat;rw [lbl,List.getElem?_set_self h];rfl
theorem a2t.step {a out:List Int} {d r:Int} {j:Nat} (h:a2t a d (j+1) out r) (ha:Okd a) (hd:0<d):
 a2t a d j (out.set j ((r*1048576+dat a j) / d)) ((r*1048576+dat a j) % d):=by
 have h1:=ha.dat j
 have h3:=h.r0
 have h4:=h.r1
 have hl:=h.len
 have hle:=h.le
 have h6:0<=(r*1048576+dat a j) / d:=Int.ediv_nonneg (by omega) (by omega)
 have h7:(r*1048576+dat a j) / d<1048576:=by
  apply Int.ediv_lt_of_lt_mul hd
  have:=lbW (a:=r+1) (b:=d) (c:=1048576) (by omega) (by omega)
  omega
 refine ⟨by simp [hl],h.ok.set ⟨h6,h7⟩,by omega,Int.emod_nonneg _ (by omega),Int.emod_lt_of_pos _ hd,?_⟩
 rw [af4 (by omega),af4 (l:=out.set j _) (by simp;omega),a6S (by omega),List.drop_set_of_lt (by omega),h.eq]
 have h8:=Int.emod_add_mul_ediv (r*1048576+dat a j) d
 grind
theorem a2t.fin {a out:List Int} {d r:Int} (h:a2t a d 0 out r) (ha:Okd a) (hd:0<d):O5 out=dg (val a / d).toNat∧r=val a % d:=by
 have h3:=h.r0
 have h4:=h.r1
 have h5:=h.eq
 simp only [List.drop_zero] at h5
 rw [V7 h.ok]
 have e1:val a / d=val out:=by rw [h5];rw [Int.add_comm,Int.add_mul_ediv_left _ _ (by omega),Int.ediv_eq_zero_of_lt h3 h4];omega
 have e2:val a % d=r:=by rw [h5,Int.add_comm,Int.add_mul_emod_self_left,Int.emod_eq_of_lt h3 h4]
 exact ⟨by rw [e1],e2.symm⟩
structure a8R (w v:List Int) (g:Int) (i:Nat) (out:List Int) (c:Int):Prop where
 len:out.length=w.length
 ok:Okd out
 le:i<=w.length
 rest:∀j,i<=j->dat out j=dat w j
 c0:0<=c
 c1:c<1048576
 eq:val out - pw i*c=val w - g*val (v.take i)
theorem a8R.init {w v:List Int} (g:Int) (hw:Okd w):a8R w v g 0 w 0:=⟨rfl,hw,Nat.zero_le _,fun _ _=>rfl,by decide,by decide,by simp [val]⟩
theorem a8R.step {w v out:List Int} {g:Int} {i:Nat} {c:Int} (h:a8R w v g i out c) (hv:Okd v) (hg:0<=g∧g<1048576) (hi:i<w.length):
 a8R w v g (i+1) (out.set i ((dat out i - c - g*dat v i) % 1048576)) (-((dat out i - c - g*dat v i) / 1048576)):=by
 have h1:=h.ok.dat i
 have h2:=a52 hg (hv.dat i)
 have h3:=h.c0
 have h4:=h.c1
 have hl:=h.len
 refine ⟨by simp [hl],h.ok.set (a6U _),hi,fun j hj=>?_,by omega,by omega,?_⟩
 ·rw [a58 (by omega)];exact h.rest j (by omega)
 ·rw [a1M (by omega),A9,L9]
  have h5:=h.eq
  have h6:(dat out i - c - g*dat v i) % 1048576=dat out i - c - g*dat v i - 1048576*((dat out i - c - g*dat v i) / 1048576):=by omega
  rw [h6]
  grind
structure a6y (w v:List Int) (i:Nat) (out:List Int) (c:Int):Prop where
 len:out.length=w.length
 ok:Okd out
 le:i<=w.length
 rest:∀j,i<=j->dat out j=dat w j
 c0:0<=c
 c1:c<=1
 eq:val out+pw i*c=val w+val (v.take i)
theorem a6y.init {w v:List Int} (hw:Okd w):a6y w v 0 w 0:=⟨rfl,hw,Nat.zero_le _,fun _ _=>rfl,by decide,by decide,by simp [val]⟩
theorem a6y.step {w v out:List Int} {i:Nat} {c:Int} (h:a6y w v i out c) (hv:Okd v) (hi:i<w.length):
 a6y w v (i+1) (out.set i ((c+dat out i+dat v i) % 1048576)) ((c+dat out i+dat v i) / 1048576):=by
 have h1:=h.ok.dat i
 have h2:=hv.dat i
 have h3:=h.c0
 have h4:=h.c1
 have hl:=h.len
 refine ⟨by simp [hl],h.ok.set (a6U _),hi,fun j hj=>?_,by omega,by omega,?_⟩
 ·rw [a58 (by omega)];exact h.rest j (by omega)
 ·rw [a1M (by omega),A9,L9]
  have h5:=h.eq
  have h6:(c+dat out i+dat v i) % 1048576=c+dat out i+dat v i - 1048576*((c+dat out i+dat v i) / 1048576):=by omega
  rw [h6]
  grind
theorem a8R.zero {w v out:List Int} {g c:Int} (h:a8R w v g w.length out c) (hl:v.length<=w.length) (hw:Okd w) (hv:Okd v) (hg:0<=g):
 (c=0↔g*val v<=val w)∧(c=0->val out=val w - g*val v):=by
 have h3:=h.c0
 have h5:=h.eq
 rw [lbn (by omega)] at h5
 have h6:=a0q h.ok
 have h7:=A6 h.ok
 rw [h.len] at h6
 have h8:=T0 w.length
 have h9:0<c->pw w.length<=pw w.length*c:=fun hc=>by
  have:=lbW (a:=1) (b:=c) (c:=pw w.length) (by omega) (by omega)
  omega
 constructor
 ·constructor
  ·rintro rfl;omega
  ·intro h10
   rcases Int.lt_or_le 0 c with h11|h11
   ·have:=h9 h11;omega
   ·omega
 ·rintro rfl;omega
theorem a8R.back {w v out out':List Int} {g c c':Int} (h:a8R w v g w.length out c) (h':a6y out v w.length out' c') (hl:v.length<=w.length)
 (h1:0<=val w - g*val v+val v) (h2:val w - g*val v+val v<pw w.length):val out'=val w - g*val v+val v:=by
 have h5:=h.eq
 have h6:=h'.eq
 rw [lbn (by omega)] at h5 h6
 have h7:=a0q h'.ok
 have h8:=A6 h'.ok
 rw [h'.len,h.len] at h7
 have h9:=T0 w.length
 have e:val out'+pw w.length*(c' - c)=val w - g*val v+val v:=by grind
 rcases Int.lt_trichotomy (c' - c) 0 with hc|hc|hc
 ·have:=lbW (a:=c' - c) (b:=-1) (c:=pw w.length) (by omega) (by omega)
  omega
 ·rw [hc] at e;omega
 ·have:=lbW (a:=1) (b:=c' - c) (c:=pw w.length) (by omega) (by omega)
  omega
structure Win (P V W v1 v2 top u2:Int):Prop where
 P0:0<P
 v1l:524288<=v1
 v1u:v1<1048576
 v20:0<=v2
 v2u:v2<1048576
 u20:0<=u2
 u2u:u2<1048576
 t0:0<=top
 tu:top<1048576*1048576
 Vl:P*(v1*1048576+v2)<=V
 Vu:V<P*(v1*1048576+v2)+P
 Wl:P*(top*1048576+u2)<=W
 Wu:W<P*(top*1048576+u2)+P
 lt:W<V*1048576
theorem Win.V0 {P V W v1 v2 top u2:Int} (h:Win P V W v1 v2 top u2):0<V:=by
 have h1:=h.Vl
 have h2:=h.P0
 have h3:=h.v1l
 have h4:=h.v20
 have:=Int.mul_pos h2 (b:=v1*1048576+v2) (by omega)
 omega
structure Y8 (V W v1 top g r:Int):Prop where
 g0:0<=g
 gu:g<=2097152
 r0:0<=r
 ru:r<2097152
 eq:g*v1+r=top
 hi:W<(g+1)*V
theorem Y8.init {P V W v1 v2 top u2:Int} (h:Win P V W v1 v2 top u2):Y8 V W v1 top (top / v1) (top % v1):=by
 have h1:=h.v1l
 have h2:=h.v1u
 have h3:=h.t0
 have h4:=h.tu
 have h5:=Int.emod_nonneg top (b:=v1) (by omega)
 have h6:=Int.emod_lt_of_pos top (b:=v1) (by omega)
 have h7:=Int.mul_ediv_add_emod top v1
 have h8:0<=top / v1:=Int.ediv_nonneg h3 (by omega)
 have hq:top / v1*v1+top % v1=top:=by rw [Int.mul_comm];exact h7
 refine ⟨h8,?_,h5,by omega,hq,?_⟩
 ·have h9:=lbW (a:=524288) (b:=v1) (c:=top / v1) h1 h8
  omega
 ·have hW:=h.Wu
  have hV:=h.Vl
  have hP:=h.P0
  have h20:=h.v20
  have hu:=h.u2u
  have e1:(top / v1+1)*(P*(v1*1048576+v2))<=(top / v1+1)*V:=lbW hV (by omega)
  have e2:top*1048576+u2+1<=(top / v1+1)*(v1*1048576+v2):=by
   have:0<=(top / v1+1)*v2:=lb0 (by omega) h20
   have e3:(top / v1+1)*v1≥top+1:=by grind
   grind
  have e4:=lbW (c:=P) e2 (by omega)
  grind
theorem Y8.dec {P V W v1 v2 top u2 g r:Int} (h:Win P V W v1 v2 top u2) (hg:Y8 V W v1 top g r) (hc:1048576<=g∨(r<1048576∧r*1048576+u2<g*v2)):
 W<g*V:=by
 have hV0:=h.V0
 rcases hc with hc|⟨hr,hc⟩
 ·have:=lbX (a:=1048576) (b:=g) (c:=V) hc (by omega)
  have:=h.lt
  omega
 ·have hW:=h.Wu
  have e1:g*(P*(v1*1048576+v2))<=g*V:=lbW h.Vl hg.g0
  have e2:top*1048576+u2+1<=g*(v1*1048576+v2):=by
   have:=hg.eq
   grind
  have e4:=lbW (c:=P) e2 (Int.le_of_lt h.P0)
  grind
theorem Y8.small {P V W v1 v2 top u2 g r:Int} (h:Win P V W v1 v2 top u2) (hg:Y8 V W v1 top g r) (hc:1048576<=g):r<1048576:=by
 have h1:=h.Wl
 have h2:=h.lt
 have h3:=h.Vu
 have hP:=h.P0
 have e1:P*(top*1048576+u2)<P*((v1*1048576+v2+1)*1048576):=by grind
 have e2:top*1048576+u2<(v1*1048576+v2+1)*1048576:=Int.lt_of_mul_lt_mul_left e1 (Int.le_of_lt hP)
 have h4:=h.u20
 have h5:=hg.eq
 have h6:=lbX (a:=1048576) (b:=g) (c:=v1) hc (by have:=h.v1l;omega)
 have h7:=h.v2u
 omega
theorem Y8.step {P V W v1 v2 top u2 g r:Int} (h:Win P V W v1 v2 top u2) (hg:Y8 V W v1 top g r) (hc:1048576<=g∨(r<1048576∧r*1048576+u2<g*v2))
 (hW0:0<=W):Y8 V W v1 top (g - 1) (r+v1):=by
 have h1:=Y8.dec h hg hc
 have hV0:=h.V0
 have hg0:0<g:=by
  rcases Int.lt_or_le 0 g with h2|h2
  ·exact h2
  ·have:=hg.g0
   have:g=0:=by omega
   subst this;omega
 have h2:=hg.gu
 have h3:=hg.r0
 have h4:=h.v1l
 have h5:=h.v1u
 have h6:=hg.eq
 have h7:r<1048576:=by
  rcases hc with hc|hc
  ·exact Y8.small h hg hc
  ·exact hc.1
 exact ⟨by omega,by omega,by omega,by omega,by grind,by grind⟩
theorem Y8.fin {P V W v1 v2 top u2 g r:Int} (h:Win P V W v1 v2 top u2) (hg:Y8 V W v1 top g r) (hc:¬(1048576<=g∨(r<1048576∧r*1048576+u2<g*v2)))
 (hP:P*1048576<=V):g<1048576∧g*V<=W+V:=by
 have hg1:g<1048576:=by omega
 refine ⟨hg1,?_⟩
 have h0:=hg.g0
 have h20:=h.v20
 have h2u:=h.v2u
 have hu0:=h.u20
 have e1:g*v2<=r*1048576+u2:=by
  rcases Int.lt_or_le r 1048576 with hr|hr
  ·omega
  ·have:=a52 ⟨h0,hg1⟩ ⟨h20,h2u⟩
   omega
 have e2:g*(v1*1048576+v2)<=top*1048576+u2:=by
  have:=hg.eq
  grind
 have e3:=lbW (c:=P) e2 (Int.le_of_lt h.P0)
 have e4:g*V<=g*(P*(v1*1048576+v2)+P):=lbW (Int.le_of_lt h.Vu) h0
 have e5:g*P<=1048576*P:=lbX (Int.le_of_lt hg1) (Int.le_of_lt h.P0)
 have hW:=h.Wl
 grind
structure Bg where
 sg:Int
 dl:List Int
def bz (z:Int):Bg:=⟨z.sign,dg z.natAbs⟩
def inD (d:Int):Bool:=decide (0<=d) && decide (d<=1048575)
def Q7 (b:Bg):Bool:=b.dl.all inD && (if b.dl.length=0 then b.sg == 0 else (b.sg == 1 || b.sg == -1) && !(dat b.dl (b.dl.length - 1) == 0))
def bv (b:Bg):Int:=b.sg*val b.dl
theorem b0u {l:List Int}:l.all inD=true↔Okd l:=by
 simp only [lbw,inD,lbN,lbJ]
 exact ⟨fun h d hd=>by have:=h d hd;omega,fun h d hd=>by have:=h d hd;omega⟩
theorem a6C (z:Int):bv (bz z)=z:=by
 unfold bv bz
 rw [C1]
 exact Int.sign_mul_natAbs z
theorem b5v {b:Bg} (h:Q7 b=true):b=bz (bv b):=by
 unfold Q7 at h
 rw [lbN,b0u] at h
 obtain ⟨h1,h2⟩:=h
 obtain ⟨sg,dl⟩:=b
 simp only at h1 h2
 have hv:=A6 h1
 by_cases hl:dl.length=0
 ·rw [if_pos hl] at h2
  have:dl=[]:=lbG hl
  subst this
  have:sg=0:=by simpa using h2
  subst this
  rfl
 ·rw [if_neg hl,lbN] at h2
  have hc:Can dl:=⟨h1,fun x hx=>by rw [a2H hx] at h2;simpa using h2.2⟩
  have h3:=b05 hc
  have hp:0<val dl:=by
   rcases Int.lt_or_le 0 (val dl) with h4|h4
   ·exact h4
   ·have:val dl=0:=by omega
    rw [this] at h3
    rw [h3] at hl
    exact absurd rfl hl
  have hs:sg=1∨sg=-1:=by simpa using h2.1
  have ha:(sg*val dl).natAbs=(val dl).toNat:=by
   rcases hs with rfl|rfl<;>omega
  have hg:(sg*val dl).sign=sg:=by
   rcases hs with rfl|rfl
   ·rw [Int.one_mul];exact Int.sign_eq_one_of_pos hp
   ·exact Int.sign_eq_neg_one_of_neg (by omega)
  unfold bz bv
  simp only
  rw [ha,hg,←h3]
theorem a2J (z:Int):Q7 (bz z)=true:=by
 unfold Q7
 rw [lbN,b0u]
 refine ⟨E7 _,?_⟩
 by_cases hl:(bz z).dl.length=0
 ·rw [if_pos hl]
  have h0:dg z.natAbs=[]:=lbG hl
  have:z=0:=by have:=U2.1 h0;omega
  subst this;rfl
 ·rw [if_neg hl]
  have hz:z≠0:=by rintro rfl;exact hl rfl
  have hl0:(dg z.natAbs).length - 1<(dg z.natAbs).length:=by have:(dg z.natAbs).length≠0:=hl;omega
  have h1:=(a1L z.natAbs).2 _ (lbf hl0)
  have h2:dat (bz z).dl ((bz z).dl.length - 1)≠0:=by
   show dat (dg z.natAbs) ((dg z.natAbs).length - 1)≠0
   rw [a2H (lbf hl0)];exact h1
  rw [lbN]
  refine ⟨?_,by simpa using h2⟩
  show ((z.sign == 1) || (z.sign == -1))=true
  rcases Int.lt_trichotomy z 0 with h|h|h
  ·rw [Int.sign_eq_neg_one_of_neg h];rfl
  ·exact absurd h hz
  ·rw [Int.sign_eq_one_of_pos h];rfl
theorem aG3 {z:Int}:(bz z).sg=z.sign:=rfl
structure Fr where
 p:Bg
 q:Bg
def fz (x:Rat):Fr:=⟨bz x.num,bz x.den⟩
def N1 (f:Fr):Bool:=Q7 f.p && Q7 f.q && (f.q.sg == 1) && (Int.gcd (bv f.p) (bv f.q) == 1)
def fv (f:Fr):Rat:=mkRat (bv f.p) (bv f.q).toNat
theorem a9F (x:Rat):N1 (fz x)=true:=by
 unfold N1 fz
 simp only [a2J,a6C,Bool.true_and,lbN]
 have hd:=x.den_pos
 refine ⟨?_,?_⟩
 ·rw [aG3,Int.sign_eq_one_of_pos (by omega)];rfl
 ·have:=x.reduced
  simp only [Int.gcd,Int.natAbs_natCast]
  rw [this];rfl
theorem b9C {f:Fr} (h:N1 f=true):f=fz (fv f):=by
 unfold N1 at h
 simp only [lbN,beq_iff_eq] at h
 obtain ⟨⟨⟨h1,h2⟩,h3⟩,h4⟩:=h
 have e1:=b5v h1
 have e2:=b5v h2
 rw [e2,aG3] at h3
 have hq:0<bv f.q:=Int.sign_eq_one_iff_pos.1 h3
 have hr:Nat.Coprime (bv f.p).natAbs (bv f.q).toNat:=by
  have:(bv f.q).natAbs=(bv f.q).toNat:=by omega
  rw [← this];exact h4
 have e3:fv f=⟨bv f.p,(bv f.q).toNat,by omega,hr⟩:=(Rat.mk_eq_mkRat _ _ _ _).symm
 rw [e3]
 unfold fz
 simp only
 rw [← e1,show (((bv f.q).toNat:Nat):Int)=bv f.q by omega,←e2]
theorem b9R (x:Rat):fv (fz x)=x:=by
 unfold fv fz
 simp only [a6C,lbY]
 exact Rat.mkRat_self x
theorem ao2 {p q g:Int} (hq:0<q) (hg:g=Int.gcd p q):fz (Rat.divInt p q)=⟨bz (p / g),bz (q / g)⟩:=by
 unfold fz
 rw [Rat.num_divInt,Rat.den_divInt,if_neg (by omega),Int.sign_eq_one_of_pos hq,Int.one_mul,Int.gcd_comm q p,←hg]
 congr 2
 rw [hg]
 have:((q.natAbs / Int.gcd p q:Nat):Int)=(q.natAbs:Int) / (Int.gcd p q:Int):=by simp
 rw [this,show (q.natAbs:Int)=q by omega]
structure a8V (U V N L:Nat) (j:Nat) (u q:List Int):Prop where
 lu:u.length=N
 oku:Okd u
 lq:q.length=N - L
 okq:Okd q
 le:j<=N - L
 eq:val (q.drop j)*pw j*V+val u=U
 lt:val u<V*pw j
theorem a8V.init {U V:Nat} (hV:0<V) (hl:(dg V).length<=(dg U).length+1):a8V U V ((dg U).length+1) (dg V).length ((dg U).length+1 - (dg V).length) (dg U++[0]) (List.replicate ((dg U).length+1 - (dg V).length) 0):=by
 have h1:=aC7 hV
 have h2:=P9 U
 have hv:val (dg U++[0])=U:=by rw [S0,C1];simp [val]
 have hL:(dg V).length≠0:=by rw [Ne,List.length_eq_zero_iff,U2];omega
 refine ⟨by simp,(E7 U).append (by intro x hx;simp at hx;omega),by simp,.zeros _,lbR _,?_,?_⟩
 ·rw [lbo (by simp),hv];simp [val]
 ·rw [hv]
  have h3:=lbX (a:=pw ((dg V).length - 1)) (b:=V) (c:=pw ((dg U).length+1 - (dg V).length)) h1 (Int.le_of_lt (T0 _))
  rw [← a7I,show (dg V).length - 1+((dg U).length+1 - (dg V).length)=(dg U).length by omega] at h3
  omega
theorem a8V.window {U V N L j:Nat} {u q:List Int} (h:a8V U V N L (j+1) u q) (hL:(dg V).length=L):
 u=u.take j++(u.drop j).take (L+1)++u.drop (j+(L+1))∧((u.drop j).take (L+1)).length=L+1∧(u.take j).length=j∧
 val u=val (u.take j)+pw j*val ((u.drop j).take (L+1))∧val (u.drop (j+(L+1)))=0∧val ((u.drop j).take (L+1))<V*1048576:=by
 have h1:=h.lu
 have h2:=h.le
 have h3:=h.lt
 have hp:=T0 j
 have e0:(u.take j).length=j:=by simp;omega
 have e1:u.drop j=(u.drop j).take (L+1)++u.drop (j+(L+1)):=by rw [← List.drop_drop,lb8]
 have e2:((u.drop j).take (L+1)).length=L+1:=by simp;omega
 have e3:u=u.take j++(u.drop j).take (L+1)++u.drop (j+(L+1)):=by rw [lbE,←e1,lb8]
 have hv:=a7A u j (by omega)
 have hw:=S0 ((u.drop j).take (L+1)) (u.drop (j+(L+1)))
 rw [← e1,e2] at hw
 have h4:=A6 (h.oku.take j)
 have h5:=A6 ((h.oku.drop j).take (L+1))
 have h6:=A6 (h.oku.drop (j+(L+1)))
 have hVp:=P9 V
 rw [hL] at hVp
 have hz:val (u.drop (j+(L+1)))=0:=by
  rcases Int.lt_or_le 0 (val (u.drop (j+(L+1)))) with h7|h7
  ·exfalso
   have a1:=lbW (a:=1) (b:=val (u.drop (j+(L+1)))) (c:=pw (L+1)) (by omega) (Int.le_of_lt (T0 _))
   have a2:=lbW (a:=pw (L+1)) (b:=val (u.drop j)) (c:=pw j) (by omega) (Int.le_of_lt hp)
   have a3:=lbX (a:=(V:Int)) (b:=pw L) (c:=pw (j+1)) (Int.le_of_lt hVp) (Int.le_of_lt (T0 _))
   have a4:pw j*pw (L+1)=pw L*pw (j+1):=by rw [← a7I,←a7I];congr 1;omega
   omega
  ·omega
 rw [hz,Int.mul_zero,Int.add_zero] at hw
 rw [hw] at hv
 refine ⟨e3,e2,e0,hv,hz,?_⟩
 have a5:pw j*val ((u.drop j).take (L+1))<pw j*(V*1048576):=by
  rw [L9] at h3
  have:(V:Int)*(pw j*1048576)=pw j*(V*1048576):=by grind
  omega
 exact Int.lt_of_mul_lt_mul_left a5 (Int.le_of_lt hp)
theorem as2 (l:List Int):O5 l++List.replicate (l.length - (O5 l).length) 0=l:=by
 induction l with
 |nil=>rfl
 |cons d r ih=>
  rw [O5]
  split
  ·rename_i h
   rw [h.1] at ih
   rw [h.2]
   simp only [List.nil_append,List.length_nil,Nat.sub_zero,lbu,List.replicate_succ] at ih ⊢
   rw [ih]
  ·simp only [List.cons_append,lbu,Nat.add_sub_add_right]
   rw [ih]
def a0h (n:Nat) (l:List Int):List Int:=l++List.replicate (n - l.length) 0
theorem b0S {l:List Int} (h:Okd l) {n:Nat} (hn:l.length=n):l=a0h n (dg (val l).toNat):=by
 subst hn
 have:=as2 l
 rw [V7 h] at this
 exact this.symm
theorem b6H (n:Nat) (l:List Int):val (a0h n l)=val l:=by unfold a0h;rw [S0,a7Z];simp
theorem as9 {n:Nat} {l:List Int} (h:l.length<=n):(a0h n l).length=n:=by unfold a0h;simp;omega
theorem b4y {n:Nat} {l:List Int} (h:Okd l):Okd (a0h n l):=h.append (.zeros _)
theorem Win.of {v w:List Int} {L:Nat} (hv:Okd v) (hw:Okd w) (lv:v.length=L+2) (lw:w.length=L+3) (ht:524288<=dat v (L+1)) (hlt:val w<val v*1048576):
 Win (pw L) (val v) (val w) (dat v (L+1)) (dat v L) (dat w (L+2)*1048576+dat w (L+1)) (dat w L):=by
 have v1:=A9 v (L+1)
 have v2:=A9 v L
 have w1:=A9 w (L+2)
 have w2:=A9 w (L+1)
 have w3:=A9 w L
 rw [lbn (by omega)] at v1 w1
 have a1:=A6 (hv.take L)
 have a2:=a0q (hv.take L)
 have a3:=A6 (hw.take L)
 have a4:=a0q (hw.take L)
 rw [lbs,Nat.min_eq_left (by omega)] at a2 a4
 have d1:=hv.dat (L+1)
 have d2:=hv.dat L
 have d3:=hw.dat (L+2)
 have d4:=hw.dat (L+1)
 have d5:=hw.dat L
 have p1:=L9 L
 have p2:=L9 (L+1)
 have e1:val v=pw L*(dat v (L+1)*1048576+dat v L)+val (v.take L):=by grind
 have e2:val w=pw L*((dat w (L+2)*1048576+dat w (L+1))*1048576+dat w L)+val (w.take L):=by grind
 exact ⟨T0 L,ht,by omega,by omega,by omega,by omega,by omega,by omega,by omega,by omega,by omega,by omega,by omega,hlt⟩
theorem a8V.step {U V N L j:Nat} {u q:List Int} (h:a8V U V N L (j+1) u q) (hL:(dg V).length=L) (hV:0<V) {Q:Int} (hQ:0<=Q∧Q<1048576)
 (hr0:0<=val ((u.drop j).take (L+1)) - Q*V) (hr1:val ((u.drop j).take (L+1)) - Q*V<V):
 a8V U V N L j (u.take j++a0h (L+1) (dg (val ((u.drop j).take (L+1)) - Q*V).toNat)++u.drop (j+(L+1))) (q.set j Q):=by
 obtain ⟨e3,e2,e0,hv,hz,hW⟩:=h.window hL
 have h1:=h.lu
 have h2:=h.le
 have h3:=h.lq
 have hVp:=P9 V
 rw [hL] at hVp
 have hmono:=a2c (Nat.le_succ L)
 have lp:(dg (val ((u.drop j).take (L+1)) - Q*V).toNat).length<=L+1:=O1 (by have:pw L<=pw (L+1):=hmono;omega)
 have hpl:=as9 lp
 have hvp:val (a0h (L+1) (dg (val ((u.drop j).take (L+1)) - Q*V).toNat))=val ((u.drop j).take (L+1)) - Q*V:=by
  rw [b6H,C1,lbZ hr0]
 have hu':val (u.take j++a0h (L+1) (dg (val ((u.drop j).take (L+1)) - Q*V).toNat)++u.drop (j+(L+1)))=val (u.take j)+pw j*(val ((u.drop j).take (L+1)) - Q*V):=by
  rw [S0,hz,S0,hvp,e0];simp
 have hp:=T0 j
 have hlt:=a0q (h.oku.take j)
 rw [e0] at hlt
 refine ⟨?_,((h.oku.take j).append (b4y (E7 _))).append (h.oku.drop _),by simp [h3],h.okq.set hQ,by omega,?_,?_⟩
 ·simp only [lbq,hpl,e0,List.length_drop];omega
 ·rw [hu',af4 (by simp;omega),a6S (by omega),List.drop_set_of_lt (by omega)]
  have h4:=h.eq
  rw [hv,L9] at h4
  grind
 ·rw [hu']
  have h5:=lbW (a:=val ((u.drop j).take (L+1)) - Q*V) (b:=(V:Int) - 1) (c:=pw j) (by omega) (by omega)
  have h6:pw j*((V:Int) - 1)=V*pw j - pw j:=by grind
  omega
theorem a8V.fin {U V N L:Nat} {u q:List Int} (h:a8V U V N L 0 u q) (hV:0<V):val q=(U / V:Nat)∧val u=(U % V:Nat):=by
 have h1:=h.eq
 have h2:=h.lt
 simp only [List.drop_zero,b61,Int.mul_one] at h1 h2
 have h3:=A6 h.oku
 have h4:=A6 h.okq
 obtain ⟨Q,hQ⟩:=Int.eq_ofNat_of_zero_le h4
 obtain ⟨R,hR⟩:=Int.eq_ofNat_of_zero_le h3
 rw [hQ,hR] at h1
 rw [hR] at h2
 have e:U=R+Q*V:=by
  have:((R+Q*V:Nat):Int)=(U:Int):=by rw [← h1];simp [Int.add_comm]
  omega
 have hlt:R<V:=by omega
 rw [hQ,hR,e,Nat.add_mul_div_right _ _ hV,Nat.div_eq_of_lt hlt,Nat.add_mul_mod_self_right,Nat.mod_eq_of_lt hlt]
 simp
open St1 St2 St3 St4 St5 St6 St7 St8 StA StB
set_option maxRecDepth 100000
abbrev bgC (b:Bg):List C:=[.t (ti b.sg),.t (E5 b.dl)]
abbrev bgS (b:Bg):S:=.agg (bgC b)
abbrev bgB (b:Bg):Blk:={ mode:=.live,elem:=84,size:=2,rows:=[bgC b],box:=true }
theorem a4w (b:Bg):K7 [bgC b]:=by
 intro r hr c hc
 simp at hr
 subst hr
 simp [bgC] at hc
 rcases hc with rfl|rfl<;>rfl
theorem D4 {l:List Int} {i:Nat} (h:i<l.length):l[i]? =some (dat l i):=by
 unfold dat;rw [lbl,lbf h];rfl
theorem a9t {l:List Int} (h:0<l.length):l[((l.length:Int) - 1).toNat]? =some (dat l (l.length - 1)):=by
 rw [show ((l.length:Int) - 1).toNat=l.length - 1 by omega];exact D4 (by omega)
theorem a2E {l:List Int} {n:Nat} (h:0<n) (hn:n<=l.length):l[((n:Int) - 1).toNat]? =some (dat l (n - 1)):=by
 rw [show ((n:Int) - 1).toNat=n - 1 by omega];exact D4 (by omega)
theorem a2W (b:Bg) (hl:b.dl.length<=1000000):e7 Tryz.prog 181 [bgS b] [] (i8 (Q7 b)) []:=by
 have l2:(b.dl.map i5).length=b.dl.length:=by simp
 (refine ac Tryz.func181 ?_;(conv=>whnf);repeat (refine zy ?_;conv=>whnf))
 repeat' (first|refine zx ?_|refine zd ?_ ?_<;>intro h<;>try omega|fail)<;>conv=>whnf
 refine j5 e8 (fun k=>([J,S.c (C.ptr 0 0 0),J,b7 .i64 b.dl.length,J,J,J,J,J,J,i6 b.dl,b7 .i64 b.dl.length,b7 .i64 k]++Jn 32,[bgB b])) b.dl.length (fun k=>(b.dl.take k).all inD=true) [some 0] rfl
  ⟨rfl,rfl,⟨⟨rfl,rfl,rfl,.inl ⟨rfl,a4w b⟩⟩,trivial⟩,⟨⟨rfl,rfl,rfl⟩,g9 (by simp),k8 rfl,g9 (by simp),g9 rfl,trivial⟩⟩ ?_
 intro k hk hI
 conv=>whnf
 repeat' (first|refine zx ?_|refine g6 (D4 (by omega)) ?_|refine N6 (by omega) (a9t (by omega)) ?_|refine zd ?_ ?_<;>intro h<;>try omega|fail)<;>conv=>whnf
 all_goals first
  |(have hlt:k<b.dl.length:=by omega
    refine ⟨hlt,?_,[some 0],rfl,rfl,⟨⟨rfl,rfl,rfl,.inl ⟨rfl,a4w b⟩⟩,trivial⟩,⟨⟨rfl,rfl,rfl⟩,rfl,rfl,rfl,rfl,trivial⟩⟩;rw [G3 (D4 hlt),hI];simp [inD];omega)
  |(have hlt:k<b.dl.length:=by omega
    refine i3 ?_;unfold Q7;rw [K6 (D4 hlt) (by simp [inD];omega)];rfl)
  |(have ha:b.dl.all inD=true:=by rw [← hI,lbn (by omega)]
    refine i3 ?_;unfold Q7;rw [ha];simp_all;done)
theorem a3u (l:List Int) (hl:l.length<=1000000):e7 Tryz.prog 265 [i6 l] [] (i6 (O5 l)) []:=by
 have l2:(l.map i5).length=l.length:=by simp
 (refine ac Tryz.func265 ?_;(conv=>whnf);repeat (refine zy ?_;conv=>whnf))
 repeat' (first|refine zx ?_|refine zd ?_ ?_<;>intro h<;>try omega|fail)<;>conv=>whnf
 refine C3 e8 (σ:=Nat) (fun n=>([i6 l,J,J,b7 .i64 n]++Jn 17,[])) (fun n=>n<=l.length∧∀j x,n<=j->l[j]? =some x->x=0) (fun n=>n) l.length []
  ⟨lbR _,fun j x hj hx=>by rw [lbd hj] at hx;cases hx⟩ ⟨rfl,rfl,trivial,⟨k8 rfl,g9 (by simp),trivial⟩⟩ ?_
 rintro n ⟨hn,hz⟩
 have hn:n<=l.length:=hn
 conv=>whnf
 repeat' (first|refine zx ?_|refine N6 (by omega) (a2E (by omega) hn) ?_|refine aJ4 (by omega) (by omega) (by omega) ?_|refine zd ?_ ?_<;>intro h<;>try omega|fail)<;>conv=>whnf
 ·have h0:dat l (n - 1)=0:=by assumption
  have h1:0<n:=by omega
  refine ⟨[],n - 1,⟨rfl,rfl,trivial,⟨rfl,g9 (by omega),trivial⟩⟩,⟨by omega,fun j x hj hxj=>?_⟩,by show n - 1<n;omega⟩
  by_cases hj2:j=n - 1
  ·subst hj2;rw [D4 (by omega)] at hxj;injection hxj with hx;rw [← hx];exact h0
  ·exact hz j x (by omega) hxj
 all_goals
  have e:l.take n=O5 l:=a61 hz (fun x h0 hx=>by
   first
    |omega
    |(rw [D4 (by omega)] at hx;injection hx with hx;rw [← hx];assumption)) hn
  refine b8v ?_ rfl
  rw [← e]
  simp [List.map_take]
open St1 St2 St3 St4 St5 St6 St7 St8 StA StB
set_option maxRecDepth 100000
theorem b72 (l:List Int) (hl:l.length<=1000000):e7 Tryz.prog 265 [a2q 0 l] [C0 l] (.c (.own 0 0 (O5 l).length true)) [C0 l]:=by
 (refine ac Tryz.func265 ?_;(conv=>whnf);repeat (refine zy ?_;conv=>whnf))
 repeat' (first|refine zx ?_|refine zd ?_ ?_<;>intro h<;>try omega|fail)<;>conv=>whnf
 refine C3 e8 (σ:=Nat) (fun n=>([a2q 0 l,J,J,b7 .i64 n]++Jn 17,[C0 l])) (fun n=>n<=l.length∧∀j x,n<=j->l[j]? =some x->x=0) (fun n=>n) l.length [some 0]
  ⟨lbR _,fun j x hj hx=>by rw [lbd hj] at hx;cases hx⟩ ⟨rfl,rfl,⟨b8 rfl rfl rfl rfl rfl,trivial⟩,⟨s7 rfl rfl,g9 rfl,trivial⟩⟩ ?_
 rintro n ⟨hn,hz⟩
 have hn:n<=l.length:=hn
 have hg:0<n->l[0+((n:Int) - 1).toNat]? =some (dat l (n - 1)):=fun h=>by rw [Nat.zero_add];exact a2E h hn
 conv=>whnf
 repeat' (first|refine zx ?_|refine t6 (hg (by omega)) ?_|refine aJ4 (by omega) (by omega) (by omega) ?_|refine zd ?_ ?_<;>intro h<;>try omega|fail)<;>conv=>whnf
 ·have h0:dat l (n - 1)=0:=by assumption
  have h1:0<n:=by omega
  refine ⟨[some 0],n - 1,⟨rfl,rfl,⟨b8 rfl rfl rfl rfl rfl,trivial⟩,⟨s7 rfl rfl,g9 (by omega),trivial⟩⟩,⟨by omega,fun j x hj hxj=>?_⟩,by show n - 1<n;omega⟩
  by_cases hj2:j=n - 1
  ·subst hj2;rw [D4 (by omega)] at hxj;injection hxj with hx;rw [← hx];exact h0
  ·exact hz j x (by omega) hxj
 all_goals
  have e:l.take n=O5 l:=a61 hz (fun x h0 hx=>by
   first
    |omega
    |(rw [D4 (by omega)] at hx;injection hx with hx;rw [← hx];assumption)) hn
  have e2:(O5 l).length=n:=by rw [← e];simp;omega
  exact ⟨⟨[some 0],rfl,rfl,⟨b8 rfl rfl rfl rfl rfl,trivial⟩,⟨rfl,rfl,by rw [e2];omega,fun h=>h⟩⟩⟩
theorem ay3 {n:Nat} {K:Prop} (h:0<n) (k:K):0<n∧K:=⟨h,k⟩
theorem a97 (l:List Int) (hl:l.length<=1000000):e7 Tryz.prog 201 [i6 l] [] (i6 l) []:=by
 have l2:(l.map i5).length=l.length:=by simp
 cases l with
 |nil=>
  refine at6 0 rfl ?_ ?_
  ·(refine ac Tryz.func201 ?_;(conv=>whnf);repeat (refine zy ?_;conv=>whnf))
   repeat' (first|refine zx ?_|refine zd ?_ ?_<;>intro h<;>try omega|fail)<;>conv=>whnf
   exact v8 (show a90 [] _ _ _ from rfl)
  ·(refine ac Tryz.func201 ?_;(conv=>whnf);repeat (refine zy ?_;conv=>whnf))
   repeat' (first|refine zx ?_|refine qp toC ?_|refine ay3 (by simp) ?_|refine sl3_ok (by omega) (by omega) rfl (by omega) ?_|refine Y0 rfl (by simp [toC]) ?_|refine zd ?_ ?_<;>intro h<;>try omega|fail)<;>conv=>whnf
   exact X5 rfl (by intro h;cases h) rfl rfl (by simp [toC])
 |cons a r=>
  (refine ac Tryz.func201 ?_;(conv=>whnf);repeat (refine zy ?_;conv=>whnf))
  repeat' (first|refine zx ?_|refine qp toC ?_|refine ay3 (by simp) ?_|refine sl3_ok (by omega) (by omega) rfl (by omega) ?_|refine Y0 rfl (by simp [toC] at *;omega) ?_|refine zd ?_ ?_<;>intro h<;>try omega|fail)<;>conv=>whnf
  exact X5 rfl (by intro h;cases h) rfl rfl (by simp [toC])
theorem b3k (l:List Int) (hl:l.length<=1000000):e7 Tryz.prog 201 [i6 l] [] (a2q 0 l) [C0 l]:=by
 have l2:(l.map i5).length=l.length:=by simp
 cases l with
 |nil=>
  refine at6 0 rfl ?_ ?_
  ·(refine ac Tryz.func201 ?_;(conv=>whnf);repeat (refine zy ?_;conv=>whnf))
   repeat' (first|refine zx ?_|refine zd ?_ ?_<;>intro h<;>try omega|fail)<;>conv=>whnf
   exact ⟨⟨[none],rfl,rfl,⟨⟨rfl,rfl⟩,trivial⟩,⟨rfl,rfl,rfl⟩⟩⟩
  ·(refine ac Tryz.func201 ?_;(conv=>whnf);repeat (refine zy ?_;conv=>whnf))
   repeat' (first|refine zx ?_|refine qp toC ?_|refine ay3 (by simp) ?_|refine sl3_ok (by omega) (by omega) rfl (by omega) ?_|refine Y0 rfl (by simp [toC]) ?_|refine zd ?_ ?_<;>intro h<;>try omega|fail)<;>conv=>whnf
   exact ⟨⟨[some 0],rfl,rfl,⟨b8 rfl rfl rfl rfl rfl,trivial⟩,⟨rfl,rfl,by simp [toC],fun h=>h⟩⟩⟩
 |cons a r=>
  (refine ac Tryz.func201 ?_;(conv=>whnf);repeat (refine zy ?_;conv=>whnf))
  repeat' (first|refine zx ?_|refine qp toC ?_|refine ay3 (by simp) ?_|refine sl3_ok (by omega) (by omega) rfl (by omega) ?_|refine Y0 rfl (by simp [toC] at *;omega) ?_|refine zd ?_ ?_<;>intro h<;>try omega|fail)<;>conv=>whnf
  exact ⟨⟨[some 0],rfl,rfl,⟨b8 rfl rfl rfl rfl rfl,trivial⟩,⟨rfl,rfl,by simp [toC],fun h=>h⟩⟩⟩
theorem b6k (x:Int):e7 Tryz.prog 263 [b7 .i64 x] [] (i8 false) []:=by
 (refine ac Tryz.func263 ?_;(conv=>whnf);repeat (refine zy ?_;conv=>whnf))
 repeat' (first|refine zx ?_|refine zd ?_ ?_<;>intro h<;>try omega|fail)<;>conv=>whnf
 all_goals first
  |omega
  |exact i3 rfl
def V5 (x y:Int):Int:=if x<y then -1 else if x > y then 1 else 0
theorem a3I (x y:Int):e7 Tryz.prog 188 [b7 .i64 x,b7 .i64 y] [] (b7 .i64 (V5 x y)) []:=by
 (refine ac Tryz.func188 ?_;(conv=>whnf);repeat (refine zy ?_;conv=>whnf))
 repeat' (first|refine zx ?_|refine qp (b6k _) ?_|refine zd ?_ ?_<;>intro h<;>try omega|fail)<;>conv=>whnf
 all_goals first
  |(exfalso;simp_all;done)
  |(refine s9 ?_;unfold V5;split<;>first|omega|(split<;>omega))
theorem a3a (x y:Int):e7 Tryz.prog 259 [.c (.t (.sl 1 .full ([x,y].map i5)))] [] (b7 .i64 (if x=0 then y else x)) []:=by
 (refine ac Tryz.func259 ?_;(conv=>whnf);repeat (refine zy ?_;conv=>whnf))
 repeat' (first|refine zx ?_|refine zd ?_ ?_<;>intro h<;>try omega|fail)<;>conv=>whnf
 refine j5 e8 (fun k=>([J,J,J,b7 .i64 0,J,J,S.c (C.t (T.sl 1 .full ([x,y].map i5))),b7 .i64 2,b7 .i64 k]++Jn 9,[])) 2 (fun k=>∀v ∈ [x,y].take k,v=0) [] (by simp)
  ⟨rfl,rfl,trivial,⟨rfl,k8 rfl,g9 rfl,g9 rfl,trivial⟩⟩ ?_
 intro k hk hI
 conv=>whnf
 repeat' (first|refine zx ?_|refine zd ?_ ?_<;>intro h<;>try omega|fail)<;>conv=>whnf
 ·have hlt:k<2:=by omega
  obtain ⟨v,hv⟩:∃v,[x,y][k]? =some v:=⟨_,lbf (by simpa using hlt)⟩
  refine g6 hv ?_
  conv=>whnf
  repeat' (first|refine zx ?_|refine zd ?_ ?_<;>intro h<;>try omega|fail)<;>conv=>whnf
  ·refine s9 ?_
   match k,hlt with
   |0,_=>simp at hv;subst hv;rw [if_neg (by assumption)]
   |1,_=>simp at hv;subst hv;rw [if_pos (hI x (by simp))]
  ·refine ⟨hlt,?_,[],rfl,rfl,trivial,⟨rfl,rfl,rfl,rfl,trivial⟩⟩
   intro u hu
   rw [lbH,hv] at hu
   rcases lbA.1 hu with hu|hu
   ·exact hI u hu
   ·simp at hu;subst hu;omega
 ·have h1:=hI x (by rw [lbn (by simp;omega)];simp)
  have h2:=hI y (by rw [lbn (by simp;omega)];simp)
  refine s9 ?_
  rw [if_pos h1,h2]
def sgn (s:Int) (l:List Int):Bg:=if (O5 l).length=0 then ⟨0,[]⟩ else ⟨s,O5 l⟩
theorem aO7 (s:Int) (l:List Int) (hl:l.length<=1000000):e7 Tryz.prog 191 [b7 .i64 s,i6 l] [] (bgS (sgn s l)) []:=by
 (refine ac Tryz.func191 ?_;(conv=>whnf);repeat (refine zy ?_;conv=>whnf))
 repeat' (first|refine zx ?_|refine qp (a3u l hl) ?_|refine zd ?_ ?_<;>intro h<;>try omega|fail)<;>conv=>whnf
 ·have h0:(O5 l).length=0:=by simp at *;assumption
  unfold sgn
  rw [if_pos h0]
  exact v8 ⟨rfl,rfl,trivial⟩
 ·have h0:¬(O5 l).length=0:=by simp at *;assumption
  unfold sgn
  rw [if_neg h0]
  exact v8 ⟨rfl,rfl,trivial⟩
theorem K5 (r:Bool) (b:Bg):e7 Tryz.prog 252 [i8 r,bgS b] [] (.tup [bgS (if r then b else ⟨0,[]⟩),b7 .i64 (if r then 0 else 1)]) []:=by
 cases r<;>
 ·(refine ac Tryz.func252 ?_;(conv=>whnf);repeat (refine zy ?_;conv=>whnf))
  repeat' (first|refine zx ?_|refine zd ?_ ?_<;>intro h<;>try omega|fail)<;>conv=>whnf
  exact v8 ⟨⟨rfl,rfl,trivial⟩,rfl,trivial⟩
open St1 St2 St3 St4 St5 St6 St7 St8 StA StB
set_option maxRecDepth 100000
theorem a38 {x y:Int} (h:x<y):V5 x y=-1:=by unfold V5;rw [if_pos h]
theorem a9i {x y:Int} (h:y<x):V5 x y=1:=by unfold V5;rw [if_neg (by omega),if_pos h]
theorem b6F {x y:Int} (h:x=y):V5 x y=0:=by unfold V5;rw [if_neg (by omega),if_neg (by omega)]
theorem b3w {s:Int} {l:List Int} (h:Okd l) (hs:s=1∨s=-1∨val l=0):sgn s l=bz (s*val l):=by
 have hv:=A6 h
 unfold sgn bz
 rw [V7 h]
 by_cases h0:val l=0
 ·rw [h0,Int.mul_zero];rfl
 ·have h1:(dg (val l).toNat).length≠0:=by rw [Ne,List.length_eq_zero_iff,U2];omega
  rw [if_neg h1]
  rcases hs with rfl|rfl|h2
  ·rw [Int.sign_eq_one_of_pos (by omega)]
   congr 2;omega
  ·rw [Int.sign_eq_neg_one_of_neg (by omega)]
   congr 2;omega
  ·exact absurd h2 h0
theorem a2C (a b:List Int) (ha:Can a) (hb:Can b) (la:a.length<=1000000) (lb:b.length<=1000000):
 e7 Tryz.prog 189 [i6 a,i6 b] [] (b7 .i64 (V5 (val a) (val b))) []:=by
 have l1:(a.map i5).length=a.length:=by simp
 have l2:(b.map i5).length=b.length:=by simp
 have key:∀{x y:List Int},Can x->Can y->x.length<y.length->val x<val y:=fun {x y} hx hy h=>by
  rw [b05 hx,b05 hy] at h
  have:=av3 h
  have:=A6 hx.1
  omega
 by_cases hl:a.length=b.length
 ·(refine ac Tryz.func189 ?_;(conv=>whnf);repeat (refine zy ?_;conv=>whnf))
  repeat' (first|refine zx ?_|refine zd ?_ ?_<;>intro h<;>try omega|fail)<;>conv=>whnf
  refine C3 e8 (σ:=Nat) (fun k=>([i6 a,i6 b,J,J,J,b7 .i64 ((k:Int) - 1)]++Jn 35,[])) (fun k=>k<=a.length∧a.drop k=b.drop k) (fun k=>k) a.length []
   ⟨lbR _,by rw [lbo (lbR _),lbo (by omega)]⟩ ⟨rfl,rfl,trivial,⟨k8 rfl,k8 rfl,g9 (by simp),trivial⟩⟩ ?_
  rintro k ⟨hk,hd⟩
  have hk:k<=a.length:=hk
  have hd:a.drop k=b.drop k:=hd
  conv=>whnf
  repeat' (first|refine zx ?_|refine qp (a3I _ _) ?_|refine N6 (by omega) (a2E (by omega) hk) ?_|refine N6 (by omega) (a2E (by omega) (hl ▸ hk)) ?_|refine zd ?_ ?_<;>intro h<;>try omega|fail)<;>conv=>whnf
  all_goals first
   |(have hp:0<k:=by omega
     have e:k - 1+1=k:=by omega
     have gx:=D4 (l:=a) (i:=k - 1) (by omega)
     have gy:=D4 (l:=b) (i:=k - 1) (by omega)
     refine s9 ?_
     rcases Int.lt_trichotomy (dat a (k - 1)) (dat b (k - 1)) with h|h|h
     ·rw [a38 h,a38 (a8r ha.1 hb.1 hl gx gy (by rw [e];exact hd) h)]
     ·exfalso;simp_all;done
     ·rw [a9i h,a9i (a8r hb.1 ha.1 hl.symm gy gx (by rw [e];exact hd.symm) h)])
   |(have hp:0<k:=by omega
     have hq:dat a (k - 1)=dat b (k - 1):=by omega
     refine ⟨[],k - 1,⟨rfl,rfl,trivial,⟨rfl,rfl,g9 (by omega),trivial⟩⟩,⟨by omega,?_⟩,by show k - 1<k;omega⟩
     rw [List.drop_eq_getElem_cons (by omega:k - 1<a.length),List.drop_eq_getElem_cons (by omega:k - 1<b.length),show k - 1+1=k by omega,hd]
     congr 1
     have gx:=D4 (l:=a) (i:=k - 1) (by omega)
     have gy:=D4 (l:=b) (i:=k - 1) (by omega)
     rw [lbf (by omega)] at gx gy
     injection gx with gx
     injection gy with gy
     rw [gx,gy,hq])
   |(have:k=0:=by omega
     subst this
     simp only [List.drop_zero] at hd
     refine s9 ?_
     rw [hd,b6F rfl])
 ·(refine ac Tryz.func189 ?_;(conv=>whnf);repeat (refine zy ?_;conv=>whnf))
  repeat' (first|refine zx ?_|refine qp (a3I _ _) ?_|refine zd ?_ ?_<;>intro h<;>try omega|fail)<;>conv=>whnf
  all_goals first
   |omega
   |(refine s9 ?_
     rcases Nat.lt_or_gt_of_ne hl with h|h
     ·rw [a38 (by omega),a38 (key ha hb h)]
     ·rw [a9i (by omega),a9i (key hb ha h)])
def b2o (a b:Bg):Int:=if Q7 a && Q7 b then V5 (bv a) (bv b) else 0
theorem b0i (x:Int):Can (bz x).dl:=a1L _
theorem aD1 (x:Int):val (bz x).dl=x.natAbs:=C1 _
theorem P7 (x:Int):x.sign=0∧x=0∨x.sign=1∧0<x∨x.sign=-1∧x<0:=by
 rcases Int.lt_trichotomy x 0 with h|h|h
 ·exact .inr (.inr ⟨Int.sign_eq_neg_one_of_neg h,h⟩)
 ·subst h;exact .inl ⟨rfl,rfl⟩
 ·exact .inr (.inl ⟨Int.sign_eq_one_of_pos h,h⟩)
theorem b37 {x y:Int} (h:x.sign≠y.sign):V5 x.sign y.sign=V5 x y:=by
 rcases P7 x with ⟨e,h1⟩|⟨e,h1⟩|⟨e,h1⟩<;>rcases P7 y with ⟨f,h2⟩|⟨f,h2⟩|⟨f,h2⟩<;>rw [e,f] at h ⊢<;>unfold V5<;>(repeat' split)<;>omega
theorem b4H {x y:Int} (h:x.sign=y.sign):x.sign*V5 x.natAbs y.natAbs=V5 x y:=by
 rcases P7 x with ⟨e,h1⟩|⟨e,h1⟩|⟨e,h1⟩<;>rcases P7 y with ⟨f,h2⟩|⟨f,h2⟩|⟨f,h2⟩<;>rw [e,f] at h<;>try omega
 all_goals (rw [e];unfold V5;(repeat' split)<;>omega)
theorem b4I (x y:Int):-1<=V5 x y∧V5 x y<=1:=by unfold V5;split<;>(try split)<;>omega
theorem aM9 {b:Bg} (h:Q7 b=true):∃z,b=bz z:=⟨_,b5v h⟩
theorem b0b (a b:Bg) (la:a.dl.length<=1000000) (lb:b.dl.length<=1000000):
 e7 Tryz.prog 120 [bgS a,bgS b] [] (b7 .i64 (b2o a b)) []:=by
 have r1:=a2W a la
 have r2:=a2W b lb
 cases ha:Q7 a with
 |false=>
  rw [ha] at r1
  (refine ac Tryz.func120 ?_;(conv=>whnf);repeat (refine zy ?_;conv=>whnf))
  repeat' (first|refine zx ?_|refine qp r1 ?_|refine qp r2 ?_|refine zd ?_ ?_<;>intro h<;>try omega|fail)<;>conv=>whnf
  all_goals (first|(exfalso;simp_all;done)|(refine s9 ?_;unfold b2o;rw [ha];rfl))
 |true=>
  rw [ha] at r1
  cases hb:Q7 b with
  |false=>
   rw [hb] at r2
   (refine ac Tryz.func120 ?_;(conv=>whnf);repeat (refine zy ?_;conv=>whnf))
   repeat' (first|refine zx ?_|refine qp r1 ?_|refine qp r2 ?_|refine zd ?_ ?_<;>intro h<;>try omega|fail)<;>conv=>whnf
   all_goals (first|(exfalso;simp_all;done)|(refine s9 ?_;unfold b2o;rw [ha,hb];rfl))
  |true=>
   rw [hb] at r2
   obtain ⟨x,rfl⟩:=aM9 ha
   obtain ⟨y,rfl⟩:=aM9 hb
   have c:=a2C (bz x).dl (bz y).dl (b0i x) (b0i y) la lb
   rw [aD1,aD1] at c
   have e:b2o (bz x) (bz y)=V5 x y:=by unfold b2o;rw [ha,hb,a6C,a6C];rfl
   rw [e]
   have hr:=b4I x y
   by_cases hs:x.sign=y.sign
   ·have hs':(bz x).sg=(bz y).sg:=hs
    have e2:=b4H hs
    (refine ac Tryz.func120 ?_;(conv=>whnf);repeat (refine zy ?_;conv=>whnf))
    repeat' (first|refine zx ?_|refine qp r1 ?_|refine qp r2 ?_|refine qp c ?_|refine ⟨_,L8 e2 (by omega) (by omega),?_⟩|refine zd ?_ ?_<;>intro h<;>try omega|fail)<;>conv=>whnf
    all_goals first
     |omega
     |(exfalso;simp_all;done)
     |exact s9 rfl
   ·have hs':(bz x).sg≠(bz y).sg:=hs
    (refine ac Tryz.func120 ?_;(conv=>whnf);repeat (refine zy ?_;conv=>whnf))
    repeat' (first|refine zx ?_|refine qp r1 ?_|refine qp r2 ?_|refine qp (a3I _ _) ?_|refine zd ?_ ?_<;>intro h<;>try omega|fail)<;>conv=>whnf
    all_goals first
     |omega
     |(exfalso;simp_all;done)
     |exact s9 (b37 hs)
def b1S (a:Bg):Bg:=if Q7 a then bz (-bv a) else ⟨0,[]⟩
theorem b8M (a:Bg) (la:a.dl.length<=1000000):e7 Tryz.prog 185 [bgS a] [] (bgS (b1S a)) []:=by
 have r1:=a2W a la
 cases ha:Q7 a with
 |false=>
  rw [ha] at r1
  have e:b1S a=⟨0,[]⟩:=by unfold b1S;rw [ha];rfl
  rw [e]
  (refine ac Tryz.func185 ?_;(conv=>whnf);repeat (refine zy ?_;conv=>whnf))
  repeat' (first|refine zx ?_|refine qp r1 ?_|refine zd ?_ ?_<;>intro h<;>try omega|fail)<;>conv=>whnf
  all_goals (first|(exfalso;simp_all;done)|exact v8 ⟨rfl,rfl,trivial⟩)
 |true=>
  rw [ha] at r1
  obtain ⟨x,rfl⟩:=aM9 ha
  have e:b1S (bz x)=sgn (0 - (bz x).sg) (bz x).dl:=by
   rw [Int.zero_sub]
   unfold b1S
   rw [ha,b3w (b0i x).1 (by rcases P7 x with ⟨h,h1⟩|⟨h,h1⟩|⟨h,h1⟩<;>rw [aG3,h]<;>simp [h1,aD1]),a6C,aD1,aG3]
   show bz (-x)=_
   congr 1
   rw [Int.neg_mul,Int.sign_mul_natAbs]
  rw [e]
  have hs:-1<=(bz x).sg∧(bz x).sg<=1:=by rcases P7 x with ⟨h,h1⟩|⟨h,h1⟩|⟨h,h1⟩<;>rw [aG3,h]<;>decide
  (refine ac Tryz.func185 ?_;(conv=>whnf);repeat (refine zy ?_;conv=>whnf))
  repeat' (first|refine zx ?_|refine qp r1 ?_|refine qp (a97 _ la) ?_|refine qp (aO7 _ _ la) ?_|refine zd ?_ ?_<;>intro h<;>try omega|fail)<;>conv=>whnf
  all_goals (first|(exfalso;simp_all;done)|exact v8 ⟨rfl,rfl,trivial⟩)
open St1 St2 St3 St4 St5 St6 St7 St8 StA StB
set_option maxRecDepth 100000
theorem a6p {a:Int} (j:Nat) (hj:j<=62):IntKind.wrap .i64 (BitVec.ofInt (IntKind.bits .i64) a &&& BitVec.ofInt (IntKind.bits .i64) ((2 ^ j - 1:Nat):Int)).toNat=a % ((2 ^ j:Nat):Int):=by
 rw [aJ2 rfl a j hj]
 have hp:(2:Nat) ^ j<=2 ^ 62:=Nat.pow_le_pow_right (by decide) hj
 have h0:0<(2:Nat) ^ j:=Nat.pow_pos (by decide)
 have h1:0<=a % ((2 ^ j:Nat):Int):=Int.emod_nonneg _ (by omega)
 have h2:a % ((2 ^ j:Nat):Int)<((2 ^ j:Nat):Int):=Int.emod_lt_of_pos _ (by omega)
 rw [lbZ h1]
 exact (show J5 .i64 _ _ from a3E (by omega) (by omega)).symm
structure aw4 (m n:Int):Prop where
 ok:∀a:Int,a4R .and .i64 a m (a % n)
theorem a66:aw4 1048575 1048576:=⟨fun a=>(a6p (a:=a) 20 (by decide)).symm⟩
theorem a9Z:aw4 1 2:=⟨fun a=>(a6p (a:=a) 1 (by decide)).symm⟩
theorem ab8 (a:Int):b0A .i64 a 20 (a / 1048576):=by
 show a / 1048576=a.fdiv 1048576
 exact (Int.fdiv_eq_ediv_of_nonneg _ (by decide)).symm
theorem R3 {l:List Int} {i:Nat} {n:Int} {v:Int} (h:0+n.toNat=i):(toC (l.map i5)).set (0+n.toNat) [C.t (ti v)]=toC ((l.set i v).map i5):=by
 rw [h];simp [toC,i5,List.map_set]
theorem T2 {l:List Int} {n:Int} {i:Nat} (h:n.toNat=i) (hi:i<l.length):l[0+n.toNat]? =some (dat l i):=by rw [Nat.zero_add,h];exact D4 hi
theorem b8F (a b:List Int) (ha:Okd a) (hb:Okd b) (la:a.length<=400000) (lb:b.length<=400000) (hab:b.length<=a.length):
 e7 Tryz.prog 260 [i6 a,i6 b] [] (i6 (dg (val a+val b).toNat)) []:=by
 have l1:(a.map i5).length=a.length:=by simp
 have l2:(b.map i5).length=b.length:=by simp
 (refine ac Tryz.func260 ?_;(conv=>whnf);repeat (refine zy ?_;conv=>whnf))
 repeat' (first|refine zx ?_|refine a7a (by omega) (by omega) (by omega) (by decide) ?_|refine zd ?_ ?_<;>intro h<;>try omega|fail)<;>conv=>whnf
 refine C3 e8 (σ:=Nat × List Int × Int) (fun|(k,out,c)=>([i6 a,i6 b,J,J,J,a2q 0 out,b7 .i64 c]++Jn 13++[i6 a,b7 .i64 a.length,b7 .i64 k]++Jn 32,[C0 out])) (fun x=>a7Q a b x.1 x.2.1 x.2.2) (fun x=>a.length - x.1) (0,List.replicate (a.length+1) 0,0) [some 0]
  (a7Q.init _ _) ⟨rfl,rfl,⟨b8 rfl rfl rfl ?_ rfl,trivial⟩,⟨k8 rfl,k8 rfl,s7 rfl (by simp),rfl,k8 rfl,g9 (by simp),rfl,trivial⟩⟩ ?_
 ·show List.replicate _ _=_
  simp [toC,i5,I6]
 rintro ⟨k,out,c⟩ hI
 have hI:a7Q a b k out c:=hI
 have hlen:=hI.len
 have hle:=hI.le
 have hc0:=hI.c0
 have hc1:=hI.c1
 conv=>whnf
 have hda:=ha.dat k
 have hdb:=hb.dat k
 repeat' (first|refine zx ?_|refine g6 (D4 (by omega)) ?_|refine a2a (by omega) (by show _<((out.length:Nat):Int);omega) ?_|refine t6 (T2 rfl (by omega)) ?_|refine ⟨_,aw4.ok (by first|exact a66|exact a9Z) _,?_⟩|refine ⟨by decide,_,ab8 _,?_⟩|refine zd ?_ ?_<;>intro h<;>try omega|fail)<;>conv=>whnf
 ·refine ⟨[some 0],(k+1,out.set k ((c+dat a k+dat b k) % 1048576),(c+dat a k+dat b k) / 1048576),⟨rfl,rfl,⟨b8 rfl rfl rfl (R3 (by omega)) rfl,trivial⟩,⟨rfl,rfl,s7 rfl (by simp),rfl,rfl,rfl,g9 (by omega),trivial⟩⟩,hI.step ha hb (by omega),?_⟩
  show a.length - (k+1)<a.length - k
  omega
 ·have e:dat b k=0:=a1W (by omega)
  have hst:=hI.step ha hb (by omega)
  rw [e,Int.add_zero] at hst
  refine ⟨[some 0],(k+1,out.set k ((c+dat a k) % 1048576),(c+dat a k) / 1048576),⟨rfl,rfl,⟨b8 rfl rfl rfl (R3 (by omega)) rfl,trivial⟩,⟨rfl,rfl,s7 rfl (by simp),rfl,rfl,rfl,g9 (by omega),trivial⟩⟩,hst,?_⟩
  show a.length - (k+1)<a.length - k
  omega
 ·have hk:k=a.length:=by omega
  subst hk
  have hf:=hI.fin (by omega)
  have t:=a3u (out.set a.length c) (by simp;omega)
  rw [hf] at t
  refine .inr ⟨_,_,I1 [0] t ⟨a10 (D6 (by simp) rfl (by intro h;cases h) rfl (R3 (by omega)) (by simp)),trivial⟩ rfl,?_⟩
  conv=>whnf
  exact b1i (by rw [Int.add_comm])
theorem b9j (a b:List Int) (ha:Okd a) (hb:Okd b) (la:a.length<=400000) (lb:b.length<=400000) (hab:a.length<b.length):
 e7 Tryz.prog 260 [i6 a,i6 b] [] (i6 (dg (val a+val b).toNat)) []:=by
 have l1:(a.map i5).length=a.length:=by simp
 have l2:(b.map i5).length=b.length:=by simp
 (refine ac Tryz.func260 ?_;(conv=>whnf);repeat (refine zy ?_;conv=>whnf))
 repeat' (first|refine zx ?_|refine a7a (by omega) (by omega) (by omega) (by decide) ?_|refine zd ?_ ?_<;>intro h<;>try omega|fail)<;>conv=>whnf
 refine C3 e8 (σ:=Nat × List Int × Int) (fun|(k,out,c)=>([i6 b,i6 a,J,J,J,a2q 0 out,b7 .i64 c]++Jn 13++[i6 b,b7 .i64 b.length,b7 .i64 k]++Jn 32,[C0 out])) (fun x=>a7Q b a x.1 x.2.1 x.2.2) (fun x=>b.length - x.1) (0,List.replicate (b.length+1) 0,0) [some 0]
  (a7Q.init _ _) ⟨rfl,rfl,⟨b8 rfl rfl rfl ?_ rfl,trivial⟩,⟨k8 rfl,k8 rfl,s7 rfl (by simp),rfl,k8 rfl,g9 (by simp),rfl,trivial⟩⟩ ?_
 ·show List.replicate _ _=_
  simp [toC,i5,I6]
 rintro ⟨k,out,c⟩ hI
 have hI:a7Q b a k out c:=hI
 have hlen:=hI.len
 have hle:=hI.le
 have hc0:=hI.c0
 have hc1:=hI.c1
 conv=>whnf
 have hda:=hb.dat k
 have hdb:=ha.dat k
 repeat' (first|refine zx ?_|refine g6 (D4 (by omega)) ?_|refine a2a (by omega) (by show _<((out.length:Nat):Int);omega) ?_|refine t6 (T2 rfl (by omega)) ?_|refine ⟨_,aw4.ok (by first|exact a66|exact a9Z) _,?_⟩|refine ⟨by decide,_,ab8 _,?_⟩|refine zd ?_ ?_<;>intro h<;>try omega|fail)<;>conv=>whnf
 ·refine ⟨[some 0],(k+1,out.set k ((c+dat b k+dat a k) % 1048576),(c+dat b k+dat a k) / 1048576),⟨rfl,rfl,⟨b8 rfl rfl rfl (R3 (by omega)) rfl,trivial⟩,⟨rfl,rfl,s7 rfl (by simp),rfl,rfl,rfl,g9 (by omega),trivial⟩⟩,hI.step hb ha (by omega),?_⟩
  show b.length - (k+1)<b.length - k
  omega
 ·have e:dat a k=0:=a1W (by omega)
  have hst:=hI.step hb ha (by omega)
  rw [e,Int.add_zero] at hst
  refine ⟨[some 0],(k+1,out.set k ((c+dat b k) % 1048576),(c+dat b k) / 1048576),⟨rfl,rfl,⟨b8 rfl rfl rfl (R3 (by omega)) rfl,trivial⟩,⟨rfl,rfl,s7 rfl (by simp),rfl,rfl,rfl,g9 (by omega),trivial⟩⟩,hst,?_⟩
  show b.length - (k+1)<b.length - k
  omega
 ·have hk:k=b.length:=by omega
  subst hk
  have hf:=hI.fin (by omega)
  have t:=a3u (out.set b.length c) (by simp;omega)
  rw [hf] at t
  refine .inr ⟨_,_,I1 [0] t ⟨a10 (D6 (by simp) rfl (by intro h;cases h) rfl (R3 (by omega)) (by simp)),trivial⟩ rfl,?_⟩
  conv=>whnf
  exact b1i (by rw [Int.add_comm])
theorem b9K (a b:List Int) (ha:Okd a) (hb:Okd b) (la:a.length<=400000) (lb:b.length<=400000):
 e7 Tryz.prog 260 [i6 a,i6 b] [] (i6 (dg (val a+val b).toNat)) []:=by
 rcases Nat.lt_or_ge a.length b.length with h|h
 ·exact b9j a b ha hb la lb h
 ·exact b8F a b ha hb la lb h
open St1 St2 St3 St4 St5 St6 St7 St8 StA StB
set_option maxRecDepth 100000
theorem b9w (a b:List Int) (ha:Okd a) (hb:Okd b) (la:a.length<=400000) (lb:b.length<=a.length) (hv:val b<=val a):
 e7 Tryz.prog 261 [i6 a,i6 b] [] (i6 (dg (val a - val b).toNat)) []:=by
 have l1:(a.map i5).length=a.length:=by simp
 have l2:(b.map i5).length=b.length:=by simp
 (refine ac Tryz.func261 ?_;(conv=>whnf);repeat (refine zy ?_;conv=>whnf))
 repeat' (first|refine zx ?_|refine zd ?_ ?_<;>intro h<;>try omega|fail)<;>conv=>whnf
 refine .inr ⟨_,_,an4 (b3k a (by omega)) rfl rfl rfl rfl,?_⟩
 conv=>whnf
 repeat' (first|refine zx ?_|refine zd ?_ ?_<;>intro h<;>try omega|fail)<;>conv=>whnf
 refine C3 e8 (σ:=Nat × List Int × Int) (fun|(k,out,c)=>([J,i6 b,J,J,J,a2q 0 out,b7 .i64 c,J,J,J,J,J,b7 .i64 a.length,b7 .i64 k]++Jn 29,[C0 out])) (fun x=>aj6 a b x.1 x.2.1 x.2.2) (fun x=>a.length - x.1) (0,a,0) [some 0]
  (aj6.init ha) ⟨rfl,rfl,⟨b8 rfl rfl rfl rfl rfl,trivial⟩,⟨k8 rfl,s7 rfl rfl,rfl,g9 (by simp),rfl,trivial⟩⟩ ?_
 rintro ⟨k,out,c⟩ hI
 have hI:aj6 a b k out c:=hI
 have hlen:=hI.len
 have hle:=hI.le
 have hc0:=hI.c0
 have hc1:=hI.c1
 conv=>whnf
 have hda:=hI.ok.dat k
 have hdb:=hb.dat k
 repeat' (first|refine zx ?_|refine g6 (D4 (by omega)) ?_|refine a2a (by omega) (by show _<((out.length:Nat):Int);omega) ?_|refine t6 (T2 (i:=k) rfl (by omega)) ?_|refine ⟨_,aw4.ok (by first|exact a66|exact a9Z) _,?_⟩|refine ⟨by decide,_,ab8 _,?_⟩|refine zd ?_ ?_<;>intro h<;>try omega|fail)<;>conv=>whnf
 ·refine ⟨[some 0],(k+1,out.set k ((dat out k - c - dat b k) % 1048576),(dat out k - c - dat b k) / 1048576 % 2),⟨rfl,rfl,⟨b8 rfl rfl rfl (R3 (by omega)) rfl,trivial⟩,⟨rfl,s7 rfl (by simp),rfl,rfl,g9 (by omega),trivial⟩⟩,hI.step ha hb (by omega),?_⟩
  show a.length - (k+1)<a.length - k
  omega
 ·have e:dat b k=0:=a1W (by omega)
  have hst:=hI.step ha hb (by omega)
  rw [e,Int.sub_zero] at hst
  refine ⟨[some 0],(k+1,out.set k ((dat out k - c) % 1048576),(dat out k - c) / 1048576 % 2),⟨rfl,rfl,⟨b8 rfl rfl rfl (R3 (by omega)) rfl,trivial⟩,⟨rfl,s7 rfl (by simp),rfl,rfl,g9 (by omega),trivial⟩⟩,hst,?_⟩
  show a.length - (k+1)<a.length - k
  omega
 ·have hk:k=a.length:=by omega
  subst hk
  have hf:=hI.fin (by omega) hv
  have t:=a3u out (by omega)
  rw [hf] at t
  refine .inr ⟨_,_,I1 [0] t ⟨a10 (D6 (by simp) rfl (by intro h;cases h) rfl rfl (by simp)),trivial⟩ rfl,?_⟩
  conv=>whnf
  exact b1i rfl
set_option maxHeartbeats 1000000 in
theorem b7N (a b:List Int) (ha:Okd a) (hb:Okd b) (la:a.length<=400000) (lb:b.length<=400000):
 e7 Tryz.prog 264 [i6 a,i6 b] [] (i6 (dg (val a*val b).toNat)) []:=by
 have l1:(a.map i5).length=a.length:=by simp
 have l2:(b.map i5).length=b.length:=by simp
 (refine ac Tryz.func264 ?_;(conv=>whnf);repeat (refine zy ?_;conv=>whnf))
 repeat' (first|refine zx ?_|refine a7a (by omega) (by omega) (by omega) (by decide) ?_|refine zd ?_ ?_<;>intro h<;>try omega|fail)<;>conv=>whnf
 refine C3 e8 (σ:=Nat × List Int) (fun|(i,out)=>([J,i6 b,J,J,J,a2q 0 out]++Jn 12++[i6 a,b7 .i64 a.length,b7 .i64 i]++Jn 46,[C0 out])) (fun x=>a7y a b x.1 x.2) (fun x=>a.length - x.1) (0,List.replicate (a.length+b.length) 0) [some 0]
  (a7y.init a b) ⟨rfl,rfl,⟨b8 rfl rfl rfl ?_ rfl,trivial⟩,⟨k8 rfl,s7 rfl (by simp;omega),k8 rfl,g9 (by simp),rfl,trivial⟩⟩ ?_
 ·show List.replicate _ _=_
  rw [show ((((a.map i5).length:Nat):Int)+((b.map i5).length:Nat)).toNat=a.length+b.length by omega]
  simp [toC,i5,I6]
 rintro ⟨i,out⟩ hI
 have hI:a7y a b i out:=hI
 have hlen:=hI.len
 have hle:=hI.le
 conv=>whnf
 repeat' (first|refine zx ?_|refine g6 (D4 (by omega)) ?_|refine zd ?_ ?_<;>intro h<;>try omega|fail)<;>conv=>whnf
 ·have hi:i<a.length:=by omega
  refine C3 e8 (σ:=Nat × List Int × Int) (fun|(k,out,c)=>([J,i6 b,J,J,J,a2q 0 out,b7 .i64 i,b7 .i64 (dat a i),b7 .i64 c,J,J,J,J,J,J,J,J,J,i6 a,b7 .i64 a.length,b7 .i64 i,J,J,J,J,i6 b,b7 .i64 b.length,b7 .i64 k]++Jn 39,[C0 out])) (fun x=>aj7 a b i x.1 x.2.1 x.2.2) (fun x=>b.length - x.1) (0,out,0) [some 0]
   hI.start ⟨rfl,rfl,⟨b8 rfl rfl rfl rfl rfl,trivial⟩,⟨k8 rfl,s7 rfl rfl,rfl,rfl,rfl,k8 rfl,rfl,rfl,k8 rfl,g9 (by simp),rfl,trivial⟩⟩ ?_
  rintro ⟨k,out,c⟩ hK
  have hK:aj7 a b i k out c:=hK
  have hlen:=hK.len
  have hle:=hK.le
  have hc0:=hK.c0
  have hc1:=hK.c1
  conv=>whnf
  have hdo:=hK.ok.dat (i+k)
  have hm:=a52 (ha.dat i) (hb.dat k)
  have e1:((i:Int)+k).toNat=i+k:=by omega
  have e2:((i:Int)+b.length).toNat=i+b.length:=by omega
  have e3:((i:Int)+((b.map i5).length:Nat)).toNat=i+b.length:=by omega
  have hz:=hK.zero (i+b.length) (lbR _)
  repeat' (first|refine zx ?_|refine g6 (D4 (by omega)) ?_|refine a2a (by omega) (by show _<((out.length:Nat):Int);omega) ?_|refine t6 (T2 e1 (by omega)) ?_|refine t6 (T2 e3 (by omega)) ?_|refine ⟨_,aw4.ok (by first|exact a66|exact a9Z) _,?_⟩|refine ⟨by decide,_,ab8 _,?_⟩|refine zd ?_ ?_<;>intro h<;>try omega|fail)<;>conv=>whnf
  ·refine ⟨[some 0],(k+1,out.set (i+k) ((dat out (i+k)+dat a i*dat b k+c) % 1048576),(dat out (i+k)+dat a i*dat b k+c) / 1048576),⟨rfl,rfl,⟨b8 rfl rfl rfl (R3 (by omega)) rfl,trivial⟩,⟨rfl,s7 rfl (by simp),rfl,rfl,rfl,rfl,rfl,rfl,rfl,rfl,g9 (by omega),trivial⟩⟩,hK.step ha hb hi (by omega),?_⟩
   show b.length - (k+1)<b.length - k
   omega
  ·have hk:k=b.length:=by omega
   subst hk
   refine ⟨[some 0],(i+1,out.set (i+b.length) (dat out (i+b.length)+c)),⟨rfl,rfl,⟨b8 rfl rfl rfl (R3 (by omega)) rfl,trivial⟩,⟨rfl,s7 rfl (by simp),rfl,rfl,g9 (by omega),trivial⟩⟩,hK.done ha hb hi,?_⟩
   show a.length - (i+1)<a.length - i
   omega
 ·have hi:i=a.length:=by omega
  subst hi
  have hf:=hI.fin
  have t:=a3u out (by omega)
  rw [hf] at t
  refine .inr ⟨_,_,I1 [0] t ⟨a10 (D6 (by simp) rfl (by intro h;cases h) rfl rfl (by simp)),trivial⟩ rfl,?_⟩
  conv=>whnf
  exact b1i rfl
set_option maxHeartbeats 1000000 in
theorem b9g (a b:List Int) (ha:Okd a) (hb:Okd b) (la:a.length<=400000) (lb:b.length<=400000):
 e7 Tryz.prog 264 [i6 a,i6 b] [] (.c (.own 0 0 (dg (val a*val b).toNat).length true)) [C0 (a0h (a.length+b.length) (dg (val a*val b).toNat))]:=by
 have l1:(a.map i5).length=a.length:=by simp
 have l2:(b.map i5).length=b.length:=by simp
 (refine ac Tryz.func264 ?_;(conv=>whnf);repeat (refine zy ?_;conv=>whnf))
 repeat' (first|refine zx ?_|refine a7a (by omega) (by omega) (by omega) (by decide) ?_|refine zd ?_ ?_<;>intro h<;>try omega|fail)<;>conv=>whnf
 refine C3 e8 (σ:=Nat × List Int) (fun|(i,out)=>([J,i6 b,J,J,J,a2q 0 out]++Jn 12++[i6 a,b7 .i64 a.length,b7 .i64 i]++Jn 46,[C0 out])) (fun x=>a7y a b x.1 x.2) (fun x=>a.length - x.1) (0,List.replicate (a.length+b.length) 0) [some 0]
  (a7y.init a b) ⟨rfl,rfl,⟨b8 rfl rfl rfl ?_ rfl,trivial⟩,⟨k8 rfl,s7 rfl (by simp;omega),k8 rfl,g9 (by simp),rfl,trivial⟩⟩ ?_
 ·show List.replicate _ _=_
  rw [show ((((a.map i5).length:Nat):Int)+((b.map i5).length:Nat)).toNat=a.length+b.length by omega]
  simp [toC,i5,I6]
 rintro ⟨i,out⟩ hI
 have hI:a7y a b i out:=hI
 have hlen:=hI.len
 have hle:=hI.le
 conv=>whnf
 repeat' (first|refine zx ?_|refine g6 (D4 (by omega)) ?_|refine zd ?_ ?_<;>intro h<;>try omega|fail)<;>conv=>whnf
 ·have hi:i<a.length:=by omega
  refine C3 e8 (σ:=Nat × List Int × Int) (fun|(k,out,c)=>([J,i6 b,J,J,J,a2q 0 out,b7 .i64 i,b7 .i64 (dat a i),b7 .i64 c,J,J,J,J,J,J,J,J,J,i6 a,b7 .i64 a.length,b7 .i64 i,J,J,J,J,i6 b,b7 .i64 b.length,b7 .i64 k]++Jn 39,[C0 out])) (fun x=>aj7 a b i x.1 x.2.1 x.2.2) (fun x=>b.length - x.1) (0,out,0) [some 0]
   hI.start ⟨rfl,rfl,⟨b8 rfl rfl rfl rfl rfl,trivial⟩,⟨k8 rfl,s7 rfl rfl,rfl,rfl,rfl,k8 rfl,rfl,rfl,k8 rfl,g9 (by simp),rfl,trivial⟩⟩ ?_
  rintro ⟨k,out,c⟩ hK
  have hK:aj7 a b i k out c:=hK
  have hlen:=hK.len
  have hle:=hK.le
  have hc0:=hK.c0
  have hc1:=hK.c1
  conv=>whnf
  have hdo:=hK.ok.dat (i+k)
  have hm:=a52 (ha.dat i) (hb.dat k)
  have e1:((i:Int)+k).toNat=i+k:=by omega
  have e2:((i:Int)+b.length).toNat=i+b.length:=by omega
  have e3:((i:Int)+((b.map i5).length:Nat)).toNat=i+b.length:=by omega
  have hz:=hK.zero (i+b.length) (lbR _)
  repeat' (first|refine zx ?_|refine g6 (D4 (by omega)) ?_|refine a2a (by omega) (by show _<((out.length:Nat):Int);omega) ?_|refine t6 (T2 e1 (by omega)) ?_|refine t6 (T2 e3 (by omega)) ?_|refine ⟨_,aw4.ok (by first|exact a66|exact a9Z) _,?_⟩|refine ⟨by decide,_,ab8 _,?_⟩|refine zd ?_ ?_<;>intro h<;>try omega|fail)<;>conv=>whnf
  ·refine ⟨[some 0],(k+1,out.set (i+k) ((dat out (i+k)+dat a i*dat b k+c) % 1048576),(dat out (i+k)+dat a i*dat b k+c) / 1048576),⟨rfl,rfl,⟨b8 rfl rfl rfl (R3 (by omega)) rfl,trivial⟩,⟨rfl,s7 rfl (by simp),rfl,rfl,rfl,rfl,rfl,rfl,rfl,rfl,g9 (by omega),trivial⟩⟩,hK.step ha hb hi (by omega),?_⟩
   show b.length - (k+1)<b.length - k
   omega
  ·have hk:k=b.length:=by omega
   subst hk
   refine ⟨[some 0],(i+1,out.set (i+b.length) (dat out (i+b.length)+c)),⟨rfl,rfl,⟨b8 rfl rfl rfl (R3 (by omega)) rfl,trivial⟩,⟨rfl,s7 rfl (by simp),rfl,rfl,g9 (by omega),trivial⟩⟩,hK.done ha hb hi,?_⟩
   show a.length - (i+1)<a.length - i
   omega
 ·have hi:i=a.length:=by omega
  subst hi
  have hf:=hI.fin
  have t:=b72 out (by omega)
  have hp:=as2 out
  rw [hf] at t hp
  refine .inr ⟨_,_,t,?_⟩
  conv=>whnf
  have hq:a0h (a.length+b.length) (dg (val a*val b).toNat)=out:=by unfold a0h;rw [← hlen];exact hp
  rw [hq]
  exact ⟨⟨[some 0],rfl,rfl,⟨b8 rfl rfl rfl rfl rfl,trivial⟩,⟨rfl,rfl,rfl,fun h=>h⟩⟩⟩
open St1 St2 St3 St4 St5 St6 St7 St8 StA StB
set_option maxRecDepth 100000
theorem b5t {r:Int} (h0:0<=r) (h1:r<4398046511104):J5 .i64 (r*2 ^ min (20:Int).toNat (IntKind.bits .i64)) (r*1048576):=by
 show J5 .i64 (r*1048576) (r*1048576)
 exact a3E (by omega) (by omega)
theorem b90 {k:IntKind} (hk:k.bits=64) (R X:Nat) (h1:R<4398046511104) (hx:X<1048576):(BitVec.ofInt k.bits ((R:Int)*1048576) ||| BitVec.ofInt k.bits (X:Int)).toNat=R*1048576+X:=by
 rw [hk,BitVec.toNat_or,BitVec.toNat_ofInt,BitVec.toNat_ofInt]
 have e1:(((R:Int)*1048576) % ((2 ^ 64:Nat):Int)).toNat=R <<< 20:=by
  rw [Nat.shiftLeft_eq];omega
 have e2:((X:Int) % ((2 ^ 64:Nat):Int)).toNat=X:=by omega
 rw [e1,e2,←Nat.shiftLeft_add_eq_or_of_lt (by omega),Nat.shiftLeft_eq]
theorem b9n {r x:Int} (h0:0<=r) (h1:r<4398046511104) (hx0:0<=x) (hx1:x<1048576):a4R .or .i64 (r*1048576) x (r*1048576+x):=by
 obtain ⟨R,rfl⟩:=Int.eq_ofNat_of_zero_le h0
 obtain ⟨X,rfl⟩:=Int.eq_ofNat_of_zero_le hx0
 unfold a4R
 simp only
 rw [b90 rfl R X (by omega) (by omega)]
 have e:((R*1048576+X:Nat):Int)=(R:Int)*1048576+X:=by simp
 rw [e]
 exact (show J5 .i64 ((R:Int)*1048576+X) _ from a3E (by omega) (by omega))
theorem b7I {a b:Int} (h0:0<=a) (h1:a<=9223372036854775807) (hb:0<b):J5 .i64 (a.tdiv b) (a / b):=by
 rw [Int.tdiv_eq_ediv_of_nonneg h0]
 have h2:0<=a / b:=Int.ediv_nonneg h0 (by omega)
 have h3:a / b<=a:=Int.ediv_le_self _ h0
 exact a3E (by omega) (by omega)
theorem b2N {l:List Int} {n:Nat} (h:0<n) (hn:n<=l.length):l[0+((n:Int) - 1).toNat]? =some (dat l (n - 1)):=by rw [Nat.zero_add];exact a2E h hn
theorem b1E (a:List Int) (d:Int) (ha:Okd a) (la:a.length<=1000000) (hd:0<d) (hd2:d<1048576):
 e7 Tryz.prog 307 [i6 a,b7 .i64 d] [] (.tup [i6 (dg (val a / d).toNat),b7 .i64 (val a % d)]) []:=by
 have l1:(a.map i5).length=a.length:=by simp
 (refine ac Tryz.func307 ?_;(conv=>whnf);repeat (refine zy ?_;conv=>whnf))
 repeat' (first|refine zx ?_|refine a7a (by omega) (by omega) (by omega) (by decide) ?_|refine zd ?_ ?_<;>intro h<;>try omega|fail)<;>conv=>whnf
 refine C3 e8 (σ:=Nat × List Int × Int) (fun|(j,out,r)=>([i6 a,b7 .i64 d,J,J,J,J,a2q 0 out,b7 .i64 r,b7 .i64 ((j:Int) - 1)]++Jn 29,[C0 out])) (fun x=>a2t a d x.1 x.2.1 x.2.2) (fun x=>x.1) (a.length,List.replicate a.length 0,0) [some 0]
  (a2t.init a hd) ⟨rfl,rfl,⟨b8 rfl rfl rfl ?_ rfl,trivial⟩,⟨k8 rfl,rfl,s7 rfl (by simp),rfl,g9 (by simp),trivial⟩⟩ ?_
 ·show List.replicate _ _=_
  simp [toC,i5,I6]
 rintro ⟨j,out,r⟩ hI
 have hI:a2t a d j out r:=hI
 have hlen:=hI.len
 have hle:=hI.le
 have hr0:=hI.r0
 have hr1:=hI.r1
 have hda:=ha.dat (j - 1)
 conv=>whnf
 repeat' (first|refine zx ?_|refine N6 (by omega) (a2E (by omega) hle) ?_|refine a2a (by omega) (by show _<((out.length:Nat):Int);omega) ?_|refine t6 (b2N (by omega) (by omega)) ?_|refine ⟨by decide,_,b5t (by omega) (by omega),?_⟩|refine ⟨_,b9n (by omega) (by omega) (by omega) (by omega),?_⟩|refine ⟨by omega,_,b7I (by omega) (by omega) (by omega),?_⟩|refine b7A (by omega) ?_|refine zd ?_ ?_<;>intro h<;>try omega|fail)<;>conv=>whnf
 ·obtain ⟨j,rfl⟩:∃i,j=i+1:=⟨j - 1,by omega⟩
  simp only [Nat.add_sub_cancel] at *
  have hst:=hI.step ha hd
  rw [← Int.tmod_eq_emod_of_nonneg (by omega)] at hst
  refine ⟨[some 0],(j,out.set j ((r*1048576+dat a j) / d),(r*1048576+dat a j).tmod d),⟨rfl,rfl,⟨b8 rfl rfl rfl (R3 (by omega)) rfl,trivial⟩,⟨rfl,rfl,s7 rfl (by simp),rfl,g9 (by omega),trivial⟩⟩,hst,?_⟩
  show j<j+1
  omega
 ·have hj:j=0:=by omega
  subst hj
  obtain ⟨hf,hr⟩:=hI.fin ha hd
  have t:=a3u out (by omega)
  rw [hf] at t
  refine .inr ⟨_,_,I1 [0] t ⟨a10 (D6 (by simp) rfl (by intro h;cases h) rfl rfl (by simp)),trivial⟩ rfl,?_⟩
  conv=>whnf
  repeat' (first|refine zx ?_|refine zd ?_ ?_<;>intro h<;>try omega|fail)<;>conv=>whnf
  exact v8 ⟨rfl,g9 hr,trivial⟩
open St1 St2 St3 St4 St5 St6 St7 St8 StA StB
set_option maxRecDepth 100000
theorem b0C {pre out post:List Int} {k:Nat} (h:k<out.length):(pre++out++post)[pre.length+(k:Int).toNat]? =some (dat out k):=by
 rw [lbE,lbc (by omega),show pre.length+(k:Int).toNat - pre.length=k by omega,lbb h]
 exact D4 h
theorem a7q {pre out post:List Int} {k:Nat} {v:Int} (h:k<out.length):(toC ((pre++out++post).map i5)).set (pre.length+(k:Int).toNat) [C.t (ti v)]=toC ((pre++out.set k v++post).map i5):=by
 have e:(pre++out++post).set (pre.length+k) v=pre++out.set k v++post:=by
  rw [lbE,List.set_append_right _ _ (by omega),show pre.length+k - pre.length=k by omega,List.set_append_left _ _ h,lbE]
 rw [← e]
 show (toC ((pre++out++post).map i5)).set (pre.length+k) _=_
 simp [toC,i5,List.map_set]
def X4 (w v g:Int):Int:=if g*v<=w then g else g - 1
theorem b4O (pre w post v:List Int) (g:Int) (hw:Okd w) (hv:Okd v) (lw:w.length<=1000000) (lv:v.length<=w.length) (hg:0<=g∧g<1048576) (hgv:g*val v<=val w+val v):
 e7 Tryz.prog 308 [.c (.own 0 pre.length w.length false),i6 v,b7 .i64 g] [C0 (pre++w++post)] (b7 .i64 (X4 (val w) (val v) g))
  [C0 (pre++a0h w.length (dg (val w - X4 (val w) (val v) g*val v).toNat)++post)]:=by
 have l1:(v.map i5).length=v.length:=by simp
 (refine ac Tryz.func308 ?_;(conv=>whnf);repeat (refine zy ?_;conv=>whnf))
 repeat' (first|refine zx ?_|refine zd ?_ ?_<;>intro h<;>try omega|fail)<;>conv=>whnf
 refine C3 e8 (σ:=Nat × List Int × Int) (fun|(k,out,c)=>([S.c (C.own 0 pre.length w.length false),i6 v,b7 .i64 g,J,J,J,J,b7 .i64 c,J,J,J,J,J,b7 .i64 w.length,b7 .i64 k]++Jn 63,[C0 (pre++out++post)])) (fun x=>a8R w v g x.1 x.2.1 x.2.2) (fun x=>w.length - x.1) (0,w,0) [some 0]
  (a8R.init g hw) ⟨rfl,rfl,⟨b8 rfl rfl rfl rfl rfl,trivial⟩,⟨⟨rfl,rfl,rfl,fun h=>h⟩,k8 rfl,rfl,rfl,rfl,rfl,trivial⟩⟩ ?_
 rintro ⟨k,out,c⟩ hI
 have hI:a8R w v g k out c:=hI
 have hlen:=hI.len
 have hle:=hI.le
 have hc0:=hI.c0
 have hc1:=hI.c1
 have hdo:=hI.ok.dat k
 have hm:=a52 hg (hv.dat k)
 conv=>whnf
 repeat' (first|refine zx ?_|refine g6 (D4 (by omega)) ?_|refine t6 (b0C (by omega)) ?_|refine ⟨_,aw4.ok (by first|exact a66|exact a9Z) _,?_⟩|refine ⟨by decide,_,ab8 _,?_⟩|refine zd ?_ ?_<;>intro h<;>try omega|fail)<;>conv=>whnf
 ·have hst:=hI.step hv hg (by omega)
  refine ⟨[some 0],(k+1,out.set k ((dat out k - c - g*dat v k) % 1048576),-((dat out k - c - g*dat v k) / 1048576)),⟨rfl,rfl,⟨b8 rfl rfl rfl (a7q (by omega)) rfl,trivial⟩,⟨⟨rfl,rfl,rfl,fun h=>h⟩,rfl,rfl,g9 (Int.zero_sub _),rfl,g9 (by omega),trivial⟩⟩,hst,?_⟩
  show w.length - (k+1)<w.length - k
  omega
 ·have hst:=hI.step hv hg (by omega)
  rw [a1W (l:=v) (i:=k) (by omega),Int.mul_zero,Int.sub_zero] at hst
  refine ⟨[some 0],(k+1,out.set k ((dat out k - c) % 1048576),-((dat out k - c) / 1048576)),⟨rfl,rfl,⟨b8 rfl rfl rfl (a7q (by omega)) rfl,trivial⟩,⟨⟨rfl,rfl,rfl,fun h=>h⟩,rfl,rfl,g9 (Int.zero_sub _),rfl,g9 (by omega),trivial⟩⟩,hst,?_⟩
  show w.length - (k+1)<w.length - k
  omega
 ·have hk:k=w.length:=by omega
  subst hk
  have hc:c=0:=by assumption
  obtain ⟨h1,h2⟩:=hI.zero lv hw hv hg.1
  have hq:X4 (val w) (val v) g=g:=by unfold X4;rw [if_pos (h1.1 hc)]
  rw [hq,←h2 hc,←b0S hI.ok hlen]
  exact ⟨⟨[some 0],rfl,rfl,⟨b8 rfl rfl rfl rfl rfl,trivial⟩,rfl⟩⟩
 ·have hk:k=w.length:=by omega
  subst hk
  have hc:¬c=0:=by assumption
  obtain ⟨h1,h2⟩:=hI.zero lv hw hv hg.1
  have hlt:¬g*val v<=val w:=fun h=>hc (h1.2 h)
  have hq:X4 (val w) (val v) g=g - 1:=by unfold X4;rw [if_neg hlt]
  have hvl:=a0q hv
  have hpw:=a2c lv
  rw [hq]
  refine C3 e8 (σ:=Nat × List Int × Int) (fun|(k,o,c)=>([S.c (C.own 0 pre.length w.length false),i6 v,b7 .i64 g,J,J,J,J,J,J,J,b7 .i64 c]++Jn 37++[b7 .i64 w.length,b7 .i64 k]++Jn 28,[C0 (pre++o++post)])) (fun x=>a6y out v x.1 x.2.1 x.2.2) (fun x=>w.length - x.1) (0,out,0) [some 0]
   (a6y.init hI.ok) ⟨rfl,rfl,⟨b8 rfl rfl rfl rfl rfl,trivial⟩,⟨⟨rfl,rfl,rfl,fun h=>h⟩,k8 rfl,rfl,rfl,rfl,rfl,trivial⟩⟩ ?_
  rintro ⟨k,o,c'⟩ hB
  have hB:a6y out v k o c':=hB
  have hlen2:=hB.len
  have hle2:=hB.le
  have hb0:=hB.c0
  have hb1:=hB.c1
  have hdo:=hB.ok.dat k
  have hdv:=hv.dat k
  conv=>whnf
  repeat' (first|refine zx ?_|refine g6 (D4 (by omega)) ?_|refine t6 (b0C (by omega)) ?_|refine ⟨_,aw4.ok (by first|exact a66|exact a9Z) _,?_⟩|refine ⟨by decide,_,ab8 _,?_⟩|refine zd ?_ ?_<;>intro h<;>try omega|fail)<;>conv=>whnf
  ·have hst:=hB.step hv (by omega)
   refine ⟨[some 0],(k+1,o.set k ((c'+dat o k+dat v k) % 1048576),(c'+dat o k+dat v k) / 1048576),⟨rfl,rfl,⟨b8 rfl rfl rfl (a7q (by omega)) rfl,trivial⟩,⟨⟨rfl,rfl,rfl,fun h=>h⟩,rfl,rfl,rfl,rfl,g9 (by omega),trivial⟩⟩,hst,?_⟩
   show w.length - (k+1)<w.length - k
   omega
  ·have hst:=hB.step hv (by omega)
   rw [a1W (l:=v) (i:=k) (by omega),Int.add_zero] at hst
   refine ⟨[some 0],(k+1,o.set k ((c'+dat o k) % 1048576),(c'+dat o k) / 1048576),⟨rfl,rfl,⟨b8 rfl rfl rfl (a7q (by omega)) rfl,trivial⟩,⟨⟨rfl,rfl,rfl,fun h=>h⟩,rfl,rfl,rfl,rfl,g9 (by omega),trivial⟩⟩,hst,?_⟩
   show w.length - (k+1)<w.length - k
   omega
  ·have hk:k=w.length:=by omega
   subst hk
   have e:=hI.back hB lv (by omega) (by omega)
   have e2:val w - (g - 1)*val v=val w - g*val v+val v:=by rw [Int.sub_mul];omega
   rw [e2,←e,←b0S hB.ok (by omega)]
   exact ⟨⟨[some 0],rfl,rfl,⟨b8 rfl rfl rfl rfl rfl,trivial⟩,rfl⟩⟩
open St1 St2 St3 St4 St5 St6 St7 St8 StA StB
set_option maxRecDepth 100000
abbrev b54 (m n:Nat):S:=.tup [i6 (dg (m / n)),i6 (dg (m % n))]
theorem b7U (m n:Nat) (hn:0<n) (h:m<n) (lm:(dg m).length<=400000) (ln:(dg n).length<=400000):
 e7 Tryz.prog 253 [i6 (dg m),i6 (dg n)] [] (b54 m n) []:=by
 have c:=a2C (dg m) (dg n) (a1L m) (a1L n) (by omega) (by omega)
 rw [C1,C1,a38 (by omega)] at c
 have e1:m / n=0:=Nat.div_eq_of_lt h
 have e2:m % n=m:=Nat.mod_eq_of_lt h
 unfold b54
 rw [e1,e2,a2b]
 (refine ac Tryz.func253 ?_;(conv=>whnf);repeat (refine zy ?_;conv=>whnf))
 repeat' (first|refine zx ?_|refine qp c ?_|refine qp (a97 _ (by omega)) ?_|refine zd ?_ ?_<;>intro h<;>try omega|fail)<;>conv=>whnf
 exact v8 ⟨rfl,rfl,trivial⟩
theorem b8g (m n:Nat) (hn:0<n) (h:n<=m) (hl:(dg n).length=1) (lm:(dg m).length<=400000):
 e7 Tryz.prog 253 [i6 (dg m),i6 (dg n)] [] (b54 m n) []:=by
 have l2:((dg n).map i5).length=(dg n).length:=by simp
 have c:=a2C (dg m) (dg n) (a1L m) (a1L n) (by omega) (by omega)
 rw [C1,C1] at c
 have hc:0<=V5 m n:=by unfold V5;split<;>(try split)<;>omega
 have hn2:=P9 n
 rw [hl] at hn2
 have hn3:(n:Int)<1048576:=by simpa [pw] using hn2
 have hd:dg n=[(n:Int)]:=by
  rw [a6n hn,show n / 1048576=0 by omega,show n % 1048576=n by omega];rfl
 have sh:=b1E (dg m) n (E7 m) (by omega) (by omega) hn3
 rw [C1] at sh
 have e1:((m:Int) / n).toNat=m / n:=by rw [← Int.natCast_ediv];rfl
 have e2:(m:Int) % n=((m % n:Nat):Int):=by simp
 rw [e1,e2] at sh
 have hr:m % n<n:=Nat.mod_lt _ hn
 have t:=a3u [((m % n:Nat):Int)] (by simp)
 rw [V7 (by intro x hx;simp at hx;omega)] at t
 have e3:(val [((m % n:Nat):Int)]).toNat=m % n:=by simp only [val];omega
 rw [e3] at t
 (refine ac Tryz.func253 ?_;(conv=>whnf);repeat (refine zy ?_;conv=>whnf))
 repeat' (first|refine zx ?_|refine qp c ?_|refine qp sh ?_|refine qp hd ?_|refine N6 (x:=(n:Int)) (by omega) (by rw [hd];rfl) ?_|refine .inl ⟨_,_,a0y t ⟨a10 (a5X rfl),trivial⟩ rfl,?_⟩|refine zd ?_ ?_<;>intro h<;>try omega|fail)<;>conv=>whnf
 all_goals (first|omega|exact v8 ⟨rfl,rfl,trivial⟩)
open St1 St2 St3 St4 St5 St6 St7 St8 StA StB
theorem b8B {n k:Nat} {top:Int} (hn:0<n) (ht:dat (dg n) ((dg n).length - 1)=top) (hk:k<=19) (h1:top*2 ^ k<1048576) (h2:¬top*2 ^ k<524288):
 (dg (n*2 ^ k)).length=(dg n).length∧524288<=dat (dg (n*2 ^ k)) ((dg n).length - 1):=by
 have hl:(dg n).length≠0:=by rw [Ne,List.length_eq_zero_iff,U2];omega
 obtain ⟨l,hl'⟩:∃l,(dg n).length=l+1:=⟨(dg n).length - 1,by omega⟩
 rw [hl',Nat.add_sub_cancel] at ht ⊢
 have e1:=A9 (dg n) l
 rw [lbn (by omega),C1,ht] at e1
 have a1:=A6 ((E7 n).take l)
 have a2:=a0q ((E7 n).take l)
 rw [lbs,Nat.min_eq_left (by omega)] at a2
 have t0:=(E7 n).dat l
 rw [ht] at t0
 obtain ⟨T,rfl⟩:=Int.eq_ofNat_of_zero_le t0.1
 have hp:(0:Int)<2 ^ k:=Int.pow_pos (by decide)
 have hpp:=T0 l
 have e2:(2:Int) ^ k*2 ^ (20 - k)=1048576:=by rw [← Int.pow_add,show k+(20 - k)=20 by omega];rfl
 have h3:(T:Int)<2 ^ (20 - k):=by
  refine Int.lt_of_mul_lt_mul_left (a:=(2:Int) ^ k) ?_ (Int.le_of_lt hp)
  rw [e2,Int.mul_comm];exact h1
 have h4:((T:Int)+1)*2 ^ k<=1048576:=by
  have:=lbW (a:=(T:Int)+1) (b:=2 ^ (20 - k)) (c:=2 ^ k) (by omega) (Int.le_of_lt hp)
  rw [e2,Int.mul_comm] at this;exact this
 have hV:(((n*2 ^ k:Nat)):Int)=n*2 ^ k:=by simp
 have h5:((n*2 ^ k:Nat):Int)<pw (l+1):=by
  rw [hV,L9]
  have b1:(n:Int)+1<=pw l*(T+1):=by rw [Int.mul_add];omega
  have b2:=lbX (c:=(2:Int) ^ k) b1 (Int.le_of_lt hp)
  have b3:=lbW (c:=pw l) h4 (Int.le_of_lt hpp)
  rw [← Int.mul_assoc] at b3
  rw [Int.add_mul] at b2
  omega
 have h6:pw l*524288<=((n*2 ^ k:Nat):Int):=by
  rw [hV]
  have b1:pw l*T<=(n:Int):=by omega
  have b2:=lbX (c:=(2:Int) ^ k) b1 (Int.le_of_lt hp)
  have b3:=lbW (a:=524288) (b:=(T:Int)*2 ^ k) (c:=pw l) (by omega) (Int.le_of_lt hpp)
  rw [← Int.mul_assoc] at b3
  omega
 have h7:(dg (n*2 ^ k)).length=l+1:=by
  have c1:=O1 h5
  rcases Nat.lt_or_ge (dg (n*2 ^ k)).length (l+1) with c2|c2
  ·have c3:=P9 (n*2 ^ k)
   have c4:=a2c (show (dg (n*2 ^ k)).length<=l by omega)
   omega
  ·omega
 refine ⟨h7,?_⟩
 have f1:=A9 (dg (n*2 ^ k)) l
 rw [lbn (by omega),C1] at f1
 have f2:=a0q ((E7 (n*2 ^ k)).take l)
 rw [lbs,Nat.min_eq_left (by omega)] at f2
 rcases Int.lt_or_le (dat (dg (n*2 ^ k)) l) 524288 with c|c
 ·exfalso
  have:=lbW (a:=dat (dg (n*2 ^ k)) l+1) (b:=524288) (c:=pw l) (by omega) (Int.le_of_lt hpp)
  rw [Int.mul_add] at this
  omega
 ·exact c
open St1 St2 St3 St4 St5 St6 St7 St8 StA StB
set_option maxRecDepth 100000
theorem b52 {a a' b b':Nat} {x y:S} (h1:a=a') (h2:b=b'):[S.c (.own 0 a b false),x,y]=[S.c (.own 0 a' b' false),x,y]:=by rw [h1,h2]
theorem aQ6 {V W v1 top g r:Int} (hG:Y8 V W v1 top g r) (hV:0<V) (hW:0<=W) (h1:g<1048576) (h2:g*V<=W+V):
 0<=X4 W V g∧X4 W V g<1048576∧0<=W - X4 W V g*V∧W - X4 W V g*V<V:=by
 have h3:=hG.hi
 have h4:=hG.g0
 rw [Int.add_mul,Int.one_mul] at h3
 unfold X4
 by_cases hc:g*V<=W
 ·rw [if_pos hc];omega
 ·rw [if_neg hc,Int.sub_mul,Int.one_mul]
  have:g≠0:=by rintro rfl;simp at hc;omega
  omega
set_option maxHeartbeats 4000000 in
theorem b8b (m n:Nat) (hn:0<n) (hmn:n<=m) (hl:2<=(dg n).length) (lm:(dg m).length<=300000) (ln:(dg n).length<=300000):
 e7 Tryz.prog 253 [i6 (dg m),i6 (dg n)] [] (b54 m n) []:=by
 have l1:((dg m).map i5).length=(dg m).length:=by simp
 have l2:((dg n).map i5).length=(dg n).length:=by simp
 have c:=a2C (dg m) (dg n) (a1L m) (a1L n) (by omega) (by omega)
 rw [C1,C1] at c
 have hc:0<=V5 m n:=by unfold V5;split<;>(try split)<;>omega
 have ht0:=(E7 n).dat ((dg n).length - 1)
 have ht1:dat (dg n) ((dg n).length - 1)≠0:=(a1L n).2 _ (D4 (by omega))
 generalize htop:dat (dg n) ((dg n).length - 1)=top at ht0 ht1
 (refine ac Tryz.func253 ?_;(conv=>whnf);repeat (refine zy ?_;conv=>whnf))
 repeat' (first|refine zx ?_|refine qp c ?_|refine zd ?_ ?_<;>intro h<;>try omega|fail)<;>conv=>whnf
 refine C3 e8 (σ:=Nat) (fun k=>([i6 (dg m),i6 (dg n),J,J,J,J,J,J,b7 .i64 (2 ^ k)]++Jn 161,[])) (fun k=>k<=19∧top*2 ^ k<1048576) (fun k=>20 - k) 0 []
  ⟨by omega,by omega⟩ ⟨rfl,rfl,trivial,⟨k8 rfl,k8 rfl,rfl,trivial⟩⟩ ?_
 rintro k ⟨hk1,hk2⟩
 have hk1:k<=19:=hk1
 have hk2:top*2 ^ k<1048576:=hk2
 have hp0:(0:Int)<2 ^ k:=Int.pow_pos (by decide)
 have hpt:0<top*2 ^ k:=Int.mul_pos (by omega) hp0
 have hpk:(2:Int) ^ k<=524288:=by
  have:=Nat.pow_le_pow_right (n:=2) (by decide) hk1
  have e:((2 ^ k:Nat):Int)=2 ^ k:=by simp
  omega
 have hgl:(dg n)[(((((dg n).map i5).length:Nat):Int) - 1).toNat]? =some top:=by rw [l2,←htop];exact a9t (by omega)
 conv=>whnf
 repeat' (first|refine zx ?_|refine N6 (by omega) hgl ?_|refine zd ?_ ?_<;>intro h<;>try omega|fail)<;>conv=>whnf
 ·have hlt:top*2 ^ k<524288:=by omega
  refine ⟨[],k+1,⟨rfl,rfl,trivial,⟨rfl,rfl,g9 (Int.pow_succ _ _).symm,trivial⟩⟩,⟨?_,?_⟩,?_⟩
  ·rcases Nat.lt_or_ge k 19 with h1|h1
   ·exact h1
   ·have:k=19:=by omega
    subst this
    omega
  ·rw [Int.pow_succ,←Int.mul_assoc];omega
  ·show 20 - (k+1)<20 - k
   omega
 ·have hsh:Okd [(2:Int) ^ k]:=by intro x hx;simp at hx;omega
  have mu:=b9g (dg m) [2 ^ k] (E7 m) hsh (by omega) (by simp)
  have mv:=b7N (dg n) [2 ^ k] (E7 n) hsh (by omega) (by simp)
  have ev:val [(2:Int) ^ k]=2 ^ k:=by simp [val]
  rw [ev,C1] at mu mv
  generalize hU:((m:Int)*2 ^ k).toNat=U at mu
  generalize hV:((n:Int)*2 ^ k).toNat=V at mv
  refine .inr ⟨_,_,an4 (b0f mu ⟨b38,a10 (a5X rfl),trivial⟩) rfl rfl rfl rfl,?_⟩
  conv=>whnf
  have hVe:V=n*2 ^ k:=by
   have e:((n:Int)*2 ^ k)=((n*2 ^ k:Nat):Int):=by simp
   rw [← hV,e];exact lbY _
  have hUe:U=m*2 ^ k:=by
   have e:((m:Int)*2 ^ k)=((m*2 ^ k:Nat):Int):=by simp
   rw [← hU,e];exact lbY _
  obtain ⟨lV,hvt⟩:=b8B hn htop hk1 hk2 h
  rw [← hVe] at lV hvt
  have hp1:0<2 ^ k:=Nat.pow_pos (by decide)
  have lU3:(dg m).length<=(dg U).length:=C4 (by rw [hUe];exact Nat.le_mul_of_pos_right m hp1)
  have lU2:(dg U).length<=(dg m).length+1:=O1 (by
   have h1:=P9 m
   rw [L9,hUe]
   have h2:=lbW (a:=2 ^ k) (b:=1048576) (c:=(m:Int)+1) (by omega) (by omega)
   have h3:(((m*2 ^ k:Nat)):Int)=m*2 ^ k:=by simp
   rw [Int.add_mul] at h2
   omega)
  have lU1:(a0h ((dg m).length+[(2:Int) ^ k].length) (dg U)).length<=300001:=by rw [as9 (by simpa using lU2)];simp;omega
  have l3:((dg V).map i5).length=(dg V).length:=by simp
  have lmn:(dg n).length<=(dg m).length:=C4 hmn
  have l4:(toC [[T.atm (Value.int .i64 0)]]).length=1:=rfl
  repeat' (first|refine zx ?_|refine qp (toC,a0h) ?_|refine qp toC ?_|refine E4 (by simp [toC,a0h]) (by simp [toC];omega) ?_|refine .inl ⟨_,_,a0y mv ⟨b38,a10 (a5X rfl),trivial⟩ rfl,?_⟩|refine a7a (by omega) (by omega) (by omega) (by decide) ?_|refine zd ?_ ?_<;>intro h<;>try omega|fail)<;>conv=>whnf
  have hV0:0<V:=by rw [hVe];exact Nat.mul_pos hn hp1
  refine C3 e8 (σ:=Nat × List Int × List Int) (fun|(j,u,q)=>(Jn 8++[b7 .i64 (2 ^ k),a2q 0 u,i6 (dg V),b7 .i64 (dg V).length,a2q 1 q,b7 .i64 ((j:Int) - 1)]++Jn 156,[C0 u,C0 q])) (fun x=>a8V U V ((dg U).length+1) (dg V).length x.1 x.2.1 x.2.2) (fun x=>x.1)
   ((dg U).length+1 - (dg V).length,dg U++[0],List.replicate ((dg U).length+1 - (dg V).length) 0) [some 1,some 2]
   (a8V.init hV0 (by omega)) ⟨rfl,rfl,⟨b8 rfl rfl rfl ?_ rfl,b8 rfl rfl rfl ?_ rfl,trivial⟩,⟨rfl,s7 rfl ?_,k8 rfl,g9 (by omega),s7 rfl ?_,g9 ?_,trivial⟩⟩ ?_
  ·simp [toC,B6,a0h,lbD,List.take_append,i5]
  ·show List.replicate _ _=_
   simp [toC,i5,I6]
  ·simp [toC]
  ·simp [toC]
  ·simp [toC]
  rintro ⟨j,u,q⟩ hD
  have hD:a8V U V ((dg U).length+1) (dg V).length j u q:=hD
  have hlu:=hD.lu
  have hlq:=hD.lq
  have hle:=hD.le
  have hdt:0<j->dat u (j - 1+(dg V).length)=dat u (j - 1+(dg V).length):=fun _=>rfl
  have gu0:0<j->u[0+(((j:Int) - 1)+(dg V).length).toNat]? =some (dat u (j - 1+(dg V).length)):=fun h=>T2 (by omega) (by omega)
  have gu1:0<j->u[0+(((j:Int) - 1)+(dg V).length - 1).toNat]? =some (dat u (j - 1+(dg V).length - 1)):=fun h=>T2 (by omega) (by omega)
  have d0:=hD.oku.dat (j - 1+(dg V).length)
  have d1:=hD.oku.dat (j - 1+(dg V).length - 1)
  have dv:=(E7 V).dat ((dg V).length - 1)
  have hvt2:524288<=dat (dg V) ((dg V).length - 1):=by rw [lV];exact hvt
  conv=>whnf
  repeat' (first|refine zx ?_|refine a2a (by omega) (by show _<((u.length:Nat):Int);omega) ?_|refine t6 (gu0 (by omega)) ?_|refine t6 (gu1 (by omega)) ?_|refine ⟨by decide,_,b5t (by omega) (by omega),?_⟩|refine ⟨_,b9n (by omega) (by omega) (by omega) (by omega),?_⟩|refine N6 (by omega) (a9t (by omega)) ?_|refine ⟨by omega,_,b7I (by omega) (by omega) (by omega),?_⟩|refine b7A (by omega) ?_|refine zd ?_ ?_<;>intro h<;>try omega|fail)<;>conv=>whnf
  ·have hj:0<j:=by omega
   obtain ⟨i,rfl⟩:∃i,j=i+1:=⟨j - 1,by omega⟩
   simp only [Nat.add_sub_cancel] at *
   obtain ⟨L,hL⟩:∃L,(dg V).length=L+2:=⟨(dg V).length - 2,by omega⟩
   obtain ⟨w3,w2,w0,wv,wz,wlt⟩:=hD.window rfl
   generalize hw:(u.drop i).take ((dg V).length+1)=w at w3 w2 wv wlt
   have hwo:Okd w:=by rw [← hw];exact (hD.oku.drop i).take _
   have dw:∀t,t<=(dg V).length->dat w t=dat u (i+t):=fun t ht=>by
    rw [← hw];unfold dat
    rw [lbl,lbi,if_pos (by omega),lbj,←lbl]
   have win:=Win.of (E7 V) hwo hL (by omega) (by rw [hL] at hvt2;exact hvt2) (by rw [C1];exact wlt)
   rw [dw (L+2) (by omega),dw (L+1) (by omega),dw L (by omega),C1] at win
   have eL1:(dg V).length - 1=L+1:=by omega
   have eu0:i+(L+2)=i+(dg V).length:=by omega
   have eu1:i+(L+1)=i+(dg V).length - 1:=by omega
   rw [eu0,eu1] at win
   generalize ht:dat u (i+(dg V).length)*1048576+dat u (i+(dg V).length - 1)=top2 at win
   have win':=win
   have ht0:=win.t0
   refine C3 e8 (σ:=Int × Int) (fun|(g,r)=>(Jn 8++[b7 .i64 (2 ^ k),a2q 0 u,i6 (dg V),b7 .i64 (dg V).length,a2q 1 q,b7 .i64 i,J,b7 .i64 g,b7 .i64 r]++Jn 153,[C0 u,C0 q])) (fun x=>Y8 V (val w) (dat (dg V) (L+1)) top2 x.1 x.2) (fun x=>x.1.toNat)
    (top2 / dat (dg V) (L+1),top2 % dat (dg V) (L+1)) [some 0,some 1]
    (Y8.init win) ⟨rfl,rfl,⟨b8 rfl rfl rfl rfl rfl,b8 rfl rfl rfl rfl rfl,trivial⟩,⟨rfl,s7 rfl rfl,k8 rfl,rfl,s7 rfl rfl,g9 (by omega),g9 ?_,g9 ?_,trivial⟩⟩ ?_
   ·rw [eL1]
   ·rw [eL1,Int.tmod_eq_emod_of_nonneg ht0]
   rintro ⟨g,r⟩ hG
   have hG:Y8 V (val w) (dat (dg V) (L+1)) top2 g r:=hG
   have hg0:=hG.g0
   have hgu:=hG.gu
   have hr0:=hG.r0
   have hru:=hG.ru
   have dv2:=(E7 V).dat L
   have dv1:=(E7 V).dat (L+1)
   have du2:=hD.oku.dat (i+L)
   have hgm:0<=g*dat (dg V) L∧g*dat (dg V) L<=2097152*1048576:=⟨lb0 hg0 dv2.1,Int.mul_le_mul hgu (by omega) dv2.1 (by omega)⟩
   have gv2:(dg V)[((((dg V).length:Nat):Int) - 2).toNat]? =some (dat (dg V) L):=by rw [show ((((dg V).length:Nat):Int) - 2).toNat=L by omega];exact D4 (by omega)
   have gv1:(dg V)[((((dg V).length:Nat):Int) - 1).toNat]? =some (dat (dg V) (L+1)):=by rw [show ((((dg V).length:Nat):Int) - 1).toNat=L+1 by omega];exact D4 (by omega)
   have gu2:u[0+((i:Int)+((dg V).length:Nat) - 2).toNat]? =some (dat u (i+L)):=T2 (by omega) (by omega)
   conv=>whnf
   repeat' (first|refine zx ?_|refine a2a (by omega) (by show _<((u.length:Nat):Int);omega) ?_|refine N6 (by omega) gv2 ?_|refine N6 (by omega) gv1 ?_|refine t6 gu2 ?_|refine ⟨by decide,_,b5t (by omega) (by omega),?_⟩|refine ⟨_,b9n (by omega) (by omega) (by omega) (by omega),?_⟩|refine aJ4 (by omega) (by omega) (by show _<=((u.length:Nat):Int);omega) ?_|refine zd ?_ ?_<;>intro h<;>try omega|fail)<;>conv=>whnf
   ·have hgc:1048576<=g:=by omega
    have hst:=Y8.step win hG (.inl hgc) (A6 hwo)
    exact ⟨[some 0,some 1],(g - 1,r+dat (dg V) (L+1)),⟨rfl,rfl,⟨b8 rfl rfl rfl rfl rfl,b8 rfl rfl rfl rfl rfl,trivial⟩,⟨rfl,s7 rfl rfl,rfl,rfl,s7 rfl rfl,rfl,rfl,rfl,trivial⟩⟩,hst,by have:=hst.g0;show (g - 1).toNat<g.toNat;omega⟩
   ·have hgc:r<1048576∧r*1048576+dat u (i+L)<g*dat (dg V) L:=by omega
    have hst:=Y8.step win hG (.inr hgc) (A6 hwo)
    exact ⟨[some 0,some 1],(g - 1,r+dat (dg V) (L+1)),⟨rfl,rfl,⟨b8 rfl rfl rfl rfl rfl,b8 rfl rfl rfl rfl rfl,trivial⟩,⟨rfl,s7 rfl rfl,rfl,rfl,s7 rfl rfl,rfl,rfl,rfl,trivial⟩⟩,hst,by have:=hst.g0;show (g - 1).toNat<g.toNat;omega⟩
   all_goals
    have hgc:¬(1048576<=g∨(r<1048576∧r*1048576+dat u (i+L)<g*dat (dg V) L)):=by omega
    obtain ⟨hg1,hgV⟩:=Y8.fin win hG hgc (by
     have h1:=win.Vl
     have h3:=win.v1l
     have h2:=lbW (a:=1048576) (b:=dat (dg V) (L+1)*1048576+dat (dg V) L) (by omega) (Int.le_of_lt win.P0)
     omega)
    have st:=b4O (u.take i) w (u.drop (i+((dg V).length+1))) (dg V) g hwo (E7 V) (by omega) (by omega) ⟨hg0,hg1⟩ (by rw [C1];exact hgV)
    rw [C1] at st
    obtain ⟨q0,q1,q2,q3⟩:=aQ6 hG (by omega) (A6 hwo) hg1 hgV
    have hds:=hD.step rfl hV0 ⟨q0,q1⟩ (by rw [hw];exact q2) (by rw [hw];exact q3)
    rw [hw] at hds
    generalize X4 (val w) V g=Q at st q0 q1 q2 q3 hds
    rw [← w3,w2] at st
    generalize hu':u.take i++a0h ((dg V).length+1) (dg (val w - Q*V).toNat)++u.drop (i+((dg V).length+1))=u' at st hds
    refine .inr ⟨_,_,R8 (H':=[C0 u',C0 q]) [0] st (b52 (by rw [w0];omega) (by omega)) rfl rfl (by decide) ?_ (by simp) (by simp) rfl rfl rfl ?_ ?_,?_⟩
    ·intro i k hk
     match i,hk with
     |0,hk=>
      injection hk with hk
      subst hk
      exact ⟨rfl,rfl,a3D _,_,rfl,H9 rfl⟩
    ·intro i k hk
     match i,hk with
     |0,hk=>
      injection hk with hk
      subst hk
      exact ⟨_,rfl,H9 rfl⟩
    ·intro j hj hn
     match j,hj with
     |0,_=>simp at hn
     |1,_=>rfl
    conv=>whnf
    have hlu':=hds.lu
    refine zz ?_
    conv=>whnf
    repeat' (first|refine zx ?_|refine t6 (T2 rfl (by omega)) ?_|refine zd ?_ ?_<;>intro h<;>try omega|fail)<;>conv=>whnf
    exact ⟨[some 0,some 1],(i,u',q.set i Q),⟨rfl,rfl,⟨b8 rfl rfl rfl rfl rfl,b8 rfl rfl rfl (R3 (i:=i) (n:=(i:Int)) (by simp)) rfl,trivial⟩,⟨rfl,s7 rfl (hlu.trans hlu'.symm),rfl,rfl,s7 rfl (by simp),rfl,trivial⟩⟩,hds,by show i<i+1;omega⟩
  ·have hj:j=0:=by omega
   subst hj
   obtain ⟨fq,fu⟩:=hD.fin hV0
   have tu:=a3u u (by omega)
   rw [V7 hD.oku,fu,lbY] at tu
   have tq:=a3u q (by omega)
   rw [V7 hD.okq,fq,lbY] at tq
   have lUV:(dg (U % V)).length<=(dg U).length:=C4 (Nat.mod_le _ _)
   have sh:=b1E (dg (U % V)) (2 ^ k) (E7 _) (by omega) (by omega) (by omega)
   have e1:U % V / 2 ^ k=m % n:=by rw [hUe,hVe,Nat.mul_mod_mul_right,Nat.mul_div_cancel _ hp1]
   have e2:U / V=m / n:=by rw [hUe,hVe,Nat.mul_div_mul_right _ _ hp1]
   have e3:((U % V:Nat):Int) / 2 ^ k=((m % n:Nat):Int):=by rw [← e1];simp
   rw [C1,e3,lbY] at sh
   rw [e2] at tq
   refine .inr ⟨_,_,I1 [0] tu ⟨a10 (D6 (by simp) rfl (by intro h;cases h) rfl rfl (by simp)),trivial⟩ rfl,?_⟩
   conv=>whnf
   repeat' (first|refine zx ?_|refine qp sh ?_|refine zd ?_ ?_<;>intro h<;>try omega|fail)<;>conv=>whnf
   refine .inr ⟨_,_,I1 [1] tq ⟨a10 (D6 (by simp) rfl (by intro h;cases h) rfl rfl (by simp)),trivial⟩ rfl,?_⟩
   conv=>whnf
   exact v8 ⟨rfl,rfl,trivial⟩
theorem b7G (m n:Nat) (hn:0<n) (lm:(dg m).length<=300000) (ln:(dg n).length<=300000):
 e7 Tryz.prog 253 [i6 (dg m),i6 (dg n)] [] (b54 m n) []:=by
 rcases Nat.lt_or_ge m n with h|h
 ·exact b7U m n hn h (by omega) (by omega)
 ·have h1:(dg n).length≠0:=by rw [Ne,List.length_eq_zero_iff,U2];omega
  by_cases hl:(dg n).length=1
  ·exact b8g m n hn h hl (by omega)
  ·exact b8b m n hn h (by omega) lm ln
open St1 St2 St3 St4 St5 St6 St7 St8 StA StB
def bl (z:Int):Nat:=(dg z.natAbs).length
theorem a69 (m n:Nat):(dg (m+n)).length<=max (dg m).length (dg n).length+1:=by
 refine O1 ?_
 have h1:=P9 m
 have h2:=P9 n
 have h3:=a2c (Nat.le_max_left (dg m).length (dg n).length)
 have h4:=a2c (Nat.le_max_right (dg m).length (dg n).length)
 rw [L9]
 omega
theorem ae4 (m n:Nat):(dg (m*n)).length<=(dg m).length+(dg n).length:=by
 refine O1 ?_
 have h1:=P9 m
 have h2:=P9 n
 rw [a7I]
 have h3:(m:Int)*n<=m*(pw (dg n).length):=lbW (by omega) (by omega)
 have h4:(m:Int)*pw (dg n).length<pw (dg m).length*pw (dg n).length:=Int.mul_lt_mul_of_pos_right h1 (T0 _)
 have h5:((m*n:Nat):Int)=m*n:=by simp
 omega
theorem a3L (x:Int):bl (-x)=bl x:=by unfold bl;rw [Int.natAbs_neg]
theorem aB2 (x y:Int):bl (x+y)<=max (bl x) (bl y)+1:=lbS (C4 (Int.natAbs_add_le x y)) (a69 _ _)
theorem R9 (x y:Int):bl (x*y)<=bl x+bl y:=by unfold bl;rw [Int.natAbs_mul];exact ae4 _ _
theorem b0U {x y:Int} (h:x.natAbs<=y.natAbs):bl x<=bl y:=C4 h
theorem a0Y {x:Int} (h0:-9223372036854775808<=x) (h1:x<=9223372036854775807):bl x<=4:=O1 (by simp only [pw];omega)
theorem B9 {x:Int} (h0:-1048575<=x) (h1:x<=1048575):bl x<=1:=O1 (by simp only [pw];omega)
theorem aX3 (x y:Int) {n:Nat} (lx:bl x<=n) (ly:bl y<=n):bl (Int.gcd x y)<=n:=by
 by_cases h:x=0
 ·subst h;unfold bl at *;rw [Int.gcd_zero_left];simpa using ly
 ·refine lbS (C4 ?_) lx
  simp only [Int.natAbs_natCast]
  exact Int.gcd_le_natAbs_left y h
def rl (x:Rat):Nat:=max (bl x.num) (bl x.den)
theorem U8 (x:Rat):bl x.num<=rl x:=Nat.le_max_left _ _
theorem V3 (x:Rat):bl x.den<=rl x:=Nat.le_max_right _ _
theorem a0m {p q:Int} (hq:q≠0):rl (Rat.divInt p q)<=max (bl p) (bl q):=by
 unfold rl
 rw [Rat.num_divInt,Rat.den_divInt,if_neg hq]
 have h1:bl (q.sign*p / (q.gcd p:Nat))<=bl p:=b0U (by
  refine lbS (Int.natAbs_ediv_le_natAbs _ _) ?_
  rw [Int.natAbs_mul]
  have:q.sign.natAbs=1:=by
   rcases Int.lt_trichotomy q 0 with h|h|h
   ·rw [Int.sign_eq_neg_one_of_neg h];rfl
   ·exact absurd h hq
   ·rw [Int.sign_eq_one_of_pos h];rfl
  rw [this,Nat.one_mul];exact lbR _)
 have h2:bl ((q.natAbs / q.gcd p:Nat):Int)<=bl q:=b0U (by simp only [Int.natAbs_natCast];exact Nat.div_le_self _ _)
 omega
theorem b1e (x y:Rat):x+y=Rat.divInt (x.num*y.den+y.num*x.den) (x.den*y.den):=by rw [Rat.add_def',←Rat.divInt_ofNat,Int.natCast_mul]
theorem b0G (x y:Rat):x*y=Rat.divInt (x.num*y.num) (x.den*y.den):=by rw [Rat.mul_def',←Rat.divInt_ofNat,Int.natCast_mul]
theorem b6c (x y:Rat):x / y=Rat.divInt (x.num*y.den) (x.den*y.num):=by
 rw [Rat.div_def,Rat.inv_def]
 conv=>lhs;rw [← Rat.num_divInt_den x]
 rw [Rat.divInt_mul_divInt]
theorem aV6 (x:Rat):(x.den:Int)≠0:=by have:=x.den_pos;omega
theorem a9m (x y:Rat):(x.den:Int)*y.den≠0:=Int.mul_ne_zero (aV6 x) (aV6 y)
theorem a2s (x y:Rat):rl (x+y)<=rl x+rl y+1:=by
 rw [b1e]
 have h1:=aB2 (x.num*y.den) (y.num*x.den)
 have h2:=R9 x.num y.den
 have h3:=R9 y.num x.den
 have h4:=R9 x.den y.den
 have:=a0m (p:=x.num*y.den+y.num*x.den) (a9m x y)
 unfold rl at *
 omega
theorem a2w (x:Rat):rl (-x)=rl x:=by unfold rl;rw [Rat.neg_num,Rat.neg_den,a3L]
theorem aW6 (x y:Rat):rl (x - y)<=rl x+rl y+1:=by rw [Rat.sub_eq_add_neg];have:=a2s x (-y);rw [a2w] at this;exact this
theorem aZ6 (x y:Rat):rl (x*y)<=rl x+rl y:=by
 rw [b0G]
 have h2:=R9 x.num y.num
 have h4:=R9 x.den y.den
 have:=a0m (p:=x.num*y.num) (a9m x y)
 unfold rl at *
 omega
theorem a0W (n:Int):rl (n:Rat)=max (bl n) 1:=by unfold rl;rw [Rat.num_intCast,Rat.den_intCast];rfl
def a1Y (x y:Rat):Int:=if x<y then -1 else if y<x then 1 else 0
theorem b5w {x:Rat}:x.num<0↔x<0:=by rw [Rat.lt_iff];simp
theorem b4v {x:Rat}:0<x.num↔0<x:=by rw [Rat.lt_iff];simp
def sgR (x:Rat):Int:=if x<0 then -1 else if 0<x then 1 else 0
theorem ag9 (x:Rat):x.num.sign=sgR x:=by
 unfold sgR
 by_cases h:x<0
 ·rw [if_pos h,Int.sign_eq_neg_one_of_neg (b5w.2 h)]
 ·rw [if_neg h]
  by_cases h2:0<x
  ·rw [if_pos h2,Int.sign_eq_one_of_pos (b4v.2 h2)]
  ·rw [if_neg h2]
   have h3:¬x.num<0:=fun e=>h (b5w.1 e)
   have h4:¬0<x.num:=fun e=>h2 (b4v.1 e)
   rw [show x.num=0 by omega];rfl
open St1 St2 St3 St4 St5 St6 St7 St8 StA StB
set_option maxRecDepth 100000
set_option maxHeartbeats 1000000
theorem b5e (m n:Nat) (lm:(dg m).length<=300000) (ln:(dg n).length<=300000):
 e7 Tryz.prog 260 [i6 (dg m),i6 (dg n)] [] (i6 (dg (m+n))) []:=by
 have h:=b9K (dg m) (dg n) (E7 m) (E7 n) (by omega) (by omega)
 rw [C1,C1,show ((m:Int)+n).toNat=m+n by omega] at h
 exact h
theorem a9E (m n:Nat) (lm:(dg m).length<=300000) (h:n<=m):
 e7 Tryz.prog 261 [i6 (dg m),i6 (dg n)] [] (i6 (dg (m - n))) []:=by
 have h:=b9w (dg m) (dg n) (E7 m) (E7 n) (by omega) (C4 h) (by rw [C1,C1];omega)
 rw [C1,C1,show ((m:Int) - n).toNat=m - n by omega] at h
 exact h
theorem b8D (m n:Nat) (lm:(dg m).length<=300000) (ln:(dg n).length<=300000):
 e7 Tryz.prog 264 [i6 (dg m),i6 (dg n)] [] (i6 (dg (m*n))) []:=by
 have h:=b7N (dg m) (dg n) (E7 m) (E7 n) (by omega) (by omega)
 rw [C1,C1,show ((m:Int)*n).toNat=m*n by rw [← Int.natCast_mul];rfl] at h
 exact h
theorem b8A (m n:Nat) (lm:(dg m).length<=300000) (ln:(dg n).length<=300000):
 e7 Tryz.prog 189 [i6 (dg m),i6 (dg n)] [] (b7 .i64 (V5 m n)) []:=by
 have h:=a2C (dg m) (dg n) (a1L m) (a1L n) (by omega) (by omega)
 rw [C1,C1] at h
 exact h
theorem B3 (s:Int) (k:Nat) (h:s=1∨s=-1∨k=0) (lk:(dg k).length<=700000):
 e7 Tryz.prog 191 [b7 .i64 s,i6 (dg k)] [] (bgS (bz (s*k))) []:=by
 have e:=aO7 s (dg k) (by omega)
 rw [b3w (E7 k) (by rw [C1];omega),C1] at e
 exact e
def Sg (s:Int) (m:Nat):Prop:=(s=0∧m=0)∨(s=1∧0<m)∨(s=-1∧0<m)
theorem ar0 (x:Int):Sg x.sign x.natAbs:=by
 rcases P7 x with ⟨e,h1⟩|⟨e,h1⟩|⟨e,h1⟩
 ·exact .inl ⟨e,by omega⟩
 ·exact .inr (.inl ⟨e,by omega⟩)
 ·exact .inr (.inr ⟨e,by omega⟩)
theorem aI7 {s:Int} {m:Nat} (h:Sg s m):bz (s*m)=⟨s,dg m⟩:=by
 rcases h with ⟨rfl,rfl⟩|⟨rfl,h⟩|⟨rfl,h⟩
 ·rfl
 ·unfold bz;rw [Int.one_mul,Int.sign_eq_one_of_pos (by omega)];rfl
 ·unfold bz;rw [Int.sign_eq_neg_one_of_neg (by omega)];congr 2;omega
theorem a1F (s:Int) (m:Nat) (h:Sg s m) (lm:(dg m).length<=300000):e7 Tryz.prog 181 [bgS ⟨s,dg m⟩] [] (i8 true) []:=by
 have:=a2W ⟨s,dg m⟩ (show (dg m).length<=1000000 by omega)
 rw [← aI7 h,a2J,aI7 h] at this
 exact this
theorem aR2 {b b':Bg} {e:Int} {H1:Hp} (h:b=b'):Fin 0 (.tup [bgS b,b7 .i64 e]) H1 (.tup [bgS b',b7 .i64 e]) []:=by
 subst h;exact v8 ⟨⟨rfl,rfl,trivial⟩,rfl,trivial⟩
theorem a0z {a b c d:Nat} (h:a<=max b c+1) (h2:max b c+1<=d):a<=d:=lbS h h2
theorem b8j (s t:Int) (m n:Nat) (hs:Sg s m) (ht:Sg t n) (lm:(dg m).length<=200000) (ln:(dg n).length<=200000):
 e7 Tryz.prog 186 [bgS ⟨s,dg m⟩,bgS ⟨t,dg n⟩] [] (.tup [bgS (bz (s*m+t*n)),b7 .i64 0]) []:=by
 have r1:=a1F s m hs (by omega)
 have r2:=a1F t n ht (by omega)
 have ad:=b5e m n (by omega) (by omega)
 have c:=b8A m n (by omega) (by omega)
 have ls:=a69 m n
 have fin:∀(z:Int) (H1:Hp),z=s*m+t*n->Fin 0 (.tup [bgS (if true then bz z else ⟨0,[]⟩),b7 .i64 0]) H1 (.tup [bgS (bz (s*m+t*n)),b7 .i64 0]) []:=fun z H1 h=>aR2 (by rw [h];rfl)
 rcases hs with ⟨rfl,rfl⟩|⟨rfl,h1⟩|⟨rfl,h1⟩<;>rcases ht with ⟨rfl,rfl⟩|⟨rfl,h2⟩|⟨rfl,h2⟩
 case inl.inl=>
  have sg:=B3 (0) _ (by omega) (a0z ls (by omega))
  have co:=a3a (0) (0)
  (refine ac Tryz.func186 ?_;(conv=>whnf);repeat (refine zy ?_;conv=>whnf))
  repeat' (first|refine zx ?_|refine qp r1 ?_|refine qp r2 ?_|refine qp ad ?_|refine qp sg ?_|refine qp (K5 true _) ?_|refine qp co ?_|refine ⟨_,L8 (y:=0) rfl (by decide) (by decide),?_⟩|refine zd ?_ ?_<;>intro h<;>try omega|fail)<;>conv=>whnf
  all_goals first|omega|exact fin _ _ (by omega)
 case inl.inr.inl=>
  have sg:=B3 (1) _ (by omega) (a0z ls (by omega))
  have co:=a3a (0) (1)
  (refine ac Tryz.func186 ?_;(conv=>whnf);repeat (refine zy ?_;conv=>whnf))
  repeat' (first|refine zx ?_|refine qp r1 ?_|refine qp r2 ?_|refine qp ad ?_|refine qp sg ?_|refine qp (K5 true _) ?_|refine qp co ?_|refine ⟨_,L8 (y:=0) rfl (by decide) (by decide),?_⟩|refine zd ?_ ?_<;>intro h<;>try omega|fail)<;>conv=>whnf
  all_goals first|omega|exact fin _ _ (by omega)
 case inl.inr.inr=>
  have sg:=B3 (-1) _ (by omega) (a0z ls (by omega))
  have co:=a3a (0) (-1)
  (refine ac Tryz.func186 ?_;(conv=>whnf);repeat (refine zy ?_;conv=>whnf))
  repeat' (first|refine zx ?_|refine qp r1 ?_|refine qp r2 ?_|refine qp ad ?_|refine qp sg ?_|refine qp (K5 true _) ?_|refine qp co ?_|refine ⟨_,L8 (y:=0) rfl (by decide) (by decide),?_⟩|refine zd ?_ ?_<;>intro h<;>try omega|fail)<;>conv=>whnf
  all_goals first|omega|exact fin _ _ (by omega)
 case inr.inl.inl=>
  have sg:=B3 (1) _ (by omega) (a0z ls (by omega))
  have co:=a3a (1) (0)
  (refine ac Tryz.func186 ?_;(conv=>whnf);repeat (refine zy ?_;conv=>whnf))
  repeat' (first|refine zx ?_|refine qp r1 ?_|refine qp r2 ?_|refine qp ad ?_|refine qp sg ?_|refine qp (K5 true _) ?_|refine qp co ?_|refine ⟨_,L8 (y:=0) rfl (by decide) (by decide),?_⟩|refine zd ?_ ?_<;>intro h<;>try omega|fail)<;>conv=>whnf
  all_goals first|omega|exact fin _ _ (by omega)
 case inr.inr.inl=>
  have sg:=B3 (-1) _ (by omega) (a0z ls (by omega))
  have co:=a3a (-1) (0)
  (refine ac Tryz.func186 ?_;(conv=>whnf);repeat (refine zy ?_;conv=>whnf))
  repeat' (first|refine zx ?_|refine qp r1 ?_|refine qp r2 ?_|refine qp ad ?_|refine qp sg ?_|refine qp (K5 true _) ?_|refine qp co ?_|refine ⟨_,L8 (y:=0) rfl (by decide) (by decide),?_⟩|refine zd ?_ ?_<;>intro h<;>try omega|fail)<;>conv=>whnf
  all_goals first|omega|exact fin _ _ (by omega)
 case inr.inl.inr.inl=>
  have sg:=B3 (1) _ (by omega) (a0z ls (by omega))
  have co:=a3a (1) (1)
  (refine ac Tryz.func186 ?_;(conv=>whnf);repeat (refine zy ?_;conv=>whnf))
  repeat' (first|refine zx ?_|refine qp r1 ?_|refine qp r2 ?_|refine qp ad ?_|refine qp sg ?_|refine qp (K5 true _) ?_|refine qp co ?_|refine ⟨_,L8 (y:=1) rfl (by decide) (by decide),?_⟩|refine zd ?_ ?_<;>intro h<;>try omega|fail)<;>conv=>whnf
  all_goals first|omega|exact fin _ _ (by omega)
 case inr.inr.inr.inr=>
  have sg:=B3 (-1) _ (by omega) (a0z ls (by omega))
  have co:=a3a (-1) (-1)
  (refine ac Tryz.func186 ?_;(conv=>whnf);repeat (refine zy ?_;conv=>whnf))
  repeat' (first|refine zx ?_|refine qp r1 ?_|refine qp r2 ?_|refine qp ad ?_|refine qp sg ?_|refine qp (K5 true _) ?_|refine qp co ?_|refine ⟨_,L8 (y:=1) rfl (by decide) (by decide),?_⟩|refine zd ?_ ?_<;>intro h<;>try omega|fail)<;>conv=>whnf
  all_goals first|omega|exact fin _ _ (by omega)
 case inr.inl.inr.inr=>
  rcases Nat.lt_or_ge m n with hmn|hmn
  ·rw [a38 (by omega)] at c
   have l3:=C4 (Nat.sub_le n m)
   (refine ac Tryz.func186 ?_;(conv=>whnf);repeat (refine zy ?_;conv=>whnf))
   repeat' (first|refine zx ?_|refine qp r1 ?_|refine qp r2 ?_|refine qp c ?_|refine qp (a9E n m (by omega) (by omega)) ?_|refine qp (B3 (-1) (n - m) (by omega) (by omega)) ?_|refine qp (K5 true _) ?_|refine ⟨_,L8 (y:=-1) rfl (by decide) (by decide),?_⟩|refine zd ?_ ?_<;>intro h<;>try omega|fail)<;>conv=>whnf
   all_goals first|omega|exact fin _ _ (by omega)
  ·have hc:0<=V5 m n:=by unfold V5;split<;>(try split)<;>omega
   have l3:=C4 (Nat.sub_le m n)
   (refine ac Tryz.func186 ?_;(conv=>whnf);repeat (refine zy ?_;conv=>whnf))
   repeat' (first|refine zx ?_|refine qp r1 ?_|refine qp r2 ?_|refine qp c ?_|refine qp (a9E m n (by omega) (by omega)) ?_|refine qp (B3 (1) (m - n) (by omega) (by omega)) ?_|refine qp (K5 true _) ?_|refine ⟨_,L8 (y:=-1) rfl (by decide) (by decide),?_⟩|refine zd ?_ ?_<;>intro h<;>try omega|fail)<;>conv=>whnf
   all_goals first|omega|exact fin _ _ (by omega)
 case inr.inr.inr.inl=>
  rcases Nat.lt_or_ge m n with hmn|hmn
  ·rw [a38 (by omega)] at c
   have l3:=C4 (Nat.sub_le n m)
   (refine ac Tryz.func186 ?_;(conv=>whnf);repeat (refine zy ?_;conv=>whnf))
   repeat' (first|refine zx ?_|refine qp r1 ?_|refine qp r2 ?_|refine qp c ?_|refine qp (a9E n m (by omega) (by omega)) ?_|refine qp (B3 (1) (n - m) (by omega) (by omega)) ?_|refine qp (K5 true _) ?_|refine ⟨_,L8 (y:=-1) rfl (by decide) (by decide),?_⟩|refine zd ?_ ?_<;>intro h<;>try omega|fail)<;>conv=>whnf
   all_goals first|omega|exact fin _ _ (by omega)
  ·have hc:0<=V5 m n:=by unfold V5;split<;>(try split)<;>omega
   have l3:=C4 (Nat.sub_le m n)
   (refine ac Tryz.func186 ?_;(conv=>whnf);repeat (refine zy ?_;conv=>whnf))
   repeat' (first|refine zx ?_|refine qp r1 ?_|refine qp r2 ?_|refine qp c ?_|refine qp (a9E m n (by omega) (by omega)) ?_|refine qp (B3 (-1) (m - n) (by omega) (by omega)) ?_|refine qp (K5 true _) ?_|refine ⟨_,L8 (y:=-1) rfl (by decide) (by decide),?_⟩|refine zd ?_ ?_<;>intro h<;>try omega|fail)<;>conv=>whnf
   all_goals first|omega|exact fin _ _ (by omega)
open St1 St2 St3 St4 St5 St6 St7 St8 StA StB
set_option maxRecDepth 100000
theorem sgm (x:Int):x.sign*x.natAbs=x:=Int.sign_mul_natAbs x
theorem a4J (x:Int) (lx:bl x<=300000):e7 Tryz.prog 181 [bgS (bz x)] [] (i8 true) []:=a1F _ _ (ar0 x) lx
theorem b8r (x y:Int) (lx:bl x<=200000) (ly:bl y<=200000):e7 Tryz.prog 186 [bgS (bz x),bgS (bz y)] [] (.tup [bgS (bz (x+y)),b7 .i64 0]) []:=by
 have h:=b8j _ _ _ _ (ar0 x) (ar0 y) lx ly
 rw [sgm,sgm] at h
 exact h
theorem a7V (x:Int) (lx:bl x<=300000):e7 Tryz.prog 185 [bgS (bz x)] [] (bgS (bz (-x))) []:=by
 have h:=b8M (bz x) (show bl x<=1000000 by omega)
 unfold b1S at h
 rw [a2J,a6C] at h
 exact h
abbrev bg2 (s:Int) (l:List Int):S:=.agg [.t (ti s),.t (E5 l)]
theorem b98 (s t:Int) (m n:Nat) (hs:Sg s m) (ht:Sg t n) (lm:(dg m).length<=200000) (ln:(dg n).length<=200000):
 e7 Tryz.prog 190 [bgS ⟨s,dg m⟩,bgS ⟨t,dg n⟩] [] (.tup [bgS (bz ((s*t)*(m*n:Nat))),b7 .i64 0]) []:=by
 have r1:=a1F s m hs (by omega)
 have r2:=a1F t n ht (by omega)
 have mu:=b8D m n (by omega) (by omega)
 have ls:=ae4 m n
 have hst:-1<=s*t∧s*t<=1∧(s*t=1∨s*t=-1∨m*n=0):=by
  rcases hs with ⟨rfl,rfl⟩|⟨rfl,h1⟩|⟨rfl,h1⟩<;>rcases ht with ⟨rfl,rfl⟩|⟨rfl,h2⟩|⟨rfl,h2⟩<;>simp
 obtain ⟨q1,q2,q3⟩:=hst
 have sg:=B3 (s*t) (m*n) q3 (by omega)
 have ck:=K5 true (bz ((s*t)*(m*n:Nat)))
 (refine ac Tryz.func190 ?_;(conv=>whnf);repeat (refine zy ?_;conv=>whnf))
 repeat' (first|refine zx ?_|refine qp r1 ?_|refine qp r2 ?_|refine qp mu ?_|refine qp sg ?_|refine qp ck ?_|refine ⟨_,L8 (y:=s*t) rfl (by omega) (by omega),?_⟩|refine zd ?_ ?_<;>intro h<;>try omega|fail)<;>conv=>whnf
 all_goals first|(exfalso;simp_all;done)|exact aR2 rfl
theorem b8R (x y:Int) (lx:bl x<=200000) (ly:bl y<=200000):e7 Tryz.prog 190 [bgS (bz x),bgS (bz y)] [] (.tup [bgS (bz (x*y)),b7 .i64 0]) []:=by
 have h:=b98 _ _ _ _ (ar0 x) (ar0 y) lx ly
 have e:(x.sign*y.sign)*((x.natAbs*y.natAbs:Nat):Int)=x*y:=by
  rw [Int.natCast_mul]
  have h1:=sgm x
  have h2:=sgm y
  grind
 rw [e] at h
 exact h
theorem aT7 (x y:Int) (lx:bl x<=300000) (ly:bl y<=300000):e7 Tryz.prog 120 [bgS (bz x),bgS (bz y)] [] (b7 .i64 (V5 x y)) []:=by
 have h:=b0b (bz x) (bz y) (show bl x<=1000000 by omega) (show bl y<=1000000 by omega)
 unfold b2o at h
 rw [a2J,a2J,a6C,a6C] at h
 exact h
theorem b6e {b b' c c':Bg} {e:Int} {H1:Hp} (h:b=b') (h2:c=c'):Fin 0 (.tup [bgS b,bgS c,b7 .i64 e]) H1 (.tup [bgS b',bgS c',b7 .i64 e]) []:=by
 subst h h2;exact v8 ⟨⟨rfl,rfl,trivial⟩,⟨rfl,rfl,trivial⟩,rfl,trivial⟩
theorem b9p (s:Int) (m n:Nat) (hs:Sg s m) (hn:0<n) (lm:(dg m).length<=200000) (ln:(dg n).length<=200000):
 e7 Tryz.prog 262 [bgS ⟨s,dg m⟩,bgS ⟨1,dg n⟩] [] (.tup [bgS (bz (s*m / n)),bgS (bz (s*m % n)),b7 .i64 0]) []:=by
 show e7 Tryz.prog 262 [bg2 s (dg m),bg2 1 (dg n)] [] _ []
 have r1:=a1F s m hs (by omega)
 have r2:=a1F 1 n (.inr (.inl ⟨rfl,hn⟩)) (by omega)
 have dv:=b7G m n hn (by omega) (by omega)
 have lq:=C4 (Nat.div_le_self m n)
 have hr:=Nat.mod_lt m hn
 have lr:=C4 (Nat.le_of_lt hr)
 have lr2:((dg (m % n)).map i5).length=(dg (m % n)).length:=by simp
 have hz:(dg (m % n)).length=0↔m % n=0:=by rw [List.length_eq_zero_iff,U2]
 have hm:=Nat.div_add_mod m n
 have fin:∀(a b:Int) (H1:Hp),a=s*m / n->b=s*m % n->Fin 0 (.tup [bgS (bz a),bgS (bz b),b7 .i64 0]) H1 (.tup [bgS (bz (s*m / n)),bgS (bz (s*m % n)),b7 .i64 0]) []:=fun a b H1 h1 h2=>b6e (by rw [h1]) (by rw [h2])
 rcases hs with ⟨rfl,rfl⟩|⟨rfl,h1⟩|⟨rfl,h1⟩
 ·have s1:=B3 0 (0 / n) (by simp) (by omega)
  have s2:=B3 0 (0 % n) (by simp) (by omega)
  (refine ac Tryz.func262 ?_;(conv=>whnf);repeat (refine zy ?_;conv=>whnf))
  repeat' (first|refine zx ?_|refine qp r1 ?_|refine qp r2 ?_|refine qp dv ?_|refine qp s1 ?_|refine qp s2 ?_|refine ⟨_,L8 (y:=0) rfl (by decide) (by decide),?_⟩|refine zd ?_ ?_<;>intro h<;>try omega|fail)<;>conv=>whnf
  all_goals first|omega|exact fin _ _ _ (by first|rfl|simp) (by first|rfl|simp)
 ·have s1:=B3 1 (m / n) (by simp) (by omega)
  have s2:=B3 1 (m % n) (by simp) (by omega)
  (refine ac Tryz.func262 ?_;(conv=>whnf);repeat (refine zy ?_;conv=>whnf))
  repeat' (first|refine zx ?_|refine qp r1 ?_|refine qp r2 ?_|refine qp dv ?_|refine qp s1 ?_|refine qp s2 ?_|refine ⟨_,L8 (y:=1) rfl (by decide) (by decide),?_⟩|refine zd ?_ ?_<;>intro h<;>try omega|fail)<;>conv=>whnf
  all_goals first|omega|exact fin _ _ _ (by first|rfl|simp) (by first|rfl|simp)
 ·by_cases h0:m % n=0
  ·have hz0:=hz.2 h0
   have s1:=B3 (-1) (m / n) (by simp) (by omega)
   have s2:=B3 (-1) (m % n) (by simp) (by omega)
   have e1:-1*((m / n:Nat):Int)=-1*(m:Int) / n:=by
    have e:(m:Int)=n*(m / n:Nat):=by rw [← Int.natCast_mul];congr 1;omega
    rw [e,show -1*((n:Int)*(m / n:Nat))=n*(-1*(m / n:Nat)) by grind,Int.mul_ediv_cancel_left _ (by omega)]
   have e2:-1*((m % n:Nat):Int)=-1*(m:Int) % n:=by
    have e:(m:Int)=n*(m / n:Nat):=by rw [← Int.natCast_mul];congr 1;omega
    rw [h0,e,show -1*((n:Int)*(m / n:Nat))=n*(-1*(m / n:Nat)) by grind,Int.mul_emod_right]
    simp
   (refine ac Tryz.func262 ?_;(conv=>whnf);repeat (refine zy ?_;conv=>whnf))
   repeat' (first|refine zx ?_|refine qp r1 ?_|refine qp r2 ?_|refine qp dv ?_|refine qp s1 ?_|refine qp s2 ?_|refine ⟨_,L8 (y:=-1) rfl (by decide) (by decide),?_⟩|refine zd ?_ ?_<;>intro h<;>try omega|fail)<;>conv=>whnf
   all_goals first|omega|exact fin _ _ _ e1 e2
  ·have hz0:(dg (m % n)).length≠0:=fun h=>h0 (hz.1 h)
   have one:dg 1=[1]:=rfl
   have ad:=b5e (m / n) 1 (by omega) (by simp [one])
   have sb:=a9E n (m % n) (by omega) (by omega)
   have l1:=a69 (m / n) 1
   have l2:=C4 (Nat.sub_le n (m % n))
   have s1:=B3 (-1) (m / n+1) (by simp) (by rw [one] at l1;simp at l1;omega)
   have s2:=B3 1 (n - m % n) (by simp) (by omega)
   have key:(-1*(m:Int))=(n - m % n:Nat)+n*(-1*((m / n+1:Nat):Int)):=by
    have e:(m:Int)=n*(m / n:Nat)+(m % n:Nat):=by rw [← Int.natCast_mul];omega
    have e2:((n - m % n:Nat):Int)=n - (m % n:Nat):=by omega
    have e3:((m / n+1:Nat):Int)=(m / n:Nat)+1:=by omega
    rw [e2,e3]
    grind
   have e1:-1*((m / n+1:Nat):Int)=-1*(m:Int) / n:=by
    rw [key,Int.add_mul_ediv_left _ _ (by omega),Int.ediv_eq_zero_of_lt (by omega) (by omega)]
    simp
   have e2:1*((n - m % n:Nat):Int)=-1*(m:Int) % n:=by
    rw [key,Int.add_mul_emod_self_left,Int.emod_eq_of_lt (by omega) (by omega)]
    simp
   (refine ac Tryz.func262 ?_;(conv=>whnf);repeat (refine zy ?_;conv=>whnf))
   repeat' (first|refine zx ?_|refine qp r1 ?_|refine qp r2 ?_|refine qp dv ?_|refine qp s1 ?_|refine qp s2 ?_|refine qp sb ?_|refine .inl ⟨_,_,a0y ad ⟨b38,a10 (a5X rfl),trivial⟩ rfl,?_⟩|refine ⟨_,L8 (y:=-1) rfl (by decide) (by decide),?_⟩|refine zd ?_ ?_<;>intro h<;>try omega|fail)<;>conv=>whnf
   all_goals first|omega|exact fin _ _ _ e1 e2
theorem av5 (x y:Int) (hy:0<y) (lx:bl x<=200000) (ly:bl y<=200000):e7 Tryz.prog 262 [bgS (bz x),bgS (bz y)] [] (.tup [bgS (bz (x / y)),bgS (bz (x % y)),b7 .i64 0]) []:=by
 have h:=b9p _ _ y.natAbs (ar0 x) (by omega) lx ly
 rw [sgm,show (y.natAbs:Int)=y by omega] at h
 unfold bz at *
 rw [Int.sign_eq_one_of_pos hy]
 exact h
open St1 St2 St3 St4 St5 St6 St7 St8 StA StB
set_option maxRecDepth 100000
abbrev b8k:Blk:={ mode:=.live,elem:=84,size:=2,rows:=[[I6 (.int .i64 0),I6 (.slice none 0 0)]],box:=true }
theorem a57:K7 [[I6 (.int .i64 0),I6 (.slice none 0 0)]]:=by
 intro r hr c hc
 simp at hr
 subst hr
 simp at hc
 rcases hc with rfl|rfl<;>rfl
structure ba1 (x y:Int) (X Y:Nat):Prop where
 g:Nat.gcd X Y=Nat.gcd x.natAbs y.natAbs
 lx:(dg X).length<=200000
 ly:(dg Y).length<=200000
theorem aY5 (x y:Int) (lx:bl x<=200000) (ly:bl y<=200000):e7 Tryz.prog 182 [bgS (bz x),bgS (bz y)] [] (.tup [bgS (bz (Int.gcd x y)),b7 .i64 0]) []:=by
 have r1:=a4J x (by omega)
 have r2:=a4J y (by omega)
 have cl:=a97 (bz x).dl (show bl x<=1000000 by omega)
 (refine ac Tryz.func182 ?_;(conv=>whnf);repeat (refine zy ?_;conv=>whnf))
 repeat' (first|refine zx ?_|refine qp r1 ?_|refine qp r2 ?_|refine qp cl ?_|refine zd ?_ ?_<;>intro h<;>try omega|fail)<;>conv=>whnf
 all_goals first
  |(exfalso;simp_all;done)
  |skip
 refine C3 e8 (σ:=Nat × Nat) (fun|(X,Y)=>([J,J,J,J,S.c (C.ptr 0 0 0),J,i6 (dg X),i6 (dg Y)]++Jn 36,[b8k])) (fun s=>ba1 x y s.1 s.2) (fun s=>s.2) (x.natAbs,y.natAbs) [some 2]
  ⟨rfl,lx,ly⟩ ⟨rfl,rfl,⟨⟨rfl,rfl,rfl,.inl ⟨rfl,a57⟩⟩,trivial⟩,⟨⟨rfl,rfl,rfl⟩,rfl,rfl,trivial⟩⟩ ?_
 rintro ⟨X,Y⟩ hI
 have hI:ba1 x y X Y:=hI
 obtain ⟨g1,g2,g3⟩:=hI
 have l2:((dg Y).map i5).length=(dg Y).length:=by simp
 conv=>whnf
 by_cases hY:0<Y
 ·have hp:(dg Y).length≠0:=by rw [Ne,List.length_eq_zero_iff,U2];omega
  have dv:=b7G X Y hY (by omega) (by omega)
  repeat' (first|refine zx ?_|refine qp dv ?_|refine zd ?_ ?_<;>intro h<;>try omega|fail)<;>conv=>whnf
  all_goals first
   |omega
   |skip
  exact ⟨[some 0],(Y,X % Y),⟨rfl,rfl,⟨⟨rfl,rfl,rfl,.inl ⟨rfl,a57⟩⟩,trivial⟩,⟨⟨rfl,rfl,rfl⟩,rfl,rfl,trivial⟩⟩,⟨by rw [← g1,Nat.gcd_comm Y,←Nat.gcd_rec,Nat.gcd_comm],g3,lbS (C4 (Nat.le_of_lt (Nat.mod_lt X hY))) g3⟩,Nat.mod_lt X hY⟩
 ·have hY:Y=0:=by omega
  subst hY
  have hp:(dg 0).length=0:=rfl
  have c2:=a97 (dg X) (by omega)
  have s1:=B3 1 X (by simp) (by omega)
  have ck:=K5 true (bz (1*X))
  repeat' (first|refine zx ?_|refine qp c2 ?_|refine qp s1 ?_|refine qp ck ?_|refine zd ?_ ?_<;>intro h<;>try omega|fail)<;>conv=>whnf
  all_goals first
   |omega
   |skip
  refine aR2 ?_
  rw [Int.one_mul,show X=Int.gcd x y by rw [Int.gcd,←g1,Nat.gcd_zero_right]]
  rfl
open St1 St2 St3 St4 St5 St6 St7 St8 StA StB
set_option maxRecDepth 100000
theorem a1r {x y:Int} (h:x % 18446744073709551616=y):J5 .u64 x y:=by
 unfold J5
 simp only [IntKind.wrap,IntKind.bits,IntKind.signed]
 simp
 omega
theorem b0R (a:Int):a4R .and .u64 a 1048575 (a % 1048576):=(az8 (a:=a) 20 (by decide)).symm
theorem b5E (a:Int):b0A .u64 a 20 (a / 1048576):=by
 show a / 1048576=a.fdiv 1048576
 exact (Int.fdiv_eq_ediv_of_nonneg _ (by decide)).symm
structure OfI (n:Int) (acc:List Int) (u:Nat):Prop where
 eq:acc++dg u=dg n.natAbs
theorem OfI.len {n:Int} {acc:List Int} {u:Nat} (h:OfI n acc u) (h0:-9223372036854775808<=n) (h1:n<=9223372036854775807):acc.length<=4:=by
 have h2:(dg n.natAbs).length<=4:=O1 (by simp only [pw];omega)
 have h3:=congrArg List.length h.eq
 simp at h3
 omega
theorem OfI.step {n:Int} {acc:List Int} {u:Nat} (h:OfI n acc u) (hu:0<u):OfI n (acc++[(u:Int) % 1048576]) (u / 1048576):=by
 refine ⟨?_⟩
 rw [← h.eq,a6n hu]
 simp
theorem OfI.le {n:Int} {acc:List Int} {u:Nat} (h:OfI n acc u):u<=n.natAbs:=by
 have h1:=congrArg val h.eq
 rw [S0,C1,C1] at h1
 have h2:Okd acc:=fun x hx=>E7 n.natAbs x (by rw [← h.eq];simp [hx])
 have h3:=A6 h2
 have h4:=T0 acc.length
 have h5:=lbX (a:=1) (b:=pw acc.length) (c:=(u:Int)) (by omega) (by omega)
 omega
theorem aK9 {xs:List Int} {x:Int}:(toC (xs.map i5)).take xs.length++toC [[ti x]]=toC ((xs++[x]).map i5):=b6s (f:=i5)
theorem b18 (n:Int) (h0:-9223372036854775808<=n) (h1:n<=9223372036854775807):e7 Tryz.prog 122 [b7 .i64 n] [] (bgS (bz n)) []:=by
 by_cases hn:n<0
 ·(refine ac Tryz.func122 ?_;(conv=>whnf);repeat (refine zy ?_;conv=>whnf))
  repeat' (first|refine zx ?_|refine ⟨_,a1r (y:=n+18446744073709551616) (by omega),?_⟩|refine ⟨_,a1r (y:=(n.natAbs:Int)) (by omega),?_⟩|refine zd ?_ ?_<;>intro h<;>try omega|fail)<;>conv=>whnf
  refine C3 e8 (σ:=List Int × Nat) (fun|(acc,u)=>([J,J,S.c (C.ptr 0 0 0),b7 .i64 (-1),b7 .u64 u,a2q 1 acc]++Jn 19,[b8k,C0 acc])) (fun s=>OfI n s.1 s.2) (fun s=>s.2) ([],n.natAbs) [some 0,none]
   ⟨rfl⟩ ⟨rfl,rfl,⟨⟨rfl,rfl,rfl,.inl ⟨rfl,a57⟩⟩,⟨rfl,rfl⟩,trivial⟩,⟨⟨rfl,rfl,rfl⟩,rfl,g9 (by omega),⟨rfl,rfl,rfl⟩,trivial⟩⟩ ?_
  rintro ⟨acc,u⟩ hI
  have hI:OfI n acc u:=hI
  have hl:=hI.len h0 h1
  have hu:=hI.le
  conv=>whnf
  repeat' (first|refine zx ?_|refine qp toC ?_|refine qp toC ?_|refine ⟨_,b0R _,?_⟩|refine ⟨by decide,_,b5E _,?_⟩|refine E4 (by simp [toC]) (by simp [toC];omega) ?_|refine ⟨_,a1r (by omega),?_⟩|refine zd ?_ ?_<;>intro h<;>try omega|fail)<;>conv=>whnf
  ·refine ⟨[some 0,some 2],(acc++[(u:Int) % 1048576],u / 1048576),⟨rfl,rfl,⟨⟨rfl,rfl,rfl,.inl ⟨rfl,a57⟩⟩,b8 rfl rfl rfl aK9 rfl,trivial⟩,⟨⟨rfl,rfl,rfl⟩,rfl,g9 (by simp),s7 rfl (by simp [toC]),trivial⟩⟩,hI.step (by omega),by show u / 1048576<u;omega⟩
  ·have h0u:u=0:=by omega
   subst h0u
   have e:acc=dg n.natAbs:=by have:=hI.eq;rw [a2b,List.append_nil] at this;exact this
   have sg:=B3 (-1) n.natAbs (by omega) (by rw [← e];omega)
   rw [← e,show (-1)*(n.natAbs:Int)=n by omega] at sg
   refine .inr ⟨_,_,I1 [1] sg ⟨b38,a10 (D6 (by simp) rfl (by intro h;cases h) rfl rfl (by simp)),trivial⟩ rfl,?_⟩
   conv=>whnf
   exact v8 ⟨rfl,rfl,trivial⟩
 ·(refine ac Tryz.func122 ?_;(conv=>whnf);repeat (refine zy ?_;conv=>whnf))
  repeat' (first|refine zx ?_|refine ⟨_,a1r (y:=(n.natAbs:Int)) (by omega),?_⟩|refine zd ?_ ?_<;>intro h<;>try omega|fail)<;>conv=>whnf
  refine C3 e8 (σ:=List Int × Nat) (fun|(acc,u)=>([J,J,S.c (C.ptr 0 0 0),b7 .i64 1,b7 .u64 u,a2q 1 acc]++Jn 19,[b8k,C0 acc])) (fun s=>OfI n s.1 s.2) (fun s=>s.2) ([],n.natAbs) [some 0,none]
   ⟨rfl⟩ ⟨rfl,rfl,⟨⟨rfl,rfl,rfl,.inl ⟨rfl,a57⟩⟩,⟨rfl,rfl⟩,trivial⟩,⟨⟨rfl,rfl,rfl⟩,rfl,g9 (by omega),⟨rfl,rfl,rfl⟩,trivial⟩⟩ ?_
  rintro ⟨acc,u⟩ hI
  have hI:OfI n acc u:=hI
  have hl:=hI.len h0 h1
  have hu:=hI.le
  conv=>whnf
  repeat' (first|refine zx ?_|refine qp toC ?_|refine qp toC ?_|refine ⟨_,b0R _,?_⟩|refine ⟨by decide,_,b5E _,?_⟩|refine E4 (by simp [toC]) (by simp [toC];omega) ?_|refine ⟨_,a1r (by omega),?_⟩|refine zd ?_ ?_<;>intro h<;>try omega|fail)<;>conv=>whnf
  ·refine ⟨[some 0,some 2],(acc++[(u:Int) % 1048576],u / 1048576),⟨rfl,rfl,⟨⟨rfl,rfl,rfl,.inl ⟨rfl,a57⟩⟩,b8 rfl rfl rfl aK9 rfl,trivial⟩,⟨⟨rfl,rfl,rfl⟩,rfl,g9 (by simp),s7 rfl (by simp [toC]),trivial⟩⟩,hI.step (by omega),by show u / 1048576<u;omega⟩
  ·have h0u:u=0:=by omega
   subst h0u
   have e:acc=dg n.natAbs:=by have:=hI.eq;rw [a2b,List.append_nil] at this;exact this
   have sg:=B3 (1) n.natAbs (by omega) (by rw [← e];omega)
   rw [← e,show (1)*(n.natAbs:Int)=n by omega] at sg
   refine .inr ⟨_,_,I1 [1] sg ⟨b38,a10 (D6 (by simp) rfl (by intro h;cases h) rfl rfl (by simp)),trivial⟩ rfl,?_⟩
   conv=>whnf
   exact v8 ⟨rfl,rfl,trivial⟩
open St1 St2 St3 St4 St5 St6 St7 St8 StA StB
set_option maxRecDepth 100000
theorem aB3 (i:Nat):pw i=((2 ^ (20*i):Nat):Int):=by
 unfold pw;rw [show (1048576:Int)=((2 ^ 20:Nat):Int) by decide,←Int.natCast_pow,←Nat.pow_mul]
theorem bc2 {d:Int} {i:Nat} {b:Int} (hi:i<=3) (h:0<=d) (h2:d*pw i<18446744073709551616) (hb:b=20*i):J5 .u64 (d*2 ^ min b.toNat (IntKind.bits .u64)) (d*pw i):=by
 have e:min b.toNat (IntKind.bits .u64)=20*i:=by show min b.toNat 64=_;omega
 have hp:=T0 i
 have h3:0<=d*pw i:=lb0 h (by omega)
 rw [e,show (2:Int) ^ (20*i)=pw i by rw [aB3];simp]
 exact aK0 h3 h2
theorem oru {u d:Int} {i:Nat} (hu:0<=u) (hu2:u<pw i) (h:0<=d) (h2:u+d*pw i<18446744073709551616):a4R .or .u64 u (d*pw i) (u+d*pw i):=by
 obtain ⟨U,rfl⟩:=Int.eq_ofNat_of_zero_le hu
 obtain ⟨D,rfl⟩:=Int.eq_ofNat_of_zero_le h
 have hp:=T0 i
 have e2:(U:Int)+D*pw i=((U+2 ^ (20*i)*D:Nat):Int):=by rw [aB3];simp [Int.mul_comm]
 have e3:(D:Int)*pw i=((2 ^ (20*i)*D:Nat):Int):=by rw [aB3];simp [Int.mul_comm]
 rw [e2] at h2
 have hU:U<2 ^ (20*i):=by rw [aB3] at hu2;omega
 have k1:(BitVec.ofInt (IntKind.bits .u64) (U:Int) ||| BitVec.ofInt (IntKind.bits .u64) ((2 ^ (20*i)*D:Nat):Int)).toNat=U+2 ^ (20*i)*D:=by
  show (BitVec.ofInt 64 _ ||| BitVec.ofInt 64 _).toNat=_
  rw [BitVec.toNat_or,BitVec.toNat_ofInt,BitVec.toNat_ofInt]
  rw [Int.emod_eq_of_lt (by omega) (by omega),Int.emod_eq_of_lt (by omega) (by omega),lbY,lbY,Nat.or_comm,←Nat.two_pow_add_eq_or_of_lt hU,Nat.add_comm]
 rw [e2,e3]
 unfold a4R
 simp only
 rw [k1]
 exact (ae5 (by omega) h2).symm
structure b0g (n:Nat) (k:Nat) (u:Int):Prop where
 eq:u=val ((dg n).take k)
 le:k<=(dg n).length
 lt:k=4->u<9*1152921504606846976
theorem b0g.rng {n k:Nat} {u:Int} (h:b0g n k u):0<=u∧u<pw k:=by
 have h1:=A6 ((E7 n).take k)
 have h2:=a0q ((E7 n).take k)
 rw [lbs,Nat.min_eq_left h.le,←h.eq] at h2
 rw [← h.eq] at h1
 exact ⟨h1,h2⟩
theorem b0g.step {n k:Nat} {u:Int} (h:b0g n k u) (hk:k<(dg n).length) (hd:k=3->dat (dg n) k<=8):b0g n (k+1) (u+dat (dg n) k*pw k):=by
 have hr:=h.rng
 refine ⟨by rw [A9,h.eq,Int.mul_comm],hk,fun h4=>?_⟩
 have:k=3:=by omega
 subst this
 have:=hd rfl
 simp only [pw] at hr ⊢
 omega
theorem b8Y {k:Nat} (h:k<=3):pw k<=1152921504606846976:=by
 have:=a2c h
 simp only [pw] at this ⊢
 omega
theorem b8E {k:Nat} (h:k<=2):pw k<=1099511627776:=by
 have:=a2c h
 simp only [pw] at this ⊢
 omega
theorem aA6 {a a':Int} {b b':Bool} {k:IntKind} {H1:Hp} (h:a=a') (h2:b=b'):Fin 0 (.tup [b7 k a,i8 b]) H1 (.tup [b7 k a',i8 b']) []:=by
 subst h h2;exact v8 ⟨rfl,rfl,trivial⟩
theorem aZ7 {x:Int} (h1:9223372036854775808<=x) (h2:x<18446744073709551616):J5 .i64 x (x - 18446744073709551616):=by
 unfold J5
 simp only [IntKind.wrap,IntKind.bits,IntKind.signed]
 simp
 omega
abbrev a8c (x:Int):Prop:=-9223372036854775808<=x∧x<=9223372036854775807
theorem b85 (x:Int) (lx:bl x<=200000):e7 Tryz.prog 254 [bgS (bz x)] [] (.tup [b7 .i64 (if a8c x then x else 0),i8 (decide (a8c x))]) []:=by
 have r1:=a4J x (by omega)
 have l1:((bz x).dl.map i5).length=(dg x.natAbs).length:=by simp [bz]
 have l2:(bz x).dl=dg x.natAbs:=rfl
 have hlast:∀k:Nat,k<(dg x.natAbs).length->pw k<=x.natAbs:=fun k hk=>Int.le_trans (a2c (by omega)) (aC7 (by
  rcases Nat.eq_zero_or_pos x.natAbs with h|h
  ·rw [h,a2b] at hk;simp at hk
  ·exact h))
 (refine ac Tryz.func254 ?_;(conv=>whnf);repeat (refine zy ?_;conv=>whnf))
 repeat' (first|refine zx ?_|refine qp r1 ?_|refine zd ?_ ?_<;>intro h<;>try omega|fail)<;>conv=>whnf
 ·have hl:4<(dg x.natAbs).length:=by omega
  have:=hlast 4 hl
  simp only [pw] at this
  have hn:¬a8c x:=by unfold a8c;omega
  exact aA6 (by rw [if_neg hn]) (by simp [hn])
 ·refine C3 e8 (σ:=Nat × Int) (fun|(k,u)=>([J,S.c (C.ptr 0 0 0),J,J,b7 .u64 u]++Jn 12++[i6 (dg x.natAbs),b7 .i64 (dg x.natAbs).length,b7 .i64 k]++Jn 39,[bgB (bz x)])) (fun s=>b0g x.natAbs s.1 s.2) (fun s=>(dg x.natAbs).length - s.1) (0,0) [some 0]
   ⟨by simp [val],by omega,by omega⟩ ⟨rfl,rfl,⟨⟨rfl,rfl,rfl,.inl ⟨rfl,a4w _⟩⟩,trivial⟩,⟨⟨rfl,rfl,rfl⟩,rfl,k8 rfl,g9 (by omega),rfl,trivial⟩⟩ ?_
  rintro ⟨k,u⟩ hI
  have hI:b0g x.natAbs k u:=hI
  have hr:=hI.rng
  have hle:=hI.le
  have hd:=(E7 x.natAbs).dat k
  have hp:=T0 k
  have hp3:k<=3->pw k<=1152921504606846976:=b8Y
  have hdm:0<=dat (dg x.natAbs) k*pw k:=lb0 hd.1 (by omega)
  have l3:((dg x.natAbs).map i5).length=(dg x.natAbs).length:=by simp
  have hp2:k<=2->pw k<=1099511627776:=b8E
  have hA:k<=3->(k=3->dat (dg x.natAbs) k<=8)->u+dat (dg x.natAbs) k*pw k<18446744073709551616:=fun h3 h8=>by
   by_cases hk:k=3
   ·have:=lbX (c:=pw k) (h8 hk) (by omega)
    have:=hp3 h3
    omega
   ·have:=lbX (c:=pw k) (show dat (dg x.natAbs) k<=1048575 by omega) (by omega)
    have:=hp2 (by omega)
    omega
  have hE:k=(dg x.natAbs).length->u=x.natAbs:=fun h=>by
   have:=hI.eq
   rw [h,lbn (lbR _),C1] at this
   exact this
  have hs:=P7 x
  have hsg:(bz x).sg=x.sign:=rfl
  conv=>whnf
  repeat' (first|refine zx ?_|refine g6 (D4 (by omega)) ?_|refine ⟨_,aK0 (by omega) (by omega),?_⟩|refine ⟨by omega,_,bc2 (i:=k) (by omega) (by omega) (by omega) (by omega),?_⟩|refine ⟨_,oru (by omega) (by omega) (by omega) (by omega),?_⟩|refine ⟨_,a1r (y:=18446744073709551616 - u) (by omega),?_⟩|refine ⟨_,aZ7 (by omega) (by omega),?_⟩|refine zd ?_ ?_<;>intro h<;>try omega|fail)<;>conv=>whnf
  ·have hk:k=3:=by omega
   have h8:9<=dat (dg x.natAbs) k:=by omega
   have h1:=A9 (dg x.natAbs) k
   have h4:val (dg x.natAbs)=val ((dg x.natAbs).take (k+1)):=by rw [lbn (by omega)]
   rw [C1] at h4
   have h5:=A6 ((E7 x.natAbs).take k)
   have h6:=lbW (a:=9) (b:=dat (dg x.natAbs) k) (c:=pw k) h8 (by omega)
   have h7:pw k=1152921504606846976:=by rw [hk];rfl
   have hn:¬a8c x:=by unfold a8c;omega
   exact aA6 (by rw [if_neg hn]) (by simp [hn])
  ·have hst:=hI.step (by omega) (by omega)
   exact ⟨[some 0],(k+1,u+dat (dg x.natAbs) k*pw k),⟨rfl,rfl,⟨⟨rfl,rfl,rfl,.inl ⟨rfl,a4w _⟩⟩,trivial⟩,⟨⟨rfl,rfl,rfl⟩,rfl,rfl,rfl,g9 (by omega),trivial⟩⟩,hst,by show (dg x.natAbs).length - (k+1)<(dg x.natAbs).length - k;omega⟩
  ·have hst:=hI.step (by omega) (by omega)
   exact ⟨[some 0],(k+1,u+dat (dg x.natAbs) k*pw k),⟨rfl,rfl,⟨⟨rfl,rfl,rfl,.inl ⟨rfl,a4w _⟩⟩,trivial⟩,⟨⟨rfl,rfl,rfl⟩,rfl,rfl,rfl,g9 (by omega),trivial⟩⟩,hst,by show (dg x.natAbs).length - (k+1)<(dg x.natAbs).length - k;omega⟩
  all_goals
   have hu:=hE (by omega)
   first
    |(have hn:a8c x:=by unfold a8c;omega
      exact aA6 (by rw [if_pos hn];omega) (by simp [hn]))
    |(have hn:¬a8c x:=by unfold a8c;omega
      exact aA6 (by rw [if_neg hn]) (by simp [hn]))
open St1 St2 St3 St4 St5 St6 St7 St8 StA StB
set_option maxRecDepth 100000
abbrev frC (f:Fr):List C:=[.t (ti f.p.sg),.t (E5 f.p.dl),.t (ti f.q.sg),.t (E5 f.q.dl)]
abbrev frS (f:Fr):S:=.agg (frC f)
theorem ba4 (x:Int) (lx:bl x<=200000):e7 Tryz.prog 183 [bgS (bz x)] [] (i8 (x == 1)) []:=by
 have i:=b85 x lx
 by_cases h:a8c x
 ·rw [if_pos h,show decide (a8c x)=true by simp [h]] at i
  (refine ac Tryz.func183 ?_;(conv=>whnf);repeat (refine zy ?_;conv=>whnf))
  repeat' (first|refine zx ?_|refine qp i ?_|refine zd ?_ ?_<;>intro h<;>try omega|fail)<;>conv=>whnf
  all_goals (refine i3 ?_;simp;omega)
 ·rw [if_neg h,show decide (a8c x)=false by simp [h]] at i
  have hx:x≠1:=by rintro rfl;exact h (by decide)
  (refine ac Tryz.func183 ?_;(conv=>whnf);repeat (refine zy ?_;conv=>whnf))
  repeat' (first|refine zx ?_|refine qp i ?_|refine zd ?_ ?_<;>intro h<;>try omega|fail)<;>conv=>whnf
  all_goals (refine i3 ?_;simp;omega)
theorem ad8 (f:Fr) (lp:f.p.dl.length<=200000) (lq:f.q.dl.length<=200000):e7 Tryz.prog 114 [frS f] [] (i8 (N1 f)) []:=by
 obtain ⟨p,q⟩:=f
 simp only at lp lq
 have r1:=a2W p (by omega)
 have r2:=a2W q (by omega)
 cases hp:Q7 p with
 |false=>
  rw [hp] at r1
  (refine ac Tryz.func114 ?_;(conv=>whnf);repeat (refine zy ?_;conv=>whnf))
  repeat' (first|refine zx ?_|refine qp r1 ?_|refine qp r2 ?_|refine zd ?_ ?_<;>intro h<;>try omega|fail)<;>conv=>whnf
  all_goals (first|(exfalso;simp_all;done)|(refine i3 ?_;unfold N1;simp [hp]))
 |true=>
  rw [hp] at r1
  cases hq:Q7 q with
  |false=>
   rw [hq] at r2
   (refine ac Tryz.func114 ?_;(conv=>whnf);repeat (refine zy ?_;conv=>whnf))
   repeat' (first|refine zx ?_|refine qp r1 ?_|refine qp r2 ?_|refine zd ?_ ?_<;>intro h<;>try omega|fail)<;>conv=>whnf
   all_goals (first|(exfalso;simp_all;done)|(refine i3 ?_;unfold N1;simp [hq]))
  |true=>
   rw [hq] at r2
   obtain ⟨x,rfl⟩:=aM9 hp
   obtain ⟨y,rfl⟩:=aM9 hq
   have g:=aY5 x y lp lq
   have o:=ba4 (Int.gcd x y) (aX3 x y lp lq)
   (refine ac Tryz.func114 ?_;(conv=>whnf);repeat (refine zy ?_;conv=>whnf))
   repeat' (first|refine zx ?_|refine qp r1 ?_|refine qp r2 ?_|refine qp g ?_|refine qp o ?_|refine zd ?_ ?_<;>intro h<;>try omega|fail)<;>conv=>whnf
   all_goals (refine i3 ?_;unfold N1;simp only [a2J,a6C,Bool.true_and];symm;simp_all<;>omega)
theorem a1d (x y:Int) (lx:bl x<=200000) (ly:bl y<=200000):e7 Tryz.prog 121 [bgS (bz x),bgS (bz y)] [] (bgS (bz (x*y))) []:=by
 have mu:=b8R x y lx ly
 (refine ac Tryz.func121 ?_;(conv=>whnf);repeat (refine zy ?_;conv=>whnf))
 repeat' (first|refine zx ?_|refine qp mu ?_|refine zd ?_ ?_<;>intro h<;>try omega|fail)<;>conv=>whnf
 exact v8 ⟨rfl,rfl,trivial⟩
theorem a2j {f f':Fr} {e:Int} {H1:Hp} (h:f=f'):Fin 0 (.tup [frS f,b7 .i64 e]) H1 (.tup [frS f',b7 .i64 e]) []:=by
 subst h;exact v8 ⟨⟨rfl,rfl,rfl,rfl,trivial⟩,rfl,trivial⟩
theorem av7 (p q:Int) (hq:q≠0) (lp:bl p<=200000) (lq:bl q<=200000):e7 Tryz.prog 187 [bgS (bz p),bgS (bz q)] [] (.tup [frS (fz (Rat.divInt p q)),b7 .i64 0]) []:=by
 have r1:=a4J p (by omega)
 have r2:=a4J q (by omega)
 have hs:=P7 q
 have hsg:(bz q).sg=q.sign:=rfl
 by_cases h:q<0
 ·have n1:=a7V p (by omega)
  have n2:=a7V q (by omega)
  have lg:=aX3 (-p) (-q) (by rw [a3L];exact lp) (by rw [a3L];exact lq)
  have hg:0<(Int.gcd (-p) (-q):Int):=by have:=Int.gcd_pos_of_ne_zero_right (-p) (b:=-q) (by omega);omega
  have g:=aY5 (-p) (-q) (by rw [a3L];exact lp) (by rw [a3L];exact lq)
  have d1:=av5 (-p) _ hg (by rw [a3L];exact lp) lg
  have d2:=av5 (-q) _ hg (by rw [a3L];exact lq) lg
  have e:=ao2 (p:=-p) (q:=-q) (by omega) rfl
  rw [Rat.neg_divInt_neg] at e
  (refine ac Tryz.func187 ?_;(conv=>whnf);repeat (refine zy ?_;conv=>whnf))
  repeat' (first|refine zx ?_|refine qp r1 ?_|refine qp r2 ?_|refine qp n1 ?_|refine qp n2 ?_|refine qp g ?_|refine qp d1 ?_|refine qp d2 ?_|refine zd ?_ ?_<;>intro h<;>try omega|fail)<;>conv=>whnf
  all_goals first
   |(exfalso;simp_all;done)
   |omega
   |exact a2j e.symm
 ·have lg:=aX3 p q lp lq
  have hg:0<(Int.gcd p q:Int):=by have:=Int.gcd_pos_of_ne_zero_right p (b:=q) (by omega);omega
  have g:=aY5 p q lp lq
  have d1:=av5 p _ hg lp lg
  have d2:=av5 q _ hg lq lg
  have e:=ao2 (p:=p) (q:=q) (by omega) rfl
  (refine ac Tryz.func187 ?_;(conv=>whnf);repeat (refine zy ?_;conv=>whnf))
  repeat' (first|refine zx ?_|refine qp r1 ?_|refine qp r2 ?_|refine qp g ?_|refine qp d1 ?_|refine qp d2 ?_|refine zd ?_ ?_<;>intro h<;>try omega|fail)<;>conv=>whnf
  all_goals first
   |omega
   |(exfalso;simp_all;done)
   |exact a2j e.symm
theorem K9 (x:Rat) (lx:rl x<=200000):e7 Tryz.prog 114 [frS (fz x)] [] (i8 true) []:=by
 have h:=ad8 (fz x) (lbS (U8 x) lx) (lbS (V3 x) lx)
 rw [a9F] at h
 exact h
theorem a4S (x y:Rat) (lx:rl x<=60000) (ly:rl y<=60000):e7 Tryz.prog 119 [frS (fz x),frS (fz y)] [] (.tup [frS (fz (x+y)),b7 .i64 0]) []:=by
 have r1:=K9 x (by omega)
 have r2:=K9 y (by omega)
 have x1:=U8 x
 have x2:=V3 x
 have y1:=U8 y
 have y2:=V3 y
 have l1:=R9 x.num y.den
 have l2:=R9 y.num x.den
 have l3:=R9 x.den y.den
 have l4:=aB2 (x.num*y.den) (y.num*x.den)
 have t1:=a1d x.num y.den (by omega) (by omega)
 have t2:=a1d y.num x.den (by omega) (by omega)
 have t3:=a1d x.den y.den (by omega) (by omega)
 have a:=b8r (x.num*y.den) (y.num*x.den) (by omega) (by omega)
 have n:=av7 (x.num*y.den+y.num*x.den) (x.den*y.den) (a9m x y) (by omega) (by omega)
 rw [← b1e] at n
 (refine ac Tryz.func119 ?_;(conv=>whnf);repeat (refine zy ?_;conv=>whnf))
 repeat' (first|refine zx ?_|refine qp r1 ?_|refine qp r2 ?_|refine qp t1 ?_|refine qp t2 ?_|refine qp t3 ?_|refine qp a ?_|refine qp n ?_|refine qp 13 ?_|refine bl0 [13] ?_|refine zd ?_ ?_<;>intro h<;>try omega|fail)<;>conv=>whnf
 all_goals first
  |(exfalso;simp_all;done)
  |exact a2j rfl
theorem aZ1 (x y:Rat) (lx:rl x<=60000) (ly:rl y<=60000):e7 Tryz.prog 118 [frS (fz x),frS (fz y)] [] (.tup [frS (fz (x - y)),b7 .i64 0]) []:=by
 have r1:=K9 x (by omega)
 have r2:=K9 y (by omega)
 have y1:=U8 y
 have n:=a7V y.num (by omega)
 have a:=a4S x (-y) lx (by rw [a2w];exact ly)
 rw [← Rat.sub_eq_add_neg] at a
 have e:fz (-y)=⟨bz (-y.num),bz y.den⟩:=rfl
 rw [e] at a
 (refine ac Tryz.func118 ?_;(conv=>whnf);repeat (refine zy ?_;conv=>whnf))
 repeat' (first|refine zx ?_|refine qp r1 ?_|refine qp r2 ?_|refine qp n ?_|refine qp a ?_|refine zd ?_ ?_<;>intro h<;>try omega|fail)<;>conv=>whnf
 all_goals first
  |(exfalso;simp_all;done)
  |exact a2j rfl
theorem aY8 (x y:Rat) (lx:rl x<=60000) (ly:rl y<=60000):e7 Tryz.prog 233 [frS (fz x),frS (fz y)] [] (.tup [frS (fz (x*y)),b7 .i64 0]) []:=by
 have r1:=K9 x (by omega)
 have r2:=K9 y (by omega)
 have x1:=U8 x
 have x2:=V3 x
 have y1:=U8 y
 have y2:=V3 y
 have l1:=R9 x.num y.num
 have l3:=R9 x.den y.den
 have t1:=a1d x.num y.num (by omega) (by omega)
 have t3:=a1d x.den y.den (by omega) (by omega)
 have n:=av7 (x.num*y.num) (x.den*y.den) (a9m x y) (by omega) (by omega)
 rw [← b0G] at n
 (refine ac Tryz.func233 ?_;(conv=>whnf);repeat (refine zy ?_;conv=>whnf))
 repeat' (first|refine zx ?_|refine qp r1 ?_|refine qp r2 ?_|refine qp t1 ?_|refine qp t3 ?_|refine qp n ?_|refine zd ?_ ?_<;>intro h<;>try omega|fail)<;>conv=>whnf
 all_goals first
  |(exfalso;simp_all;done)
  |exact a2j rfl
theorem b5c (x y:Rat):V5 (x.num*y.den) (y.num*x.den)=a1Y x y:=by
 unfold V5 a1Y
 simp only [← Rat.lt_iff]
theorem a20 (x y:Rat) (lx:rl x<=60000) (ly:rl y<=60000):e7 Tryz.prog 54 [frS (fz x),frS (fz y)] [] (b7 .i64 (a1Y x y)) []:=by
 have r1:=K9 x (by omega)
 have r2:=K9 y (by omega)
 have x1:=U8 x
 have x2:=V3 x
 have y1:=U8 y
 have y2:=V3 y
 have l1:=R9 x.num y.den
 have l2:=R9 y.num x.den
 have t1:=a1d x.num y.den (by omega) (by omega)
 have t2:=a1d y.num x.den (by omega) (by omega)
 have c:=aT7 (x.num*y.den) (y.num*x.den) (by omega) (by omega)
 rw [b5c] at c
 (refine ac Tryz.func54 ?_;(conv=>whnf);repeat (refine zy ?_;conv=>whnf))
 repeat' (first|refine zx ?_|refine qp r1 ?_|refine qp r2 ?_|refine qp t1 ?_|refine qp t2 ?_|refine qp c ?_|refine zd ?_ ?_<;>intro h<;>try omega|fail)<;>conv=>whnf
 all_goals first
  |(exfalso;simp_all;done)
  |exact s9 rfl
theorem X7 (x:Rat) (lx:rl x<=60000):e7 Tryz.prog 56 [frS (fz x)] [] (b7 .i64 (sgR x)) []:=by
 have r1:=K9 x (by omega)
 (refine ac Tryz.func56 ?_;(conv=>whnf);repeat (refine zy ?_;conv=>whnf))
 repeat' (first|refine zx ?_|refine qp r1 ?_|refine zd ?_ ?_<;>intro h<;>try omega|fail)<;>conv=>whnf
 all_goals first
  |(exfalso;simp_all;done)
  |exact s9 (ag9 x)
theorem b9Z (p q:Int) (hq:q≠0) (p0:-9223372036854775808<=p) (p1:p<=9223372036854775807) (q0:-9223372036854775808<=q) (q1:q<=9223372036854775807):
 e7 Tryz.prog 248 [b7 .i64 p,b7 .i64 q] [] (.tup [frS (fz (Rat.divInt p q)),b7 .i64 0]) []:=by
 have l1:=a0Y p0 p1
 have l2:=a0Y q0 q1
 have o1:=b18 p p0 p1
 have o2:=b18 q q0 q1
 have n:=av7 p q hq (by omega) (by omega)
 (refine ac Tryz.func248 ?_;(conv=>whnf);repeat (refine zy ?_;conv=>whnf))
 repeat' (first|refine zx ?_|refine qp o1 ?_|refine qp o2 ?_|refine qp n ?_|refine zd ?_ ?_<;>intro h<;>try omega|fail)<;>conv=>whnf
 all_goals exact a2j rfl
theorem b8W (n:Int):fz (n:Rat)=⟨bz n,bz 1⟩:=by unfold fz;rw [Rat.num_intCast,Rat.den_intCast];rfl
theorem J4 (n:Int) (p0:-9223372036854775808<=n) (p1:n<=9223372036854775807):e7 Tryz.prog 55 [b7 .i64 n] [] (frS (fz (n:Rat))) []:=by
 have o1:=b18 n p0 p1
 have o2:=b18 1 (by decide) (by decide)
 rw [b8W]
 (refine ac Tryz.func55 ?_;(conv=>whnf);repeat (refine zy ?_;conv=>whnf))
 repeat' (first|refine zx ?_|refine qp o1 ?_|refine qp o2 ?_|refine zd ?_ ?_<;>intro h<;>try omega|fail)<;>conv=>whnf
 all_goals exact v8 ⟨rfl,rfl,rfl,rfl,trivial⟩
theorem ab2 (x:Int) (lx:bl x<=200000):e7 Tryz.prog 322 [bgS (bz x)] [] (bgS (bz x)) []:=by
 have n1:=a7V x (by omega)
 have n2:=a7V (-x) (by rw [a3L];omega)
 rw [Int.neg_neg] at n2
 (refine ac Tryz.func322 ?_;(conv=>whnf);repeat (refine zy ?_;conv=>whnf))
 repeat' (first|refine zx ?_|refine qp n1 ?_|refine qp n2 ?_|refine zd ?_ ?_<;>intro h<;>try omega|fail)<;>conv=>whnf
 all_goals exact v8 ⟨rfl,rfl,trivial⟩
open St1 St2 St3 St4 St5 St6 St7 St8 StA StB
def a0w (c:P2):Bool:=
 decide (0<=c.since) && decide (c.since<=c.till) && decide (c.till<=100000) && idx c.scale 30 && btw c.grams 0 1099511627776 && btw c.permille 0 1000 && btw c.drift 0 10000000
def a0c (c:P2) (day:Int):Bool:=a0w c && btw day c.since c.till
def ay8 (cs:List P2) (i:Nat):Int:=((cs[i]?).map (·.since)).getD 0
def a8t (cs:List P2) (o:Option Nat) (c:P2):Bool:=match o with
 |none=>true
 |some b=>decide (ay8 cs b<=c.since)
def S9 (cs:List P2) (scale day:Int):Nat->Option Nat
 |0=>none
 |k+1=>match cs[k]? with
  |none=>S9 cs scale day k
  |some c=>if decide (c.scale=scale) && a0c c day && a8t cs (S9 cs scale day k) c then some k else S9 cs scale day k
theorem T1 {cs:List P2} {scale day:Int}:∀{k b:Nat},S9 cs scale day k=some b->b<k∧∃c,cs[b]? =some c∧c.scale=scale∧a0c c day=true
 |0,b,h=>by simp [S9] at h
 |k+1,b,h=>by
  unfold S9 at h
  split at h
  ·obtain ⟨h1,h2⟩:=T1 h;exact ⟨by omega,h2⟩
  ·rename_i c hc
   split at h
   ·rename_i hcc
    injection h with h
    subst h
    simp only [lbN,lbJ] at hcc
    exact ⟨by omega,c,hc,hcc.1.1,hcc.1.2⟩
   ·obtain ⟨h1,h2⟩:=T1 h;exact ⟨by omega,h2⟩
def a9n (rs:List J3) (scale day:Int):Bool:=rs.any fun r=>decide (r.scale=scale) && decide (r.since<=day)
def a6i (c:P2) (reading day:Int):Rat:=Rat.divInt (c.permille*reading) 1000+((c.grams+c.drift*(day - c.since):Int):Rat)
def aQ5 (x y:Rat):Rat:=if x<y then y else x
def b3e:P2:=⟨0,0,0,0,0,0⟩
def a2r (cs:List P2) (i:Nat):P2:=(cs[i]?).getD b3e
def T4 (cs:List P2) (rs:List J3) (scale reading day:Int):Option (Rat × Rat):=
 match S9 cs scale day cs.length with
 |none=>none
 |some i=>if a9n rs scale day then none else if btw reading 0 1099511627776 then
   some (aQ5 ((reading:Rat) - a6i (a2r cs i) reading day) ((0:Int):Rat),(reading:Rat)+a6i (a2r cs i) reading day) else none
def bd5 (l:List Rat):Rat:=l.foldl (·+·) ((0:Int):Rat)
def hz (H:List (List Rat)):List (List Fr):=H.map (·.map fz)
theorem ah8 {l:List Fr} (h:l.all N1=true):∃L:List Rat,l=L.map fz:=by
 induction l with
 |nil=>exact ⟨[],rfl⟩
 |cons f r ih=>
  simp only [List.all_cons,lbN] at h
  obtain ⟨L,rfl⟩:=ih h.2
  exact ⟨fv f::L,by simp [← b9C h.1]⟩
structure bd2 (e:Ev) (H:List (List Rat)):Prop where
 len:H.length=e.moves.length
 wid:∀l ∈ H,(l.length:Int)=e.mats
def hAt (H:List (List Rat)) (k m:Nat):Rat:=(H.getD k []).getD m 0
def a7X (x:v7) (v:Nat->Rat) (f:Nat->Nat->Rat):Nat->Nat->Rat:=fun p m=>if x.src=(p:Int) then f p m - v m else if x.dst=(p:Int) then f p m+v m else f p m
def stk (e:Ev) (H:List (List Rat)):Nat->Nat->Nat->Rat
 |0=>fun _ _=>((0:Int):Rat)
 |k+1=>match e.moves[k]? with
  |none=>stk e H k
  |some x=>a7X x (hAt H k) (stk e H k)
theorem b2h {x:v7} {v:Nat->Rat} {f:Nat->Nat->Rat} {B C:Nat} (hv:∀m,rl (v m)<=B) (hf:∀p m,rl (f p m)<=C) (p m:Nat):rl (a7X x v f p m)<=C+(B+1):=by
 unfold a7X
 have h1:=hf p m
 have h2:=hv m
 have h3:=aW6 (f p m) (v m)
 have h4:=a2s (f p m) (v m)
 split
 ·omega
 ·split<;>omega
theorem a6v:rl ((0:Int):Rat)=1:=by rw [a0W];rfl
theorem b8C {H:List (List Rat)} {B:Nat} (hB:∀l ∈ H,∀x ∈ l,rl x<=B) (h1:1<=B) (k m:Nat):rl (hAt H k m)<=B:=by
 unfold hAt
 rw [lbl,lbl]
 cases hk:H[k]? with
 |none=>
  have:rl 0=1:=a6v
  simp only [Option.getD_none,List.getElem?_nil]
  omega
 |some l=>
  simp only [Option.getD_some]
  cases hm:l[m]? with
  |none=>
   have:rl 0=1:=a6v
   simp only [Option.getD_none]
   omega
  |some x=>exact hB l (lbm hk) x (lbm hm)
theorem b3Z {e:Ev} {H:List (List Rat)} {B:Nat} (hB:∀l ∈ H,∀x ∈ l,rl x<=B) (h1:1<=B):∀k p m,rl (stk e H k p m)<=k*(B+1)+1
 |0,p,m=>by unfold stk;rw [a6v];omega
 |k+1,p,m=>by
  have ih:=b3Z hB h1 (e:=e) k
  unfold stk
  cases hx:e.moves[k]? with
  |none=>have:=ih p m;rw [lbV];simp only;omega
  |some x=>
   simp only
   have:=b2h (x:=x) (b8C hB h1 k) ih p m
   rw [lbV];omega
end Go.Proofs.YtikokmdpigploaaGreat
