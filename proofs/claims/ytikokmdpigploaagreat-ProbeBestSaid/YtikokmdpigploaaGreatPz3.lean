/- Part 3. -/
import Derived.Test.YtikokmdpigploaaGreatPz2
namespace Go.Proofs.YtikokmdpigploaaGreat
set_option linter.unusedVariables false
set_option linter.unusedSimpArgs false
section
set_option maxRecDepth 100000
def bk7:List (Option TD):=[none,some ⟨.bas,false,1,8,[.nilFunc]⟩,some ⟨.int .i64,false,1,8,[.int .i64 0]⟩,some ⟨.int .i64,false,1,8,[.int .i64 0]⟩,some ⟨.bool,false,1,1,[.bool false]⟩,some ⟨.int .u8,false,1,1,[.int .u8 0]⟩,some ⟨.int .u8,false,1,1,[.int .u8 0]⟩,some ⟨.struct [(0,1,false),(1,1,false),(2,1,false),(3,1,false)],true,4,24,[.int .i64 0,.int .i64 0,.bool false,.int .u8 0]⟩,some ⟨.struct [(0,1,false),(1,1,false),(2,1,false),(3,1,false)],true,4,24,[.int .i64 0,.int .i64 0,.bool false,.int .u8 0]⟩,none,none,none,some ⟨.int .u64,false,1,8,[.int .u64 0]⟩,none,none,some ⟨.bas,false,1,8,[.pointer none]⟩,some ⟨.bas,false,1,8,[.pointer none]⟩,some ⟨.bas,false,1,8,[.pointer none]⟩,some ⟨.struct [(0,1,false)],true,1,8,[.pointer none]⟩,some ⟨.struct [(0,1,false)],true,1,8,[.pointer none]⟩,none,some ⟨.int .i32,false,1,4,[.int .i32 0]⟩,some ⟨.slice 160,false,1,24,[.slice none 0 0]⟩,some ⟨.slice 149,false,1,24,[.slice none 0 0]⟩,some ⟨.slice 255,false,1,24,[.slice none 0 0]⟩,some ⟨.slice 264,false,1,24,[.slice none 0 0]⟩,some ⟨.slice 266,false,1,24,[.slice none 0 0]⟩,some ⟨.struct [(0,1,false),(1,1,false),(2,1,false),(3,1,false),(4,1,false),(5,1,false),(6,1,false),(7,1,false)],true,8,144,[.int .i64 0,.int .i64 0,.int .i64 0,.slice none 0 0,.slice none 0 0,.slice none 0 0,.slice none 0 0,.slice none 0 0]⟩,some ⟨.struct [(0,1,false),(1,1,false),(2,1,false),(3,1,false),(4,1,false),(5,1,false),(6,1,false),(7,1,false)],true,8,144,[.int .i64 0,.int .i64 0,.int .i64 0,.slice none 0 0,.slice none 0 0,.slice none 0 0,.slice none 0 0,.slice none 0 0]⟩,some ⟨.slice 43,false,1,24,[.slice none 0 0]⟩,some ⟨.slice 45,false,1,24,[.slice none 0 0]⟩,some ⟨.struct [(0,8,false),(8,1,false),(9,1,false)],true,10,192,[.int .i64 0,.int .i64 0,.int .i64 0,.slice none 0 0,.slice none 0 0,.slice none 0 0,.slice none 0 0,.slice none 0 0,.slice none 0 0,.slice none 0 0]⟩,some ⟨.struct [(0,8,false),(8,1,false),(9,1,false)],true,10,192,[.int .i64 0,.int .i64 0,.int .i64 0,.slice none 0 0,.slice none 0 0,.slice none 0 0,.slice none 0 0,.slice none 0 0,.slice none 0 0,.slice none 0 0]⟩,some ⟨.slice 3,false,1,24,[.slice none 0 0]⟩,some ⟨.bas,false,1,8,[.nilFunc]⟩,some ⟨.bas,false,1,8,[.nilFunc]⟩,some ⟨.slice 33,false,1,24,[.slice none 0 0]⟩,some ⟨.int .i64,false,1,8,[.int .i64 0]⟩,none,some ⟨.bas,false,1,8,[.nilFunc]⟩,some ⟨.bas,false,1,8,[.nilFunc]⟩,some ⟨.bas,false,1,8,[.nilFunc]⟩,some ⟨.struct [(0,1,false),(1,1,false),(2,1,false)],true,3,24,[.int .i64 0,.int .i64 0,.int .i64 0]⟩,some ⟨.struct [(0,1,false),(1,1,false),(2,1,false)],true,3,24,[.int .i64 0,.int .i64 0,.int .i64 0]⟩,some ⟨.struct [(0,1,false),(1,1,false)],true,2,16,[.int .i64 0,.int .i64 0]⟩,some ⟨.struct [(0,1,false),(1,1,false)],true,2,16,[.int .i64 0,.int .i64 0]⟩,some ⟨.bas,false,1,8,[.nilFunc]⟩,some ⟨.bas,false,1,8,[.nilFunc]⟩,some ⟨.bas,false,1,8,[.nilFunc]⟩,some ⟨.slice 86,false,1,24,[.slice none 0 0]⟩,some ⟨.struct [(0,1,false),(1,1,false),(2,1,false),(3,1,false),(4,1,false)],true,5,88,[.int .i64 0,.int .i64 0,.slice none 0 0,.slice none 0 0,.slice none 0 0]⟩,some ⟨.struct [(0,1,false),(1,1,false),(2,1,false),(3,1,false),(4,1,false)],true,5,88,[.int .i64 0,.int .i64 0,.slice none 0 0,.slice none 0 0,.slice none 0 0]⟩,some ⟨.bas,false,1,8,[.nilFunc]⟩,some ⟨.slice 51,false,1,24,[.slice none 0 0]⟩,none,some ⟨.bas,false,1,8,[.nilFunc]⟩,none,some ⟨.bas,false,1,8,[.nilFunc]⟩,some ⟨.bas,false,1,8,[.nilFunc]⟩,some ⟨.slice 109,false,1,24,[.slice none 0 0]⟩,some ⟨.bas,false,1,8,[.nilFunc]⟩,some ⟨.bas,false,1,8,[.nilFunc]⟩,some ⟨.bas,false,1,8,[.nilFunc]⟩,none,some ⟨.bas,false,1,8,[.nilFunc]⟩,none,some ⟨.bas,false,1,8,[.nilFunc]⟩,some ⟨.bas,false,1,8,[.nilFunc]⟩,some ⟨.slice 133,false,1,24,[.slice none 0 0]⟩,some ⟨.struct [(0,1,false),(1,1,false)],true,2,32,[.int .i64 0,.slice none 0 0]⟩,some ⟨.struct [(0,1,false),(1,1,false)],true,2,32,[.int .i64 0,.slice none 0 0]⟩,none,some ⟨.bas,false,1,8,[.nilFunc]⟩,none,some ⟨.bas,false,1,8,[.nilFunc]⟩,some ⟨.bas,false,1,8,[.nilFunc]⟩,some ⟨.bas,false,1,8,[.nilFunc]⟩,some ⟨.bas,false,1,8,[.nilFunc]⟩,some ⟨.bas,false,1,8,[.nilFunc]⟩,some ⟨.bas,false,1,8,[.nilFunc]⟩,some ⟨.bas,false,1,8,[.nilFunc]⟩,some ⟨.bas,false,1,8,[.nilFunc]⟩,some ⟨.bas,false,1,8,[.nilFunc]⟩,some ⟨.struct [(0,1,false),(1,1,false)],true,2,32,[.int .i64 0,.slice none 0 0]⟩,some ⟨.struct [(0,1,false),(1,1,false)],true,2,32,[.int .i64 0,.slice none 0 0]⟩,some ⟨.struct [(0,2,false),(2,2,false)],true,4,64,[.int .i64 0,.slice none 0 0,.int .i64 0,.slice none 0 0]⟩,some ⟨.struct [(0,2,false),(2,2,false)],true,4,64,[.int .i64 0,.slice none 0 0,.int .i64 0,.slice none 0 0]⟩,some ⟨.bas,false,1,8,[.nilFunc]⟩,some ⟨.bas,false,1,8,[.nilFunc]⟩,some ⟨.bas,false,1,8,[.nilFunc]⟩,some ⟨.bas,false,1,8,[.nilFunc]⟩,some ⟨.bas,false,1,8,[.nilFunc]⟩,some ⟨.bas,false,1,8,[.nilFunc]⟩,some ⟨.slice 4,false,1,24,[.slice none 0 0]⟩,some ⟨.bas,false,1,8,[.nilFunc]⟩,some ⟨.bas,false,1,8,[.nilFunc]⟩,some ⟨.bas,false,1,8,[.nilFunc]⟩,some ⟨.bas,false,1,8,[.nilFunc]⟩,some ⟨.bas,false,1,8,[.nilFunc]⟩,some ⟨.bas,false,1,8,[.nilFunc]⟩,some ⟨.bas,false,1,8,[.nilFunc]⟩,some ⟨.bas,false,1,8,[.nilFunc]⟩,some ⟨.bas,false,1,8,[.nilFunc]⟩,some ⟨.bas,false,1,8,[.nilFunc]⟩,none,some ⟨.bas,false,1,8,[.nilFunc]⟩,some ⟨.bas,false,1,8,[.nilFunc]⟩,some ⟨.bas,false,1,8,[.nilFunc]⟩,some ⟨.struct [(0,1,false),(1,4,false)],true,5,72,[.int .i64 0,.int .i64 0,.slice none 0 0,.int .i64 0,.slice none 0 0]⟩,some ⟨.struct [(0,1,false),(1,4,false)],true,5,72,[.int .i64 0,.int .i64 0,.slice none 0 0,.int .i64 0,.slice none 0 0]⟩,some ⟨.bas,false,1,8,[.nilFunc]⟩,some ⟨.bas,false,1,8,[.nilFunc]⟩,some ⟨.bas,false,1,8,[.nilFunc]⟩,some ⟨.bas,false,1,8,[.nilFunc]⟩,some ⟨.bas,false,1,8,[.nilFunc]⟩,none,some ⟨.bas,false,1,8,[.nilFunc]⟩,some ⟨.bas,false,1,8,[.nilFunc]⟩,some ⟨.slice 32,false,1,24,[.slice none 0 0]⟩,some ⟨.bas,false,1,8,[.nilFunc]⟩,some ⟨.bas,false,1,8,[.nilFunc]⟩,none,some ⟨.bas,false,1,8,[.nilFunc]⟩,some ⟨.slice 49,false,1,24,[.slice none 0 0]⟩,none,some ⟨.bas,false,1,8,[.nilFunc]⟩,some ⟨.bas,false,1,8,[.nilFunc]⟩,some ⟨.bas,false,1,8,[.nilFunc]⟩,some ⟨.bas,false,1,8,[.nilFunc]⟩,some ⟨.bas,false,1,8,[.nilFunc]⟩,some ⟨.bas,false,1,8,[.nilFunc]⟩,some ⟨.bas,false,1,8,[.nilFunc]⟩,some ⟨.struct [(0,1,false),(1,1,false),(2,4,false)],true,6,96,[.slice none 0 0,.int .i64 0,.int .i64 0,.slice none 0 0,.int .i64 0,.slice none 0 0]⟩,some ⟨.struct [(0,1,false),(1,1,false),(2,4,false)],true,6,96,[.slice none 0 0,.int .i64 0,.int .i64 0,.slice none 0 0,.int .i64 0,.slice none 0 0]⟩,some ⟨.slice 137,false,1,24,[.slice none 0 0]⟩,some ⟨.bas,false,1,8,[.nilFunc]⟩,some ⟨.struct [(0,1,false),(1,1,false),(2,1,false)],true,3,56,[.int .i64 0,.slice none 0 0,.slice none 0 0]⟩,some ⟨.struct [(0,1,false),(1,1,false),(2,1,false)],true,3,56,[.int .i64 0,.slice none 0 0,.slice none 0 0]⟩,none,some ⟨.bas,false,1,8,[.nilFunc]⟩,some ⟨.bas,false,1,8,[.nilFunc]⟩,some ⟨.bas,false,1,8,[.nilFunc]⟩,some ⟨.bas,false,1,8,[.nilFunc]⟩,some ⟨.bas,false,1,8,[.nilFunc]⟩,some ⟨.slice 147,false,1,24,[.slice none 0 0]⟩,some ⟨.bas,false,1,8,[.nilFunc]⟩,some ⟨.struct [(0,4,false),(4,1,false),(5,1,false),(6,1,false)],true,7,104,[.int .i64 0,.slice none 0 0,.int .i64 0,.slice none 0 0,.bool false,.slice none 0 0,.int .i64 0]⟩,some ⟨.struct [(0,4,false),(4,1,false),(5,1,false),(6,1,false)],true,7,104,[.int .i64 0,.slice none 0 0,.int .i64 0,.slice none 0 0,.bool false,.slice none 0 0,.int .i64 0]⟩,some ⟨.struct [(0,1,false),(1,1,false),(2,1,false),(3,1,false),(4,1,false),(5,1,false)],true,6,48,[.int .i64 0,.int .i64 0,.int .i64 0,.int .i64 0,.int .i64 0,.bool false]⟩,some ⟨.struct [(0,1,false),(1,1,false),(2,1,false),(3,1,false),(4,1,false),(5,1,false)],true,6,48,[.int .i64 0,.int .i64 0,.int .i64 0,.int .i64 0,.int .i64 0,.bool false]⟩,some ⟨.bas,false,1,8,[.nilFunc]⟩,none,some ⟨.bas,false,1,8,[.nilFunc]⟩,some ⟨.bas,false,1,8,[.nilFunc]⟩,some ⟨.bas,false,1,8,[.nilFunc]⟩,some ⟨.bas,false,1,8,[.nilFunc]⟩,some ⟨.bas,false,1,8,[.nilFunc]⟩,some ⟨.bas,false,1,8,[.nilFunc]⟩,some ⟨.bas,false,1,8,[.nilFunc]⟩,some ⟨.struct [(0,1,false),(1,1,false),(2,1,false)],true,3,24,[.int .i64 0,.int .i64 0,.int .i64 0]⟩,some ⟨.struct [(0,1,false),(1,1,false),(2,1,false)],true,3,24,[.int .i64 0,.int .i64 0,.int .i64 0]⟩,some ⟨.bas,false,1,8,[.nilFunc]⟩,some ⟨.bas,false,1,8,[.nilFunc]⟩,some ⟨.bas,false,1,8,[.nilFunc]⟩,some ⟨.bas,false,1,8,[.nilFunc]⟩,some ⟨.bas,false,1,8,[.nilFunc]⟩,some ⟨.bas,false,1,8,[.nilFunc]⟩,some ⟨.bas,false,1,8,[.nilFunc]⟩,some ⟨.bas,false,1,8,[.nilFunc]⟩,some ⟨.bas,false,1,8,[.nilFunc]⟩,none,some ⟨.bas,false,1,8,[.nilFunc]⟩,some ⟨.bas,false,1,8,[.nilFunc]⟩,some ⟨.struct [(0,1,false),(1,4,false),(5,1,false),(6,1,false),(7,1,false)],true,8,144,[.int .i64 0,.int .i64 0,.slice none 0 0,.int .i64 0,.slice none 0 0,.slice none 0 0,.slice none 0 0,.slice none 0 0]⟩,some ⟨.struct [(0,1,false),(1,4,false),(5,1,false),(6,1,false),(7,1,false)],true,8,144,[.int .i64 0,.int .i64 0,.slice none 0 0,.int .i64 0,.slice none 0 0,.slice none 0 0,.slice none 0 0,.slice none 0 0]⟩,none,some ⟨.bas,false,1,8,[.nilFunc]⟩,some ⟨.bas,false,1,8,[.nilFunc]⟩,some ⟨.bas,false,1,8,[.nilFunc]⟩,some ⟨.bas,false,1,8,[.nilFunc]⟩,some ⟨.bas,false,1,8,[.nilFunc]⟩,some ⟨.bas,false,1,8,[.nilFunc]⟩,some ⟨.bas,false,1,8,[.nilFunc]⟩,some ⟨.bas,false,1,8,[.nilFunc]⟩,some ⟨.bas,false,1,8,[.nilFunc]⟩,none,some ⟨.bas,false,1,8,[.nilFunc]⟩,some ⟨.bas,false,1,8,[.nilFunc]⟩,some ⟨.bas,false,1,8,[.nilFunc]⟩,some ⟨.bas,false,1,8,[.nilFunc]⟩,some ⟨.bas,false,1,8,[.nilFunc]⟩,some ⟨.bas,false,1,8,[.nilFunc]⟩,some ⟨.bas,false,1,8,[.nilFunc]⟩,some ⟨.bas,false,1,8,[.nilFunc]⟩,none,some ⟨.bas,false,1,8,[.nilFunc]⟩,some ⟨.bas,false,1,8,[.nilFunc]⟩,some ⟨.bas,false,1,8,[.nilFunc]⟩,some ⟨.bas,false,1,8,[.nilFunc]⟩,some ⟨.slice 59,false,1,24,[.slice none 0 0]⟩,some ⟨.bas,false,1,8,[.nilFunc]⟩,none,some ⟨.bas,false,1,8,[.nilFunc]⟩,some ⟨.bas,false,1,8,[.nilFunc]⟩,some ⟨.bas,false,1,8,[.nilFunc]⟩,some ⟨.bas,false,1,8,[.nilFunc]⟩,none,some ⟨.bas,false,1,8,[.nilFunc]⟩,some ⟨.bas,false,1,8,[.nilFunc]⟩,some ⟨.bas,false,1,8,[.nilFunc]⟩,some ⟨.bas,false,1,8,[.nilFunc]⟩,some ⟨.bas,false,1,8,[.nilFunc]⟩,some ⟨.bas,false,1,8,[.nilFunc]⟩,some ⟨.int .u64,false,1,8,[.int .u64 0]⟩,some ⟨.int .u64,false,1,8,[.int .u64 0]⟩,some ⟨.bas,false,1,8,[.nilFunc]⟩,some ⟨.bas,false,1,8,[.nilFunc]⟩,some ⟨.bas,false,1,8,[.nilFunc]⟩,some ⟨.bas,false,1,8,[.nilFunc]⟩,some ⟨.bas,false,1,8,[.nilFunc]⟩,some ⟨.bas,false,1,8,[.nilFunc]⟩,some ⟨.bas,false,1,8,[.nilFunc]⟩,some ⟨.bas,false,1,8,[.nilFunc]⟩,some ⟨.bas,false,1,8,[.nilFunc]⟩,some ⟨.bas,false,1,8,[.nilFunc]⟩,some ⟨.bas,false,1,8,[.nilFunc]⟩,some ⟨.bas,false,1,8,[.pointer none]⟩,some ⟨.bas,false,1,8,[.nilFunc]⟩,none,some ⟨.bas,false,1,8,[.nilFunc]⟩,some ⟨.bas,false,1,8,[.nilFunc]⟩,some ⟨.bas,false,1,8,[.nilFunc]⟩,some ⟨.bas,false,1,8,[.nilFunc]⟩,some ⟨.bas,false,1,8,[.pointer none]⟩,some ⟨.bas,false,1,8,[.nilFunc]⟩,some ⟨.bas,false,1,8,[.nilFunc]⟩,some ⟨.bas,false,1,8,[.nilFunc]⟩,some ⟨.bas,false,1,8,[.nilFunc]⟩,some ⟨.bas,false,1,8,[.nilFunc]⟩,some ⟨.bas,false,1,8,[.nilFunc]⟩,some ⟨.bas,false,1,8,[.nilFunc]⟩,some ⟨.bas,false,1,8,[.nilFunc]⟩,some ⟨.bas,false,1,8,[.nilFunc]⟩,some ⟨.bas,false,1,8,[.nilFunc]⟩,some ⟨.bas,false,1,8,[.nilFunc]⟩,some ⟨.bas,false,1,8,[.nilFunc]⟩,some ⟨.bas,false,1,8,[.nilFunc]⟩,none,some ⟨.bas,false,1,8,[.nilFunc]⟩,none,some ⟨.bas,false,1,8,[.nilFunc]⟩,some ⟨.bas,false,1,8,[.nilFunc]⟩,some ⟨.bas,false,1,8,[.nilFunc]⟩,some ⟨.bas,false,1,8,[.nilFunc]⟩,some ⟨.struct [(0,1,false),(1,1,false),(2,1,false),(3,1,false),(4,1,false),(5,1,false)],true,6,48,[.int .i64 0,.int .i64 0,.int .i64 0,.int .i64 0,.int .i64 0,.int .i64 0]⟩,some ⟨.struct [(0,1,false),(1,1,false),(2,1,false),(3,1,false),(4,1,false),(5,1,false)],true,6,48,[.int .i64 0,.int .i64 0,.int .i64 0,.int .i64 0,.int .i64 0,.int .i64 0]⟩,some ⟨.bas,false,1,8,[.nilFunc]⟩,some ⟨.bas,false,1,8,[.nilFunc]⟩,none,some ⟨.bas,false,1,8,[.nilFunc]⟩,some ⟨.arr 2 3,true,2,16,[.int .i64 0,.int .i64 0]⟩,some ⟨.slice 260,false,1,24,[.slice none 0 0]⟩,some ⟨.bas,false,1,8,[.nilFunc]⟩,some ⟨.struct [(0,1,false),(1,1,false)],true,2,16,[.int .i64 0,.int .i64 0]⟩,some ⟨.struct [(0,1,false),(1,1,false)],true,2,16,[.int .i64 0,.int .i64 0]⟩,some ⟨.struct [(0,1,false),(1,1,false),(2,1,false),(3,1,false)],true,4,32,[.int .i64 0,.int .i64 0,.int .i64 0,.int .i64 0]⟩,some ⟨.struct [(0,1,false),(1,1,false),(2,1,false),(3,1,false)],true,4,32,[.int .i64 0,.int .i64 0,.int .i64 0,.int .i64 0]⟩,none,some ⟨.bas,false,1,8,[.nilFunc]⟩,some ⟨.bas,false,1,8,[.nilFunc]⟩,some ⟨.bas,false,1,8,[.nilFunc]⟩,some ⟨.slice 84,false,1,24,[.slice none 0 0]⟩,some ⟨.slice 271,false,1,24,[.slice none 0 0]⟩,some ⟨.struct [(0,1,false),(1,1,false),(2,1,false),(3,2,false),(5,1,false),(6,1,false),(7,1,false),(8,1,false),(9,1,false),(10,2,false)],true,12,256,[.slice none 0 0,.slice none 0 0,.slice none 0 0,.int .i64 0,.slice none 0 0,.slice none 0 0,.slice none 0 0,.slice none 0 0,.slice none 0 0,.slice none 0 0,.int .i64 0,.slice none 0 0]⟩,some ⟨.struct [(0,1,false),(1,1,false),(2,1,false),(3,2,false),(5,1,false),(6,1,false),(7,1,false),(8,1,false),(9,1,false),(10,2,false)],true,12,256,[.slice none 0 0,.slice none 0 0,.slice none 0 0,.int .i64 0,.slice none 0 0,.slice none 0 0,.slice none 0 0,.slice none 0 0,.slice none 0 0,.slice none 0 0,.int .i64 0,.slice none 0 0]⟩,some ⟨.bas,false,1,8,[.nilFunc]⟩,some ⟨.bas,false,1,8,[.nilFunc]⟩,some ⟨.bas,false,1,8,[.nilFunc]⟩,some ⟨.bas,false,1,8,[.nilFunc]⟩,some ⟨.bas,false,1,8,[.nilFunc]⟩,some ⟨.bas,false,1,8,[.nilFunc]⟩,some ⟨.bas,false,1,8,[.nilFunc]⟩,some ⟨.slice 288,false,1,24,[.slice none 0 0]⟩,some ⟨.slice 306,false,1,24,[.slice none 0 0]⟩,some ⟨.struct [(0,1,false),(1,1,false),(2,1,false),(3,1,false),(4,1,false),(5,1,false)],true,6,128,[.int .i64 0,.slice none 0 0,.slice none 0 0,.slice none 0 0,.slice none 0 0,.slice none 0 0]⟩,some ⟨.struct [(0,1,false),(1,1,false),(2,1,false),(3,1,false),(4,1,false),(5,1,false)],true,6,128,[.int .i64 0,.slice none 0 0,.slice none 0 0,.slice none 0 0,.slice none 0 0,.slice none 0 0]⟩,some ⟨.bas,false,1,8,[.nilFunc]⟩,some ⟨.struct [(0,4,false),(4,1,false)],true,5,88,[.int .i64 0,.slice none 0 0,.int .i64 0,.slice none 0 0,.slice none 0 0]⟩,some ⟨.struct [(0,4,false),(4,1,false)],true,5,88,[.int .i64 0,.slice none 0 0,.int .i64 0,.slice none 0 0,.slice none 0 0]⟩,some ⟨.bas,false,1,8,[.nilFunc]⟩,none,some ⟨.bas,false,1,8,[.nilFunc]⟩,some ⟨.bas,false,1,8,[.nilFunc]⟩,some ⟨.bas,false,1,8,[.nilFunc]⟩,some ⟨.bas,false,1,8,[.nilFunc]⟩,some ⟨.bas,false,1,8,[.nilFunc]⟩,some ⟨.bas,false,1,8,[.nilFunc]⟩,some ⟨.int .u32,false,1,4,[.int .u32 0]⟩,none,some ⟨.bas,false,1,8,[.nilFunc]⟩,none,some ⟨.bas,false,1,8,[.nilFunc]⟩,some ⟨.bas,false,1,8,[.nilFunc]⟩,some ⟨.bas,false,1,8,[.nilFunc]⟩,some ⟨.bas,false,1,8,[.nilFunc]⟩,some ⟨.struct [(0,1,false),(1,1,false)],true,2,16,[.int .i64 0,.bool false]⟩,some ⟨.struct [(0,1,false),(1,1,false)],true,2,16,[.int .i64 0,.bool false]⟩,some ⟨.bas,false,1,8,[.pointer none]⟩,some ⟨.bas,false,1,8,[.nilFunc]⟩,some ⟨.bas,false,1,8,[.nilFunc]⟩,some ⟨.bas,false,1,8,[.nilFunc]⟩,some ⟨.bas,false,1,8,[.nilFunc]⟩,none,none,some ⟨.arr 0 16,true,0,0,[]⟩,some ⟨.struct [(0,0,false)],true,0,0,[]⟩,some ⟨.struct [(0,0,false)],true,0,0,[]⟩,some ⟨.int .u8,false,1,1,[.int .u8 0]⟩,some ⟨.int .u8,false,1,1,[.int .u8 0]⟩,some ⟨.bas,false,1,8,[.nilFunc]⟩,some ⟨.bas,false,1,8,[.pointer none]⟩,some ⟨.int .i32,false,1,4,[.int .i32 0]⟩,some ⟨.int .i32,false,1,4,[.int .i32 0]⟩,some ⟨.struct [(0,1,false),(1,1,false),(2,1,false),(3,1,false),(4,1,false),(5,1,false),(6,1,false),(7,1,false),(8,1,false),(9,1,false),(10,1,false)],true,11,48,[.int .u64 0,.int .u64 0,.int .u32 0,.int .u8 0,.int .u8 0,.int .u8 0,.int .u8 0,.nilFunc,.pointer none,.int .i32 0,.int .i32 0]⟩,some ⟨.struct [(0,1,false),(1,1,false),(2,1,false),(3,1,false),(4,1,false),(5,1,false),(6,1,false),(7,1,false),(8,1,false),(9,1,false),(10,1,false)],true,11,48,[.int .u64 0,.int .u64 0,.int .u32 0,.int .u8 0,.int .u8 0,.int .u8 0,.int .u8 0,.nilFunc,.pointer none,.int .i32 0,.int .i32 0]⟩,none]
def tab:Tab:=fun t=>bk7.getD t none
theorem tq {P:Program} {t:TypeId} {d:TD} (h1:b9B P t=some d.k:=by kernel_rfl) (h2:d.agg=bh8 d.k:=by rfl) (h3:(P.info? t).map (fun i=>(i.zero.map (·.cells.toList),i.size,i.bytes))=some (some d.zero,d.size,d.bytes):=by kernel_rfl) (h4:d.zero.all (·.oneCell')=true:=by rfl) (h5:d.zero.length=d.size:=by rfl):ay3 P t d:=bg4 h1 h2 h3 h4 h5
theorem g6:D3 Tryz.prog tab:=b6Q (l:=bk7) (by kernel_rfl) ⟨tq,tq,tq,tq,tq,tq,tq,tq,tq,tq,tq,tq,tq,tq,tq,tq,tq,tq,tq,tq,tq,tq,tq,tq,tq,tq,tq,tq,tq,tq,tq,tq,tq,tq,tq,tq,tq,tq,tq,tq,tq,tq,tq,tq,tq,tq,tq,tq,tq,tq,tq,tq,tq,tq,tq,tq,tq,tq,tq,tq,tq,tq,tq,tq,tq,tq,tq,tq,tq,tq,tq,tq,tq,tq,tq,tq,tq,tq,tq,tq,tq,tq,tq,tq,tq,tq,tq,tq,tq,tq,tq,tq,tq,tq,tq,tq,tq,tq,tq,tq,tq,tq,tq,tq,tq,tq,tq,tq,tq,tq,tq,tq,tq,tq,tq,tq,tq,tq,tq,tq,tq,tq,tq,tq,tq,tq,tq,tq,tq,tq,tq,tq,tq,tq,tq,tq,tq,tq,tq,tq,tq,tq,tq,tq,tq,tq,tq,tq,tq,tq,tq,tq,tq,tq,tq,tq,tq,tq,tq,tq,tq,tq,tq,tq,tq,tq,tq,tq,tq,tq,tq,tq,tq,tq,tq,tq,tq,tq,tq,tq,tq,tq,tq,tq,tq,tq,tq,tq,tq,tq,tq,tq,tq,tq,tq,tq,tq,tq,tq,tq,tq,tq,tq,tq,tq,tq,tq,tq,tq,tq,tq,tq,tq,tq,tq,tq,tq,tq,tq,tq,tq,tq,tq,tq,tq,tq,tq,tq,tq,tq,tq,tq,tq,tq,tq,tq,tq,tq,tq,tq,tq,tq,tq,tq,tq,tq,tq,tq,tq,tq,tq,tq,tq,tq,tq,tq,tq,tq,tq,tq,tq,tq,tq,tq,tq,tq,tq,tq,tq,tq,tq,tq,tq,tq,tq,tq,tq,tq,tq,tq,tq,tq,tq,tq,tq,tq,tq,tq,tq,trivial⟩
end
section
open Go.RowKit
structure a0b where
 kind:Int
 hh:Int
 mat:Int
structure t4 where
 day:Int
 src:Int
 dst:Int
 scale:Int
 reading:Int
 all:Bool
structure P5 where
 scale:Int
 since:Int
 till:Int
 grams:Int
 permille:Int
 drift:Int
structure I8 where
 scale:Int
 since:Int
structure a2U where
 move:Int
 mat:Int
 least:Int
 most:Int
structure Ev where
 mats:Int
 hhs:Int
 scs:Int
 places:List a0b
 moves:List t4
 certs:List P5
 recalls:List I8
 purities:List a2U
def Rd {α:Type} (k:Nat) (f:α->List Value) (w:World) (A:Option Addr) (n:Nat) (xs:List α):Prop:=
 n=xs.length∧(0<n->∃b off,A=some ⟨b,off,none⟩∧∀i x,xs[i]? =some x->∀j u,(f x)[j]? =some u->w.cell? ⟨b,off+(i*k+j),none⟩=some u)
section
variable {α:Type} {k:Nat} {f:α->List Value} {w w':World} {A:Option Addr} {n:Nat} {xs:List α}
theorem Rd.nil (A:Option Addr):Rd k f w A 0 ([]:List α):=⟨rfl,fun h=>absurd h (by omega)⟩
theorem Rd.len (h:Rd k f w A n xs):n=xs.length:=h.1
end
section
variable {w w':World} {m h s:Int} {A1 A2 A3 A4 A5:Option Addr} {n1 n2 n3 n4 n5:Nat} {e:Ev}
end
end
section
def idx (a b:Int):Bool:=decide (0<=a) && decide (a<b)
def btw (n lo hi:Int):Bool:=decide (lo<=n) && decide (n<=hi)
theorem b7I (a b:Int):btw a 0 (b - 1)=idx a b:=by
 unfold btw idx
 have:decide (a<=b - 1)=decide (a<b):=by simp;omega
 rw [this]
theorem ay6 {a b:Int}:idx a b=true↔0<=a∧a<b:=by simp [idx]
theorem a1q {a b c:Int}:btw a b c=true↔b<=a∧a<=c:=by simp [btw]
def al6 (e:Ev):Bool:=
 decide (6<e.mats) || decide (100<e.hhs) || decide (30<e.scs) || decide (100<e.places.length) || decide (200<e.moves.length) ||
  decide (100<e.certs.length) || decide (30<e.recalls.length) || decide (200<e.purities.length)
def a1n (e:Ev) (p:a0b):Bool:=
 idx p.kind 7 && (if p.kind=0 then idx p.hh e.hhs && idx p.mat e.mats else decide (p.hh=-1) && decide (p.mat=-1))
def B6 (e:Ev) (i:Int):Int:=((e.places[i.toNat]?).map (·.kind)).getD (-1)
def R9 (e:Ev) (m:t4):Bool:=
 idx m.src e.places.length && idx m.dst e.places.length && decide (m.src≠m.dst) && decide (B6 e m.src≠5) && decide (B6 e m.src≠6) &&
  !(decide (B6 e m.src=0) && m.all) && decide (B6 e m.dst≠0) && (if m.scale=-1 then decide (m.reading=0) else idx m.scale e.scs && btw m.reading 0 1099511627776)
def ac3 (e:Ev) (c:P5):Bool:=
 decide (0<=c.since) && decide (c.since<=c.till) && decide (c.till<=100000) && idx c.scale e.scs && btw c.grams 0 1099511627776 && btw c.permille 0 1000 && btw c.drift 0 10000000
def a4J (e:Ev) (r:I8):Bool:=idx r.scale e.scs && btw r.since 0 100000
def a4t (e:Ev) (p:a2U):Bool:=
 idx p.move e.moves.length && idx p.mat e.mats && decide (0<=p.least) && decide (p.least<=p.most) && decide (p.most<=1000)
def a3J (e:Ev):Bool:=e.certs.all (ac3 e) && e.recalls.all (a4J e) && e.purities.all (a4t e)
def K4 (e:Ev):Int->List t4->Int
 |_,[]=>0
 |last,m::r=>if m.day<last∨100000<m.day then 17 else if R9 e m then K4 e m.day r else 1
def J4 (e:Ev):Int:=
 if al6 e then 6 else if e.mats<1∨e.hhs<0∨e.scs<0∨e.places.all (a1n e)=false then 1
 else if K4 e 0 e.moves≠0 then K4 e 0 e.moves else if a3J e then 0 else 1
theorem ax0 {e:Ev} {i:Nat} {p:a0b} (h:e.places[i]? =some p):B6 e (i:Int)=p.kind:=by
 simp [B6,h]
theorem ao0 {e:Ev} {l:List t4}:∀{last:Int},K4 e last l=0->∀m ∈ l,R9 e m=true:=by
 induction l with
 |nil=>intro last _ m hm;cases hm
 |cons m r ih=>
  intro last h x hx
  unfold K4 at h
  split at h
  ·simp at h
  ·split at h
   ·rename_i hmk
    rcases lbA.1 hx with rfl|hx
    ·exact hmk
    ·exact ih h x hx
   ·simp at h
theorem a3N {e:Ev} (h:J4 e=0):al6 e=false∧1<=e.mats∧0<=e.hhs∧0<=e.scs∧e.places.all (a1n e)=true∧K4 e 0 e.moves=0∧a3J e=true:=by
 unfold J4 at h
 by_cases h1:al6 e=true
 ·rw [if_pos h1] at h;simp at h
 rw [if_neg h1] at h
 by_cases h2:e.mats<1∨e.hhs<0∨e.scs<0∨e.places.all (a1n e)=false
 ·rw [if_pos h2] at h;simp at h
 rw [if_neg h2] at h
 by_cases h3:K4 e 0 e.moves≠0
 ·rw [if_pos h3] at h;exact absurd h h3
 rw [if_neg h3] at h
 by_cases h4:a3J e=true
 ·refine ⟨by simpa using h1,by omega,by omega,by omega,?_,by simpa using h3,h4⟩
  rw [← Bool.not_eq_false]
  exact fun hq=>h2 (.inr (.inr (.inr hq)))
 ·rw [if_neg h4] at h;simp at h
theorem K6 {e:Ev} (h:J4 e=0) {m:t4} (hm:m ∈ e.moves):R9 e m=true:=ao0 (a3N h).2.2.2.2.2.1 m hm
theorem Y2 {e:Ev} {m:t4} (h:R9 e m=true):0<=m.src∧m.src<e.places.length:=by
 simp [R9] at h
 exact ay6.1 h.1.1.1.1.1.1.1
theorem a6y {e:Ev} {m:t4} (h:R9 e m=true):0<=m.dst∧m.dst<e.places.length:=by
 simp [R9] at h
 exact ay6.1 h.1.1.1.1.1.1.2
def m7 {α:Type} (p:Nat->α->Bool):Nat->List α->List Int
 |_,[]=>[]
 |k,m::r=>if p k m then (k:Int)::m7 p (k+1) r else m7 p (k+1) r
def D8 {α:Type} (p:Nat->α->Bool) (l:List α) (k:Nat):List Int:=m7 p 0 (l.take k)
theorem a4a {α:Type} (p:Nat->α->Bool) (a b:List α):∀k,m7 p k (a++b)=m7 p k a++m7 p (k+a.length) b:=by
 induction a with
 |nil=>intro k;simp [m7]
 |cons m r ih=>
  intro k
  simp only [List.cons_append,m7,ih,lbu]
  rw [show k+1+r.length=k+(r.length+1) from by omega]
  split<;>simp
theorem a8O {α:Type} (p:Nat->α->Bool) {l:List α} {k:Nat} {x:α} (h:l[k]? =some x):D8 p l (k+1)=D8 p l k++(if p k x then [(k:Int)] else []):=by
 obtain ⟨hk,hx⟩:=lbe.1 h
 unfold D8
 rw [List.take_succ_eq_append_getElem hk,a4a,hx]
 have:(l.take k).length=k:=by simp;omega
 rw [this]
 simp only [m7,Nat.zero_add]
theorem a20 {α:Type} (p:Nat->α->Bool) {l:List α} {k:Nat} {x:α} (h:l[k]? =some x) (hp:p k x=true):D8 p l (k+1)=D8 p l k++[(k:Int)]:=by
 rw [a8O p h,if_pos hp]
theorem Z0 {α:Type} (p:Nat->α->Bool) {l:List α} {k:Nat} {x:α} (h:l[k]? =some x) (hp:p k x=false):D8 p l (k+1)=D8 p l k:=by
 rw [a8O p h,if_neg (by simp [hp])];simp
theorem a6m {α:Type} (p:Nat->α->Bool) {l:List α} {k:Nat} (h:l.length<=k):D8 p l k=m7 p 0 l:=by
 unfold D8;rw [lbn h]
theorem ac2 {α:Type} {p q:Nat->α->Bool} (l:List α) (N:Nat) (h:∀k m,k<N->p k m=q k m):∀k,k+l.length<=N->m7 p k l=m7 q k l:=by
 induction l with
 |nil=>intro k _;rfl
 |cons m r ih=>
  intro k hk
  simp only [lbu] at hk
  simp only [m7,h k m (by omega),ih (k+1) (by omega)]
theorem a4c {α:Type} (p:Nat->α->Bool) (l:List α):∀k,(m7 p k l).length<=l.length:=by
 induction l with
 |nil=>intro k;simp [m7]
 |cons m r ih=>
  intro k
  have:=ih (k+1)
  simp only [m7]
  split<;>simp<;>omega
theorem a2C {α:Type} (p:Nat->α->Bool) (l:List α) (k:Nat):(D8 p l k).length<=k:=by
 have:=a4c p (l.take k) 0
 have h2:(l.take k).length<=k:=List.length_take_le _ _
 unfold D8
 omega
def aj4 (e:Ev) (hh mat lo hi:Int) (m:t4):Bool:=
 match e.places[m.src.toNat]? with
 |some p=>decide (p.kind=0) && decide (p.hh=hh) && (decide (mat=-1) || decide (p.mat=mat)) && btw m.day lo hi
 |none=>false
def Q2 (e:Ev) (hh mat lo hi:Int):List Int:=if J4 e=0 then m7 (fun _ m=>aj4 e hh mat lo hi m) 0 e.moves else []
end
section
structure Ev.Sized (e:Ev):Prop where
 s1:e.places.length<=1000000
 s2:e.moves.length<=1000000
 s3:e.certs.length<=1000000
 s4:e.recalls.length<=1000000
 s5:e.purities.length<=1000000
end
section
open Go.RowKit
abbrev ti (n:Int):T:=.atm (.int .i64 n)
abbrev tb (b:Bool):T:=.atm (.bool b)
def a0b.row (p:a0b):List T:=[ti p.kind,ti p.hh,ti p.mat]
def t4.row (m:t4):List T:=[ti m.day,ti m.src,ti m.dst,ti m.scale,ti m.reading,tb m.all]
def P5.row (c:P5):List T:=[ti c.scale,ti c.since,ti c.till,ti c.grams,ti c.permille,ti c.drift]
def I8.row (r:I8):List T:=[ti r.scale,ti r.since]
def a2U.row (p:a2U):List T:=[ti p.move,ti p.mat,ti p.least,ti p.most]
def g9 (n:Int):List T:=[ti n]
def a2t (b:Bool):List T:=[tb b]
abbrev a5N (l:List a0b):T:=.sl 3 .any (l.map a0b.row)
abbrev a2P (l:List t4):T:=.sl 6 .any (l.map t4.row)
abbrev a2I (l:List P5):T:=.sl 6 .any (l.map P5.row)
abbrev T8 (l:List I8):T:=.sl 2 .any (l.map I8.row)
abbrev a1H (l:List a2U):T:=.sl 4 .any (l.map a2U.row)
abbrev E1 (l:List Int):T:=.sl 1 .any (l.map g9)
abbrev bb8 (l:List Bool):T:=.sl 1 .any (l.map a2t)
def evC (e:Ev):List C:=[.t (ti e.mats),.t (ti e.hhs),.t (ti e.scs),.t (a5N e.places),.t (a2P e.moves),.t (a2I e.certs),.t (T8 e.recalls),.t (a1H e.purities)]
def evT (e:Ev):List T:=[ti e.mats,ti e.hhs,ti e.scs,a5N e.places,a2P e.moves,a2I e.certs,T8 e.recalls,a1H e.purities]
abbrev evS (e:Ev):S:=.agg (evC e)
abbrev i7 (l:List Int):S:=.c (.t (E1 l))
abbrev a2g (l:List Bool):S:=.c (.t (bb8 l))
def a0b.cs (p:a0b):List C:=p.row.map .t
def t4.cs (m:t4):List C:=m.row.map .t
abbrev b2q (m:t4):S:=.agg m.cs
abbrev evB (e:Ev):Blk:=I1 28 8 [evC e] true
theorem i4 {a b:Bool} {H1:Hp} (h:a=b):Fin 0 (j0 a) H1 (j0 b) []:=s7 (by subst h;exact rfl)
theorem t6 {a b:Int} {k:IntKind} {H1:Hp} (h:a=b):Fin 0 (b7 k a) H1 (b7 k b) []:=s7 (by subst h;exact rfl)
theorem k9 {x y:T} {ρ:List (Option Nat)} {H:Hp} (h:x=y):a5T ρ H (.c (.t x)) (.c (.t y)):=aC2 h
theorem e8 {a b:Int} {k:IntKind} {ρ:List (Option Nat)} {H:Hp} (h:a=b):a5T ρ H (b7 k a) (b7 k b):=by subst h;exact rfl
theorem k8 (e:Ev):L8 [evC e]:=by simp [L8,evC,C.isT]
theorem bk8 {H:Hp} {p:Nat->Prop} (e:Ev):VS H p (evS e) (evS e):=b1y (evT e)
end
section
def bl5 (xs ys:List Int) (k:Nat):Prop:=xs.take k=ys.take k
end
section
open Go.RowKit
set_option maxRecDepth 100000
abbrev t8 (l:List Int):Blk:={ mode:=.live,elem:=3,size:=1,rows:=toC (l.map g9),box:=false }
abbrev Z7 (id:Nat) (l:List Int):S:=.c (.own id 0 l.length true)
theorem q9 {α:Type} {xs:List α} {f:α->List T} {n:Int} {x:α} {lo:Nat} {K:List C->Prop} (hx:xs[lo+n.toNat]? =some x) (h:K ((f x).map C.t)):∃row,(toC (xs.map f))[lo+n.toNat]? =some row∧K row:=
 ⟨(f x).map C.t,by simp [toC,hx],h⟩
theorem a4e {a b:Int} {n:Nat} {K:Prop} (h0:0<=a) (h1:a<=b) (h2:b<=1000000) (hn:n<=1000) (k:K):(0<=a∧a<=b∧b*((n:Int)+1)<=140737488355328)∧K:=by
 refine ⟨⟨h0,h1,?_⟩,k⟩
 have:b*((n:Int)+1)<=1000000*1001:=Int.mul_le_mul h2 (by omega) (by omega) (by omega)
 omega
theorem a23 {α:Type} {xs:List α} {f:α->List T} {i n:Nat} {v:List C} {x:α} {K:List C->Prop} (hne:i≠n) (hx:xs[n]? =some x) (h:K ((f x).map C.t)):∃row,((toC (xs.map f)).set i v)[n]? =some row∧K row:=
 ⟨(f x).map C.t,by rw [List.getElem?_set_ne hne];simp [toC,hx],h⟩
theorem b5L {ρ:List (Option Nat)} {H:Hp} {id len:Nat} {app:Bool} {size:Nat} {k:Blk} {rows:List (List T)} (hp:O3 ρ id=true) (hk:H[id]? =some k) (hd:¬k.mode.gone) (hs:k.size=size) (hc:k.rows=toC rows) (hl:len=rows.length):
 a5T ρ H (.c (.own id 0 len app)) (.c (.t (.sl size .any rows))):=show VC H (fun id=>O3 ρ id=true) _ _ from B7 hp hk hd hs hc hl
theorem b1m {α:Type} {f:α->List T} {xs:List α} {x:α}:(toC (xs.map f)).take xs.length++toC [f x]=toC ((xs++[x]).map f):=by
 rw [lbn (by simp [toC])];simp [toC]
theorem ah4 {x:Int} (h1:0<=x) (h2:x<18446744073709551616):IntKind.wrap .u64 x=x:=by
 simp only [IntKind.wrap,IntKind.bits,IntKind.signed]
 simp
 omega
theorem aM1 {k:IntKind} (hk:k.bits=64) (a:Int) (j:Nat) (hj:j<=62):(BitVec.ofInt k.bits a &&& BitVec.ofInt k.bits ((2 ^ j - 1:Nat):Int)).toNat=(a % ((2 ^ j:Nat):Int)).toNat:=by
 rw [hk]
 rw [BitVec.toNat_and,BitVec.toNat_ofInt,BitVec.toNat_ofInt]
 have hp:(2:Nat) ^ j<=2 ^ 62:=Nat.pow_le_pow_right (by decide) hj
 have h0:0<(2:Nat) ^ j:=Nat.pow_pos (by decide)
 have e1:((((2 ^ j - 1:Nat):Int)) % ((2 ^ 64:Nat):Int)).toNat=2 ^ j - 1:=by
  rw [Int.emod_eq_of_lt (by omega) (by omega)];simp
 rw [e1,Nat.and_two_pow_sub_one_eq_mod]
 have hd:(2:Nat) ^ 64=2 ^ j*2 ^ (64 - j):=by rw [← Nat.pow_add];congr 1;omega
 have h2:0<=a % ((2 ^ 64:Nat):Int):=Int.emod_nonneg _ (by decide)
 have e2:((a % ((2 ^ 64:Nat):Int)).toNat % 2 ^ j:Nat)=((a % ((2 ^ 64:Nat):Int)) % ((2 ^ j:Nat):Int)).toNat:=by
  rw [Int.toNat_emod h2 (by omega)];rfl
 rw [e2]
 congr 1
 refine Int.emod_emod_of_dvd _ ?_
 exact ⟨((2 ^ (64 - j):Nat):Int),by exact_mod_cast hd⟩
theorem a7r {a:Int} (j:Nat) (hj:j<=62):IntKind.wrap .u64 (BitVec.ofInt (IntKind.bits .u64) a &&& BitVec.ofInt (IntKind.bits .u64) ((2 ^ j - 1:Nat):Int)).toNat=a % ((2 ^ j:Nat):Int):=by
 rw [aM1 rfl a j hj]
 have hp:(2:Nat) ^ j<=2 ^ 62:=Nat.pow_le_pow_right (by decide) hj
 have h0:0<(2:Nat) ^ j:=Nat.pow_pos (by decide)
 have h1:0<=a % ((2 ^ j:Nat):Int):=Int.emod_nonneg _ (by omega)
 have h2:a % ((2 ^ j:Nat):Int)<((2 ^ j:Nat):Int):=Int.emod_lt_of_pos _ (by omega)
 rw [lbY h1,ah4 h1 (by omega)]
theorem a3f {x:Int} (h1:0<=x) (h2:x<18446744073709551616):J0 .u64 x x:=by unfold J0;exact (ah4 h1 h2).symm
theorem b1W {a m:Nat} {K:Prop} (h:a<=m) (k:K):a<=m∧K:=⟨h,k⟩
abbrev b4D (l:List Int):Blk:={ mode:=.live,elem:=3,size:=1,rows:=toC (l.map g9),box:=false,app:=true }
abbrev b8Z (l:List Int):Blk:={ mode:=.old,elem:=3,size:=1,rows:=toC (l.map g9),box:=false,app:=true }
theorem ab0 {l h m n:Int} {K:Prop} (h1:0<=l) (h2:l<=h) (h3:m=h) (h4:h<=n) (k:K):(0<=l∧l<=h∧m=h∧h<=n)∧K:=⟨⟨h1,h2,h3,h4⟩,k⟩
theorem b73 {xs:List Int} {i:Nat} {x:Int} {K:List C->Prop} (hx:xs[i]? =some x) (h:K [C.t (ti x)]):∃row,(toC (xs.map g9))[i]? =some row∧K row:=
 ⟨[C.t (ti x)],by simp [toC,hx,g9],h⟩
theorem b7S {len m n b:Nat} {K:Prop} (h1:len=m) (h2:(len+n)*b<=140737488355328) (k:K):(len=m∧(len+n)*b<=140737488355328)∧K:=⟨⟨h1,h2⟩,k⟩
theorem a2S {α:Type} {l:List α} {f:α->Bool} {k:Nat} {x:α} (h:l[k]? =some x):(l.take (k+1)).any f=((l.take k).any f || f x):=by
 rw [lbG,h];simp
theorem F8 {α:Type} {l:List α} {f:α->Bool} {k:Nat} {x:α} (h:l[k]? =some x):(l.take (k+1)).all f=((l.take k).all f && f x):=by
 rw [lbG,h];simp
theorem a6t {α:Type} {l:List α} {f:α->Bool} {k:Nat} {x:α} (h:l[k]? =some x) (hf:f x=true):l.any f=true:=lbw.2 ⟨x,lbm h,hf⟩
theorem K5 {α:Type} {l:List α} {f:α->Bool} {k:Nat} {x:α} (h:l[k]? =some x) (hf:f x=false):l.all f=false:=by
 rw [← lbP,lbv];intro h';rw [h' x (lbm h)] at hf;cases hf
theorem b1R {x y:T} {H1:Hp} (h:x=y):Fin 0 (.c (.t x)) H1 (.c (.t y)) []:=by subst h;exact s7 (show a9p [] H1 _ _ from k9 (ρ:=[]) (H:=H1) rfl)
theorem b5c {n:Nat} {k:SK} {a b:List (List T)} {H1:Hp} (h:a=b) (hk:k=.any):Fin 0 (.c (.t (.sl n k a))) H1 (.c (.t (.sl n .any b))) []:=by subst h hk;exact s7 (show a9p [] H1 _ _ from k9 (ρ:=[]) (H:=H1) rfl)
theorem aw6 {P:Program} {g:FuncId} {args:List S} {H H':Hp} {r:S} (i:Nat) {n:Nat} (hi:args[i]? =some (.c (.t (.sl n .any [])))) (h1:b9 P g (args.set i (.c (.t (.sl n .nul [])))) H r H')
 (h2:b9 P g (args.set i (.c (.t (.sl n .non [])))) H r H'):b9 P g args H r H':=by
 refine ⟨h1.1,fun w ι M vals hl hr hH hM hF=>?_⟩
 have hv:=(hr i _ hi).inv_t
 have hil:=(lbe.1 hi).1
 have key:∀k:SK,RT w M (.sl n k []) (vals.getD i undef)->∀j s,(args.set i (.c (.t (.sl n k []))))[j]? =some s->RS w ι M s (vals.getD j undef):=fun k hk j s hj=>by
  by_cases hji:i=j
  ·subst hji
   rw [List.getElem?_set_self hil] at hj
   injection hj with hj
   subst hj
   exact .c (.t hk)
  ·rw [List.getElem?_set_ne hji] at hj
   exact hr j s hj
 generalize hu:vals.getD i undef=u at hv
 cases hv with
 |@sl _ _ _ b off cap A f hrow hcap hmax hk hn hA hc hr' hx=>
  cases A with
  |none=>exact h1.2 w ι M vals (by simpa using hl) (key .nul (by rw [hu];exact .sl (b:=b) (off:=off) f hrow hcap hmax (by intro h;cases h) (by intro h;cases h) (by simp) hc hr' ⟨(fun _=>⟨rfl,rfl⟩),(fun h=>nomatch h)⟩)) hH hM hF
  |some a=>exact h2.2 w ι M vals (by simpa using hl) (key .non (by rw [hu];exact .sl (b:=b) (off:=off) f hrow hcap hmax (by intro h;cases h) (by intro h;cases h) (by simp) hc hr' ⟨(fun h=>nomatch h),(fun _ h=>nomatch h)⟩)) hH hM hF
theorem aq8 {P:Program} {g:FuncId} {args:List S} {H:Hp} {n:Nat} {b:Blk} {rows:List (List T)} (h:b9 P g args [] (.c (.own 0 0 n true)) [b]) (hargs:args=args.map (a5U [])) (hok:args.all (okS 0)=true)
 (hm:b.mode=.live) (hb:b.rows=toC rows):b9 P g args H (.c (.own H.length 0 n true)) (H++[b]):=by
 refine L6 [] h hargs hok rfl List.nodup_nil (by simp) (by intro k hk;simp at hk;subst hk;rw [hm];simp) (by simp) rfl ?_ (by simp) ?_ ?_
 ·simp [a5U,Z8,a3S]
 ·intro i k hk
  match i,hk with
  |0,hk=>
   simp at hk
   subst hk
   exact ⟨b,by simp [a3S],E4 hb⟩
 ·intro j hj _
  rw [lbb hj]
theorem b0B {P:Program} {g:FuncId} {args args':List S} {r:S} {H':Hp} (h:b9 P g args' [] r H') (ha:a63 [] (fun _=>False) args args'):b9 P g args [] r H':=by
 refine ⟨h.1,fun w ι M vals hl hv hH hM hf=>?_⟩
 obtain ⟨hlen,hget⟩:=a63.get ha
 exact h.2 w ι M vals (by omega) (fun j s hj=>by
  obtain ⟨x,hx,hs⟩:=hget j s hj
  exact hs.rs hH (fun _ h=>h) (fun _ _ _ _ _ h _ _ _ _=>h.elim) (hv j x hx)) hH hM hf
end
section
open Go.RowKit
theorem St1.zd {p:Prop} [Decidable p] {k:S->Prop} (a:p->k (j0 true)) (b:¬p->k (j0 false)):am4 p k:=am4.mk a b
theorem St2.zd {b:Bool} {k:S->Prop} (a:b=true->k (j0 true)) (c:b=false->k (j0 false)):a2s b k:=a2s.mk a c
theorem St1.zz {x:Int} {K:Int->Prop} (k:K x) (h1:-9223372036854775808<=x:=by omega) (h2:x<=9223372036854775807:=by omega):∃n,J0 .i64 x n∧K n:=⟨_,a41 h1 h2,k⟩
theorem St2.zz {n m:Int} {K:Prop} (k:K) (h0:0<=n:=by omega) (h1:n<m:=by omega):(0<=n∧n<m)∧K:=⟨⟨h0,h1⟩,k⟩
theorem St3.zz {ops:List Oper} {K:List Oper->Prop} (k:K ops) (h:a7o ops=true:=by decide +kernel):b3F ops K:=b5f h k
theorem St4.zz {P:Program} {τ:Tab} {env:Env} {H':Hp} {ops:List Oper} {i:Nat} {K:Prop} (k:K) (h:J7 ops i=true:=by decide +kernel) (h2:Z2 ops i=[]:=by decide +kernel):J7 ops i=true∧∃L,Z2 ops i=L∧a2l P τ ops env H' K L:=b6Y h h2 k
theorem St5.zz {s:S} {B:List Blk} {s':S} {K:Prop} (k:K) (h1:B=[]:=by exact rfl) (h2:s=s':=by exact rfl):(B=[]∧s=s')∧K:=b0R h1 h2 k
theorem St6.zz {α:Type} {xs:List α} {a b:Nat} {K:Prop} (k:K) (h:a=b:=by exact rfl):(xs.length=0∨a=b)∧K:=b5C h k
theorem bl0 {P:Program} {τ:Tab} {env:Env} {H':Hp} {ops:List Oper} {i:Nat} {K:Prop} (L:List Nat) (k:a2l P τ ops env H' K L) (h:J7 ops i=true:=by decide +kernel) (h2:Z2 ops i=L:=by decide +kernel):J7 ops i=true∧∃L,Z2 ops i=L∧a2l P τ ops env H' K L:=b4e L h h2 k
theorem qp {P:Program} {g:FuncId} {args:List S} {H:Hp} {r:S} {K:S->List Blk->Prop} {Q:Prop} (c:b9 P g args [] r []) (k:K r []) (h1:args.all S.isT=true:=by exact rfl) (h2:r.isT=true:=by exact rfl):(∃ r B,Y9 P g args H r B∧K r B)∨Q:=.inl ⟨_,_,E9 c h1 h2,k⟩
theorem ac {f:FuncId} {fn:Func} {c:Code} {args:List S} {H:Hp} {s:S} {H':Hp} (hf:Go.Proofs.Tryz.prog.funcs[f]? =some fn) (h:a4P Go.Proofs.Tryz.prog tab H.length c (args++List.replicate (fn.ntmps - args.length) .junk) H fun x env' H1=>match x with
 |.exit _=>False
 | _ => a7D tab fn env' H1 fun r => Fin H.length r H1 s H') (hb : fn.body = some c := by exact rfl) (hn : fn.name ≠ "runtime.NumGoroutine" := by decide) : b9 Go.Proofs.Tryz.prog f args H s H' := b5z g6 hf hb hn h
def Jn (n:Nat):Env:=List.replicate n J
theorem St1.zy {a b c:Prop} (h:a):a4m a b c:=a4m.data h
theorem St2.zy {a b:Prop} (h:b):aj1 a b:=aj1.own h
theorem b0x {a b:Prop} (h:a):aj1 a b:=aj1.data h
theorem St7.zz {k:S->Prop} (h:k (j0 true)):a2s true k:=⟨fun _=>h,fun e=>(by cases e)⟩
theorem St8.zz {k:S->Prop} (h:k (j0 false)):a2s false k:=⟨fun e=>(by cases e),fun _=>h⟩
theorem lg0 {α:Type} {l:List α} {i:Nat} (h:i<l.length):l[i]? =some l[i]:=lbf h
theorem lg1 {α:Type} {l:List α} {i:Nat} {a:α} (h:l[i]? =some a):∃h:i<l.length,l[i]=a:=lbe.1 h
theorem lg2 {α:Type} {l:List α} {i:Nat} {a:α} (h:l[i]? =some a):a ∈ l:=lbm h
theorem lg3 {α:Type} (l:List α) (i:Nat) (a:α):l.getD i a=l[i]?.getD a:=lbl
theorem lg4 {α:Type} {l:List α} {i:Nat} (h:l.length<=i):l.take i=l:=lbn h
theorem lg5 {α:Type} {a:α} {l:List α}:a ∈ a::l:=List.mem_cons_self ..
theorem St1.zx {x:Int} {K:Int->Prop} (k:K x) (h1:-9223372036854775808<=x:=by omega) (h2:x<=9223372036854775807:=by omega):∃n,J0 .i64 x n∧K n:=⟨_,a41 h1 h2,k⟩
theorem St2.zx {n m:Int} {K:Prop} (k:K) (h0:0<=n:=by omega) (h1:n<m:=by omega):(0<=n∧n<m)∧K:=⟨⟨h0,h1⟩,k⟩
theorem St3.zx {ops:List Oper} {K:List Oper->Prop} (k:K ops) (h:a7o ops=true:=by decide +kernel):b3F ops K:=b5f h k
theorem St4.zx {P:Program} {τ:Tab} {env:Env} {H':Hp} {ops:List Oper} {i:Nat} {K:Prop} (k:K) (h:J7 ops i=true:=by decide +kernel) (h2:Z2 ops i=[]:=by decide +kernel):J7 ops i=true∧∃L,Z2 ops i=L∧a2l P τ ops env H' K L:=b6Y h h2 k
theorem St5.zx {s:S} {B:List Blk} {s':S} {K:Prop} (k:K) (h1:B=[]:=by exact rfl) (h2:s=s':=by exact rfl):(B=[]∧s=s')∧K:=b0R h1 h2 k
theorem St6.zx {α:Type} {xs:List α} {a b:Nat} {K:Prop} (k:K) (h:a=b:=by exact rfl):(xs.length=0∨a=b)∧K:=b5C h k
theorem St7.zx {k:S->Prop} (h:k (j0 true)):a2s true k:=⟨fun _=>h,fun e=>(by cases e)⟩
theorem St8.zx {k:S->Prop} (h:k (j0 false)):a2s false k:=⟨fun e=>(by cases e),fun _=>h⟩
theorem StA.zx {a b c:Prop} (h:a):a4m a b c:=a4m.data h
theorem StB.zx {a b:Prop} (h:b):aj1 a b:=aj1.own h
end
open St1 St2 St3 St4 St5 St6 St7 St8 StA StB
theorem a43 (i n:Int):b9 Tryz.prog 266 [b7 .i64 i,b7 .i64 n] [] (j0 (idx i n)) []:=by
 (refine ac Tryz.func266 ?_;(conv=>whnf);repeat (refine zy ?_;conv=>whnf))
 repeat' (first|refine zx ?_|refine zd ?_ ?_<;>intro h<;>try omega|fail)<;>conv=>whnf
 all_goals (refine i4 ?_;simp only [idx];simp;omega)
theorem a3g (n lo hi:Int):b9 Tryz.prog 146 [b7 .i64 n,b7 .i64 lo,b7 .i64 hi] [] (j0 (btw n lo hi)) []:=by
 (refine ac Tryz.func146 ?_;(conv=>whnf);repeat (refine zy ?_;conv=>whnf))
 repeat' (first|refine zx ?_|refine zd ?_ ?_<;>intro h<;>try omega|fail)<;>conv=>whnf
 all_goals (refine i4 ?_;simp only [btw];simp;omega)
def b1Z (p:Int × Int):List T:=[ti p.1,ti p.2]
def ar1 (e:Ev):List (Int × Int):=[(e.mats,6),(e.hhs,100),(e.scs,30),(e.places.length,100),(e.moves.length,200),(e.certs.length,100),(e.recalls.length,30),(e.purities.length,200)]
theorem aq4 (e:Ev):al6 e=(ar1 e).any fun p=>decide (p.2<p.1):=by
 rw [Bool.eq_iff_iff]
 simp [al6,ar1]
 omega
set_option maxRecDepth 100000 in
theorem bb6 (e:Ev) (hs:e.Sized):b9 Tryz.prog 192 [evS e] [] (j0 (al6 e)) []:=by
 (refine ac Tryz.func192 ?_;(conv=>whnf);repeat (refine zy ?_;conv=>whnf))
 have hl:(ar1 e).length=8:=rfl
 refine j7 g6 (fun k=>(Jn 34++[S.c (C.t (T.sl 2 .full ((ar1 e).map b1Z))),b7 .i64 8,b7 .i64 k]++Jn 9,[])) 8 (fun k=>((ar1 e).take k).any (fun p=>decide (p.2<p.1))=false) [] rfl
  ⟨rfl,rfl,trivial,⟨k9 (by simp [ar1,b1Z]),rfl,rfl,trivial⟩⟩ ?_
 intro k hk hI
 conv=>whnf
 repeat' (first|refine zx ?_|refine zd ?_ ?_<;>intro h<;>try omega|fail)<;>conv=>whnf
 ·have hlt:k<8:=by omega
  refine i3 (lbf (hl ▸ hlt)) ?_
  conv=>whnf
  repeat' (first|refine zx ?_|refine zd ?_ ?_<;>intro h<;>try omega|fail)<;>conv=>whnf
  ·refine i4 ?_
   rw [aq4,a6t (lbf (hl ▸ hlt))]
   simpa using ‹_ > _›
  ·refine ⟨hlt,?_,[],rfl,rfl,trivial,⟨rfl,rfl,rfl,trivial⟩⟩
   rw [a2S (lbf (hl ▸ hlt)),hI]
   have h:=‹¬ _ > _›
   simp;omega
 ·refine i4 ?_
  rw [aq4,←hI,lbn (by omega)]
open St1 St2 St3 St4 St5 St6 St7 St8 StA StB
set_option maxRecDepth 100000
theorem b4a (e:Ev) (hs:e.Sized):b9 Tryz.prog 193 [evS e] [] (j0 (e.places.all (a1n e))) []:=by
 have l1:=hs.s1
 have l2:(e.places.map a0b.row).length=e.places.length:=by simp
 (refine ac Tryz.func193 ?_;(conv=>whnf);repeat (refine zy ?_;conv=>whnf))
 refine j7 g6 (fun k=>([J,S.c (C.ptr 0 0 0),J,J,J,J,S.c (C.t (a5N e.places)),b7 .i64 e.places.length,b7 .i64 k]++Jn 36,[evB e])) e.places.length (fun k=>(e.places.take k).all (a1n e)=true) [some 0] rfl
  ⟨rfl,rfl,⟨⟨rfl,rfl,rfl,.inl ⟨rfl,k8 e⟩⟩,trivial⟩,⟨⟨rfl,rfl,rfl⟩,k9 rfl,e8 (by simp),e8 rfl,trivial⟩⟩ ?_
 intro k hk hI
 conv=>whnf
 repeat' (first|refine zx ?_|refine zd ?_ ?_<;>intro h<;>try omega|fail)<;>conv=>whnf
 ·have hlt:k<e.places.length:=by omega
  obtain ⟨x,hx⟩:∃x,e.places[k]? =some x:=⟨_,lbf hlt⟩
  refine i3 hx ?_
  conv=>whnf
  repeat' (first|refine zx ?_|refine qp (a43 _ _) ?_|refine zd ?_ ?_<;>intro h<;>try omega|fail)<;>conv=>whnf
  all_goals first
   |(refine ⟨hlt,?_,[some 0],rfl,rfl,⟨⟨rfl,rfl,rfl,.inl ⟨rfl,k8 e⟩⟩,trivial⟩,⟨⟨rfl,rfl,rfl⟩,rfl,rfl,rfl,trivial⟩⟩;rw [F8 hx,hI];simp_all [a1n];done)
   |(refine i4 ?_;rw [K5 hx];simp_all [a1n];done)
 ·refine i4 ?_
  rw [← hI,lbn (by omega)]
theorem av9 {e:Ev} {i:Int} (h:idx i e.places.length=true):0<=i∧∃x,e.places[i.toNat]? =some x∧B6 e i=x.kind:=by
 have h':=ay6.1 h
 have hlt:i.toNat<e.places.length:=by omega
 refine ⟨h'.1,_,lbf hlt,?_⟩
 unfold B6
 rw [lbf hlt];rfl
theorem b9x (e:Ev) (m:t4) (hs:e.Sized):b9 Tryz.prog 194 [evS e,b2q m] [] (j0 (R9 e m)) []:=by
 have l1:=hs.s1
 have l2:(e.places.map a0b.row).length=e.places.length:=by simp
 by_cases h1:idx m.src e.places.length=true
 ·obtain ⟨hs0,x,hx,kx⟩:=av9 h1
  by_cases h2:idx m.dst e.places.length=true
  ·obtain ⟨hd0,y,hy,ky⟩:=av9 h2
   (refine ac Tryz.func194 ?_;(conv=>whnf);repeat (refine zy ?_;conv=>whnf))
   rw [← l2] at h1 h2
   repeat' (first|refine zx ?_|refine qp (a43 _ _) ?_|refine qp (a3g _ _ _) ?_|refine M8 hs0 hx ?_|refine M8 hd0 hy ?_|refine zd ?_ ?_<;>intro h<;>try omega|fail)<;>conv=>whnf
   all_goals (refine i4 ?_;simp_all [R9];done)
  ·(refine ac Tryz.func194 ?_;(conv=>whnf);repeat (refine zy ?_;conv=>whnf))
   rw [← l2] at h1 h2
   repeat' (first|refine zx ?_|refine qp (a43 _ _) ?_|refine zd ?_ ?_<;>intro h<;>try omega|fail)<;>conv=>whnf
   all_goals first|(exfalso;simp_all;done)|(refine i4 ?_;simp_all [R9];done)
 ·(refine ac Tryz.func194 ?_;(conv=>whnf);repeat (refine zy ?_;conv=>whnf))
  rw [← l2] at h1
  repeat' (first|refine zx ?_|refine qp (a43 _ _) ?_|refine zd ?_ ?_<;>intro h<;>try omega|fail)<;>conv=>whnf
  all_goals first|(exfalso;simp_all;done)|(refine i4 ?_;simp_all [R9];done)
theorem bd9 (e:Ev) (hs:e.Sized):b9 Tryz.prog 195 [evS e] [] (j0 (a3J e)) []:=by
 have l1:=hs.s3
 have l2:(e.certs.map P5.row).length=e.certs.length:=by simp
 have l3:=hs.s4
 have l4:(e.recalls.map I8.row).length=e.recalls.length:=by simp
 have l5:=hs.s5
 have l6:(e.purities.map a2U.row).length=e.purities.length:=by simp
 have l7:=hs.s2
 have l8:(e.moves.map t4.row).length=e.moves.length:=by simp
 (refine ac Tryz.func195 ?_;(conv=>whnf);repeat (refine zy ?_;conv=>whnf))
 refine j7 g6 (fun k=>([J,S.c (C.ptr 0 0 0),J,J,J,J,J,J,J,J,J,S.c (C.t (a2I e.certs)),b7 .i64 e.certs.length,b7 .i64 k]++Jn 107,[evB e])) e.certs.length (fun k=>(e.certs.take k).all (ac3 e)=true) [some 0] rfl
  ⟨rfl,rfl,⟨⟨rfl,rfl,rfl,.inl ⟨rfl,k8 e⟩⟩,trivial⟩,⟨⟨rfl,rfl,rfl⟩,k9 rfl,e8 (by simp),e8 rfl,trivial⟩⟩ ?_
 intro k hk hI
 conv=>whnf
 repeat' (first|refine zx ?_|refine zd ?_ ?_<;>intro h<;>try omega|fail)<;>conv=>whnf
 ·have hlt:k<e.certs.length:=by omega
  obtain ⟨x,hx⟩:∃x,e.certs[k]? =some x:=⟨_,lbf hlt⟩
  refine i3 hx ?_
  conv=>whnf
  repeat' (first|refine zx ?_|refine qp (a43 _ _) ?_|refine qp (a3g _ _ _) ?_|refine zd ?_ ?_<;>intro h<;>try omega|fail)<;>conv=>whnf
  all_goals first
   |(refine ⟨hlt,?_,[some 0],rfl,rfl,⟨⟨rfl,rfl,rfl,.inl ⟨rfl,k8 e⟩⟩,trivial⟩,⟨⟨rfl,rfl,rfl⟩,rfl,rfl,rfl,trivial⟩⟩;rw [F8 hx,hI];simp_all [ac3];done)
   |(refine i4 ?_;rw [a3J,K5 hx];rfl;simp_all [ac3];(try omega);done)
 ·have hc:e.certs.all (ac3 e)=true:=by rw [← hI,lbn (by omega)]
  clear hI h hk
  refine j7 g6 (fun k=>([J,S.c (C.ptr 0 0 0)]++Jn 60++[S.c (C.t (T8 e.recalls)),b7 .i64 e.recalls.length,b7 .i64 k]++Jn 56,[evB e])) e.recalls.length (fun k=>(e.recalls.take k).all (a4J e)=true) [some 0] rfl
   ⟨rfl,rfl,⟨⟨rfl,rfl,rfl,.inl ⟨rfl,k8 e⟩⟩,trivial⟩,⟨⟨rfl,rfl,rfl⟩,k9 rfl,e8 (by simp),e8 rfl,trivial⟩⟩ ?_
  intro k hk hI
  conv=>whnf
  repeat' (first|refine zx ?_|refine zd ?_ ?_<;>intro h<;>try omega|fail)<;>conv=>whnf
  ·have hlt:k<e.recalls.length:=by omega
   obtain ⟨x,hx⟩:∃x,e.recalls[k]? =some x:=⟨_,lbf hlt⟩
   refine i3 hx ?_
   conv=>whnf
   repeat' (first|refine zx ?_|refine qp (a43 _ _) ?_|refine qp (a3g _ _ _) ?_|refine zd ?_ ?_<;>intro h<;>try omega|fail)<;>conv=>whnf
   all_goals first
    |(refine ⟨hlt,?_,[some 0],rfl,rfl,⟨⟨rfl,rfl,rfl,.inl ⟨rfl,k8 e⟩⟩,trivial⟩,⟨⟨rfl,rfl,rfl⟩,rfl,rfl,rfl,trivial⟩⟩;rw [F8 hx,hI];simp_all [a4J];done)
    |(refine i4 ?_;rw [a3J,hc,K5 hx];rfl;simp_all [a4J];done)
  ·have hr:e.recalls.all (a4J e)=true:=by rw [← hI,lbn (by omega)]
   clear hI h hk
   refine j7 g6 (fun k=>([J,S.c (C.ptr 0 0 0)]++Jn 80++[S.c (C.t (a1H e.purities)),b7 .i64 e.purities.length,b7 .i64 k]++Jn 36,[evB e])) e.purities.length (fun k=>(e.purities.take k).all (a4t e)=true) [some 0] rfl
    ⟨rfl,rfl,⟨⟨rfl,rfl,rfl,.inl ⟨rfl,k8 e⟩⟩,trivial⟩,⟨⟨rfl,rfl,rfl⟩,k9 rfl,e8 (by simp),e8 rfl,trivial⟩⟩ ?_
   intro k hk hI
   conv=>whnf
   repeat' (first|refine zx ?_|refine zd ?_ ?_<;>intro h<;>try omega|fail)<;>conv=>whnf
   ·have hlt:k<e.purities.length:=by omega
    obtain ⟨x,hx⟩:∃x,e.purities[k]? =some x:=⟨_,lbf hlt⟩
    refine i3 hx ?_
    conv=>whnf
    repeat' (first|refine zx ?_|refine qp (a43 _ _) ?_|refine qp (a3g _ _ _) ?_|refine zd ?_ ?_<;>intro h<;>try omega|fail)<;>conv=>whnf
    all_goals first
     |(refine ⟨hlt,?_,[some 0],rfl,rfl,⟨⟨rfl,rfl,rfl,.inl ⟨rfl,k8 e⟩⟩,trivial⟩,⟨⟨rfl,rfl,rfl⟩,rfl,rfl,rfl,trivial⟩⟩;rw [F8 hx,hI];simp_all [a4t];done)
     |(refine i4 ?_;rw [a3J,hc,hr,K5 hx];rfl;simp_all [a4t];(try omega);done)
   ·have hp:e.purities.all (a4t e)=true:=by rw [← hI,lbn (by omega)]
    refine i4 ?_
    rw [a3J,hc,hr,hp];rfl
open St1 St2 St3 St4 St5 St6 St7 St8 StA StB
set_option maxRecDepth 100000
def b0X (e:Ev):Nat->Int
 |0=>0
 |k+1=>((e.moves[k]?).map (·.day)).getD 0
theorem a9Z {e:Ev} {k:Nat} {m:t4} (h:e.moves[k]? =some m):b0X e (k+1)=m.day:=by simp [b0X,h]
theorem a4p {α:Type} {l:List α} {k:Nat} {x:α} (h:l[k]? =some x):l.drop k=x::l.drop (k+1):=by
 obtain ⟨h1,h2⟩:=lbe.1 h
 rw [List.drop_eq_getElem_cons h1,h2]
theorem b24 (e:Ev) (hs:e.Sized):b9 Tryz.prog 123 [evS e] [] (b7 .i64 (J4 e)) []:=by
 have l7:=hs.s2
 have l8:(e.moves.map t4.row).length=e.moves.length:=by simp
 (refine ac Tryz.func123 ?_;(conv=>whnf);repeat (refine zy ?_;conv=>whnf))
 repeat' (first|refine zx ?_|refine qp (bb6 _ hs) ?_|refine qp (b4a _ hs) ?_|refine zd ?_ ?_<;>intro h<;>try omega|fail)<;>conv=>whnf
 case refine_2.refine_2.refine_2.refine_2.refine_1 hf h1 h2 h3=>
  have h4:=h
  clear h
  have hpre:¬(e.mats<1∨e.hhs<0∨e.scs<0∨e.places.all (a1n e)=false):=by
   rintro (h|h|h|h)
   ·omega
   ·omega
   ·omega
   ·rw [h4] at h;cases h
  have hck:J4 e=if K4 e 0 e.moves≠0 then K4 e 0 e.moves else if a3J e then 0 else 1:=by
   unfold J4;rw [if_neg (by simp [hf]),if_neg hpre]
  refine j7 g6 (fun k=>([J,S.c (C.ptr 0 0 0),J,b7 .i64 (b0X e k)]++Jn 25++[S.c (C.t (a2P e.moves)),b7 .i64 e.moves.length,b7 .i64 k]++Jn 22,[evB e])) e.moves.length (fun k=>K4 e 0 e.moves=K4 e (b0X e k) (e.moves.drop k)) [some 0] rfl
   ⟨rfl,rfl,⟨⟨rfl,rfl,rfl,.inl ⟨rfl,k8 e⟩⟩,trivial⟩,⟨⟨rfl,rfl,rfl⟩,e8 rfl,k9 rfl,e8 (by simp),e8 rfl,trivial⟩⟩ ?_
  intro k hk hI
  conv=>whnf
  repeat' (first|refine zx ?_|refine zd ?_ ?_<;>intro h<;>try omega|fail)<;>conv=>whnf
  ·have hlt:k<e.moves.length:=by omega
   obtain ⟨x,hx⟩:∃x,e.moves[k]? =some x:=⟨_,lbf hlt⟩
   rw [a4p hx,K4] at hI
   refine i3 hx ?_
   conv=>whnf
   repeat' (first|refine zx ?_|refine qp (b9x _ x hs) ?_|refine zd ?_ ?_<;>intro h<;>try omega|fail)<;>conv=>whnf
   all_goals first
    |(refine ⟨hlt,?_,[some 0],rfl,rfl,⟨⟨rfl,rfl,rfl,.inl ⟨rfl,k8 e⟩⟩,trivial⟩,⟨⟨rfl,rfl,rfl⟩,?_,rfl,rfl,rfl,trivial⟩⟩
      ·rw [a9Z hx,hI,if_neg (by omega),if_pos (by assumption)]
      ·rw [a9Z hx];exact rfl)
    |(have e1:K4 e 0 e.moves=17:=by rw [hI,if_pos (by omega)]
      refine t6 ?_;rw [hck,e1];rfl)
    |(have e1:K4 e 0 e.moves=1:=by rw [hI,if_neg (by omega),if_neg (by simp_all)]
      refine t6 ?_;rw [hck,e1];rfl)
  ·rw [List.drop_eq_nil_of_le (by omega),K4] at hI
   repeat' (first|refine zx ?_|refine qp (bd9 _ hs) ?_|refine zd ?_ ?_<;>intro h<;>try omega|fail)<;>conv=>whnf
   all_goals (refine t6 ?_;rw [hck,hI];simp_all)
 all_goals (refine t6 ?_;unfold J4;simp_all;try omega)
open St1 St2 St3 St4 St5 St6 St7 St8 StA StB
def val:List Int->Int
 |[]=>0
 |d::r=>d+1048576*val r
def Okd (l:List Int):Prop:=∀d ∈ l,0<=d∧d<1048576
def dgF:Nat->Nat->List Int
 |0,_=>[]
 |f+1,n=>if n=0 then [] else ((n % 1048576:Nat):Int)::dgF f (n / 1048576)
def dg (n:Nat):List Int:=dgF n n
def pw (i:Nat):Int:=1048576 ^ i
theorem b7g:pw 0=1:=rfl
theorem L7 (i:Nat):pw (i+1)=pw i*1048576:=Int.pow_succ ..
theorem T5 (i:Nat):0<pw i:=Int.pow_pos (by decide)
theorem a82 (i j:Nat):pw (i+j)=pw i*pw j:=Int.pow_add ..
theorem a2y {i j:Nat} (h:i<=j):pw i<=pw j:=by
 obtain ⟨k,rfl⟩:=Nat.exists_eq_add_of_le h
 rw [a82]
 have h1:=T5 i
 have h2:=T5 k
 have:=lbV (a:=1) (b:=pw k) (c:=pw i) (by omega) (by omega)
 omega
theorem Okd.nil:Okd []:=fun _ h=>nomatch h
theorem Okd.cons {d:Int} {l:List Int} (h1:0<=d∧d<1048576) (h2:Okd l):Okd (d::l):=by
 intro x hx
 rcases lbA.1 hx with rfl|hx
 ·exact h1
 ·exact h2 x hx
theorem Okd.head {d:Int} {l:List Int} (h:Okd (d::l)):0<=d∧d<1048576:=h d (by simp)
theorem Okd.tail {d:Int} {l:List Int} (h:Okd (d::l)):Okd l:=fun x hx=>h x (by simp [hx])
theorem Okd.take {l:List Int} (h:Okd l) (n:Nat):Okd (l.take n):=fun x hx=>h x (List.mem_of_mem_take hx)
theorem Okd.drop {l:List Int} (h:Okd l) (n:Nat):Okd (l.drop n):=fun x hx=>h x (List.mem_of_mem_drop hx)
theorem Okd.append {a b:List Int} (h:Okd a) (h2:Okd b):Okd (a++b):=fun x hx=>by
 rcases lbz.1 hx with hx|hx
 ·exact h x hx
 ·exact h2 x hx
theorem Okd.set {l:List Int} (h:Okd l) {i:Nat} {x:Int} (hx:0<=x∧x<1048576):Okd (l.set i x):=fun y hy=>by
 rcases List.mem_or_eq_of_mem_set hy with hy|rfl
 ·exact h y hy
 ·exact hx
theorem Okd.zeros (n:Nat):Okd (List.replicate n 0):=fun x hx=>by rw [List.eq_of_mem_replicate hx];decide
theorem w8 {l:List Int} (h:Okd l):0<=val l:=by
 induction l with
 |nil=>simp [val]
 |cons d l ih=>have:=ih h.tail;have:=h.head;simp only [val];omega
theorem a0A {l:List Int} (h:Okd l):val l<pw l.length:=by
 induction l with
 |nil=>simp [val,pw]
 |cons d l ih=>
  have:=ih h.tail;have:=h.head
  simp only [val,lbu,L7];omega
theorem S2 (a b:List Int):val (a++b)=val a+pw a.length*val b:=by
 induction a with
 |nil=>simp [val,pw]
 |cons d a ih=>simp only [List.cons_append,val,ih,lbu,L7];grind
theorem a8j (n:Nat):val (List.replicate n 0)=0:=by
 induction n with
 |zero=>rfl
 |succ n ih=>simp [List.replicate_succ,val,ih]
theorem a7S (l:List Int) (i:Nat) (h:i<=l.length):val l=val (l.take i)+pw i*val (l.drop i):=by
 have:=S2 (l.take i) (l.drop i)
 rw [lb7] at this
 rw [this]
 rw [lbs,Nat.min_eq_left h]
theorem a5Z {l:List Int} {i:Nat} {x:Int} (h:l[i]? =some x):val (l.take (i+1))=val (l.take i)+pw i*x:=by
 have hi:i<l.length:=by
  rcases Nat.lt_or_ge i l.length with h1|h1
  ·exact h1
  ·rw [lbd h1] at h;cases h
 rw [lbG,h,S2,lbs,Nat.min_eq_left (by omega)]
 simp [val]
theorem a5e {l:List Int} {i:Nat} {x:Int} (h:l[i]? =some x):val (l.drop i)=x+1048576*val (l.drop (i+1)):=by
 have hi:i<l.length:=by
  rcases Nat.lt_or_ge i l.length with h1|h1
  ·exact h1
  ·rw [lbd h1] at h;cases h
 rw [List.drop_eq_getElem_cons hi]
 rw [lbf hi] at h
 injection h with h
 rw [h];rfl
theorem b77 {l:List Int} {i:Nat} {x y:Int} (h:l[i]? =some y):val (l.set i x)=val l+pw i*(x - y):=by
 induction l generalizing i with
 |nil=>simp at h
 |cons d l ih=>
  cases i with
  |zero=>
   simp only [List.getElem?_cons_zero,lb3] at h
   subst h
   simp [val,pw];omega
  |succ i=>
   simp only [List.getElem?_cons_succ] at h
   simp only [List.set_cons_succ,val,ih h,L7];grind
theorem b5d (f n:Nat) (h:n<=f):dgF f n=dg n:=by
 unfold dg
 induction f using Nat.strongRecOn generalizing n with
 |ind f ih=>
  cases f with
  |zero=>cases Nat.le_zero.1 h;rfl
  |succ f=>
   cases n with
   |zero=>rfl
   |succ n=>
    simp only [dgF,Nat.succ_ne_zero,if_false]
    rw [ih f (by omega) _ (by omega),ih n (by omega) _ (by omega)]
theorem a2w:dg 0=[]:=rfl
theorem a6O {n:Nat} (h:0<n):dg n=((n % 1048576:Nat):Int)::dg (n / 1048576):=by
 obtain ⟨m,rfl⟩:∃m,n=m+1:=⟨n - 1,by omega⟩
 show dgF (m+1) (m+1)=_
 simp only [dgF,Nat.succ_ne_zero,if_false]
 rw [b5d _ _ (by omega)]
theorem aV4 {P:Nat->Prop} (h0:P 0) (h:∀n,0<n->P (n / 1048576)->P n) (n:Nat):P n:=by
 induction n using Nat.strongRecOn with
 |ind n ih=>
  rcases Nat.eq_zero_or_pos n with rfl|hn
  ·exact h0
  ·exact h n hn (ih _ (by omega))
theorem B8 (n:Nat):val (dg n)=n:=by
 induction n using aV4 with
 |h0=>rfl
 |h n hn ih=>rw [a6O hn,val,ih];omega
theorem E5 (n:Nat):Okd (dg n):=by
 induction n using aV4 with
 |h0=>exact .nil
 |h n hn ih=>rw [a6O hn];exact .cons (by omega) ih
theorem U9 {n:Nat}:dg n=[]↔n=0:=by
 constructor
 ·intro h
  have:=B8 n
  rw [h] at this
  simp only [val] at this;omega
 ·rintro rfl;rfl
def O7:List Int->List Int
 |[]=>[]
 |d::r=>if O7 r=[]∧d=0 then [] else d::O7 r
theorem W9 {l:List Int} (h:Okd l):O7 l=dg (val l).toNat:=by
 induction l with
 |nil=>rfl
 |cons d l ih=>
  have h0:=w8 h.tail
  have h1:=h.head
  have hv:(val (d::l)).toNat=d.toNat+1048576*(val l).toNat:=by simp only [val];omega
  rw [O7,ih h.tail,hv]
  split
  ·rename_i hc
   have:=U9.1 hc.1
   rw [this,hc.2];rfl
  ·rename_i hc
   rw [a6O (n:=d.toNat+1048576*(val l).toNat)]
   ·congr 1
    ·omega
    ·congr 1;omega
   ·rcases Nat.eq_zero_or_pos (val l).toNat with h2|h2
    ·have:d≠0:=fun h3=>hc ⟨by rw [h2];rfl,h3⟩
     omega
    ·omega
theorem a6u {l:List Int} {n:Nat} (h1:∀j x,n<=j->l[j]? =some x->x=0) (h2:∀x,0<n->l[n-1]? =some x->x≠0) (hn:n<=l.length):l.take n=O7 l:=by
 induction l generalizing n with
 |nil=>simp [O7]
 |cons d l ih=>
  cases n with
  |zero=>
   have ht:O7 l=[]:=by
    rw [← ih (n:=0) (fun j x _ hx=>h1 (j+1) x (by omega) (by simpa using hx)) (fun x h=>absurd h (by omega)) (by omega)];rfl
   have hd:d=0:=h1 0 d (by omega) (by simp)
   simp [O7,ht,hd]
  |succ n=>
   have ht:O7 l=l.take n:=by
    refine (ih (n:=n) (fun j x hj hx=>h1 (j+1) x (by omega) (by simpa using hx)) (fun x h hx=>h2 x (by omega) ?_) (by simpa using hn)).symm
    obtain ⟨m,rfl⟩:∃m,n=m+1:=⟨n - 1,by omega⟩
    simpa using hx
   rw [O7,ht,List.take_succ_cons,if_neg]
   rintro ⟨h3,h4⟩
   have hn0:n=0:=by
    rcases Nat.eq_zero_or_pos n with h5|h5
    ·exact h5
    ·have:=congrArg List.length h3
     simp only [lbs,List.length_nil,lbu] at this hn
     omega
   subst hn0
   exact h2 d (by omega) (by simp) h4
theorem N9 {n k:Nat} (h:(n:Int)<pw k):(dg n).length<=k:=by
 induction k generalizing n with
 |zero=>have:n=0:=by simp [pw] at h;omega
        subst this;simp [a2w]
 |succ k ih=>
  rcases Nat.eq_zero_or_pos n with rfl|hn
  ·simp [a2w]
  ·rw [a6O hn]
   rw [L7] at h
   have:=ih (n:=n / 1048576) (by omega)
   simp;omega
theorem aE9 {n:Nat} (h:0<n):pw ((dg n).length - 1)<=n:=by
 induction n using aV4 with
 |h0=>omega
 |h n hn ih=>
  rw [a6O hn]
  rcases Nat.eq_zero_or_pos (n / 1048576) with h1|h1
  ·rw [h1,a2w]
   simp [pw];omega
  ·have h2:=ih h1
   have:(dg (n / 1048576)).length≠0:=by rw [Ne,List.length_eq_zero_iff,U9];omega
   obtain ⟨m,hm⟩:∃m,(dg (n / 1048576)).length=m+1:=⟨(dg (n / 1048576)).length - 1,by omega⟩
   rw [hm] at h2
   rw [lbu,hm]
   simp only [Nat.add_sub_cancel] at h2 ⊢
   rw [L7];omega
theorem P9 (n:Nat):(n:Int)<pw (dg n).length:=by
 have:=a0A (E5 n);rw [B8] at this;exact this
theorem C0 {m n:Nat} (h:m<=n):(dg m).length<=(dg n).length:=N9 (by have:=P9 n;omega)
theorem ay2 {m n:Nat} (h:(dg m).length<(dg n).length):m<n:=by
 rcases Nat.lt_or_ge m n with h1|h1
 ·exact h1
 ·have:=C0 h1;omega
def Can (l:List Int):Prop:=Okd l∧∀x,l[l.length - 1]? =some x->x≠0
theorem b0q {l:List Int} (h:Can l):l=dg (val l).toNat:=by
 rw [← W9 h.1]
 have:=a6u (l:=l) (n:=l.length) (fun j x hj hx=>by rw [lbd hj] at hx;cases hx) (fun x _ hx=>h.2 x hx) (lbQ _)
 rw [List.take_length] at this
 exact this
theorem a21 (n:Nat):Can (dg n):=by
 refine ⟨E5 n,fun x hx h0=>?_⟩
 subst h0
 have hl:0<(dg n).length:=by
  rcases Nat.eq_zero_or_pos (dg n).length with h|h
  ·rw [List.length_eq_zero_iff.1 h] at hx;simp at hx
  ·exact h
 have hp:0<n:=by
  rcases Nat.eq_zero_or_pos n with rfl|h
  ·simp [a2w] at hl
  ·exact h
 have h1:=aE9 hp
 have h2:=a5Z hx
 rw [show (dg n).length - 1+1=(dg n).length by omega,List.take_length,B8] at h2
 have h3:=a0A ((E5 n).take ((dg n).length - 1))
 rw [lbs,Nat.min_eq_left (by omega)] at h3
 omega
theorem a8M {a b:List Int} (ha:Okd a) (hb:Okd b) (hl:a.length=b.length) {i:Nat} {x y:Int} (hx:a[i]? =some x) (hy:b[i]? =some y)
 (hd:a.drop (i+1)=b.drop (i+1)) (h:x<y):val a<val b:=by
 have hi:i<a.length:=by
  rcases Nat.lt_or_ge i a.length with h1|h1
  ·exact h1
  ·rw [lbd h1] at hx;cases hx
 have e1:=a7S a i (by omega)
 have e2:=a7S b i (by omega)
 rw [a5e hx] at e1
 rw [a5e hy] at e2
 rw [hd] at e1
 have h1:=a0A (ha.take i)
 rw [lbs,Nat.min_eq_left (by omega)] at h1
 have h2:=w8 (hb.take i)
 have h3:=T5 i
 have h4:pw i*(x+1048576*val (b.drop (i+1)))+pw i<=pw i*(y+1048576*val (b.drop (i+1))):=by
  have:=lbV (a:=x+1048576*val (b.drop (i+1))+1) (b:=y+1048576*val (b.drop (i+1))) (c:=pw i) (by omega) (by omega)
  rw [Int.mul_add (pw i) _ 1] at this
  omega
 omega
def dat (l:List Int) (i:Nat):Int:=l.getD i 0
theorem a33 {l:List Int} {i:Nat} {x:Int} (h:l[i]? =some x):dat l i=x:=by unfold dat;rw [lbl,h];rfl
theorem a2d {l:List Int} {i:Nat} (h:l.length<=i):dat l i=0:=by unfold dat;rw [lbl,lbd h];rfl
theorem Okd.dat {l:List Int} (h:Okd l) (i:Nat):0<=dat l i∧dat l i<1048576:=by
 rcases Nat.lt_or_ge i l.length with h1|h1
 ·rw [a33 (lbf h1)]
  exact h _ (lbE h1)
 ·rw [a2d h1];decide
theorem z7 (l:List Int) (i:Nat):val (l.take (i+1))=val (l.take i)+pw i*dat l i:=by
 rcases Nat.lt_or_ge i l.length with h1|h1
 ·rw [a33 (lbf h1)]
  exact a5Z (lbf h1)
 ·rw [a2d h1,lbn (by omega),lbn (by omega)];simp
theorem a7l (n:Int):0<=n % 1048576∧n % 1048576<1048576:=by omega
structure a8a (a b:List Int) (i:Nat) (out:List Int) (c:Int):Prop where
 len:out.length=a.length+1
 ok:Okd out
 le:i<=a.length
 zero:∀j,i<=j->dat out j=0
 c0:0<=c
 c1:c<=1
 eq:val out+pw i*c=val (a.take i)+val (b.take i)
theorem a8a.init (a b:List Int):a8a a b 0 (List.replicate (a.length+1) 0) 0:=
 ⟨by simp,.zeros _,Nat.zero_le _,fun j _=>by unfold dat;rw [lbl,lbk];split<;>rfl,by decide,by decide,by rw [a8j];simp [val]⟩
theorem a5y {l:List Int} {i j:Nat} {x:Int} (h:i≠j):dat (l.set i x) j=dat l j:=by
 unfold dat;rw [lbl,lbl,List.getElem?_set_ne h]
theorem a22 {l:List Int} {i:Nat} {x:Int} (hi:i<l.length):val (l.set i x)=val l+pw i*(x - dat l i):=by
 rw [a33 (lbf hi)];exact b77 (lbf hi)
theorem a8a.step {a b out:List Int} {i:Nat} {c:Int} (h:a8a a b i out c) (ha:Okd a) (hb:Okd b) (hi:i<a.length):
 a8a a b (i+1) (out.set i ((c+dat a i+dat b i) % 1048576)) ((c+dat a i+dat b i) / 1048576):=by
 have h1:=ha.dat i
 have h2:=hb.dat i
 have h3:=h.c0
 have h4:=h.c1
 have hl:=h.len
 refine ⟨by simp [hl],h.ok.set (a7l _),hi,fun j hj=>?_,by omega,by omega,?_⟩
 ·rw [a5y (by omega)];exact h.zero j (by omega)
 ·rw [a22 (by omega),h.zero i (lbQ _),z7,z7,L7]
  have h5:=h.eq
  have h6:(c+dat a i+dat b i) % 1048576=c+dat a i+dat b i - 1048576*((c+dat a i+dat b i) / 1048576):=by omega
  rw [h6]
  grind
theorem a8a.fin {a b out:List Int} {c:Int} (h:a8a a b a.length out c) (hl:b.length<=a.length):O7 (out.set a.length c)=dg (val a+val b).toNat:=by
 have h1:=h.c0
 have h2:=h.c1
 have h3:=h.eq
 have hl:=h.len
 rw [W9 (h.ok.set (by omega)),a22 (by omega),h.zero _ (lbQ _)]
 rw [List.take_length,lbn (by omega)] at h3
 congr 2
 grind
structure am5 (a b:List Int) (i:Nat) (out:List Int) (c:Int):Prop where
 len:out.length=a.length
 ok:Okd out
 le:i<=a.length
 rest:∀j,i<=j->dat out j=dat a j
 c0:0<=c
 c1:c<=1
 eq:val out - pw i*c=val a - val (b.take i)
theorem am5.init {a b:List Int} (ha:Okd a):am5 a b 0 a 0:=⟨rfl,ha,Nat.zero_le _,fun _ _=>rfl,by decide,by decide,by simp [val]⟩
theorem am5.step {a b out:List Int} {i:Nat} {c:Int} (h:am5 a b i out c) (ha:Okd a) (hb:Okd b) (hi:i<a.length):
 am5 a b (i+1) (out.set i ((dat out i - c - dat b i) % 1048576)) ((dat out i - c - dat b i) / 1048576 % 2):=by
 have h1:=h.ok.dat i
 have h2:=hb.dat i
 have h3:=h.c0
 have h4:=h.c1
 have hl:=h.len
 refine ⟨by simp [hl],h.ok.set (a7l _),hi,fun j hj=>?_,by omega,by omega,?_⟩
 ·rw [a5y (by omega)];exact h.rest j (by omega)
 ·rw [a22 (by omega),z7,L7]
  have h5:=h.eq
  have h6:(dat out i - c - dat b i) % 1048576=dat out i - c - dat b i+1048576*((dat out i - c - dat b i) / 1048576 % 2):=by omega
  rw [h6]
  grind
theorem am5.fin {a b out:List Int} {c:Int} (h:am5 a b a.length out c) (hl:b.length<=a.length) (hv:val b<=val a):O7 out=dg (val a - val b).toNat:=by
 have h1:=h.c0
 have h2:=h.c1
 have h3:=h.eq
 have hlen:=h.len
 rw [lbn (by omega)] at h3
 have h4:=a0A h.ok
 rw [hlen] at h4
 rw [W9 h.ok]
 rcases Int.lt_or_le 0 c with h5|h5
 ·have:c=1:=by omega
  subst this;omega
 ·have:c=0:=by omega
  subst this
  congr 2;omega
structure am6 (a b:List Int) (i k:Nat) (out:List Int) (c:Int):Prop where
 len:out.length=a.length+b.length
 ok:Okd out
 le:k<=b.length
 zero:∀j,i+b.length<=j->dat out j=0
 c0:0<=c
 c1:c<1048576
 eq:val out+pw (i+k)*c=val (a.take i)*val b+pw i*dat a i*val (b.take k)
structure a7Q (a b:List Int) (i:Nat) (out:List Int):Prop where
 len:out.length=a.length+b.length
 ok:Okd out
 le:i<=a.length
 zero:∀j,i+b.length<=j->dat out j=0
 eq:val out=val (a.take i)*val b
theorem a7Q.init (a b:List Int):a7Q a b 0 (List.replicate (a.length+b.length) 0):=
 ⟨by simp,.zeros _,Nat.zero_le _,fun j _=>by unfold dat;rw [lbl,lbk];split<;>rfl,by rw [a8j];simp [val]⟩
theorem a7Q.start {a b out:List Int} {i:Nat} (h:a7Q a b i out):am6 a b i 0 out 0:=
 ⟨h.len,h.ok,Nat.zero_le _,h.zero,by decide,by decide,by rw [h.eq];simp [val]⟩
theorem a5p {x y:Int} (hx:0<=x∧x<1048576) (hy:0<=y∧y<1048576):0<=x*y∧x*y<=1048575*1048575:=
 ⟨lbZ hx.1 hy.1,Int.mul_le_mul (by omega) (by omega) hy.1 (by decide)⟩
theorem am6.step {a b out:List Int} {i k:Nat} {c:Int} (h:am6 a b i k out c) (ha:Okd a) (hb:Okd b) (hi:i<a.length) (hk:k<b.length):
 am6 a b i (k+1) (out.set (i+k) ((dat out (i+k)+dat a i*dat b k+c) % 1048576)) ((dat out (i+k)+dat a i*dat b k+c) / 1048576):=by
 have h1:=h.ok.dat (i+k)
 have h2:=a5p (ha.dat i) (hb.dat k)
 have h3:=h.c0
 have h4:=h.c1
 have hl:=h.len
 refine ⟨by simp [hl],h.ok.set (a7l _),hk,fun j hj=>?_,by omega,by omega,?_⟩
 ·rw [a5y (by omega)];exact h.zero j (by omega)
 ·rw [a22 (by omega),z7,show i+(k+1)=i+k+1 by omega,L7]
  have h5:=h.eq
  have h6:(dat out (i+k)+dat a i*dat b k+c) % 1048576=dat out (i+k)+dat a i*dat b k+c - 1048576*((dat out (i+k)+dat a i*dat b k+c) / 1048576):=by omega
  rw [h6]
  have h7:=a82 i k
  grind
theorem am6.done {a b out:List Int} {i:Nat} {c:Int} (h:am6 a b i b.length out c) (ha:Okd a) (hb:Okd b) (hi:i<a.length):
 a7Q a b (i+1) (out.set (i+b.length) (dat out (i+b.length)+c)):=by
 have h3:=h.c0
 have h4:=h.c1
 have hl:=h.len
 have h8:=h.zero _ (lbQ _)
 refine ⟨by simp [hl],h.ok.set (by omega),hi,fun j hj=>?_,?_⟩
 ·rw [a5y (by omega)];exact h.zero j (by omega)
 ·rw [a22 (by omega),z7]
  have h5:=h.eq
  rw [List.take_length] at h5
  grind
theorem a7Q.fin {a b out:List Int} (h:a7Q a b a.length out):O7 out=dg (val a*val b).toNat:=by
 rw [W9 h.ok,h.eq,List.take_length]
structure a2Q (a:List Int) (d:Int) (j:Nat) (out:List Int) (r:Int):Prop where
 len:out.length=a.length
 ok:Okd out
 le:j<=a.length
 r0:0<=r
 r1:r<d
 eq:val (a.drop j)=d*val (out.drop j)+r
theorem a2Q.init (a:List Int) {d:Int} (hd:0<d):a2Q a d a.length (List.replicate a.length 0) 0:=
 ⟨by simp,.zeros _,lbQ _,by decide,hd,by simp [val]⟩
theorem ai0 {l:List Int} {i:Nat} (h:i<l.length):val (l.drop i)=dat l i+1048576*val (l.drop (i+1)):=by
 rw [a33 (lbf h)];exact a5e (lbf h)
theorem a7j {l:List Int} {i:Nat} {x:Int} (h:i<l.length):dat (l.set i x) i=x:=by
 unfold dat;rw [lbl,List.getElem?_set_self h];rfl
theorem a2Q.step {a out:List Int} {d r:Int} {j:Nat} (h:a2Q a d (j+1) out r) (ha:Okd a) (hd:0<d):
 a2Q a d j (out.set j ((r*1048576+dat a j) / d)) ((r*1048576+dat a j) % d):=by
 have h1:=ha.dat j
 have h3:=h.r0
 have h4:=h.r1
 have hl:=h.len
 have hle:=h.le
 have h6:0<=(r*1048576+dat a j) / d:=Int.ediv_nonneg (by omega) (by omega)
 have h7:(r*1048576+dat a j) / d<1048576:=by
  apply Int.ediv_lt_of_lt_mul hd
  have:=lbV (a:=r+1) (b:=d) (c:=1048576) (by omega) (by omega)
  omega
 refine ⟨by simp [hl],h.ok.set ⟨h6,h7⟩,by omega,Int.emod_nonneg _ (by omega),Int.emod_lt_of_pos _ hd,?_⟩
 rw [ai0 (by omega),ai0 (l:=out.set j _) (by simp;omega),a7j (by omega),List.drop_set_of_lt (by omega),h.eq]
 have h8:=Int.emod_add_mul_ediv (r*1048576+dat a j) d
 grind
theorem a2Q.fin {a out:List Int} {d r:Int} (h:a2Q a d 0 out r) (ha:Okd a) (hd:0<d):O7 out=dg (val a / d).toNat∧r=val a % d:=by
 have h3:=h.r0
 have h4:=h.r1
 have h5:=h.eq
 simp only [List.drop_zero] at h5
 rw [W9 h.ok]
 have e1:val a / d=val out:=by rw [h5];rw [Int.add_comm,Int.add_mul_ediv_left _ _ (by omega),Int.ediv_eq_zero_of_lt h3 h4];omega
 have e2:val a % d=r:=by rw [h5,Int.add_comm,Int.add_mul_emod_self_left,Int.emod_eq_of_lt h3 h4]
 exact ⟨by rw [e1],e2.symm⟩
structure a9h (w v:List Int) (g:Int) (i:Nat) (out:List Int) (c:Int):Prop where
 len:out.length=w.length
 ok:Okd out
 le:i<=w.length
 rest:∀j,i<=j->dat out j=dat w j
 c0:0<=c
 c1:c<1048576
 eq:val out - pw i*c=val w - g*val (v.take i)
theorem a9h.init {w v:List Int} (g:Int) (hw:Okd w):a9h w v g 0 w 0:=⟨rfl,hw,Nat.zero_le _,fun _ _=>rfl,by decide,by decide,by simp [val]⟩
theorem a9h.step {w v out:List Int} {g:Int} {i:Nat} {c:Int} (h:a9h w v g i out c) (hv:Okd v) (hg:0<=g∧g<1048576) (hi:i<w.length):
 a9h w v g (i+1) (out.set i ((dat out i - c - g*dat v i) % 1048576)) (-((dat out i - c - g*dat v i) / 1048576)):=by
 have h1:=h.ok.dat i
 have h2:=a5p hg (hv.dat i)
 have h3:=h.c0
 have h4:=h.c1
 have hl:=h.len
 refine ⟨by simp [hl],h.ok.set (a7l _),hi,fun j hj=>?_,by omega,by omega,?_⟩
 ·rw [a5y (by omega)];exact h.rest j (by omega)
 ·rw [a22 (by omega),z7,L7]
  have h5:=h.eq
  have h6:(dat out i - c - g*dat v i) % 1048576=dat out i - c - g*dat v i - 1048576*((dat out i - c - g*dat v i) / 1048576):=by omega
  rw [h6]
  grind
structure a70 (w v:List Int) (i:Nat) (out:List Int) (c:Int):Prop where
 len:out.length=w.length
 ok:Okd out
 le:i<=w.length
 rest:∀j,i<=j->dat out j=dat w j
 c0:0<=c
 c1:c<=1
 eq:val out+pw i*c=val w+val (v.take i)
theorem a70.init {w v:List Int} (hw:Okd w):a70 w v 0 w 0:=⟨rfl,hw,Nat.zero_le _,fun _ _=>rfl,by decide,by decide,by simp [val]⟩
theorem a70.step {w v out:List Int} {i:Nat} {c:Int} (h:a70 w v i out c) (hv:Okd v) (hi:i<w.length):
 a70 w v (i+1) (out.set i ((c+dat out i+dat v i) % 1048576)) ((c+dat out i+dat v i) / 1048576):=by
 have h1:=h.ok.dat i
 have h2:=hv.dat i
 have h3:=h.c0
 have h4:=h.c1
 have hl:=h.len
 refine ⟨by simp [hl],h.ok.set (a7l _),hi,fun j hj=>?_,by omega,by omega,?_⟩
 ·rw [a5y (by omega)];exact h.rest j (by omega)
 ·rw [a22 (by omega),z7,L7]
  have h5:=h.eq
  have h6:(c+dat out i+dat v i) % 1048576=c+dat out i+dat v i - 1048576*((c+dat out i+dat v i) / 1048576):=by omega
  rw [h6]
  grind
theorem a9h.zero {w v out:List Int} {g c:Int} (h:a9h w v g w.length out c) (hl:v.length<=w.length) (hw:Okd w) (hv:Okd v) (hg:0<=g):
 (c=0↔g*val v<=val w)∧(c=0->val out=val w - g*val v):=by
 have h3:=h.c0
 have h5:=h.eq
 rw [lbn (by omega)] at h5
 have h6:=a0A h.ok
 have h7:=w8 h.ok
 rw [h.len] at h6
 have h8:=T5 w.length
 have h9:0<c->pw w.length<=pw w.length*c:=fun hc=>by
  have:=lbV (a:=1) (b:=c) (c:=pw w.length) (by omega) (by omega)
  omega
 constructor
 ·constructor
  ·rintro rfl;omega
  ·intro h10
   rcases Int.lt_or_le 0 c with h11|h11
   ·have:=h9 h11;omega
   ·omega
 ·rintro rfl;omega
theorem a9h.back {w v out out':List Int} {g c c':Int} (h:a9h w v g w.length out c) (h':a70 out v w.length out' c') (hl:v.length<=w.length)
 (h1:0<=val w - g*val v+val v) (h2:val w - g*val v+val v<pw w.length):val out'=val w - g*val v+val v:=by
 have h5:=h.eq
 have h6:=h'.eq
 rw [lbn (by omega)] at h5 h6
 have h7:=a0A h'.ok
 have h8:=w8 h'.ok
 rw [h'.len,h.len] at h7
 have h9:=T5 w.length
 have e:val out'+pw w.length*(c' - c)=val w - g*val v+val v:=by grind
 rcases Int.lt_trichotomy (c' - c) 0 with hc|hc|hc
 ·have:=lbV (a:=c' - c) (b:=-1) (c:=pw w.length) (by omega) (by omega)
  omega
 ·rw [hc] at e;omega
 ·have:=lbV (a:=1) (b:=c' - c) (c:=pw w.length) (by omega) (by omega)
  omega
structure Win (P V W v1 v2 top u2:Int):Prop where
 P0:0<P
 v1l:524288<=v1
 v1u:v1<1048576
 v20:0<=v2
 v2u:v2<1048576
 u20:0<=u2
 u2u:u2<1048576
 t0:0<=top
 tu:top<1048576*1048576
 Vl:P*(v1*1048576+v2)<=V
 Vu:V<P*(v1*1048576+v2)+P
 Wl:P*(top*1048576+u2)<=W
 Wu:W<P*(top*1048576+u2)+P
 lt:W<V*1048576
theorem Win.V0 {P V W v1 v2 top u2:Int} (h:Win P V W v1 v2 top u2):0<V:=by
 have h1:=h.Vl
 have h2:=h.P0
 have h3:=h.v1l
 have h4:=h.v20
 have:=Int.mul_pos h2 (b:=v1*1048576+v2) (by omega)
 omega
structure Y8 (V W v1 top g r:Int):Prop where
 g0:0<=g
 gu:g<=2097152
 r0:0<=r
 ru:r<2097152
 eq:g*v1+r=top
 hi:W<(g+1)*V
theorem Y8.init {P V W v1 v2 top u2:Int} (h:Win P V W v1 v2 top u2):Y8 V W v1 top (top / v1) (top % v1):=by
 have h1:=h.v1l
 have h2:=h.v1u
 have h3:=h.t0
 have h4:=h.tu
 have h5:=Int.emod_nonneg top (b:=v1) (by omega)
 have h6:=Int.emod_lt_of_pos top (b:=v1) (by omega)
 have h7:=Int.mul_ediv_add_emod top v1
 have h8:0<=top / v1:=Int.ediv_nonneg h3 (by omega)
 have hq:top / v1*v1+top % v1=top:=by rw [Int.mul_comm];exact h7
 refine ⟨h8,?_,h5,by omega,hq,?_⟩
 ·have h9:=lbV (a:=524288) (b:=v1) (c:=top / v1) h1 h8
  omega
 ·have hW:=h.Wu
  have hV:=h.Vl
  have hP:=h.P0
  have h20:=h.v20
  have hu:=h.u2u
  have e1:(top / v1+1)*(P*(v1*1048576+v2))<=(top / v1+1)*V:=lbV hV (by omega)
  have e2:top*1048576+u2+1<=(top / v1+1)*(v1*1048576+v2):=by
   have:0<=(top / v1+1)*v2:=lbZ (by omega) h20
   have e3:(top / v1+1)*v1≥top+1:=by grind
   grind
  have e4:=lbV (c:=P) e2 (by omega)
  grind
theorem Y8.dec {P V W v1 v2 top u2 g r:Int} (h:Win P V W v1 v2 top u2) (hg:Y8 V W v1 top g r) (hc:1048576<=g∨(r<1048576∧r*1048576+u2<g*v2)):
 W<g*V:=by
 have hV0:=h.V0
 rcases hc with hc|⟨hr,hc⟩
 ·have:=lbW (a:=1048576) (b:=g) (c:=V) hc (by omega)
  have:=h.lt
  omega
 ·have hW:=h.Wu
  have e1:g*(P*(v1*1048576+v2))<=g*V:=lbV h.Vl hg.g0
  have e2:top*1048576+u2+1<=g*(v1*1048576+v2):=by
   have:=hg.eq
   grind
  have e4:=lbV (c:=P) e2 (Int.le_of_lt h.P0)
  grind
theorem Y8.small {P V W v1 v2 top u2 g r:Int} (h:Win P V W v1 v2 top u2) (hg:Y8 V W v1 top g r) (hc:1048576<=g):r<1048576:=by
 have h1:=h.Wl
 have h2:=h.lt
 have h3:=h.Vu
 have hP:=h.P0
 have e1:P*(top*1048576+u2)<P*((v1*1048576+v2+1)*1048576):=by grind
 have e2:top*1048576+u2<(v1*1048576+v2+1)*1048576:=Int.lt_of_mul_lt_mul_left e1 (Int.le_of_lt hP)
 have h4:=h.u20
 have h5:=hg.eq
 have h6:=lbW (a:=1048576) (b:=g) (c:=v1) hc (by have:=h.v1l;omega)
 have h7:=h.v2u
 omega
theorem Y8.step {P V W v1 v2 top u2 g r:Int} (h:Win P V W v1 v2 top u2) (hg:Y8 V W v1 top g r) (hc:1048576<=g∨(r<1048576∧r*1048576+u2<g*v2))
 (hW0:0<=W):Y8 V W v1 top (g - 1) (r+v1):=by
 have h1:=Y8.dec h hg hc
 have hV0:=h.V0
 have hg0:0<g:=by
  rcases Int.lt_or_le 0 g with h2|h2
  ·exact h2
  ·have:=hg.g0
   have:g=0:=by omega
   subst this;omega
 have h2:=hg.gu
 have h3:=hg.r0
 have h4:=h.v1l
 have h5:=h.v1u
 have h6:=hg.eq
 have h7:r<1048576:=by
  rcases hc with hc|hc
  ·exact Y8.small h hg hc
  ·exact hc.1
 exact ⟨by omega,by omega,by omega,by omega,by grind,by grind⟩
theorem Y8.fin {P V W v1 v2 top u2 g r:Int} (h:Win P V W v1 v2 top u2) (hg:Y8 V W v1 top g r) (hc:¬(1048576<=g∨(r<1048576∧r*1048576+u2<g*v2)))
 (hP:P*1048576<=V):g<1048576∧g*V<=W+V:=by
 have hg1:g<1048576:=by omega
 refine ⟨hg1,?_⟩
 have h0:=hg.g0
 have h20:=h.v20
 have h2u:=h.v2u
 have hu0:=h.u20
 have e1:g*v2<=r*1048576+u2:=by
  rcases Int.lt_or_le r 1048576 with hr|hr
  ·omega
  ·have:=a5p ⟨h0,hg1⟩ ⟨h20,h2u⟩
   omega
 have e2:g*(v1*1048576+v2)<=top*1048576+u2:=by
  have:=hg.eq
  grind
 have e3:=lbV (c:=P) e2 (Int.le_of_lt h.P0)
 have e4:g*V<=g*(P*(v1*1048576+v2)+P):=lbV (Int.le_of_lt h.Vu) h0
 have e5:g*P<=1048576*P:=lbW (Int.le_of_lt hg1) (Int.le_of_lt h.P0)
 have hW:=h.Wl
 grind
structure Bg where
 sg:Int
 dl:List Int
def bz (z:Int):Bg:=⟨z.sign,dg z.natAbs⟩
def inD (d:Int):Bool:=decide (0<=d) && decide (d<=1048575)
def Q9 (b:Bg):Bool:=b.dl.all inD && (if b.dl.length=0 then b.sg == 0 else (b.sg == 1 || b.sg == -1) && !(dat b.dl (b.dl.length - 1) == 0))
def bv (b:Bg):Int:=b.sg*val b.dl
theorem b0S {l:List Int}:l.all inD=true↔Okd l:=by
 simp only [lbv,inD,lbM,lbI]
 exact ⟨fun h d hd=>by have:=h d hd;omega,fun h d hd=>by have:=h d hd;omega⟩
theorem a74 (z:Int):bv (bz z)=z:=by
 unfold bv bz
 rw [B8]
 exact Int.sign_mul_natAbs z
theorem b6D {b:Bg} (h:Q9 b=true):b=bz (bv b):=by
 unfold Q9 at h
 rw [lbM,b0S] at h
 obtain ⟨h1,h2⟩:=h
 obtain ⟨sg,dl⟩:=b
 simp only at h1 h2
 have hv:=w8 h1
 by_cases hl:dl.length=0
 ·rw [if_pos hl] at h2
  have:dl=[]:=lbF hl
  subst this
  have:sg=0:=by simpa using h2
  subst this
  rfl
 ·rw [if_neg hl,lbM] at h2
  have hc:Can dl:=⟨h1,fun x hx=>by rw [a33 hx] at h2;simpa using h2.2⟩
  have h3:=b0q hc
  have hp:0<val dl:=by
   rcases Int.lt_or_le 0 (val dl) with h4|h4
   ·exact h4
   ·have:val dl=0:=by omega
    rw [this] at h3
    rw [h3] at hl
    exact absurd rfl hl
  have hs:sg=1∨sg=-1:=by simpa using h2.1
  have ha:(sg*val dl).natAbs=(val dl).toNat:=by
   rcases hs with rfl|rfl<;>omega
  have hg:(sg*val dl).sign=sg:=by
   rcases hs with rfl|rfl
   ·rw [Int.one_mul];exact Int.sign_eq_one_of_pos hp
   ·exact Int.sign_eq_neg_one_of_neg (by omega)
  unfold bz bv
  simp only
  rw [ha,hg,←h3]
theorem a35 (z:Int):Q9 (bz z)=true:=by
 unfold Q9
 rw [lbM,b0S]
 refine ⟨E5 _,?_⟩
 by_cases hl:(bz z).dl.length=0
 ·rw [if_pos hl]
  have h0:dg z.natAbs=[]:=lbF hl
  have:z=0:=by have:=U9.1 h0;omega
  subst this;rfl
 ·rw [if_neg hl]
  have hz:z≠0:=by rintro rfl;exact hl rfl
  have hl0:(dg z.natAbs).length - 1<(dg z.natAbs).length:=by have:(dg z.natAbs).length≠0:=hl;omega
  have h1:=(a21 z.natAbs).2 _ (lbf hl0)
  have h2:dat (bz z).dl ((bz z).dl.length - 1)≠0:=by
   show dat (dg z.natAbs) ((dg z.natAbs).length - 1)≠0
   rw [a33 (lbf hl0)];exact h1
  rw [lbM]
  refine ⟨?_,by simpa using h2⟩
  show ((z.sign == 1) || (z.sign == -1))=true
  rcases Int.lt_trichotomy z 0 with h|h|h
  ·rw [Int.sign_eq_neg_one_of_neg h];rfl
  ·exact absurd h hz
  ·rw [Int.sign_eq_one_of_pos h];rfl
theorem aI7 {z:Int}:(bz z).sg=z.sign:=rfl
structure Fr where
 p:Bg
 q:Bg
def fz (x:Rat):Fr:=⟨bz x.num,bz x.den⟩
def N2 (f:Fr):Bool:=Q9 f.p && Q9 f.q && (f.q.sg == 1) && (Int.gcd (bv f.p) (bv f.q) == 1)
def fv (f:Fr):Rat:=mkRat (bv f.p) (bv f.q).toNat
theorem aa6 (x:Rat):N2 (fz x)=true:=by
 unfold N2 fz
 simp only [a35,a74,Bool.true_and,lbM]
 have hd:=x.den_pos
 refine ⟨?_,?_⟩
 ·rw [aI7,Int.sign_eq_one_of_pos (by omega)];rfl
 ·have:=x.reduced
  simp only [Int.gcd,Int.natAbs_natCast]
  rw [this];rfl
theorem bg3 {f:Fr} (h:N2 f=true):f=fz (fv f):=by
 unfold N2 at h
 simp only [lbM,beq_iff_eq] at h
 obtain ⟨⟨⟨h1,h2⟩,h3⟩,h4⟩:=h
 have e1:=b6D h1
 have e2:=b6D h2
 rw [e2,aI7] at h3
 have hq:0<bv f.q:=Int.sign_eq_one_iff_pos.1 h3
 have hr:Nat.Coprime (bv f.p).natAbs (bv f.q).toNat:=by
  have:(bv f.q).natAbs=(bv f.q).toNat:=by omega
  rw [← this];exact h4
 have e3:fv f=⟨bv f.p,(bv f.q).toNat,by omega,hr⟩:=(Rat.mk_eq_mkRat _ _ _ _).symm
 rw [e3]
 unfold fz
 simp only
 rw [← e1,show (((bv f.q).toNat:Nat):Int)=bv f.q by omega,←e2]
theorem bi4 (x:Rat):fv (fz x)=x:=by
 unfold fv fz
 simp only [a74,lbX]
 exact Rat.mkRat_self x
theorem ar5 {p q g:Int} (hq:0<q) (hg:g=Int.gcd p q):fz (Rat.divInt p q)=⟨bz (p / g),bz (q / g)⟩:=by
 unfold fz
 rw [Rat.num_divInt,Rat.den_divInt,if_neg (by omega),Int.sign_eq_one_of_pos hq,Int.one_mul,Int.gcd_comm q p,←hg]
 congr 2
 rw [hg]
 have:((q.natAbs / Int.gcd p q:Nat):Int)=(q.natAbs:Int) / (Int.gcd p q:Int):=by simp
 rw [this,show (q.natAbs:Int)=q by omega]
structure a9m (U V N L:Nat) (j:Nat) (u q:List Int):Prop where
 lu:u.length=N
 oku:Okd u
 lq:q.length=N - L
 okq:Okd q
 le:j<=N - L
 eq:val (q.drop j)*pw j*V+val u=U
 lt:val u<V*pw j
theorem a9m.init {U V:Nat} (hV:0<V) (hl:(dg V).length<=(dg U).length+1):a9m U V ((dg U).length+1) (dg V).length ((dg U).length+1 - (dg V).length) (dg U++[0]) (List.replicate ((dg U).length+1 - (dg V).length) 0):=by
 have h1:=aE9 hV
 have h2:=P9 U
 have hv:val (dg U++[0])=U:=by rw [S2,B8];simp [val]
 have hL:(dg V).length≠0:=by rw [Ne,List.length_eq_zero_iff,U9];omega
 refine ⟨by simp,(E5 U).append (by intro x hx;simp at hx;omega),by simp,.zeros _,lbQ _,?_,?_⟩
 ·rw [lbo (by simp),hv];simp [val]
 ·rw [hv]
  have h3:=lbW (a:=pw ((dg V).length - 1)) (b:=V) (c:=pw ((dg U).length+1 - (dg V).length)) h1 (Int.le_of_lt (T5 _))
  rw [← a82,show (dg V).length - 1+((dg U).length+1 - (dg V).length)=(dg U).length by omega] at h3
  omega
theorem a9m.window {U V N L j:Nat} {u q:List Int} (h:a9m U V N L (j+1) u q) (hL:(dg V).length=L):
 u=u.take j++(u.drop j).take (L+1)++u.drop (j+(L+1))∧((u.drop j).take (L+1)).length=L+1∧(u.take j).length=j∧
 val u=val (u.take j)+pw j*val ((u.drop j).take (L+1))∧val (u.drop (j+(L+1)))=0∧val ((u.drop j).take (L+1))<V*1048576:=by
 have h1:=h.lu
 have h2:=h.le
 have h3:=h.lt
 have hp:=T5 j
 have e0:(u.take j).length=j:=by simp;omega
 have e1:u.drop j=(u.drop j).take (L+1)++u.drop (j+(L+1)):=by rw [← List.drop_drop,lb7]
 have e2:((u.drop j).take (L+1)).length=L+1:=by simp;omega
 have e3:u=u.take j++(u.drop j).take (L+1)++u.drop (j+(L+1)):=by rw [lbD,←e1,lb7]
 have hv:=a7S u j (by omega)
 have hw:=S2 ((u.drop j).take (L+1)) (u.drop (j+(L+1)))
 rw [← e1,e2] at hw
 have h4:=w8 (h.oku.take j)
 have h5:=w8 ((h.oku.drop j).take (L+1))
 have h6:=w8 (h.oku.drop (j+(L+1)))
 have hVp:=P9 V
 rw [hL] at hVp
 have hz:val (u.drop (j+(L+1)))=0:=by
  rcases Int.lt_or_le 0 (val (u.drop (j+(L+1)))) with h7|h7
  ·exfalso
   have a1:=lbV (a:=1) (b:=val (u.drop (j+(L+1)))) (c:=pw (L+1)) (by omega) (Int.le_of_lt (T5 _))
   have a2:=lbV (a:=pw (L+1)) (b:=val (u.drop j)) (c:=pw j) (by omega) (Int.le_of_lt hp)
   have a3:=lbW (a:=(V:Int)) (b:=pw L) (c:=pw (j+1)) (Int.le_of_lt hVp) (Int.le_of_lt (T5 _))
   have a4:pw j*pw (L+1)=pw L*pw (j+1):=by rw [← a82,←a82];congr 1;omega
   omega
  ·omega
 rw [hz,Int.mul_zero,Int.add_zero] at hw
 rw [hw] at hv
 refine ⟨e3,e2,e0,hv,hz,?_⟩
 have a5:pw j*val ((u.drop j).take (L+1))<pw j*(V*1048576):=by
  rw [L7] at h3
  have:(V:Int)*(pw j*1048576)=pw j*(V*1048576):=by grind
  omega
 exact Int.lt_of_mul_lt_mul_left a5 (Int.le_of_lt hp)
theorem av5 (l:List Int):O7 l++List.replicate (l.length - (O7 l).length) 0=l:=by
 induction l with
 |nil=>rfl
 |cons d r ih=>
  rw [O7]
  split
  ·rename_i h
   rw [h.1] at ih
   rw [h.2]
   simp only [List.nil_append,List.length_nil,Nat.sub_zero,lbu,List.replicate_succ] at ih ⊢
   rw [ih]
  ·simp only [List.cons_append,lbu,Nat.add_sub_add_right]
   rw [ih]
def a0r (n:Nat) (l:List Int):List Int:=l++List.replicate (n - l.length) 0
theorem b1l {l:List Int} (h:Okd l) {n:Nat} (hn:l.length=n):l=a0r n (dg (val l).toNat):=by
 subst hn
 have:=av5 l
 rw [W9 h] at this
 exact this.symm
theorem b86 (n:Nat) (l:List Int):val (a0r n l)=val l:=by unfold a0r;rw [S2,a8j];simp
theorem aw2 {n:Nat} {l:List Int} (h:l.length<=n):(a0r n l).length=n:=by unfold a0r;simp;omega
theorem b5x {n:Nat} {l:List Int} (h:Okd l):Okd (a0r n l):=h.append (.zeros _)
theorem Win.of {v w:List Int} {L:Nat} (hv:Okd v) (hw:Okd w) (lv:v.length=L+2) (lw:w.length=L+3) (ht:524288<=dat v (L+1)) (hlt:val w<val v*1048576):
 Win (pw L) (val v) (val w) (dat v (L+1)) (dat v L) (dat w (L+2)*1048576+dat w (L+1)) (dat w L):=by
 have v1:=z7 v (L+1)
 have v2:=z7 v L
 have w1:=z7 w (L+2)
 have w2:=z7 w (L+1)
 have w3:=z7 w L
 rw [lbn (by omega)] at v1 w1
 have a1:=w8 (hv.take L)
 have a2:=a0A (hv.take L)
 have a3:=w8 (hw.take L)
 have a4:=a0A (hw.take L)
 rw [lbs,Nat.min_eq_left (by omega)] at a2 a4
 have d1:=hv.dat (L+1)
 have d2:=hv.dat L
 have d3:=hw.dat (L+2)
 have d4:=hw.dat (L+1)
 have d5:=hw.dat L
 have p1:=L7 L
 have p2:=L7 (L+1)
 have e1:val v=pw L*(dat v (L+1)*1048576+dat v L)+val (v.take L):=by grind
 have e2:val w=pw L*((dat w (L+2)*1048576+dat w (L+1))*1048576+dat w L)+val (w.take L):=by grind
 exact ⟨T5 L,ht,by omega,by omega,by omega,by omega,by omega,by omega,by omega,by omega,by omega,by omega,by omega,hlt⟩
theorem a9m.step {U V N L j:Nat} {u q:List Int} (h:a9m U V N L (j+1) u q) (hL:(dg V).length=L) (hV:0<V) {Q:Int} (hQ:0<=Q∧Q<1048576)
 (hr0:0<=val ((u.drop j).take (L+1)) - Q*V) (hr1:val ((u.drop j).take (L+1)) - Q*V<V):
 a9m U V N L j (u.take j++a0r (L+1) (dg (val ((u.drop j).take (L+1)) - Q*V).toNat)++u.drop (j+(L+1))) (q.set j Q):=by
 obtain ⟨e3,e2,e0,hv,hz,hW⟩:=h.window hL
 have h1:=h.lu
 have h2:=h.le
 have h3:=h.lq
 have hVp:=P9 V
 rw [hL] at hVp
 have hmono:=a2y (Nat.le_succ L)
 have lp:(dg (val ((u.drop j).take (L+1)) - Q*V).toNat).length<=L+1:=N9 (by have:pw L<=pw (L+1):=hmono;omega)
 have hpl:=aw2 lp
 have hvp:val (a0r (L+1) (dg (val ((u.drop j).take (L+1)) - Q*V).toNat))=val ((u.drop j).take (L+1)) - Q*V:=by
  rw [b86,B8,lbY hr0]
 have hu':val (u.take j++a0r (L+1) (dg (val ((u.drop j).take (L+1)) - Q*V).toNat)++u.drop (j+(L+1)))=val (u.take j)+pw j*(val ((u.drop j).take (L+1)) - Q*V):=by
  rw [S2,hz,S2,hvp,e0];simp
 have hp:=T5 j
 have hlt:=a0A (h.oku.take j)
 rw [e0] at hlt
 refine ⟨?_,((h.oku.take j).append (b5x (E5 _))).append (h.oku.drop _),by simp [h3],h.okq.set hQ,by omega,?_,?_⟩
 ·simp only [lbq,hpl,e0,List.length_drop];omega
 ·rw [hu',ai0 (by simp;omega),a7j (by omega),List.drop_set_of_lt (by omega)]
  have h4:=h.eq
  rw [hv,L7] at h4
  grind
 ·rw [hu']
  have h5:=lbV (a:=val ((u.drop j).take (L+1)) - Q*V) (b:=(V:Int) - 1) (c:=pw j) (by omega) (by omega)
  have h6:pw j*((V:Int) - 1)=V*pw j - pw j:=by grind
  omega
theorem a9m.fin {U V N L:Nat} {u q:List Int} (h:a9m U V N L 0 u q) (hV:0<V):val q=(U / V:Nat)∧val u=(U % V:Nat):=by
 have h1:=h.eq
 have h2:=h.lt
 simp only [List.drop_zero,b7g,Int.mul_one] at h1 h2
 have h3:=w8 h.oku
 have h4:=w8 h.okq
 obtain ⟨Q,hQ⟩:=Int.eq_ofNat_of_zero_le h4
 obtain ⟨R,hR⟩:=Int.eq_ofNat_of_zero_le h3
 rw [hQ,hR] at h1
 rw [hR] at h2
 have e:U=R+Q*V:=by
  have:((R+Q*V:Nat):Int)=(U:Int):=by rw [← h1];simp [Int.add_comm]
  omega
 have hlt:R<V:=by omega
 rw [hQ,hR,e,Nat.add_mul_div_right _ _ hV,Nat.div_eq_of_lt hlt,Nat.add_mul_mod_self_right,Nat.mod_eq_of_lt hlt]
 simp
open St1 St2 St3 St4 St5 St6 St7 St8 StA StB
set_option maxRecDepth 100000
abbrev bgC (b:Bg):List C:=[.t (ti b.sg),.t (E1 b.dl)]
abbrev bgS (b:Bg):S:=.agg (bgC b)
abbrev bgB (b:Bg):Blk:={ mode:=.live,elem:=84,size:=2,rows:=[bgC b],box:=true }
theorem a4T (b:Bg):L8 [bgC b]:=by
 intro r hr c hc
 simp at hr
 subst hr
 simp [bgC] at hc
 rcases hc with rfl|rfl<;>rfl
theorem C6 {l:List Int} {i:Nat} (h:i<l.length):l[i]? =some (dat l i):=by
 unfold dat;rw [lbl,lbf h];rfl
theorem a9W {l:List Int} (h:0<l.length):l[((l.length:Int) - 1).toNat]? =some (dat l (l.length - 1)):=by
 rw [show ((l.length:Int) - 1).toNat=l.length - 1 by omega];exact C6 (by omega)
theorem a31 {l:List Int} {n:Nat} (h:0<n) (hn:n<=l.length):l[((n:Int) - 1).toNat]? =some (dat l (n - 1)):=by
 rw [show ((n:Int) - 1).toNat=n - 1 by omega];exact C6 (by omega)
theorem a3k (b:Bg) (hl:b.dl.length<=1000000):b9 Tryz.prog 181 [bgS b] [] (j0 (Q9 b)) []:=by
 have l2:(b.dl.map g9).length=b.dl.length:=by simp
 (refine ac Tryz.func181 ?_;(conv=>whnf);repeat (refine zy ?_;conv=>whnf))
 repeat' (first|refine zx ?_|refine zd ?_ ?_<;>intro h<;>try omega|fail)<;>conv=>whnf
 refine j7 g6 (fun k=>([J,S.c (C.ptr 0 0 0),J,b7 .i64 b.dl.length,J,J,J,J,J,J,i7 b.dl,b7 .i64 b.dl.length,b7 .i64 k]++Jn 32,[bgB b])) b.dl.length (fun k=>(b.dl.take k).all inD=true) [some 0] rfl
  ⟨rfl,rfl,⟨⟨rfl,rfl,rfl,.inl ⟨rfl,a4T b⟩⟩,trivial⟩,⟨⟨rfl,rfl,rfl⟩,e8 (by simp),k9 rfl,e8 (by simp),e8 rfl,trivial⟩⟩ ?_
 intro k hk hI
 conv=>whnf
 repeat' (first|refine zx ?_|refine i3 (C6 (by omega)) ?_|refine M8 (by omega) (a9W (by omega)) ?_|refine zd ?_ ?_<;>intro h<;>try omega|fail)<;>conv=>whnf
 all_goals first
  |(have hlt:k<b.dl.length:=by omega
    refine ⟨hlt,?_,[some 0],rfl,rfl,⟨⟨rfl,rfl,rfl,.inl ⟨rfl,a4T b⟩⟩,trivial⟩,⟨⟨rfl,rfl,rfl⟩,rfl,rfl,rfl,rfl,trivial⟩⟩;rw [F8 (C6 hlt),hI];simp [inD];omega)
  |(have hlt:k<b.dl.length:=by omega
    refine i4 ?_;unfold Q9;rw [K5 (C6 hlt) (by simp [inD];omega)];rfl)
  |(have ha:b.dl.all inD=true:=by rw [← hI,lbn (by omega)]
    refine i4 ?_;unfold Q9;rw [ha];simp_all;done)
theorem a3Q (l:List Int) (hl:l.length<=1000000):b9 Tryz.prog 265 [i7 l] [] (i7 (O7 l)) []:=by
 have l2:(l.map g9).length=l.length:=by simp
 (refine ac Tryz.func265 ?_;(conv=>whnf);repeat (refine zy ?_;conv=>whnf))
 repeat' (first|refine zx ?_|refine zd ?_ ?_<;>intro h<;>try omega|fail)<;>conv=>whnf
 refine w5 g6 (σ:=Nat) (fun n=>([i7 l,J,J,b7 .i64 n]++Jn 17,[])) (fun n=>n<=l.length∧∀j x,n<=j->l[j]? =some x->x=0) (fun n=>n) l.length []
  ⟨lbQ _,fun j x hj hx=>by rw [lbd hj] at hx;cases hx⟩ ⟨rfl,rfl,trivial,⟨k9 rfl,e8 (by simp),trivial⟩⟩ ?_
 rintro n ⟨hn,hz⟩
 have hn:n<=l.length:=hn
 conv=>whnf
 repeat' (first|refine zx ?_|refine M8 (by omega) (a31 (by omega) hn) ?_|refine aM4 (by omega) (by omega) (by omega) ?_|refine zd ?_ ?_<;>intro h<;>try omega|fail)<;>conv=>whnf
 ·have h0:dat l (n - 1)=0:=by assumption
  have h1:0<n:=by omega
  refine ⟨[],n - 1,⟨rfl,rfl,trivial,⟨rfl,e8 (by omega),trivial⟩⟩,⟨by omega,fun j x hj hxj=>?_⟩,by show n - 1<n;omega⟩
  by_cases hj2:j=n - 1
  ·subst hj2;rw [C6 (by omega)] at hxj;injection hxj with hx;rw [← hx];exact h0
  ·exact hz j x (by omega) hxj
 all_goals
  have e:l.take n=O7 l:=a6u hz (fun x h0 hx=>by
   first
    |omega
    |(rw [C6 (by omega)] at hx;injection hx with hx;rw [← hx];assumption)) hn
  refine b5c ?_ rfl
  rw [← e]
  simp [List.map_take]
open St1 St2 St3 St4 St5 St6 St7 St8 StA StB
set_option maxRecDepth 100000
theorem b8s (l:List Int) (hl:l.length<=1000000):b9 Tryz.prog 265 [Z7 0 l] [t8 l] (.c (.own 0 0 (O7 l).length true)) [t8 l]:=by
 (refine ac Tryz.func265 ?_;(conv=>whnf);repeat (refine zy ?_;conv=>whnf))
 repeat' (first|refine zx ?_|refine zd ?_ ?_<;>intro h<;>try omega|fail)<;>conv=>whnf
 refine w5 g6 (σ:=Nat) (fun n=>([Z7 0 l,J,J,b7 .i64 n]++Jn 17,[t8 l])) (fun n=>n<=l.length∧∀j x,n<=j->l[j]? =some x->x=0) (fun n=>n) l.length [some 0]
  ⟨lbQ _,fun j x hj hx=>by rw [lbd hj] at hx;cases hx⟩ ⟨rfl,rfl,⟨b8 rfl rfl rfl rfl rfl,trivial⟩,⟨m8 rfl rfl,e8 rfl,trivial⟩⟩ ?_
 rintro n ⟨hn,hz⟩
 have hn:n<=l.length:=hn
 have hg:0<n->l[0+((n:Int) - 1).toNat]? =some (dat l (n - 1)):=fun h=>by rw [Nat.zero_add];exact a31 h hn
 conv=>whnf
 repeat' (first|refine zx ?_|refine q9 (hg (by omega)) ?_|refine aM4 (by omega) (by omega) (by omega) ?_|refine zd ?_ ?_<;>intro h<;>try omega|fail)<;>conv=>whnf
 ·have h0:dat l (n - 1)=0:=by assumption
  have h1:0<n:=by omega
  refine ⟨[some 0],n - 1,⟨rfl,rfl,⟨b8 rfl rfl rfl rfl rfl,trivial⟩,⟨m8 rfl rfl,e8 (by omega),trivial⟩⟩,⟨by omega,fun j x hj hxj=>?_⟩,by show n - 1<n;omega⟩
  by_cases hj2:j=n - 1
  ·subst hj2;rw [C6 (by omega)] at hxj;injection hxj with hx;rw [← hx];exact h0
  ·exact hz j x (by omega) hxj
 all_goals
  have e:l.take n=O7 l:=a6u hz (fun x h0 hx=>by
   first
    |omega
    |(rw [C6 (by omega)] at hx;injection hx with hx;rw [← hx];assumption)) hn
  have e2:(O7 l).length=n:=by rw [← e];simp;omega
  exact ⟨⟨[some 0],rfl,rfl,⟨b8 rfl rfl rfl rfl rfl,trivial⟩,⟨rfl,rfl,by rw [e2];omega,fun h=>h⟩⟩⟩
theorem aB0 {n:Nat} {K:Prop} (h:0<n) (k:K):0<n∧K:=⟨h,k⟩
theorem a9z (l:List Int) (hl:l.length<=1000000):b9 Tryz.prog 201 [i7 l] [] (i7 l) []:=by
 have l2:(l.map g9).length=l.length:=by simp
 cases l with
 |nil=>
  refine aw6 0 rfl ?_ ?_
  ·(refine ac Tryz.func201 ?_;(conv=>whnf);repeat (refine zy ?_;conv=>whnf))
   repeat' (first|refine zx ?_|refine zd ?_ ?_<;>intro h<;>try omega|fail)<;>conv=>whnf
   exact s7 (show a9p [] _ _ _ from rfl)
  ·(refine ac Tryz.func201 ?_;(conv=>whnf);repeat (refine zy ?_;conv=>whnf))
   repeat' (first|refine zx ?_|refine qp toC ?_|refine aB0 (by simp) ?_|refine ab0 (by omega) (by omega) rfl (by omega) ?_|refine P6 rfl (by simp [toC]) ?_|refine zd ?_ ?_<;>intro h<;>try omega|fail)<;>conv=>whnf
   exact R3 rfl (by intro h;cases h) rfl rfl (by simp [toC])
 |cons a r=>
  (refine ac Tryz.func201 ?_;(conv=>whnf);repeat (refine zy ?_;conv=>whnf))
  repeat' (first|refine zx ?_|refine qp toC ?_|refine aB0 (by simp) ?_|refine ab0 (by omega) (by omega) rfl (by omega) ?_|refine P6 rfl (by simp [toC] at *;omega) ?_|refine zd ?_ ?_<;>intro h<;>try omega|fail)<;>conv=>whnf
  exact R3 rfl (by intro h;cases h) rfl rfl (by simp [toC])
theorem b48 (l:List Int) (hl:l.length<=1000000):b9 Tryz.prog 201 [i7 l] [] (Z7 0 l) [t8 l]:=by
 have l2:(l.map g9).length=l.length:=by simp
 cases l with
 |nil=>
  refine aw6 0 rfl ?_ ?_
  ·(refine ac Tryz.func201 ?_;(conv=>whnf);repeat (refine zy ?_;conv=>whnf))
   repeat' (first|refine zx ?_|refine zd ?_ ?_<;>intro h<;>try omega|fail)<;>conv=>whnf
   exact ⟨⟨[none],rfl,rfl,⟨⟨rfl,rfl⟩,trivial⟩,⟨rfl,rfl,rfl⟩⟩⟩
  ·(refine ac Tryz.func201 ?_;(conv=>whnf);repeat (refine zy ?_;conv=>whnf))
   repeat' (first|refine zx ?_|refine qp toC ?_|refine aB0 (by simp) ?_|refine ab0 (by omega) (by omega) rfl (by omega) ?_|refine P6 rfl (by simp [toC]) ?_|refine zd ?_ ?_<;>intro h<;>try omega|fail)<;>conv=>whnf
   exact ⟨⟨[some 0],rfl,rfl,⟨b8 rfl rfl rfl rfl rfl,trivial⟩,⟨rfl,rfl,by simp [toC],fun h=>h⟩⟩⟩
 |cons a r=>
  (refine ac Tryz.func201 ?_;(conv=>whnf);repeat (refine zy ?_;conv=>whnf))
  repeat' (first|refine zx ?_|refine qp toC ?_|refine aB0 (by simp) ?_|refine ab0 (by omega) (by omega) rfl (by omega) ?_|refine P6 rfl (by simp [toC] at *;omega) ?_|refine zd ?_ ?_<;>intro h<;>try omega|fail)<;>conv=>whnf
  exact ⟨⟨[some 0],rfl,rfl,⟨b8 rfl rfl rfl rfl rfl,trivial⟩,⟨rfl,rfl,by simp [toC],fun h=>h⟩⟩⟩
theorem b7C (x:Int):b9 Tryz.prog 263 [b7 .i64 x] [] (j0 false) []:=by
 (refine ac Tryz.func263 ?_;(conv=>whnf);repeat (refine zy ?_;conv=>whnf))
 repeat' (first|refine zx ?_|refine zd ?_ ?_<;>intro h<;>try omega|fail)<;>conv=>whnf
 all_goals first
  |omega
  |exact i4 rfl
def W7 (x y:Int):Int:=if x<y then -1 else if x > y then 1 else 0
theorem a44 (x y:Int):b9 Tryz.prog 188 [b7 .i64 x,b7 .i64 y] [] (b7 .i64 (W7 x y)) []:=by
 (refine ac Tryz.func188 ?_;(conv=>whnf);repeat (refine zy ?_;conv=>whnf))
 repeat' (first|refine zx ?_|refine qp (b7C _) ?_|refine zd ?_ ?_<;>intro h<;>try omega|fail)<;>conv=>whnf
 all_goals first
  |(exfalso;simp_all;done)
  |(refine t6 ?_;unfold W7;split<;>first|omega|(split<;>omega))
theorem a3y (x y:Int):b9 Tryz.prog 259 [.c (.t (.sl 1 .full ([x,y].map g9)))] [] (b7 .i64 (if x=0 then y else x)) []:=by
 (refine ac Tryz.func259 ?_;(conv=>whnf);repeat (refine zy ?_;conv=>whnf))
 repeat' (first|refine zx ?_|refine zd ?_ ?_<;>intro h<;>try omega|fail)<;>conv=>whnf
 refine j7 g6 (fun k=>([J,J,J,b7 .i64 0,J,J,S.c (C.t (T.sl 1 .full ([x,y].map g9))),b7 .i64 2,b7 .i64 k]++Jn 9,[])) 2 (fun k=>∀v ∈ [x,y].take k,v=0) [] (by simp)
  ⟨rfl,rfl,trivial,⟨rfl,k9 rfl,e8 rfl,e8 rfl,trivial⟩⟩ ?_
 intro k hk hI
 conv=>whnf
 repeat' (first|refine zx ?_|refine zd ?_ ?_<;>intro h<;>try omega|fail)<;>conv=>whnf
 ·have hlt:k<2:=by omega
  obtain ⟨v,hv⟩:∃v,[x,y][k]? =some v:=⟨_,lbf (by simpa using hlt)⟩
  refine i3 hv ?_
  conv=>whnf
  repeat' (first|refine zx ?_|refine zd ?_ ?_<;>intro h<;>try omega|fail)<;>conv=>whnf
  ·refine t6 ?_
   match k,hlt with
   |0,_=>simp at hv;subst hv;rw [if_neg (by assumption)]
   |1,_=>simp at hv;subst hv;rw [if_pos (hI x (by simp))]
  ·refine ⟨hlt,?_,[],rfl,rfl,trivial,⟨rfl,rfl,rfl,rfl,trivial⟩⟩
   intro u hu
   rw [lbG,hv] at hu
   rcases lbz.1 hu with hu|hu
   ·exact hI u hu
   ·simp at hu;subst hu;omega
 ·have h1:=hI x (by rw [lbn (by simp;omega)];simp)
  have h2:=hI y (by rw [lbn (by simp;omega)];simp)
  refine t6 ?_
  rw [if_pos h1,h2]
def sgn (s:Int) (l:List Int):Bg:=if (O7 l).length=0 then ⟨0,[]⟩ else ⟨s,O7 l⟩
theorem aR3 (s:Int) (l:List Int) (hl:l.length<=1000000):b9 Tryz.prog 191 [b7 .i64 s,i7 l] [] (bgS (sgn s l)) []:=by
 (refine ac Tryz.func191 ?_;(conv=>whnf);repeat (refine zy ?_;conv=>whnf))
 repeat' (first|refine zx ?_|refine qp (a3Q l hl) ?_|refine zd ?_ ?_<;>intro h<;>try omega|fail)<;>conv=>whnf
 ·have h0:(O7 l).length=0:=by simp at *;assumption
  unfold sgn
  rw [if_pos h0]
  exact s7 ⟨rfl,rfl,trivial⟩
 ·have h0:¬(O7 l).length=0:=by simp at *;assumption
  unfold sgn
  rw [if_neg h0]
  exact s7 ⟨rfl,rfl,trivial⟩
theorem K3 (r:Bool) (b:Bg):b9 Tryz.prog 252 [j0 r,bgS b] [] (.tup [bgS (if r then b else ⟨0,[]⟩),b7 .i64 (if r then 0 else 1)]) []:=by
 cases r<;>
 ·(refine ac Tryz.func252 ?_;(conv=>whnf);repeat (refine zy ?_;conv=>whnf))
  repeat' (first|refine zx ?_|refine zd ?_ ?_<;>intro h<;>try omega|fail)<;>conv=>whnf
  exact s7 ⟨⟨rfl,rfl,trivial⟩,rfl,trivial⟩
open St1 St2 St3 St4 St5 St6 St7 St8 StA StB
set_option maxRecDepth 100000
theorem a3w {x y:Int} (h:x<y):W7 x y=-1:=by unfold W7;rw [if_pos h]
theorem a9K {x y:Int} (h:y<x):W7 x y=1:=by unfold W7;rw [if_neg (by omega),if_pos h]
theorem b80 {x y:Int} (h:x=y):W7 x y=0:=by unfold W7;rw [if_neg (by omega),if_neg (by omega)]
theorem b4m {s:Int} {l:List Int} (h:Okd l) (hs:s=1∨s=-1∨val l=0):sgn s l=bz (s*val l):=by
 have hv:=w8 h
 unfold sgn bz
 rw [W9 h]
 by_cases h0:val l=0
 ·rw [h0,Int.mul_zero];rfl
 ·have h1:(dg (val l).toNat).length≠0:=by rw [Ne,List.length_eq_zero_iff,U9];omega
  rw [if_neg h1]
  rcases hs with rfl|rfl|h2
  ·rw [Int.sign_eq_one_of_pos (by omega)]
   congr 2;omega
  ·rw [Int.sign_eq_neg_one_of_neg (by omega)]
   congr 2;omega
  ·exact absurd h2 h0
theorem a30 (a b:List Int) (ha:Can a) (hb:Can b) (la:a.length<=1000000) (lb:b.length<=1000000):
 b9 Tryz.prog 189 [i7 a,i7 b] [] (b7 .i64 (W7 (val a) (val b))) []:=by
 have l1:(a.map g9).length=a.length:=by simp
 have l2:(b.map g9).length=b.length:=by simp
 have key:∀{x y:List Int},Can x->Can y->x.length<y.length->val x<val y:=fun {x y} hx hy h=>by
  rw [b0q hx,b0q hy] at h
  have:=ay2 h
  have:=w8 hx.1
  omega
 by_cases hl:a.length=b.length
 ·(refine ac Tryz.func189 ?_;(conv=>whnf);repeat (refine zy ?_;conv=>whnf))
  repeat' (first|refine zx ?_|refine zd ?_ ?_<;>intro h<;>try omega|fail)<;>conv=>whnf
  refine w5 g6 (σ:=Nat) (fun k=>([i7 a,i7 b,J,J,J,b7 .i64 ((k:Int) - 1)]++Jn 35,[])) (fun k=>k<=a.length∧a.drop k=b.drop k) (fun k=>k) a.length []
   ⟨lbQ _,by rw [lbo (lbQ _),lbo (by omega)]⟩ ⟨rfl,rfl,trivial,⟨k9 rfl,k9 rfl,e8 (by simp),trivial⟩⟩ ?_
  rintro k ⟨hk,hd⟩
  have hk:k<=a.length:=hk
  have hd:a.drop k=b.drop k:=hd
  conv=>whnf
  repeat' (first|refine zx ?_|refine qp (a44 _ _) ?_|refine M8 (by omega) (a31 (by omega) hk) ?_|refine M8 (by omega) (a31 (by omega) (hl ▸ hk)) ?_|refine zd ?_ ?_<;>intro h<;>try omega|fail)<;>conv=>whnf
  all_goals first
   |(have hp:0<k:=by omega
     have e:k - 1+1=k:=by omega
     have gx:=C6 (l:=a) (i:=k - 1) (by omega)
     have gy:=C6 (l:=b) (i:=k - 1) (by omega)
     refine t6 ?_
     rcases Int.lt_trichotomy (dat a (k - 1)) (dat b (k - 1)) with h|h|h
     ·rw [a3w h,a3w (a8M ha.1 hb.1 hl gx gy (by rw [e];exact hd) h)]
     ·exfalso;simp_all;done
     ·rw [a9K h,a9K (a8M hb.1 ha.1 hl.symm gy gx (by rw [e];exact hd.symm) h)])
   |(have hp:0<k:=by omega
     have hq:dat a (k - 1)=dat b (k - 1):=by omega
     refine ⟨[],k - 1,⟨rfl,rfl,trivial,⟨rfl,rfl,e8 (by omega),trivial⟩⟩,⟨by omega,?_⟩,by show k - 1<k;omega⟩
     rw [List.drop_eq_getElem_cons (by omega:k - 1<a.length),List.drop_eq_getElem_cons (by omega:k - 1<b.length),show k - 1+1=k by omega,hd]
     congr 1
     have gx:=C6 (l:=a) (i:=k - 1) (by omega)
     have gy:=C6 (l:=b) (i:=k - 1) (by omega)
     rw [lbf (by omega)] at gx gy
     injection gx with gx
     injection gy with gy
     rw [gx,gy,hq])
   |(have:k=0:=by omega
     subst this
     simp only [List.drop_zero] at hd
     refine t6 ?_
     rw [hd,b80 rfl])
 ·(refine ac Tryz.func189 ?_;(conv=>whnf);repeat (refine zy ?_;conv=>whnf))
  repeat' (first|refine zx ?_|refine qp (a44 _ _) ?_|refine zd ?_ ?_<;>intro h<;>try omega|fail)<;>conv=>whnf
  all_goals first
   |omega
   |(refine t6 ?_
     rcases Nat.lt_or_gt_of_ne hl with h|h
     ·rw [a3w (by omega),a3w (key ha hb h)]
     ·rw [a9K (by omega),a9K (key hb ha h)])
def b37 (a b:Bg):Int:=if Q9 a && Q9 b then W7 (bv a) (bv b) else 0
theorem b0E (x:Int):Can (bz x).dl:=a21 _
theorem aF3 (x:Int):val (bz x).dl=x.natAbs:=B8 _
theorem P8 (x:Int):x.sign=0∧x=0∨x.sign=1∧0<x∨x.sign=-1∧x<0:=by
 rcases Int.lt_trichotomy x 0 with h|h|h
 ·exact .inr (.inr ⟨Int.sign_eq_neg_one_of_neg h,h⟩)
 ·subst h;exact .inl ⟨rfl,rfl⟩
 ·exact .inr (.inl ⟨Int.sign_eq_one_of_pos h,h⟩)
theorem b3R {x y:Int} (h:x.sign≠y.sign):W7 x.sign y.sign=W7 x y:=by
 rcases P8 x with ⟨e,h1⟩|⟨e,h1⟩|⟨e,h1⟩<;>rcases P8 y with ⟨f,h2⟩|⟨f,h2⟩|⟨f,h2⟩<;>rw [e,f] at h ⊢<;>unfold W7<;>(repeat' split)<;>omega
theorem b5F {x y:Int} (h:x.sign=y.sign):x.sign*W7 x.natAbs y.natAbs=W7 x y:=by
 rcases P8 x with ⟨e,h1⟩|⟨e,h1⟩|⟨e,h1⟩<;>rcases P8 y with ⟨f,h2⟩|⟨f,h2⟩|⟨f,h2⟩<;>rw [e,f] at h<;>try omega
 all_goals (rw [e];unfold W7;(repeat' split)<;>omega)
theorem b5G (x y:Int):-1<=W7 x y∧W7 x y<=1:=by unfold W7;split<;>(try split)<;>omega
theorem aP6 {b:Bg} (h:Q9 b=true):∃z,b=bz z:=⟨_,b6D h⟩
theorem b0w (a b:Bg) (la:a.dl.length<=1000000) (lb:b.dl.length<=1000000):
 b9 Tryz.prog 120 [bgS a,bgS b] [] (b7 .i64 (b37 a b)) []:=by
 have r1:=a3k a la
 have r2:=a3k b lb
 cases ha:Q9 a with
 |false=>
  rw [ha] at r1
  (refine ac Tryz.func120 ?_;(conv=>whnf);repeat (refine zy ?_;conv=>whnf))
  repeat' (first|refine zx ?_|refine qp r1 ?_|refine qp r2 ?_|refine zd ?_ ?_<;>intro h<;>try omega|fail)<;>conv=>whnf
  all_goals (first|(exfalso;simp_all;done)|(refine t6 ?_;unfold b37;rw [ha];rfl))
 |true=>
  rw [ha] at r1
  cases hb:Q9 b with
  |false=>
   rw [hb] at r2
   (refine ac Tryz.func120 ?_;(conv=>whnf);repeat (refine zy ?_;conv=>whnf))
   repeat' (first|refine zx ?_|refine qp r1 ?_|refine qp r2 ?_|refine zd ?_ ?_<;>intro h<;>try omega|fail)<;>conv=>whnf
   all_goals (first|(exfalso;simp_all;done)|(refine t6 ?_;unfold b37;rw [ha,hb];rfl))
  |true=>
   rw [hb] at r2
   obtain ⟨x,rfl⟩:=aP6 ha
   obtain ⟨y,rfl⟩:=aP6 hb
   have c:=a30 (bz x).dl (bz y).dl (b0E x) (b0E y) la lb
   rw [aF3,aF3] at c
   have e:b37 (bz x) (bz y)=W7 x y:=by unfold b37;rw [ha,hb,a74,a74];rfl
   rw [e]
   have hr:=b5G x y
   by_cases hs:x.sign=y.sign
   ·have hs':(bz x).sg=(bz y).sg:=hs
    have e2:=b5F hs
    (refine ac Tryz.func120 ?_;(conv=>whnf);repeat (refine zy ?_;conv=>whnf))
    repeat' (first|refine zx ?_|refine qp r1 ?_|refine qp r2 ?_|refine qp c ?_|refine ⟨_,L0 e2 (by omega) (by omega),?_⟩|refine zd ?_ ?_<;>intro h<;>try omega|fail)<;>conv=>whnf
    all_goals first
     |omega
     |(exfalso;simp_all;done)
     |exact t6 rfl
   ·have hs':(bz x).sg≠(bz y).sg:=hs
    (refine ac Tryz.func120 ?_;(conv=>whnf);repeat (refine zy ?_;conv=>whnf))
    repeat' (first|refine zx ?_|refine qp r1 ?_|refine qp r2 ?_|refine qp (a44 _ _) ?_|refine zd ?_ ?_<;>intro h<;>try omega|fail)<;>conv=>whnf
    all_goals first
     |omega
     |(exfalso;simp_all;done)
     |exact t6 (b3R hs)
def b2A (a:Bg):Bg:=if Q9 a then bz (-bv a) else ⟨0,[]⟩
theorem ba8 (a:Bg) (la:a.dl.length<=1000000):b9 Tryz.prog 185 [bgS a] [] (bgS (b2A a)) []:=by
 have r1:=a3k a la
 cases ha:Q9 a with
 |false=>
  rw [ha] at r1
  have e:b2A a=⟨0,[]⟩:=by unfold b2A;rw [ha];rfl
  rw [e]
  (refine ac Tryz.func185 ?_;(conv=>whnf);repeat (refine zy ?_;conv=>whnf))
  repeat' (first|refine zx ?_|refine qp r1 ?_|refine zd ?_ ?_<;>intro h<;>try omega|fail)<;>conv=>whnf
  all_goals (first|(exfalso;simp_all;done)|exact s7 ⟨rfl,rfl,trivial⟩)
 |true=>
  rw [ha] at r1
  obtain ⟨x,rfl⟩:=aP6 ha
  have e:b2A (bz x)=sgn (0 - (bz x).sg) (bz x).dl:=by
   rw [Int.zero_sub]
   unfold b2A
   rw [ha,b4m (b0E x).1 (by rcases P8 x with ⟨h,h1⟩|⟨h,h1⟩|⟨h,h1⟩<;>rw [aI7,h]<;>simp [h1,aF3]),a74,aF3,aI7]
   show bz (-x)=_
   congr 1
   rw [Int.neg_mul,Int.sign_mul_natAbs]
  rw [e]
  have hs:-1<=(bz x).sg∧(bz x).sg<=1:=by rcases P8 x with ⟨h,h1⟩|⟨h,h1⟩|⟨h,h1⟩<;>rw [aI7,h]<;>decide
  (refine ac Tryz.func185 ?_;(conv=>whnf);repeat (refine zy ?_;conv=>whnf))
  repeat' (first|refine zx ?_|refine qp r1 ?_|refine qp (a9z _ la) ?_|refine qp (aR3 _ _ la) ?_|refine zd ?_ ?_<;>intro h<;>try omega|fail)<;>conv=>whnf
  all_goals (first|(exfalso;simp_all;done)|exact s7 ⟨rfl,rfl,trivial⟩)
open St1 St2 St3 St4 St5 St6 St7 St8 StA StB
set_option maxRecDepth 100000
theorem a6P {a:Int} (j:Nat) (hj:j<=62):IntKind.wrap .i64 (BitVec.ofInt (IntKind.bits .i64) a &&& BitVec.ofInt (IntKind.bits .i64) ((2 ^ j - 1:Nat):Int)).toNat=a % ((2 ^ j:Nat):Int):=by
 rw [aM1 rfl a j hj]
 have hp:(2:Nat) ^ j<=2 ^ 62:=Nat.pow_le_pow_right (by decide) hj
 have h0:0<(2:Nat) ^ j:=Nat.pow_pos (by decide)
 have h1:0<=a % ((2 ^ j:Nat):Int):=Int.emod_nonneg _ (by omega)
 have h2:a % ((2 ^ j:Nat):Int)<((2 ^ j:Nat):Int):=Int.emod_lt_of_pos _ (by omega)
 rw [lbY h1]
 exact (show J0 .i64 _ _ from a41 (by omega) (by omega)).symm
structure az1 (m n:Int):Prop where
 ok:∀a:Int,a48 .and .i64 a m (a % n)
theorem a6z:az1 1048575 1048576:=⟨fun a=>(a6P (a:=a) 20 (by decide)).symm⟩
theorem ad0:az1 1 2:=⟨fun a=>(a6P (a:=a) 1 (by decide)).symm⟩
theorem af0 (a:Int):aI3 .i64 a 20 (a / 1048576):=by
 show a / 1048576=a.fdiv 1048576
 exact (Int.fdiv_eq_ediv_of_nonneg _ (by decide)).symm
theorem R5 {l:List Int} {i:Nat} {n:Int} {v:Int} (h:0+n.toNat=i):(toC (l.map g9)).set (0+n.toNat) [C.t (ti v)]=toC ((l.set i v).map g9):=by
 rw [h];simp [toC,g9,List.map_set]
theorem T7 {l:List Int} {n:Int} {i:Nat} (h:n.toNat=i) (hi:i<l.length):l[0+n.toNat]? =some (dat l i):=by rw [Nat.zero_add,h];exact C6 hi
theorem ba1 (a b:List Int) (ha:Okd a) (hb:Okd b) (la:a.length<=400000) (lb:b.length<=400000) (hab:b.length<=a.length):
 b9 Tryz.prog 260 [i7 a,i7 b] [] (i7 (dg (val a+val b).toNat)) []:=by
 have l1:(a.map g9).length=a.length:=by simp
 have l2:(b.map g9).length=b.length:=by simp
 (refine ac Tryz.func260 ?_;(conv=>whnf);repeat (refine zy ?_;conv=>whnf))
 repeat' (first|refine zx ?_|refine a4e (by omega) (by omega) (by omega) (by decide) ?_|refine zd ?_ ?_<;>intro h<;>try omega|fail)<;>conv=>whnf
 refine w5 g6 (σ:=Nat × List Int × Int) (fun|(k,out,c)=>([i7 a,i7 b,J,J,J,Z7 0 out,b7 .i64 c]++Jn 13++[i7 a,b7 .i64 a.length,b7 .i64 k]++Jn 32,[t8 out])) (fun x=>a8a a b x.1 x.2.1 x.2.2) (fun x=>a.length - x.1) (0,List.replicate (a.length+1) 0,0) [some 0]
  (a8a.init _ _) ⟨rfl,rfl,⟨b8 rfl rfl rfl ?_ rfl,trivial⟩,⟨k9 rfl,k9 rfl,m8 rfl (by simp),rfl,k9 rfl,e8 (by simp),rfl,trivial⟩⟩ ?_
 ·show List.replicate _ _=_
  simp [toC,g9,I0]
 rintro ⟨k,out,c⟩ hI
 have hI:a8a a b k out c:=hI
 have hlen:=hI.len
 have hle:=hI.le
 have hc0:=hI.c0
 have hc1:=hI.c1
 conv=>whnf
 have hda:=ha.dat k
 have hdb:=hb.dat k
 repeat' (first|refine zx ?_|refine i3 (C6 (by omega)) ?_|refine a08 (by omega) (by show _<((out.length:Nat):Int);omega) ?_|refine q9 (T7 rfl (by omega)) ?_|refine ⟨_,az1.ok (by first|exact a6z|exact ad0) _,?_⟩|refine ⟨by decide,_,af0 _,?_⟩|refine zd ?_ ?_<;>intro h<;>try omega|fail)<;>conv=>whnf
 ·refine ⟨[some 0],(k+1,out.set k ((c+dat a k+dat b k) % 1048576),(c+dat a k+dat b k) / 1048576),⟨rfl,rfl,⟨b8 rfl rfl rfl (R5 (by omega)) rfl,trivial⟩,⟨rfl,rfl,m8 rfl (by simp),rfl,rfl,rfl,e8 (by omega),trivial⟩⟩,hI.step ha hb (by omega),?_⟩
  show a.length - (k+1)<a.length - k
  omega
 ·have e:dat b k=0:=a2d (by omega)
  have hst:=hI.step ha hb (by omega)
  rw [e,Int.add_zero] at hst
  refine ⟨[some 0],(k+1,out.set k ((c+dat a k) % 1048576),(c+dat a k) / 1048576),⟨rfl,rfl,⟨b8 rfl rfl rfl (R5 (by omega)) rfl,trivial⟩,⟨rfl,rfl,m8 rfl (by simp),rfl,rfl,rfl,e8 (by omega),trivial⟩⟩,hst,?_⟩
  show a.length - (k+1)<a.length - k
  omega
 ·have hk:k=a.length:=by omega
  subst hk
  have hf:=hI.fin (by omega)
  have t:=a3Q (out.set a.length c) (by simp;omega)
  rw [hf] at t
  refine .inr ⟨_,_,E7 [0] t ⟨a2N (B7 (by simp) rfl (by intro h;cases h) rfl (R5 (by omega)) (by simp)),trivial⟩ rfl,?_⟩
  conv=>whnf
  exact b1R (by rw [Int.add_comm])
theorem be2 (a b:List Int) (ha:Okd a) (hb:Okd b) (la:a.length<=400000) (lb:b.length<=400000) (hab:a.length<b.length):
 b9 Tryz.prog 260 [i7 a,i7 b] [] (i7 (dg (val a+val b).toNat)) []:=by
 have l1:(a.map g9).length=a.length:=by simp
 have l2:(b.map g9).length=b.length:=by simp
 (refine ac Tryz.func260 ?_;(conv=>whnf);repeat (refine zy ?_;conv=>whnf))
 repeat' (first|refine zx ?_|refine a4e (by omega) (by omega) (by omega) (by decide) ?_|refine zd ?_ ?_<;>intro h<;>try omega|fail)<;>conv=>whnf
 refine w5 g6 (σ:=Nat × List Int × Int) (fun|(k,out,c)=>([i7 b,i7 a,J,J,J,Z7 0 out,b7 .i64 c]++Jn 13++[i7 b,b7 .i64 b.length,b7 .i64 k]++Jn 32,[t8 out])) (fun x=>a8a b a x.1 x.2.1 x.2.2) (fun x=>b.length - x.1) (0,List.replicate (b.length+1) 0,0) [some 0]
  (a8a.init _ _) ⟨rfl,rfl,⟨b8 rfl rfl rfl ?_ rfl,trivial⟩,⟨k9 rfl,k9 rfl,m8 rfl (by simp),rfl,k9 rfl,e8 (by simp),rfl,trivial⟩⟩ ?_
 ·show List.replicate _ _=_
  simp [toC,g9,I0]
 rintro ⟨k,out,c⟩ hI
 have hI:a8a b a k out c:=hI
 have hlen:=hI.len
 have hle:=hI.le
 have hc0:=hI.c0
 have hc1:=hI.c1
 conv=>whnf
 have hda:=hb.dat k
 have hdb:=ha.dat k
 repeat' (first|refine zx ?_|refine i3 (C6 (by omega)) ?_|refine a08 (by omega) (by show _<((out.length:Nat):Int);omega) ?_|refine q9 (T7 rfl (by omega)) ?_|refine ⟨_,az1.ok (by first|exact a6z|exact ad0) _,?_⟩|refine ⟨by decide,_,af0 _,?_⟩|refine zd ?_ ?_<;>intro h<;>try omega|fail)<;>conv=>whnf
 ·refine ⟨[some 0],(k+1,out.set k ((c+dat b k+dat a k) % 1048576),(c+dat b k+dat a k) / 1048576),⟨rfl,rfl,⟨b8 rfl rfl rfl (R5 (by omega)) rfl,trivial⟩,⟨rfl,rfl,m8 rfl (by simp),rfl,rfl,rfl,e8 (by omega),trivial⟩⟩,hI.step hb ha (by omega),?_⟩
  show b.length - (k+1)<b.length - k
  omega
 ·have e:dat a k=0:=a2d (by omega)
  have hst:=hI.step hb ha (by omega)
  rw [e,Int.add_zero] at hst
  refine ⟨[some 0],(k+1,out.set k ((c+dat b k) % 1048576),(c+dat b k) / 1048576),⟨rfl,rfl,⟨b8 rfl rfl rfl (R5 (by omega)) rfl,trivial⟩,⟨rfl,rfl,m8 rfl (by simp),rfl,rfl,rfl,e8 (by omega),trivial⟩⟩,hst,?_⟩
  show b.length - (k+1)<b.length - k
  omega
 ·have hk:k=b.length:=by omega
  subst hk
  have hf:=hI.fin (by omega)
  have t:=a3Q (out.set b.length c) (by simp;omega)
  rw [hf] at t
  refine .inr ⟨_,_,E7 [0] t ⟨a2N (B7 (by simp) rfl (by intro h;cases h) rfl (R5 (by omega)) (by simp)),trivial⟩ rfl,?_⟩
  conv=>whnf
  exact b1R (by rw [Int.add_comm])
theorem bh3 (a b:List Int) (ha:Okd a) (hb:Okd b) (la:a.length<=400000) (lb:b.length<=400000):
 b9 Tryz.prog 260 [i7 a,i7 b] [] (i7 (dg (val a+val b).toNat)) []:=by
 rcases Nat.lt_or_ge a.length b.length with h|h
 ·exact be2 a b ha hb la lb h
 ·exact ba1 a b ha hb la lb h
open St1 St2 St3 St4 St5 St6 St7 St8 StA StB
set_option maxRecDepth 100000
theorem bf5 (a b:List Int) (ha:Okd a) (hb:Okd b) (la:a.length<=400000) (lb:b.length<=a.length) (hv:val b<=val a):
 b9 Tryz.prog 261 [i7 a,i7 b] [] (i7 (dg (val a - val b).toNat)) []:=by
 have l1:(a.map g9).length=a.length:=by simp
 have l2:(b.map g9).length=b.length:=by simp
 (refine ac Tryz.func261 ?_;(conv=>whnf);repeat (refine zy ?_;conv=>whnf))
 repeat' (first|refine zx ?_|refine zd ?_ ?_<;>intro h<;>try omega|fail)<;>conv=>whnf
 refine .inr ⟨_,_,aq8 (b48 a (by omega)) rfl rfl rfl rfl,?_⟩
 conv=>whnf
 repeat' (first|refine zx ?_|refine zd ?_ ?_<;>intro h<;>try omega|fail)<;>conv=>whnf
 refine w5 g6 (σ:=Nat × List Int × Int) (fun|(k,out,c)=>([J,i7 b,J,J,J,Z7 0 out,b7 .i64 c,J,J,J,J,J,b7 .i64 a.length,b7 .i64 k]++Jn 29,[t8 out])) (fun x=>am5 a b x.1 x.2.1 x.2.2) (fun x=>a.length - x.1) (0,a,0) [some 0]
  (am5.init ha) ⟨rfl,rfl,⟨b8 rfl rfl rfl rfl rfl,trivial⟩,⟨k9 rfl,m8 rfl rfl,rfl,e8 (by simp),rfl,trivial⟩⟩ ?_
 rintro ⟨k,out,c⟩ hI
 have hI:am5 a b k out c:=hI
 have hlen:=hI.len
 have hle:=hI.le
 have hc0:=hI.c0
 have hc1:=hI.c1
 conv=>whnf
 have hda:=hI.ok.dat k
 have hdb:=hb.dat k
 repeat' (first|refine zx ?_|refine i3 (C6 (by omega)) ?_|refine a08 (by omega) (by show _<((out.length:Nat):Int);omega) ?_|refine q9 (T7 (i:=k) rfl (by omega)) ?_|refine ⟨_,az1.ok (by first|exact a6z|exact ad0) _,?_⟩|refine ⟨by decide,_,af0 _,?_⟩|refine zd ?_ ?_<;>intro h<;>try omega|fail)<;>conv=>whnf
 ·refine ⟨[some 0],(k+1,out.set k ((dat out k - c - dat b k) % 1048576),(dat out k - c - dat b k) / 1048576 % 2),⟨rfl,rfl,⟨b8 rfl rfl rfl (R5 (by omega)) rfl,trivial⟩,⟨rfl,m8 rfl (by simp),rfl,rfl,e8 (by omega),trivial⟩⟩,hI.step ha hb (by omega),?_⟩
  show a.length - (k+1)<a.length - k
  omega
 ·have e:dat b k=0:=a2d (by omega)
  have hst:=hI.step ha hb (by omega)
  rw [e,Int.sub_zero] at hst
  refine ⟨[some 0],(k+1,out.set k ((dat out k - c) % 1048576),(dat out k - c) / 1048576 % 2),⟨rfl,rfl,⟨b8 rfl rfl rfl (R5 (by omega)) rfl,trivial⟩,⟨rfl,m8 rfl (by simp),rfl,rfl,e8 (by omega),trivial⟩⟩,hst,?_⟩
  show a.length - (k+1)<a.length - k
  omega
 ·have hk:k=a.length:=by omega
  subst hk
  have hf:=hI.fin (by omega) hv
  have t:=a3Q out (by omega)
  rw [hf] at t
  refine .inr ⟨_,_,E7 [0] t ⟨a2N (B7 (by simp) rfl (by intro h;cases h) rfl rfl (by simp)),trivial⟩ rfl,?_⟩
  conv=>whnf
  exact b1R rfl
set_option maxHeartbeats 1000000 in
theorem b9b (a b:List Int) (ha:Okd a) (hb:Okd b) (la:a.length<=400000) (lb:b.length<=400000):
 b9 Tryz.prog 264 [i7 a,i7 b] [] (i7 (dg (val a*val b).toNat)) []:=by
 have l1:(a.map g9).length=a.length:=by simp
 have l2:(b.map g9).length=b.length:=by simp
 (refine ac Tryz.func264 ?_;(conv=>whnf);repeat (refine zy ?_;conv=>whnf))
 repeat' (first|refine zx ?_|refine a4e (by omega) (by omega) (by omega) (by decide) ?_|refine zd ?_ ?_<;>intro h<;>try omega|fail)<;>conv=>whnf
 refine w5 g6 (σ:=Nat × List Int) (fun|(i,out)=>([J,i7 b,J,J,J,Z7 0 out]++Jn 12++[i7 a,b7 .i64 a.length,b7 .i64 i]++Jn 46,[t8 out])) (fun x=>a7Q a b x.1 x.2) (fun x=>a.length - x.1) (0,List.replicate (a.length+b.length) 0) [some 0]
  (a7Q.init a b) ⟨rfl,rfl,⟨b8 rfl rfl rfl ?_ rfl,trivial⟩,⟨k9 rfl,m8 rfl (by simp;omega),k9 rfl,e8 (by simp),rfl,trivial⟩⟩ ?_
 ·show List.replicate _ _=_
  rw [show ((((a.map g9).length:Nat):Int)+((b.map g9).length:Nat)).toNat=a.length+b.length by omega]
  simp [toC,g9,I0]
 rintro ⟨i,out⟩ hI
 have hI:a7Q a b i out:=hI
 have hlen:=hI.len
 have hle:=hI.le
 conv=>whnf
 repeat' (first|refine zx ?_|refine i3 (C6 (by omega)) ?_|refine zd ?_ ?_<;>intro h<;>try omega|fail)<;>conv=>whnf
 ·have hi:i<a.length:=by omega
  refine w5 g6 (σ:=Nat × List Int × Int) (fun|(k,out,c)=>([J,i7 b,J,J,J,Z7 0 out,b7 .i64 i,b7 .i64 (dat a i),b7 .i64 c,J,J,J,J,J,J,J,J,J,i7 a,b7 .i64 a.length,b7 .i64 i,J,J,J,J,i7 b,b7 .i64 b.length,b7 .i64 k]++Jn 39,[t8 out])) (fun x=>am6 a b i x.1 x.2.1 x.2.2) (fun x=>b.length - x.1) (0,out,0) [some 0]
   hI.start ⟨rfl,rfl,⟨b8 rfl rfl rfl rfl rfl,trivial⟩,⟨k9 rfl,m8 rfl rfl,rfl,rfl,rfl,k9 rfl,rfl,rfl,k9 rfl,e8 (by simp),rfl,trivial⟩⟩ ?_
  rintro ⟨k,out,c⟩ hK
  have hK:am6 a b i k out c:=hK
  have hlen:=hK.len
  have hle:=hK.le
  have hc0:=hK.c0
  have hc1:=hK.c1
  conv=>whnf
  have hdo:=hK.ok.dat (i+k)
  have hm:=a5p (ha.dat i) (hb.dat k)
  have e1:((i:Int)+k).toNat=i+k:=by omega
  have e2:((i:Int)+b.length).toNat=i+b.length:=by omega
  have e3:((i:Int)+((b.map g9).length:Nat)).toNat=i+b.length:=by omega
  have hz:=hK.zero (i+b.length) (lbQ _)
  repeat' (first|refine zx ?_|refine i3 (C6 (by omega)) ?_|refine a08 (by omega) (by show _<((out.length:Nat):Int);omega) ?_|refine q9 (T7 e1 (by omega)) ?_|refine q9 (T7 e3 (by omega)) ?_|refine ⟨_,az1.ok (by first|exact a6z|exact ad0) _,?_⟩|refine ⟨by decide,_,af0 _,?_⟩|refine zd ?_ ?_<;>intro h<;>try omega|fail)<;>conv=>whnf
  ·refine ⟨[some 0],(k+1,out.set (i+k) ((dat out (i+k)+dat a i*dat b k+c) % 1048576),(dat out (i+k)+dat a i*dat b k+c) / 1048576),⟨rfl,rfl,⟨b8 rfl rfl rfl (R5 (by omega)) rfl,trivial⟩,⟨rfl,m8 rfl (by simp),rfl,rfl,rfl,rfl,rfl,rfl,rfl,rfl,e8 (by omega),trivial⟩⟩,hK.step ha hb hi (by omega),?_⟩
   show b.length - (k+1)<b.length - k
   omega
  ·have hk:k=b.length:=by omega
   subst hk
   refine ⟨[some 0],(i+1,out.set (i+b.length) (dat out (i+b.length)+c)),⟨rfl,rfl,⟨b8 rfl rfl rfl (R5 (by omega)) rfl,trivial⟩,⟨rfl,m8 rfl (by simp),rfl,rfl,e8 (by omega),trivial⟩⟩,hK.done ha hb hi,?_⟩
   show a.length - (i+1)<a.length - i
   omega
 ·have hi:i=a.length:=by omega
  subst hi
  have hf:=hI.fin
  have t:=a3Q out (by omega)
  rw [hf] at t
  refine .inr ⟨_,_,E7 [0] t ⟨a2N (B7 (by simp) rfl (by intro h;cases h) rfl rfl (by simp)),trivial⟩ rfl,?_⟩
  conv=>whnf
  exact b1R rfl
set_option maxHeartbeats 1000000 in
theorem bd7 (a b:List Int) (ha:Okd a) (hb:Okd b) (la:a.length<=400000) (lb:b.length<=400000):
 b9 Tryz.prog 264 [i7 a,i7 b] [] (.c (.own 0 0 (dg (val a*val b).toNat).length true)) [t8 (a0r (a.length+b.length) (dg (val a*val b).toNat))]:=by
 have l1:(a.map g9).length=a.length:=by simp
 have l2:(b.map g9).length=b.length:=by simp
 (refine ac Tryz.func264 ?_;(conv=>whnf);repeat (refine zy ?_;conv=>whnf))
 repeat' (first|refine zx ?_|refine a4e (by omega) (by omega) (by omega) (by decide) ?_|refine zd ?_ ?_<;>intro h<;>try omega|fail)<;>conv=>whnf
 refine w5 g6 (σ:=Nat × List Int) (fun|(i,out)=>([J,i7 b,J,J,J,Z7 0 out]++Jn 12++[i7 a,b7 .i64 a.length,b7 .i64 i]++Jn 46,[t8 out])) (fun x=>a7Q a b x.1 x.2) (fun x=>a.length - x.1) (0,List.replicate (a.length+b.length) 0) [some 0]
  (a7Q.init a b) ⟨rfl,rfl,⟨b8 rfl rfl rfl ?_ rfl,trivial⟩,⟨k9 rfl,m8 rfl (by simp;omega),k9 rfl,e8 (by simp),rfl,trivial⟩⟩ ?_
 ·show List.replicate _ _=_
  rw [show ((((a.map g9).length:Nat):Int)+((b.map g9).length:Nat)).toNat=a.length+b.length by omega]
  simp [toC,g9,I0]
 rintro ⟨i,out⟩ hI
 have hI:a7Q a b i out:=hI
 have hlen:=hI.len
 have hle:=hI.le
 conv=>whnf
 repeat' (first|refine zx ?_|refine i3 (C6 (by omega)) ?_|refine zd ?_ ?_<;>intro h<;>try omega|fail)<;>conv=>whnf
 ·have hi:i<a.length:=by omega
  refine w5 g6 (σ:=Nat × List Int × Int) (fun|(k,out,c)=>([J,i7 b,J,J,J,Z7 0 out,b7 .i64 i,b7 .i64 (dat a i),b7 .i64 c,J,J,J,J,J,J,J,J,J,i7 a,b7 .i64 a.length,b7 .i64 i,J,J,J,J,i7 b,b7 .i64 b.length,b7 .i64 k]++Jn 39,[t8 out])) (fun x=>am6 a b i x.1 x.2.1 x.2.2) (fun x=>b.length - x.1) (0,out,0) [some 0]
   hI.start ⟨rfl,rfl,⟨b8 rfl rfl rfl rfl rfl,trivial⟩,⟨k9 rfl,m8 rfl rfl,rfl,rfl,rfl,k9 rfl,rfl,rfl,k9 rfl,e8 (by simp),rfl,trivial⟩⟩ ?_
  rintro ⟨k,out,c⟩ hK
  have hK:am6 a b i k out c:=hK
  have hlen:=hK.len
  have hle:=hK.le
  have hc0:=hK.c0
  have hc1:=hK.c1
  conv=>whnf
  have hdo:=hK.ok.dat (i+k)
  have hm:=a5p (ha.dat i) (hb.dat k)
  have e1:((i:Int)+k).toNat=i+k:=by omega
  have e2:((i:Int)+b.length).toNat=i+b.length:=by omega
  have e3:((i:Int)+((b.map g9).length:Nat)).toNat=i+b.length:=by omega
  have hz:=hK.zero (i+b.length) (lbQ _)
  repeat' (first|refine zx ?_|refine i3 (C6 (by omega)) ?_|refine a08 (by omega) (by show _<((out.length:Nat):Int);omega) ?_|refine q9 (T7 e1 (by omega)) ?_|refine q9 (T7 e3 (by omega)) ?_|refine ⟨_,az1.ok (by first|exact a6z|exact ad0) _,?_⟩|refine ⟨by decide,_,af0 _,?_⟩|refine zd ?_ ?_<;>intro h<;>try omega|fail)<;>conv=>whnf
  ·refine ⟨[some 0],(k+1,out.set (i+k) ((dat out (i+k)+dat a i*dat b k+c) % 1048576),(dat out (i+k)+dat a i*dat b k+c) / 1048576),⟨rfl,rfl,⟨b8 rfl rfl rfl (R5 (by omega)) rfl,trivial⟩,⟨rfl,m8 rfl (by simp),rfl,rfl,rfl,rfl,rfl,rfl,rfl,rfl,e8 (by omega),trivial⟩⟩,hK.step ha hb hi (by omega),?_⟩
   show b.length - (k+1)<b.length - k
   omega
  ·have hk:k=b.length:=by omega
   subst hk
   refine ⟨[some 0],(i+1,out.set (i+b.length) (dat out (i+b.length)+c)),⟨rfl,rfl,⟨b8 rfl rfl rfl (R5 (by omega)) rfl,trivial⟩,⟨rfl,m8 rfl (by simp),rfl,rfl,e8 (by omega),trivial⟩⟩,hK.done ha hb hi,?_⟩
   show a.length - (i+1)<a.length - i
   omega
 ·have hi:i=a.length:=by omega
  subst hi
  have hf:=hI.fin
  have t:=b8s out (by omega)
  have hp:=av5 out
  rw [hf] at t hp
  refine .inr ⟨_,_,t,?_⟩
  conv=>whnf
  have hq:a0r (a.length+b.length) (dg (val a*val b).toNat)=out:=by unfold a0r;rw [← hlen];exact hp
  rw [hq]
  exact ⟨⟨[some 0],rfl,rfl,⟨b8 rfl rfl rfl rfl rfl,trivial⟩,⟨rfl,rfl,rfl,fun h=>h⟩⟩⟩
open St1 St2 St3 St4 St5 St6 St7 St8 StA StB
set_option maxRecDepth 100000
theorem b6C {r:Int} (h0:0<=r) (h1:r<4398046511104):J0 .i64 (r*2 ^ min (20:Int).toNat (IntKind.bits .i64)) (r*1048576):=by
 show J0 .i64 (r*1048576) (r*1048576)
 exact a41 (by omega) (by omega)
theorem bc0 {k:IntKind} (hk:k.bits=64) (R X:Nat) (h1:R<4398046511104) (hx:X<1048576):(BitVec.ofInt k.bits ((R:Int)*1048576) ||| BitVec.ofInt k.bits (X:Int)).toNat=R*1048576+X:=by
 rw [hk,BitVec.toNat_or,BitVec.toNat_ofInt,BitVec.toNat_ofInt]
 have e1:(((R:Int)*1048576) % ((2 ^ 64:Nat):Int)).toNat=R <<< 20:=by
  rw [Nat.shiftLeft_eq];omega
 have e2:((X:Int) % ((2 ^ 64:Nat):Int)).toNat=X:=by omega
 rw [e1,e2,←Nat.shiftLeft_add_eq_or_of_lt (by omega),Nat.shiftLeft_eq]
theorem be5 {r x:Int} (h0:0<=r) (h1:r<4398046511104) (hx0:0<=x) (hx1:x<1048576):a48 .or .i64 (r*1048576) x (r*1048576+x):=by
 obtain ⟨R,rfl⟩:=Int.eq_ofNat_of_zero_le h0
 obtain ⟨X,rfl⟩:=Int.eq_ofNat_of_zero_le hx0
 unfold a48
 simp only
 rw [bc0 rfl R X (by omega) (by omega)]
 have e:((R*1048576+X:Nat):Int)=(R:Int)*1048576+X:=by simp
 rw [e]
 exact (show J0 .i64 ((R:Int)*1048576+X) _ from a41 (by omega) (by omega))
theorem b96 {a b:Int} (h0:0<=a) (h1:a<=9223372036854775807) (hb:0<b):J0 .i64 (a.tdiv b) (a / b):=by
 rw [Int.tdiv_eq_ediv_of_nonneg h0]
 have h2:0<=a / b:=Int.ediv_nonneg h0 (by omega)
 have h3:a / b<=a:=Int.ediv_le_self _ h0
 exact a41 (by omega) (by omega)
theorem b3y {l:List Int} {n:Nat} (h:0<n) (hn:n<=l.length):l[0+((n:Int) - 1).toNat]? =some (dat l (n - 1)):=by rw [Nat.zero_add];exact a31 h hn
theorem b2j (a:List Int) (d:Int) (ha:Okd a) (la:a.length<=1000000) (hd:0<d) (hd2:d<1048576):
 b9 Tryz.prog 307 [i7 a,b7 .i64 d] [] (.tup [i7 (dg (val a / d).toNat),b7 .i64 (val a % d)]) []:=by
 have l1:(a.map g9).length=a.length:=by simp
 (refine ac Tryz.func307 ?_;(conv=>whnf);repeat (refine zy ?_;conv=>whnf))
 repeat' (first|refine zx ?_|refine a4e (by omega) (by omega) (by omega) (by decide) ?_|refine zd ?_ ?_<;>intro h<;>try omega|fail)<;>conv=>whnf
 refine w5 g6 (σ:=Nat × List Int × Int) (fun|(j,out,r)=>([i7 a,b7 .i64 d,J,J,J,J,Z7 0 out,b7 .i64 r,b7 .i64 ((j:Int) - 1)]++Jn 29,[t8 out])) (fun x=>a2Q a d x.1 x.2.1 x.2.2) (fun x=>x.1) (a.length,List.replicate a.length 0,0) [some 0]
  (a2Q.init a hd) ⟨rfl,rfl,⟨b8 rfl rfl rfl ?_ rfl,trivial⟩,⟨k9 rfl,rfl,m8 rfl (by simp),rfl,e8 (by simp),trivial⟩⟩ ?_
 ·show List.replicate _ _=_
  simp [toC,g9,I0]
 rintro ⟨j,out,r⟩ hI
 have hI:a2Q a d j out r:=hI
 have hlen:=hI.len
 have hle:=hI.le
 have hr0:=hI.r0
 have hr1:=hI.r1
 have hda:=ha.dat (j - 1)
 conv=>whnf
 repeat' (first|refine zx ?_|refine M8 (by omega) (a31 (by omega) hle) ?_|refine a08 (by omega) (by show _<((out.length:Nat):Int);omega) ?_|refine q9 (b3y (by omega) (by omega)) ?_|refine ⟨by decide,_,b6C (by omega) (by omega),?_⟩|refine ⟨_,be5 (by omega) (by omega) (by omega) (by omega),?_⟩|refine ⟨by omega,_,b96 (by omega) (by omega) (by omega),?_⟩|refine b90 (by omega) ?_|refine zd ?_ ?_<;>intro h<;>try omega|fail)<;>conv=>whnf
 ·obtain ⟨j,rfl⟩:∃i,j=i+1:=⟨j - 1,by omega⟩
  simp only [Nat.add_sub_cancel] at *
  have hst:=hI.step ha hd
  rw [← Int.tmod_eq_emod_of_nonneg (by omega)] at hst
  refine ⟨[some 0],(j,out.set j ((r*1048576+dat a j) / d),(r*1048576+dat a j).tmod d),⟨rfl,rfl,⟨b8 rfl rfl rfl (R5 (by omega)) rfl,trivial⟩,⟨rfl,rfl,m8 rfl (by simp),rfl,e8 (by omega),trivial⟩⟩,hst,?_⟩
  show j<j+1
  omega
 ·have hj:j=0:=by omega
  subst hj
  obtain ⟨hf,hr⟩:=hI.fin ha hd
  have t:=a3Q out (by omega)
  rw [hf] at t
  refine .inr ⟨_,_,E7 [0] t ⟨a2N (B7 (by simp) rfl (by intro h;cases h) rfl rfl (by simp)),trivial⟩ rfl,?_⟩
  conv=>whnf
  repeat' (first|refine zx ?_|refine zd ?_ ?_<;>intro h<;>try omega|fail)<;>conv=>whnf
  exact s7 ⟨rfl,e8 hr,trivial⟩
open St1 St2 St3 St4 St5 St6 St7 St8 StA StB
set_option maxRecDepth 100000
theorem b11 {pre out post:List Int} {k:Nat} (h:k<out.length):(pre++out++post)[pre.length+(k:Int).toNat]? =some (dat out k):=by
 rw [lbD,lbc (by omega),show pre.length+(k:Int).toNat - pre.length=k by omega,lbb h]
 exact C6 h
theorem a7L {pre out post:List Int} {k:Nat} {v:Int} (h:k<out.length):(toC ((pre++out++post).map g9)).set (pre.length+(k:Int).toNat) [C.t (ti v)]=toC ((pre++out.set k v++post).map g9):=by
 have e:(pre++out++post).set (pre.length+k) v=pre++out.set k v++post:=by
  rw [lbD,List.set_append_right _ _ (by omega),show pre.length+k - pre.length=k by omega,List.set_append_left _ _ h,lbD]
 rw [← e]
 show (toC ((pre++out++post).map g9)).set (pre.length+k) _=_
 simp [toC,g9,List.map_set]
def X7 (w v g:Int):Int:=if g*v<=w then g else g - 1
theorem b5P (pre w post v:List Int) (g:Int) (hw:Okd w) (hv:Okd v) (lw:w.length<=1000000) (lv:v.length<=w.length) (hg:0<=g∧g<1048576) (hgv:g*val v<=val w+val v):
 b9 Tryz.prog 308 [.c (.own 0 pre.length w.length false),i7 v,b7 .i64 g] [t8 (pre++w++post)] (b7 .i64 (X7 (val w) (val v) g))
  [t8 (pre++a0r w.length (dg (val w - X7 (val w) (val v) g*val v).toNat)++post)]:=by
 have l1:(v.map g9).length=v.length:=by simp
 (refine ac Tryz.func308 ?_;(conv=>whnf);repeat (refine zy ?_;conv=>whnf))
 repeat' (first|refine zx ?_|refine zd ?_ ?_<;>intro h<;>try omega|fail)<;>conv=>whnf
 refine w5 g6 (σ:=Nat × List Int × Int) (fun|(k,out,c)=>([S.c (C.own 0 pre.length w.length false),i7 v,b7 .i64 g,J,J,J,J,b7 .i64 c,J,J,J,J,J,b7 .i64 w.length,b7 .i64 k]++Jn 63,[t8 (pre++out++post)])) (fun x=>a9h w v g x.1 x.2.1 x.2.2) (fun x=>w.length - x.1) (0,w,0) [some 0]
  (a9h.init g hw) ⟨rfl,rfl,⟨b8 rfl rfl rfl rfl rfl,trivial⟩,⟨⟨rfl,rfl,rfl,fun h=>h⟩,k9 rfl,rfl,rfl,rfl,rfl,trivial⟩⟩ ?_
 rintro ⟨k,out,c⟩ hI
 have hI:a9h w v g k out c:=hI
 have hlen:=hI.len
 have hle:=hI.le
 have hc0:=hI.c0
 have hc1:=hI.c1
 have hdo:=hI.ok.dat k
 have hm:=a5p hg (hv.dat k)
 conv=>whnf
 repeat' (first|refine zx ?_|refine i3 (C6 (by omega)) ?_|refine q9 (b11 (by omega)) ?_|refine ⟨_,az1.ok (by first|exact a6z|exact ad0) _,?_⟩|refine ⟨by decide,_,af0 _,?_⟩|refine zd ?_ ?_<;>intro h<;>try omega|fail)<;>conv=>whnf
 ·have hst:=hI.step hv hg (by omega)
  refine ⟨[some 0],(k+1,out.set k ((dat out k - c - g*dat v k) % 1048576),-((dat out k - c - g*dat v k) / 1048576)),⟨rfl,rfl,⟨b8 rfl rfl rfl (a7L (by omega)) rfl,trivial⟩,⟨⟨rfl,rfl,rfl,fun h=>h⟩,rfl,rfl,e8 (Int.zero_sub _),rfl,e8 (by omega),trivial⟩⟩,hst,?_⟩
  show w.length - (k+1)<w.length - k
  omega
 ·have hst:=hI.step hv hg (by omega)
  rw [a2d (l:=v) (i:=k) (by omega),Int.mul_zero,Int.sub_zero] at hst
  refine ⟨[some 0],(k+1,out.set k ((dat out k - c) % 1048576),-((dat out k - c) / 1048576)),⟨rfl,rfl,⟨b8 rfl rfl rfl (a7L (by omega)) rfl,trivial⟩,⟨⟨rfl,rfl,rfl,fun h=>h⟩,rfl,rfl,e8 (Int.zero_sub _),rfl,e8 (by omega),trivial⟩⟩,hst,?_⟩
  show w.length - (k+1)<w.length - k
  omega
 ·have hk:k=w.length:=by omega
  subst hk
  have hc:c=0:=by assumption
  obtain ⟨h1,h2⟩:=hI.zero lv hw hv hg.1
  have hq:X7 (val w) (val v) g=g:=by unfold X7;rw [if_pos (h1.1 hc)]
  rw [hq,←h2 hc,←b1l hI.ok hlen]
  exact ⟨⟨[some 0],rfl,rfl,⟨b8 rfl rfl rfl rfl rfl,trivial⟩,rfl⟩⟩
 ·have hk:k=w.length:=by omega
  subst hk
  have hc:¬c=0:=by assumption
  obtain ⟨h1,h2⟩:=hI.zero lv hw hv hg.1
  have hlt:¬g*val v<=val w:=fun h=>hc (h1.2 h)
  have hq:X7 (val w) (val v) g=g - 1:=by unfold X7;rw [if_neg hlt]
  have hvl:=a0A hv
  have hpw:=a2y lv
  rw [hq]
  refine w5 g6 (σ:=Nat × List Int × Int) (fun|(k,o,c)=>([S.c (C.own 0 pre.length w.length false),i7 v,b7 .i64 g,J,J,J,J,J,J,J,b7 .i64 c]++Jn 37++[b7 .i64 w.length,b7 .i64 k]++Jn 28,[t8 (pre++o++post)])) (fun x=>a70 out v x.1 x.2.1 x.2.2) (fun x=>w.length - x.1) (0,out,0) [some 0]
   (a70.init hI.ok) ⟨rfl,rfl,⟨b8 rfl rfl rfl rfl rfl,trivial⟩,⟨⟨rfl,rfl,rfl,fun h=>h⟩,k9 rfl,rfl,rfl,rfl,rfl,trivial⟩⟩ ?_
  rintro ⟨k,o,c'⟩ hB
  have hB:a70 out v k o c':=hB
  have hlen2:=hB.len
  have hle2:=hB.le
  have hb0:=hB.c0
  have hb1:=hB.c1
  have hdo:=hB.ok.dat k
  have hdv:=hv.dat k
  conv=>whnf
  repeat' (first|refine zx ?_|refine i3 (C6 (by omega)) ?_|refine q9 (b11 (by omega)) ?_|refine ⟨_,az1.ok (by first|exact a6z|exact ad0) _,?_⟩|refine ⟨by decide,_,af0 _,?_⟩|refine zd ?_ ?_<;>intro h<;>try omega|fail)<;>conv=>whnf
  ·have hst:=hB.step hv (by omega)
   refine ⟨[some 0],(k+1,o.set k ((c'+dat o k+dat v k) % 1048576),(c'+dat o k+dat v k) / 1048576),⟨rfl,rfl,⟨b8 rfl rfl rfl (a7L (by omega)) rfl,trivial⟩,⟨⟨rfl,rfl,rfl,fun h=>h⟩,rfl,rfl,rfl,rfl,e8 (by omega),trivial⟩⟩,hst,?_⟩
   show w.length - (k+1)<w.length - k
   omega
  ·have hst:=hB.step hv (by omega)
   rw [a2d (l:=v) (i:=k) (by omega),Int.add_zero] at hst
   refine ⟨[some 0],(k+1,o.set k ((c'+dat o k) % 1048576),(c'+dat o k) / 1048576),⟨rfl,rfl,⟨b8 rfl rfl rfl (a7L (by omega)) rfl,trivial⟩,⟨⟨rfl,rfl,rfl,fun h=>h⟩,rfl,rfl,rfl,rfl,e8 (by omega),trivial⟩⟩,hst,?_⟩
   show w.length - (k+1)<w.length - k
   omega
  ·have hk:k=w.length:=by omega
   subst hk
   have e:=hI.back hB lv (by omega) (by omega)
   have e2:val w - (g - 1)*val v=val w - g*val v+val v:=by rw [Int.sub_mul];omega
   rw [e2,←e,←b1l hB.ok (by omega)]
   exact ⟨⟨[some 0],rfl,rfl,⟨b8 rfl rfl rfl rfl rfl,trivial⟩,rfl⟩⟩
open St1 St2 St3 St4 St5 St6 St7 St8 StA StB
set_option maxRecDepth 100000
abbrev b6a (m n:Nat):S:=.tup [i7 (dg (m / n)),i7 (dg (m % n))]
theorem b9i (m n:Nat) (hn:0<n) (h:m<n) (lm:(dg m).length<=400000) (ln:(dg n).length<=400000):
 b9 Tryz.prog 253 [i7 (dg m),i7 (dg n)] [] (b6a m n) []:=by
 have c:=a30 (dg m) (dg n) (a21 m) (a21 n) (by omega) (by omega)
 rw [B8,B8,a3w (by omega)] at c
 have e1:m / n=0:=Nat.div_eq_of_lt h
 have e2:m % n=m:=Nat.mod_eq_of_lt h
 unfold b6a
 rw [e1,e2,a2w]
 (refine ac Tryz.func253 ?_;(conv=>whnf);repeat (refine zy ?_;conv=>whnf))
 repeat' (first|refine zx ?_|refine qp c ?_|refine qp (a9z _ (by omega)) ?_|refine zd ?_ ?_<;>intro h<;>try omega|fail)<;>conv=>whnf
 exact s7 ⟨rfl,rfl,trivial⟩
theorem b9E (m n:Nat) (hn:0<n) (h:n<=m) (hl:(dg n).length=1) (lm:(dg m).length<=400000):
 b9 Tryz.prog 253 [i7 (dg m),i7 (dg n)] [] (b6a m n) []:=by
 have l2:((dg n).map g9).length=(dg n).length:=by simp
 have c:=a30 (dg m) (dg n) (a21 m) (a21 n) (by omega) (by omega)
 rw [B8,B8] at c
 have hc:0<=W7 m n:=by unfold W7;split<;>(try split)<;>omega
 have hn2:=P9 n
 rw [hl] at hn2
 have hn3:(n:Int)<1048576:=by simpa [pw] using hn2
 have hd:dg n=[(n:Int)]:=by
  rw [a6O hn,show n / 1048576=0 by omega,show n % 1048576=n by omega];rfl
 have sh:=b2j (dg m) n (E5 m) (by omega) (by omega) hn3
 rw [B8] at sh
 have e1:((m:Int) / n).toNat=m / n:=by rw [← Int.natCast_ediv];rfl
 have e2:(m:Int) % n=((m % n:Nat):Int):=by simp
 rw [e1,e2] at sh
 have hr:m % n<n:=Nat.mod_lt _ hn
 have t:=a3Q [((m % n:Nat):Int)] (by simp)
 rw [W9 (by intro x hx;simp at hx;omega)] at t
 have e3:(val [((m % n:Nat):Int)]).toNat=m % n:=by simp only [val];omega
 rw [e3] at t
 (refine ac Tryz.func253 ?_;(conv=>whnf);repeat (refine zy ?_;conv=>whnf))
 repeat' (first|refine zx ?_|refine qp c ?_|refine qp sh ?_|refine qp hd ?_|refine M8 (x:=(n:Int)) (by omega) (by rw [hd];rfl) ?_|refine .inl ⟨_,_,a3Z t ⟨a2N (ae6 rfl),trivial⟩ rfl,?_⟩|refine zd ?_ ?_<;>intro h<;>try omega|fail)<;>conv=>whnf
 all_goals (first|omega|exact s7 ⟨rfl,rfl,trivial⟩)
open St1 St2 St3 St4 St5 St6 St7 St8 StA StB
theorem b9W {n k:Nat} {top:Int} (hn:0<n) (ht:dat (dg n) ((dg n).length - 1)=top) (hk:k<=19) (h1:top*2 ^ k<1048576) (h2:¬top*2 ^ k<524288):
 (dg (n*2 ^ k)).length=(dg n).length∧524288<=dat (dg (n*2 ^ k)) ((dg n).length - 1):=by
 have hl:(dg n).length≠0:=by rw [Ne,List.length_eq_zero_iff,U9];omega
 obtain ⟨l,hl'⟩:∃l,(dg n).length=l+1:=⟨(dg n).length - 1,by omega⟩
 rw [hl',Nat.add_sub_cancel] at ht ⊢
 have e1:=z7 (dg n) l
 rw [lbn (by omega),B8,ht] at e1
 have a1:=w8 ((E5 n).take l)
 have a2:=a0A ((E5 n).take l)
 rw [lbs,Nat.min_eq_left (by omega)] at a2
 have t0:=(E5 n).dat l
 rw [ht] at t0
 obtain ⟨T,rfl⟩:=Int.eq_ofNat_of_zero_le t0.1
 have hp:(0:Int)<2 ^ k:=Int.pow_pos (by decide)
 have hpp:=T5 l
 have e2:(2:Int) ^ k*2 ^ (20 - k)=1048576:=by rw [← Int.pow_add,show k+(20 - k)=20 by omega];rfl
 have h3:(T:Int)<2 ^ (20 - k):=by
  refine Int.lt_of_mul_lt_mul_left (a:=(2:Int) ^ k) ?_ (Int.le_of_lt hp)
  rw [e2,Int.mul_comm];exact h1
 have h4:((T:Int)+1)*2 ^ k<=1048576:=by
  have:=lbV (a:=(T:Int)+1) (b:=2 ^ (20 - k)) (c:=2 ^ k) (by omega) (Int.le_of_lt hp)
  rw [e2,Int.mul_comm] at this;exact this
 have hV:(((n*2 ^ k:Nat)):Int)=n*2 ^ k:=by simp
 have h5:((n*2 ^ k:Nat):Int)<pw (l+1):=by
  rw [hV,L7]
  have b1:(n:Int)+1<=pw l*(T+1):=by rw [Int.mul_add];omega
  have b2:=lbW (c:=(2:Int) ^ k) b1 (Int.le_of_lt hp)
  have b3:=lbV (c:=pw l) h4 (Int.le_of_lt hpp)
  rw [← Int.mul_assoc] at b3
  rw [Int.add_mul] at b2
  omega
 have h6:pw l*524288<=((n*2 ^ k:Nat):Int):=by
  rw [hV]
  have b1:pw l*T<=(n:Int):=by omega
  have b2:=lbW (c:=(2:Int) ^ k) b1 (Int.le_of_lt hp)
  have b3:=lbV (a:=524288) (b:=(T:Int)*2 ^ k) (c:=pw l) (by omega) (Int.le_of_lt hpp)
  rw [← Int.mul_assoc] at b3
  omega
 have h7:(dg (n*2 ^ k)).length=l+1:=by
  have c1:=N9 h5
  rcases Nat.lt_or_ge (dg (n*2 ^ k)).length (l+1) with c2|c2
  ·have c3:=P9 (n*2 ^ k)
   have c4:=a2y (show (dg (n*2 ^ k)).length<=l by omega)
   omega
  ·omega
 refine ⟨h7,?_⟩
 have f1:=z7 (dg (n*2 ^ k)) l
 rw [lbn (by omega),B8] at f1
 have f2:=a0A ((E5 (n*2 ^ k)).take l)
 rw [lbs,Nat.min_eq_left (by omega)] at f2
 rcases Int.lt_or_le (dat (dg (n*2 ^ k)) l) 524288 with c|c
 ·exfalso
  have:=lbV (a:=dat (dg (n*2 ^ k)) l+1) (b:=524288) (c:=pw l) (by omega) (Int.le_of_lt hpp)
  rw [Int.mul_add] at this
  omega
 ·exact c
open St1 St2 St3 St4 St5 St6 St7 St8 StA StB
set_option maxRecDepth 100000
theorem b68 {a a' b b':Nat} {x y:S} (h1:a=a') (h2:b=b'):[S.c (.own 0 a b false),x,y]=[S.c (.own 0 a' b' false),x,y]:=by rw [h1,h2]
theorem aT1 {V W v1 top g r:Int} (hG:Y8 V W v1 top g r) (hV:0<V) (hW:0<=W) (h1:g<1048576) (h2:g*V<=W+V):
 0<=X7 W V g∧X7 W V g<1048576∧0<=W - X7 W V g*V∧W - X7 W V g*V<V:=by
 have h3:=hG.hi
 have h4:=hG.g0
 rw [Int.add_mul,Int.one_mul] at h3
 unfold X7
 by_cases hc:g*V<=W
 ·rw [if_pos hc];omega
 ·rw [if_neg hc,Int.sub_mul,Int.one_mul]
  have:g≠0:=by rintro rfl;simp at hc;omega
  omega
set_option maxHeartbeats 4000000 in
theorem b9y (m n:Nat) (hn:0<n) (hmn:n<=m) (hl:2<=(dg n).length) (lm:(dg m).length<=300000) (ln:(dg n).length<=300000):
 b9 Tryz.prog 253 [i7 (dg m),i7 (dg n)] [] (b6a m n) []:=by
 have l1:((dg m).map g9).length=(dg m).length:=by simp
 have l2:((dg n).map g9).length=(dg n).length:=by simp
 have c:=a30 (dg m) (dg n) (a21 m) (a21 n) (by omega) (by omega)
 rw [B8,B8] at c
 have hc:0<=W7 m n:=by unfold W7;split<;>(try split)<;>omega
 have ht0:=(E5 n).dat ((dg n).length - 1)
 have ht1:dat (dg n) ((dg n).length - 1)≠0:=(a21 n).2 _ (C6 (by omega))
 generalize htop:dat (dg n) ((dg n).length - 1)=top at ht0 ht1
 (refine ac Tryz.func253 ?_;(conv=>whnf);repeat (refine zy ?_;conv=>whnf))
 repeat' (first|refine zx ?_|refine qp c ?_|refine zd ?_ ?_<;>intro h<;>try omega|fail)<;>conv=>whnf
 refine w5 g6 (σ:=Nat) (fun k=>([i7 (dg m),i7 (dg n),J,J,J,J,J,J,b7 .i64 (2 ^ k)]++Jn 161,[])) (fun k=>k<=19∧top*2 ^ k<1048576) (fun k=>20 - k) 0 []
  ⟨by omega,by omega⟩ ⟨rfl,rfl,trivial,⟨k9 rfl,k9 rfl,rfl,trivial⟩⟩ ?_
 rintro k ⟨hk1,hk2⟩
 have hk1:k<=19:=hk1
 have hk2:top*2 ^ k<1048576:=hk2
 have hp0:(0:Int)<2 ^ k:=Int.pow_pos (by decide)
 have hpt:0<top*2 ^ k:=Int.mul_pos (by omega) hp0
 have hpk:(2:Int) ^ k<=524288:=by
  have:=Nat.pow_le_pow_right (n:=2) (by decide) hk1
  have e:((2 ^ k:Nat):Int)=2 ^ k:=by simp
  omega
 have hgl:(dg n)[(((((dg n).map g9).length:Nat):Int) - 1).toNat]? =some top:=by rw [l2,←htop];exact a9W (by omega)
 conv=>whnf
 repeat' (first|refine zx ?_|refine M8 (by omega) hgl ?_|refine zd ?_ ?_<;>intro h<;>try omega|fail)<;>conv=>whnf
 ·have hlt:top*2 ^ k<524288:=by omega
  refine ⟨[],k+1,⟨rfl,rfl,trivial,⟨rfl,rfl,e8 (Int.pow_succ _ _).symm,trivial⟩⟩,⟨?_,?_⟩,?_⟩
  ·rcases Nat.lt_or_ge k 19 with h1|h1
   ·exact h1
   ·have:k=19:=by omega
    subst this
    omega
  ·rw [Int.pow_succ,←Int.mul_assoc];omega
  ·show 20 - (k+1)<20 - k
   omega
 ·have hsh:Okd [(2:Int) ^ k]:=by intro x hx;simp at hx;omega
  have mu:=bd7 (dg m) [2 ^ k] (E5 m) hsh (by omega) (by simp)
  have mv:=b9b (dg n) [2 ^ k] (E5 n) hsh (by omega) (by simp)
  have ev:val [(2:Int) ^ k]=2 ^ k:=by simp [val]
  rw [ev,B8] at mu mv
  generalize hU:((m:Int)*2 ^ k).toNat=U at mu
  generalize hV:((n:Int)*2 ^ k).toNat=V at mv
  refine .inr ⟨_,_,aq8 (b0B mu ⟨b3T,a2N (ae6 rfl),trivial⟩) rfl rfl rfl rfl,?_⟩
  conv=>whnf
  have hVe:V=n*2 ^ k:=by
   have e:((n:Int)*2 ^ k)=((n*2 ^ k:Nat):Int):=by simp
   rw [← hV,e];exact lbX _
  have hUe:U=m*2 ^ k:=by
   have e:((m:Int)*2 ^ k)=((m*2 ^ k:Nat):Int):=by simp
   rw [← hU,e];exact lbX _
  obtain ⟨lV,hvt⟩:=b9W hn htop hk1 hk2 h
  rw [← hVe] at lV hvt
  have hp1:0<2 ^ k:=Nat.pow_pos (by decide)
  have lU3:(dg m).length<=(dg U).length:=C0 (by rw [hUe];exact Nat.le_mul_of_pos_right m hp1)
  have lU2:(dg U).length<=(dg m).length+1:=N9 (by
   have h1:=P9 m
   rw [L7,hUe]
   have h2:=lbV (a:=2 ^ k) (b:=1048576) (c:=(m:Int)+1) (by omega) (by omega)
   have h3:(((m*2 ^ k:Nat)):Int)=m*2 ^ k:=by simp
   rw [Int.add_mul] at h2
   omega)
  have lU1:(a0r ((dg m).length+[(2:Int) ^ k].length) (dg U)).length<=300001:=by rw [aw2 (by simpa using lU2)];simp;omega
  have l3:((dg V).map g9).length=(dg V).length:=by simp
  have lmn:(dg n).length<=(dg m).length:=C0 hmn
  have l4:(toC [[T.atm (Value.int .i64 0)]]).length=1:=rfl
  repeat' (first|refine zx ?_|refine qp (toC,a0r) ?_|refine qp toC ?_|refine D5 (by simp [toC,a0r]) (by simp [toC];omega) ?_|refine .inl ⟨_,_,a3Z mv ⟨b3T,a2N (ae6 rfl),trivial⟩ rfl,?_⟩|refine a4e (by omega) (by omega) (by omega) (by decide) ?_|refine zd ?_ ?_<;>intro h<;>try omega|fail)<;>conv=>whnf
  have hV0:0<V:=by rw [hVe];exact Nat.mul_pos hn hp1
  refine w5 g6 (σ:=Nat × List Int × List Int) (fun|(j,u,q)=>(Jn 8++[b7 .i64 (2 ^ k),Z7 0 u,i7 (dg V),b7 .i64 (dg V).length,Z7 1 q,b7 .i64 ((j:Int) - 1)]++Jn 156,[t8 u,t8 q])) (fun x=>a9m U V ((dg U).length+1) (dg V).length x.1 x.2.1 x.2.2) (fun x=>x.1)
   ((dg U).length+1 - (dg V).length,dg U++[0],List.replicate ((dg U).length+1 - (dg V).length) 0) [some 1,some 2]
   (a9m.init hV0 (by omega)) ⟨rfl,rfl,⟨b8 rfl rfl rfl ?_ rfl,b8 rfl rfl rfl ?_ rfl,trivial⟩,⟨rfl,m8 rfl ?_,k9 rfl,e8 (by omega),m8 rfl ?_,e8 ?_,trivial⟩⟩ ?_
  ·simp [toC,I1,a0r,lbC,List.take_append,g9]
  ·show List.replicate _ _=_
   simp [toC,g9,I0]
  ·simp [toC]
  ·simp [toC]
  ·simp [toC]
  rintro ⟨j,u,q⟩ hD
  have hD:a9m U V ((dg U).length+1) (dg V).length j u q:=hD
  have hlu:=hD.lu
  have hlq:=hD.lq
  have hle:=hD.le
  have hdt:0<j->dat u (j - 1+(dg V).length)=dat u (j - 1+(dg V).length):=fun _=>rfl
  have gu0:0<j->u[0+(((j:Int) - 1)+(dg V).length).toNat]? =some (dat u (j - 1+(dg V).length)):=fun h=>T7 (by omega) (by omega)
  have gu1:0<j->u[0+(((j:Int) - 1)+(dg V).length - 1).toNat]? =some (dat u (j - 1+(dg V).length - 1)):=fun h=>T7 (by omega) (by omega)
  have d0:=hD.oku.dat (j - 1+(dg V).length)
  have d1:=hD.oku.dat (j - 1+(dg V).length - 1)
  have dv:=(E5 V).dat ((dg V).length - 1)
  have hvt2:524288<=dat (dg V) ((dg V).length - 1):=by rw [lV];exact hvt
  conv=>whnf
  repeat' (first|refine zx ?_|refine a08 (by omega) (by show _<((u.length:Nat):Int);omega) ?_|refine q9 (gu0 (by omega)) ?_|refine q9 (gu1 (by omega)) ?_|refine ⟨by decide,_,b6C (by omega) (by omega),?_⟩|refine ⟨_,be5 (by omega) (by omega) (by omega) (by omega),?_⟩|refine M8 (by omega) (a9W (by omega)) ?_|refine ⟨by omega,_,b96 (by omega) (by omega) (by omega),?_⟩|refine b90 (by omega) ?_|refine zd ?_ ?_<;>intro h<;>try omega|fail)<;>conv=>whnf
  ·have hj:0<j:=by omega
   obtain ⟨i,rfl⟩:∃i,j=i+1:=⟨j - 1,by omega⟩
   simp only [Nat.add_sub_cancel] at *
   obtain ⟨L,hL⟩:∃L,(dg V).length=L+2:=⟨(dg V).length - 2,by omega⟩
   obtain ⟨w3,w2,w0,wv,wz,wlt⟩:=hD.window rfl
   generalize hw:(u.drop i).take ((dg V).length+1)=w at w3 w2 wv wlt
   have hwo:Okd w:=by rw [← hw];exact (hD.oku.drop i).take _
   have dw:∀t,t<=(dg V).length->dat w t=dat u (i+t):=fun t ht=>by
    rw [← hw];unfold dat
    rw [lbl,lbi,if_pos (by omega),lbj,←lbl]
   have win:=Win.of (E5 V) hwo hL (by omega) (by rw [hL] at hvt2;exact hvt2) (by rw [B8];exact wlt)
   rw [dw (L+2) (by omega),dw (L+1) (by omega),dw L (by omega),B8] at win
   have eL1:(dg V).length - 1=L+1:=by omega
   have eu0:i+(L+2)=i+(dg V).length:=by omega
   have eu1:i+(L+1)=i+(dg V).length - 1:=by omega
   rw [eu0,eu1] at win
   generalize ht:dat u (i+(dg V).length)*1048576+dat u (i+(dg V).length - 1)=top2 at win
   have win':=win
   have ht0:=win.t0
   refine w5 g6 (σ:=Int × Int) (fun|(g,r)=>(Jn 8++[b7 .i64 (2 ^ k),Z7 0 u,i7 (dg V),b7 .i64 (dg V).length,Z7 1 q,b7 .i64 i,J,b7 .i64 g,b7 .i64 r]++Jn 153,[t8 u,t8 q])) (fun x=>Y8 V (val w) (dat (dg V) (L+1)) top2 x.1 x.2) (fun x=>x.1.toNat)
    (top2 / dat (dg V) (L+1),top2 % dat (dg V) (L+1)) [some 0,some 1]
    (Y8.init win) ⟨rfl,rfl,⟨b8 rfl rfl rfl rfl rfl,b8 rfl rfl rfl rfl rfl,trivial⟩,⟨rfl,m8 rfl rfl,k9 rfl,rfl,m8 rfl rfl,e8 (by omega),e8 ?_,e8 ?_,trivial⟩⟩ ?_
   ·rw [eL1]
   ·rw [eL1,Int.tmod_eq_emod_of_nonneg ht0]
   rintro ⟨g,r⟩ hG
   have hG:Y8 V (val w) (dat (dg V) (L+1)) top2 g r:=hG
   have hg0:=hG.g0
   have hgu:=hG.gu
   have hr0:=hG.r0
   have hru:=hG.ru
   have dv2:=(E5 V).dat L
   have dv1:=(E5 V).dat (L+1)
   have du2:=hD.oku.dat (i+L)
   have hgm:0<=g*dat (dg V) L∧g*dat (dg V) L<=2097152*1048576:=⟨lbZ hg0 dv2.1,Int.mul_le_mul hgu (by omega) dv2.1 (by omega)⟩
   have gv2:(dg V)[((((dg V).length:Nat):Int) - 2).toNat]? =some (dat (dg V) L):=by rw [show ((((dg V).length:Nat):Int) - 2).toNat=L by omega];exact C6 (by omega)
   have gv1:(dg V)[((((dg V).length:Nat):Int) - 1).toNat]? =some (dat (dg V) (L+1)):=by rw [show ((((dg V).length:Nat):Int) - 1).toNat=L+1 by omega];exact C6 (by omega)
   have gu2:u[0+((i:Int)+((dg V).length:Nat) - 2).toNat]? =some (dat u (i+L)):=T7 (by omega) (by omega)
   conv=>whnf
   repeat' (first|refine zx ?_|refine a08 (by omega) (by show _<((u.length:Nat):Int);omega) ?_|refine M8 (by omega) gv2 ?_|refine M8 (by omega) gv1 ?_|refine q9 gu2 ?_|refine ⟨by decide,_,b6C (by omega) (by omega),?_⟩|refine ⟨_,be5 (by omega) (by omega) (by omega) (by omega),?_⟩|refine aM4 (by omega) (by omega) (by show _<=((u.length:Nat):Int);omega) ?_|refine zd ?_ ?_<;>intro h<;>try omega|fail)<;>conv=>whnf
   ·have hgc:1048576<=g:=by omega
    have hst:=Y8.step win hG (.inl hgc) (w8 hwo)
    exact ⟨[some 0,some 1],(g - 1,r+dat (dg V) (L+1)),⟨rfl,rfl,⟨b8 rfl rfl rfl rfl rfl,b8 rfl rfl rfl rfl rfl,trivial⟩,⟨rfl,m8 rfl rfl,rfl,rfl,m8 rfl rfl,rfl,rfl,rfl,trivial⟩⟩,hst,by have:=hst.g0;show (g - 1).toNat<g.toNat;omega⟩
   ·have hgc:r<1048576∧r*1048576+dat u (i+L)<g*dat (dg V) L:=by omega
    have hst:=Y8.step win hG (.inr hgc) (w8 hwo)
    exact ⟨[some 0,some 1],(g - 1,r+dat (dg V) (L+1)),⟨rfl,rfl,⟨b8 rfl rfl rfl rfl rfl,b8 rfl rfl rfl rfl rfl,trivial⟩,⟨rfl,m8 rfl rfl,rfl,rfl,m8 rfl rfl,rfl,rfl,rfl,trivial⟩⟩,hst,by have:=hst.g0;show (g - 1).toNat<g.toNat;omega⟩
   all_goals
    have hgc:¬(1048576<=g∨(r<1048576∧r*1048576+dat u (i+L)<g*dat (dg V) L)):=by omega
    obtain ⟨hg1,hgV⟩:=Y8.fin win hG hgc (by
     have h1:=win.Vl
     have h3:=win.v1l
     have h2:=lbV (a:=1048576) (b:=dat (dg V) (L+1)*1048576+dat (dg V) L) (by omega) (Int.le_of_lt win.P0)
     omega)
    have st:=b5P (u.take i) w (u.drop (i+((dg V).length+1))) (dg V) g hwo (E5 V) (by omega) (by omega) ⟨hg0,hg1⟩ (by rw [B8];exact hgV)
    rw [B8] at st
    obtain ⟨q0,q1,q2,q3⟩:=aT1 hG (by omega) (w8 hwo) hg1 hgV
    have hds:=hD.step rfl hV0 ⟨q0,q1⟩ (by rw [hw];exact q2) (by rw [hw];exact q3)
    rw [hw] at hds
    generalize X7 (val w) V g=Q at st q0 q1 q2 q3 hds
    rw [← w3,w2] at st
    generalize hu':u.take i++a0r ((dg V).length+1) (dg (val w - Q*V).toNat)++u.drop (i+((dg V).length+1))=u' at st hds
    refine .inr ⟨_,_,L6 (H':=[t8 u',t8 q]) [0] st (b68 (by rw [w0];omega) (by omega)) rfl rfl (by decide) ?_ (by simp) (by simp) rfl rfl rfl ?_ ?_,?_⟩
    ·intro i k hk
     match i,hk with
     |0,hk=>
      injection hk with hk
      subst hk
      exact ⟨rfl,rfl,a2a _,_,rfl,E4 rfl⟩
    ·intro i k hk
     match i,hk with
     |0,hk=>
      injection hk with hk
      subst hk
      exact ⟨_,rfl,E4 rfl⟩
    ·intro j hj hn
     match j,hj with
     |0,_=>simp at hn
     |1,_=>rfl
    conv=>whnf
    have hlu':=hds.lu
    refine zz ?_
    conv=>whnf
    repeat' (first|refine zx ?_|refine q9 (T7 rfl (by omega)) ?_|refine zd ?_ ?_<;>intro h<;>try omega|fail)<;>conv=>whnf
    exact ⟨[some 0,some 1],(i,u',q.set i Q),⟨rfl,rfl,⟨b8 rfl rfl rfl rfl rfl,b8 rfl rfl rfl (R5 (i:=i) (n:=(i:Int)) (by simp)) rfl,trivial⟩,⟨rfl,m8 rfl (hlu.trans hlu'.symm),rfl,rfl,m8 rfl (by simp),rfl,trivial⟩⟩,hds,by show i<i+1;omega⟩
  ·have hj:j=0:=by omega
   subst hj
   obtain ⟨fq,fu⟩:=hD.fin hV0
   have tu:=a3Q u (by omega)
   rw [W9 hD.oku,fu,lbX] at tu
   have tq:=a3Q q (by omega)
   rw [W9 hD.okq,fq,lbX] at tq
   have lUV:(dg (U % V)).length<=(dg U).length:=C0 (Nat.mod_le _ _)
   have sh:=b2j (dg (U % V)) (2 ^ k) (E5 _) (by omega) (by omega) (by omega)
   have e1:U % V / 2 ^ k=m % n:=by rw [hUe,hVe,Nat.mul_mod_mul_right,Nat.mul_div_cancel _ hp1]
   have e2:U / V=m / n:=by rw [hUe,hVe,Nat.mul_div_mul_right _ _ hp1]
   have e3:((U % V:Nat):Int) / 2 ^ k=((m % n:Nat):Int):=by rw [← e1];simp
   rw [B8,e3,lbX] at sh
   rw [e2] at tq
   refine .inr ⟨_,_,E7 [0] tu ⟨a2N (B7 (by simp) rfl (by intro h;cases h) rfl rfl (by simp)),trivial⟩ rfl,?_⟩
   conv=>whnf
   repeat' (first|refine zx ?_|refine qp sh ?_|refine zd ?_ ?_<;>intro h<;>try omega|fail)<;>conv=>whnf
   refine .inr ⟨_,_,E7 [1] tq ⟨a2N (B7 (by simp) rfl (by intro h;cases h) rfl rfl (by simp)),trivial⟩ rfl,?_⟩
   conv=>whnf
   exact s7 ⟨rfl,rfl,trivial⟩
theorem b95 (m n:Nat) (hn:0<n) (lm:(dg m).length<=300000) (ln:(dg n).length<=300000):
 b9 Tryz.prog 253 [i7 (dg m),i7 (dg n)] [] (b6a m n) []:=by
 rcases Nat.lt_or_ge m n with h|h
 ·exact b9i m n hn h (by omega) (by omega)
 ·have h1:(dg n).length≠0:=by rw [Ne,List.length_eq_zero_iff,U9];omega
  by_cases hl:(dg n).length=1
  ·exact b9E m n hn h hl (by omega)
  ·exact b9y m n hn h (by omega) lm ln
open St1 St2 St3 St4 St5 St6 St7 St8 StA StB
def bl (z:Int):Nat:=(dg z.natAbs).length
theorem a6C (m n:Nat):(dg (m+n)).length<=max (dg m).length (dg n).length+1:=by
 refine N9 ?_
 have h1:=P9 m
 have h2:=P9 n
 have h3:=a2y (Nat.le_max_left (dg m).length (dg n).length)
 have h4:=a2y (Nat.le_max_right (dg m).length (dg n).length)
 rw [L7]
 omega
theorem ah3 (m n:Nat):(dg (m*n)).length<=(dg m).length+(dg n).length:=by
 refine N9 ?_
 have h1:=P9 m
 have h2:=P9 n
 rw [a82]
 have h3:(m:Int)*n<=m*(pw (dg n).length):=lbV (by omega) (by omega)
 have h4:(m:Int)*pw (dg n).length<pw (dg m).length*pw (dg n).length:=Int.mul_lt_mul_of_pos_right h1 (T5 _)
 have h5:((m*n:Nat):Int)=m*n:=by simp
 omega
theorem a47 (x:Int):bl (-x)=bl x:=by unfold bl;rw [Int.natAbs_neg]
theorem aD5 (x y:Int):bl (x+y)<=max (bl x) (bl y)+1:=lbR (C0 (Int.natAbs_add_le x y)) (a6C _ _)
theorem S0 (x y:Int):bl (x*y)<=bl x+bl y:=by unfold bl;rw [Int.natAbs_mul];exact ah3 _ _
theorem b1o {x y:Int} (h:x.natAbs<=y.natAbs):bl x<=bl y:=C0 h
theorem a18 {x:Int} (h0:-9223372036854775808<=x) (h1:x<=9223372036854775807):bl x<=4:=N9 (by simp only [pw];omega)
theorem B5 {x:Int} (h0:-1048575<=x) (h1:x<=1048575):bl x<=1:=N9 (by simp only [pw];omega)
theorem aZ2 (x y:Int) {n:Nat} (lx:bl x<=n) (ly:bl y<=n):bl (Int.gcd x y)<=n:=by
 by_cases h:x=0
 ·subst h;unfold bl at *;rw [Int.gcd_zero_left];simpa using ly
 ·refine lbR (C0 ?_) lx
  simp only [Int.natAbs_natCast]
  exact Int.gcd_le_natAbs_left y h
def rl (x:Rat):Nat:=max (bl x.num) (bl x.den)
theorem V7 (x:Rat):bl x.num<=rl x:=Nat.le_max_left _ _
theorem V9 (x:Rat):bl x.den<=rl x:=Nat.le_max_right _ _
theorem a0w {p q:Int} (hq:q≠0):rl (Rat.divInt p q)<=max (bl p) (bl q):=by
 unfold rl
 rw [Rat.num_divInt,Rat.den_divInt,if_neg hq]
 have h1:bl (q.sign*p / (q.gcd p:Nat))<=bl p:=b1o (by
  refine lbR (Int.natAbs_ediv_le_natAbs _ _) ?_
  rw [Int.natAbs_mul]
  have:q.sign.natAbs=1:=by
   rcases Int.lt_trichotomy q 0 with h|h|h
   ·rw [Int.sign_eq_neg_one_of_neg h];rfl
   ·exact absurd h hq
   ·rw [Int.sign_eq_one_of_pos h];rfl
  rw [this,Nat.one_mul];exact lbQ _)
 have h2:bl ((q.natAbs / q.gcd p:Nat):Int)<=bl q:=b1o (by simp only [Int.natAbs_natCast];exact Nat.div_le_self _ _)
 omega
theorem b1N (x y:Rat):x+y=Rat.divInt (x.num*y.den+y.num*x.den) (x.den*y.den):=by rw [Rat.add_def',←Rat.divInt_ofNat,Int.natCast_mul]
theorem b16 (x y:Rat):x*y=Rat.divInt (x.num*y.num) (x.den*y.den):=by rw [Rat.mul_def',←Rat.divInt_ofNat,Int.natCast_mul]
theorem b7u (x y:Rat):x / y=Rat.divInt (x.num*y.den) (x.den*y.num):=by
 rw [Rat.div_def,Rat.inv_def]
 conv=>lhs;rw [← Rat.num_divInt_den x]
 rw [Rat.divInt_mul_divInt]
theorem aX5 (x:Rat):(x.den:Int)≠0:=by have:=x.den_pos;omega
theorem a9P (x y:Rat):(x.den:Int)*y.den≠0:=Int.mul_ne_zero (aX5 x) (aX5 y)
theorem a2O (x y:Rat):rl (x+y)<=rl x+rl y+1:=by
 rw [b1N]
 have h1:=aD5 (x.num*y.den) (y.num*x.den)
 have h2:=S0 x.num y.den
 have h3:=S0 y.num x.den
 have h4:=S0 x.den y.den
 have:=a0w (p:=x.num*y.den+y.num*x.den) (a9P x y)
 unfold rl at *
 omega
theorem a2T (x:Rat):rl (-x)=rl x:=by unfold rl;rw [Rat.neg_num,Rat.neg_den,a47]
theorem aY7 (x y:Rat):rl (x - y)<=rl x+rl y+1:=by rw [Rat.sub_eq_add_neg];have:=a2O x (-y);rw [a2T] at this;exact this
theorem b0g (x y:Rat):rl (x*y)<=rl x+rl y:=by
 rw [b16]
 have h2:=S0 x.num y.num
 have h4:=S0 x.den y.den
 have:=a0w (p:=x.num*y.num) (a9P x y)
 unfold rl at *
 omega
theorem a17 (n:Int):rl (n:Rat)=max (bl n) 1:=by unfold rl;rw [Rat.num_intCast,Rat.den_intCast];rfl
def Z9 (x y:Rat):Int:=if x<y then -1 else if y<x then 1 else 0
theorem b6G {x:Rat}:x.num<0↔x<0:=by rw [Rat.lt_iff];simp
theorem b5u {x:Rat}:0<x.num↔0<x:=by rw [Rat.lt_iff];simp
def sgR (x:Rat):Int:=if x<0 then -1 else if 0<x then 1 else 0
theorem aj7 (x:Rat):x.num.sign=sgR x:=by
 unfold sgR
 by_cases h:x<0
 ·rw [if_pos h,Int.sign_eq_neg_one_of_neg (b6G.2 h)]
 ·rw [if_neg h]
  by_cases h2:0<x
  ·rw [if_pos h2,Int.sign_eq_one_of_pos (b5u.2 h2)]
  ·rw [if_neg h2]
   have h3:¬x.num<0:=fun e=>h (b6G.1 e)
   have h4:¬0<x.num:=fun e=>h2 (b5u.1 e)
   rw [show x.num=0 by omega];rfl
open St1 St2 St3 St4 St5 St6 St7 St8 StA StB
set_option maxRecDepth 100000
set_option maxHeartbeats 1000000
theorem b6m (m n:Nat) (lm:(dg m).length<=300000) (ln:(dg n).length<=300000):
 b9 Tryz.prog 260 [i7 (dg m),i7 (dg n)] [] (i7 (dg (m+n))) []:=by
 have h:=bh3 (dg m) (dg n) (E5 m) (E5 n) (by omega) (by omega)
 rw [B8,B8,show ((m:Int)+n).toNat=m+n by omega] at h
 exact h
theorem aa5 (m n:Nat) (lm:(dg m).length<=300000) (h:n<=m):
 b9 Tryz.prog 261 [i7 (dg m),i7 (dg n)] [] (i7 (dg (m - n))) []:=by
 have h:=bf5 (dg m) (dg n) (E5 m) (E5 n) (by omega) (C0 h) (by rw [B8,B8];omega)
 rw [B8,B8,show ((m:Int) - n).toNat=m - n by omega] at h
 exact h
theorem b9Y (m n:Nat) (lm:(dg m).length<=300000) (ln:(dg n).length<=300000):
 b9 Tryz.prog 264 [i7 (dg m),i7 (dg n)] [] (i7 (dg (m*n))) []:=by
 have h:=b9b (dg m) (dg n) (E5 m) (E5 n) (by omega) (by omega)
 rw [B8,B8,show ((m:Int)*n).toNat=m*n by rw [← Int.natCast_mul];rfl] at h
 exact h
theorem b9V (m n:Nat) (lm:(dg m).length<=300000) (ln:(dg n).length<=300000):
 b9 Tryz.prog 189 [i7 (dg m),i7 (dg n)] [] (b7 .i64 (W7 m n)) []:=by
 have h:=a30 (dg m) (dg n) (a21 m) (a21 n) (by omega) (by omega)
 rw [B8,B8] at h
 exact h
theorem A6 (s:Int) (k:Nat) (h:s=1∨s=-1∨k=0) (lk:(dg k).length<=700000):
 b9 Tryz.prog 191 [b7 .i64 s,i7 (dg k)] [] (bgS (bz (s*k))) []:=by
 have e:=aR3 s (dg k) (by omega)
 rw [b4m (E5 k) (by rw [B8];omega),B8] at e
 exact e
def Sg (s:Int) (m:Nat):Prop:=(s=0∧m=0)∨(s=1∧0<m)∨(s=-1∧0<m)
theorem au1 (x:Int):Sg x.sign x.natAbs:=by
 rcases P8 x with ⟨e,h1⟩|⟨e,h1⟩|⟨e,h1⟩
 ·exact .inl ⟨e,by omega⟩
 ·exact .inr (.inl ⟨e,by omega⟩)
 ·exact .inr (.inr ⟨e,by omega⟩)
theorem aL1 {s:Int} {m:Nat} (h:Sg s m):bz (s*m)=⟨s,dg m⟩:=by
 rcases h with ⟨rfl,rfl⟩|⟨rfl,h⟩|⟨rfl,h⟩
 ·rfl
 ·unfold bz;rw [Int.one_mul,Int.sign_eq_one_of_pos (by omega)];rfl
 ·unfold bz;rw [Int.sign_eq_neg_one_of_neg (by omega)];congr 2;omega
theorem a1U (s:Int) (m:Nat) (h:Sg s m) (lm:(dg m).length<=300000):b9 Tryz.prog 181 [bgS ⟨s,dg m⟩] [] (j0 true) []:=by
 have:=a3k ⟨s,dg m⟩ (show (dg m).length<=1000000 by omega)
 rw [← aL1 h,a35,aL1 h] at this
 exact this
theorem aT5 {b b':Bg} {e:Int} {H1:Hp} (h:b=b'):Fin 0 (.tup [bgS b,b7 .i64 e]) H1 (.tup [bgS b',b7 .i64 e]) []:=by
 subst h;exact s7 ⟨⟨rfl,rfl,trivial⟩,rfl,trivial⟩
theorem a0K {a b c d:Nat} (h:a<=max b c+1) (h2:max b c+1<=d):a<=d:=lbR h h2
theorem b9H (s t:Int) (m n:Nat) (hs:Sg s m) (ht:Sg t n) (lm:(dg m).length<=200000) (ln:(dg n).length<=200000):
 b9 Tryz.prog 186 [bgS ⟨s,dg m⟩,bgS ⟨t,dg n⟩] [] (.tup [bgS (bz (s*m+t*n)),b7 .i64 0]) []:=by
 have r1:=a1U s m hs (by omega)
 have r2:=a1U t n ht (by omega)
 have ad:=b6m m n (by omega) (by omega)
 have c:=b9V m n (by omega) (by omega)
 have ls:=a6C m n
 have fin:∀(z:Int) (H1:Hp),z=s*m+t*n->Fin 0 (.tup [bgS (if true then bz z else ⟨0,[]⟩),b7 .i64 0]) H1 (.tup [bgS (bz (s*m+t*n)),b7 .i64 0]) []:=fun z H1 h=>aT5 (by rw [h];rfl)
 rcases hs with ⟨rfl,rfl⟩|⟨rfl,h1⟩|⟨rfl,h1⟩<;>rcases ht with ⟨rfl,rfl⟩|⟨rfl,h2⟩|⟨rfl,h2⟩
 case inl.inl=>
  have sg:=A6 (0) _ (by omega) (a0K ls (by omega))
  have co:=a3y (0) (0)
  (refine ac Tryz.func186 ?_;(conv=>whnf);repeat (refine zy ?_;conv=>whnf))
  repeat' (first|refine zx ?_|refine qp r1 ?_|refine qp r2 ?_|refine qp ad ?_|refine qp sg ?_|refine qp (K3 true _) ?_|refine qp co ?_|refine ⟨_,L0 (y:=0) rfl (by decide) (by decide),?_⟩|refine zd ?_ ?_<;>intro h<;>try omega|fail)<;>conv=>whnf
  all_goals first|omega|exact fin _ _ (by omega)
 case inl.inr.inl=>
  have sg:=A6 (1) _ (by omega) (a0K ls (by omega))
  have co:=a3y (0) (1)
  (refine ac Tryz.func186 ?_;(conv=>whnf);repeat (refine zy ?_;conv=>whnf))
  repeat' (first|refine zx ?_|refine qp r1 ?_|refine qp r2 ?_|refine qp ad ?_|refine qp sg ?_|refine qp (K3 true _) ?_|refine qp co ?_|refine ⟨_,L0 (y:=0) rfl (by decide) (by decide),?_⟩|refine zd ?_ ?_<;>intro h<;>try omega|fail)<;>conv=>whnf
  all_goals first|omega|exact fin _ _ (by omega)
 case inl.inr.inr=>
  have sg:=A6 (-1) _ (by omega) (a0K ls (by omega))
  have co:=a3y (0) (-1)
  (refine ac Tryz.func186 ?_;(conv=>whnf);repeat (refine zy ?_;conv=>whnf))
  repeat' (first|refine zx ?_|refine qp r1 ?_|refine qp r2 ?_|refine qp ad ?_|refine qp sg ?_|refine qp (K3 true _) ?_|refine qp co ?_|refine ⟨_,L0 (y:=0) rfl (by decide) (by decide),?_⟩|refine zd ?_ ?_<;>intro h<;>try omega|fail)<;>conv=>whnf
  all_goals first|omega|exact fin _ _ (by omega)
 case inr.inl.inl=>
  have sg:=A6 (1) _ (by omega) (a0K ls (by omega))
  have co:=a3y (1) (0)
  (refine ac Tryz.func186 ?_;(conv=>whnf);repeat (refine zy ?_;conv=>whnf))
  repeat' (first|refine zx ?_|refine qp r1 ?_|refine qp r2 ?_|refine qp ad ?_|refine qp sg ?_|refine qp (K3 true _) ?_|refine qp co ?_|refine ⟨_,L0 (y:=0) rfl (by decide) (by decide),?_⟩|refine zd ?_ ?_<;>intro h<;>try omega|fail)<;>conv=>whnf
  all_goals first|omega|exact fin _ _ (by omega)
 case inr.inr.inl=>
  have sg:=A6 (-1) _ (by omega) (a0K ls (by omega))
  have co:=a3y (-1) (0)
  (refine ac Tryz.func186 ?_;(conv=>whnf);repeat (refine zy ?_;conv=>whnf))
  repeat' (first|refine zx ?_|refine qp r1 ?_|refine qp r2 ?_|refine qp ad ?_|refine qp sg ?_|refine qp (K3 true _) ?_|refine qp co ?_|refine ⟨_,L0 (y:=0) rfl (by decide) (by decide),?_⟩|refine zd ?_ ?_<;>intro h<;>try omega|fail)<;>conv=>whnf
  all_goals first|omega|exact fin _ _ (by omega)
 case inr.inl.inr.inl=>
  have sg:=A6 (1) _ (by omega) (a0K ls (by omega))
  have co:=a3y (1) (1)
  (refine ac Tryz.func186 ?_;(conv=>whnf);repeat (refine zy ?_;conv=>whnf))
  repeat' (first|refine zx ?_|refine qp r1 ?_|refine qp r2 ?_|refine qp ad ?_|refine qp sg ?_|refine qp (K3 true _) ?_|refine qp co ?_|refine ⟨_,L0 (y:=1) rfl (by decide) (by decide),?_⟩|refine zd ?_ ?_<;>intro h<;>try omega|fail)<;>conv=>whnf
  all_goals first|omega|exact fin _ _ (by omega)
 case inr.inr.inr.inr=>
  have sg:=A6 (-1) _ (by omega) (a0K ls (by omega))
  have co:=a3y (-1) (-1)
  (refine ac Tryz.func186 ?_;(conv=>whnf);repeat (refine zy ?_;conv=>whnf))
  repeat' (first|refine zx ?_|refine qp r1 ?_|refine qp r2 ?_|refine qp ad ?_|refine qp sg ?_|refine qp (K3 true _) ?_|refine qp co ?_|refine ⟨_,L0 (y:=1) rfl (by decide) (by decide),?_⟩|refine zd ?_ ?_<;>intro h<;>try omega|fail)<;>conv=>whnf
  all_goals first|omega|exact fin _ _ (by omega)
 case inr.inl.inr.inr=>
  rcases Nat.lt_or_ge m n with hmn|hmn
  ·rw [a3w (by omega)] at c
   have l3:=C0 (Nat.sub_le n m)
   (refine ac Tryz.func186 ?_;(conv=>whnf);repeat (refine zy ?_;conv=>whnf))
   repeat' (first|refine zx ?_|refine qp r1 ?_|refine qp r2 ?_|refine qp c ?_|refine qp (aa5 n m (by omega) (by omega)) ?_|refine qp (A6 (-1) (n - m) (by omega) (by omega)) ?_|refine qp (K3 true _) ?_|refine ⟨_,L0 (y:=-1) rfl (by decide) (by decide),?_⟩|refine zd ?_ ?_<;>intro h<;>try omega|fail)<;>conv=>whnf
   all_goals first|omega|exact fin _ _ (by omega)
  ·have hc:0<=W7 m n:=by unfold W7;split<;>(try split)<;>omega
   have l3:=C0 (Nat.sub_le m n)
   (refine ac Tryz.func186 ?_;(conv=>whnf);repeat (refine zy ?_;conv=>whnf))
   repeat' (first|refine zx ?_|refine qp r1 ?_|refine qp r2 ?_|refine qp c ?_|refine qp (aa5 m n (by omega) (by omega)) ?_|refine qp (A6 (1) (m - n) (by omega) (by omega)) ?_|refine qp (K3 true _) ?_|refine ⟨_,L0 (y:=-1) rfl (by decide) (by decide),?_⟩|refine zd ?_ ?_<;>intro h<;>try omega|fail)<;>conv=>whnf
   all_goals first|omega|exact fin _ _ (by omega)
 case inr.inr.inr.inl=>
  rcases Nat.lt_or_ge m n with hmn|hmn
  ·rw [a3w (by omega)] at c
   have l3:=C0 (Nat.sub_le n m)
   (refine ac Tryz.func186 ?_;(conv=>whnf);repeat (refine zy ?_;conv=>whnf))
   repeat' (first|refine zx ?_|refine qp r1 ?_|refine qp r2 ?_|refine qp c ?_|refine qp (aa5 n m (by omega) (by omega)) ?_|refine qp (A6 (1) (n - m) (by omega) (by omega)) ?_|refine qp (K3 true _) ?_|refine ⟨_,L0 (y:=-1) rfl (by decide) (by decide),?_⟩|refine zd ?_ ?_<;>intro h<;>try omega|fail)<;>conv=>whnf
   all_goals first|omega|exact fin _ _ (by omega)
  ·have hc:0<=W7 m n:=by unfold W7;split<;>(try split)<;>omega
   have l3:=C0 (Nat.sub_le m n)
   (refine ac Tryz.func186 ?_;(conv=>whnf);repeat (refine zy ?_;conv=>whnf))
   repeat' (first|refine zx ?_|refine qp r1 ?_|refine qp r2 ?_|refine qp c ?_|refine qp (aa5 m n (by omega) (by omega)) ?_|refine qp (A6 (-1) (m - n) (by omega) (by omega)) ?_|refine qp (K3 true _) ?_|refine ⟨_,L0 (y:=-1) rfl (by decide) (by decide),?_⟩|refine zd ?_ ?_<;>intro h<;>try omega|fail)<;>conv=>whnf
   all_goals first|omega|exact fin _ _ (by omega)
open St1 St2 St3 St4 St5 St6 St7 St8 StA StB
set_option maxRecDepth 100000
theorem sgm (x:Int):x.sign*x.natAbs=x:=Int.sign_mul_natAbs x
theorem a58 (x:Int) (lx:bl x<=300000):b9 Tryz.prog 181 [bgS (bz x)] [] (j0 true) []:=a1U _ _ (au1 x) lx
theorem b9P (x y:Int) (lx:bl x<=200000) (ly:bl y<=200000):b9 Tryz.prog 186 [bgS (bz x),bgS (bz y)] [] (.tup [bgS (bz (x+y)),b7 .i64 0]) []:=by
 have h:=b9H _ _ _ _ (au1 x) (au1 y) lx ly
 rw [sgm,sgm] at h
 exact h
theorem a8f (x:Int) (lx:bl x<=300000):b9 Tryz.prog 185 [bgS (bz x)] [] (bgS (bz (-x))) []:=by
 have h:=ba8 (bz x) (show bl x<=1000000 by omega)
 unfold b2A at h
 rw [a35,a74] at h
 exact h
abbrev bg2 (s:Int) (l:List Int):S:=.agg [.t (ti s),.t (E1 l)]
theorem bc7 (s t:Int) (m n:Nat) (hs:Sg s m) (ht:Sg t n) (lm:(dg m).length<=200000) (ln:(dg n).length<=200000):
 b9 Tryz.prog 190 [bgS ⟨s,dg m⟩,bgS ⟨t,dg n⟩] [] (.tup [bgS (bz ((s*t)*(m*n:Nat))),b7 .i64 0]) []:=by
 have r1:=a1U s m hs (by omega)
 have r2:=a1U t n ht (by omega)
 have mu:=b9Y m n (by omega) (by omega)
 have ls:=ah3 m n
 have hst:-1<=s*t∧s*t<=1∧(s*t=1∨s*t=-1∨m*n=0):=by
  rcases hs with ⟨rfl,rfl⟩|⟨rfl,h1⟩|⟨rfl,h1⟩<;>rcases ht with ⟨rfl,rfl⟩|⟨rfl,h2⟩|⟨rfl,h2⟩<;>simp
 obtain ⟨q1,q2,q3⟩:=hst
 have sg:=A6 (s*t) (m*n) q3 (by omega)
 have ck:=K3 true (bz ((s*t)*(m*n:Nat)))
 (refine ac Tryz.func190 ?_;(conv=>whnf);repeat (refine zy ?_;conv=>whnf))
 repeat' (first|refine zx ?_|refine qp r1 ?_|refine qp r2 ?_|refine qp mu ?_|refine qp sg ?_|refine qp ck ?_|refine ⟨_,L0 (y:=s*t) rfl (by omega) (by omega),?_⟩|refine zd ?_ ?_<;>intro h<;>try omega|fail)<;>conv=>whnf
 all_goals first|(exfalso;simp_all;done)|exact aT5 rfl
theorem bb2 (x y:Int) (lx:bl x<=200000) (ly:bl y<=200000):b9 Tryz.prog 190 [bgS (bz x),bgS (bz y)] [] (.tup [bgS (bz (x*y)),b7 .i64 0]) []:=by
 have h:=bc7 _ _ _ _ (au1 x) (au1 y) lx ly
 have e:(x.sign*y.sign)*((x.natAbs*y.natAbs:Nat):Int)=x*y:=by
  rw [Int.natCast_mul]
  have h1:=sgm x
  have h2:=sgm y
  grind
 rw [e] at h
 exact h
theorem aW0 (x y:Int) (lx:bl x<=300000) (ly:bl y<=300000):b9 Tryz.prog 120 [bgS (bz x),bgS (bz y)] [] (b7 .i64 (W7 x y)) []:=by
 have h:=b0w (bz x) (bz y) (show bl x<=1000000 by omega) (show bl y<=1000000 by omega)
 unfold b37 at h
 rw [a35,a35,a74,a74] at h
 exact h
theorem b7w {b b' c c':Bg} {e:Int} {H1:Hp} (h:b=b') (h2:c=c'):Fin 0 (.tup [bgS b,bgS c,b7 .i64 e]) H1 (.tup [bgS b',bgS c',b7 .i64 e]) []:=by
 subst h h2;exact s7 ⟨⟨rfl,rfl,trivial⟩,⟨rfl,rfl,trivial⟩,rfl,trivial⟩
theorem be7 (s:Int) (m n:Nat) (hs:Sg s m) (hn:0<n) (lm:(dg m).length<=200000) (ln:(dg n).length<=200000):
 b9 Tryz.prog 262 [bgS ⟨s,dg m⟩,bgS ⟨1,dg n⟩] [] (.tup [bgS (bz (s*m / n)),bgS (bz (s*m % n)),b7 .i64 0]) []:=by
 show b9 Tryz.prog 262 [bg2 s (dg m),bg2 1 (dg n)] [] _ []
 have r1:=a1U s m hs (by omega)
 have r2:=a1U 1 n (.inr (.inl ⟨rfl,hn⟩)) (by omega)
 have dv:=b95 m n hn (by omega) (by omega)
 have lq:=C0 (Nat.div_le_self m n)
 have hr:=Nat.mod_lt m hn
 have lr:=C0 (Nat.le_of_lt hr)
 have lr2:((dg (m % n)).map g9).length=(dg (m % n)).length:=by simp
 have hz:(dg (m % n)).length=0↔m % n=0:=by rw [List.length_eq_zero_iff,U9]
 have hm:=Nat.div_add_mod m n
 have fin:∀(a b:Int) (H1:Hp),a=s*m / n->b=s*m % n->Fin 0 (.tup [bgS (bz a),bgS (bz b),b7 .i64 0]) H1 (.tup [bgS (bz (s*m / n)),bgS (bz (s*m % n)),b7 .i64 0]) []:=fun a b H1 h1 h2=>b7w (by rw [h1]) (by rw [h2])
 rcases hs with ⟨rfl,rfl⟩|⟨rfl,h1⟩|⟨rfl,h1⟩
 ·have s1:=A6 0 (0 / n) (by simp) (by omega)
  have s2:=A6 0 (0 % n) (by simp) (by omega)
  (refine ac Tryz.func262 ?_;(conv=>whnf);repeat (refine zy ?_;conv=>whnf))
  repeat' (first|refine zx ?_|refine qp r1 ?_|refine qp r2 ?_|refine qp dv ?_|refine qp s1 ?_|refine qp s2 ?_|refine ⟨_,L0 (y:=0) rfl (by decide) (by decide),?_⟩|refine zd ?_ ?_<;>intro h<;>try omega|fail)<;>conv=>whnf
  all_goals first|omega|exact fin _ _ _ (by first|rfl|simp) (by first|rfl|simp)
 ·have s1:=A6 1 (m / n) (by simp) (by omega)
  have s2:=A6 1 (m % n) (by simp) (by omega)
  (refine ac Tryz.func262 ?_;(conv=>whnf);repeat (refine zy ?_;conv=>whnf))
  repeat' (first|refine zx ?_|refine qp r1 ?_|refine qp r2 ?_|refine qp dv ?_|refine qp s1 ?_|refine qp s2 ?_|refine ⟨_,L0 (y:=1) rfl (by decide) (by decide),?_⟩|refine zd ?_ ?_<;>intro h<;>try omega|fail)<;>conv=>whnf
  all_goals first|omega|exact fin _ _ _ (by first|rfl|simp) (by first|rfl|simp)
 ·by_cases h0:m % n=0
  ·have hz0:=hz.2 h0
   have s1:=A6 (-1) (m / n) (by simp) (by omega)
   have s2:=A6 (-1) (m % n) (by simp) (by omega)
   have e1:-1*((m / n:Nat):Int)=-1*(m:Int) / n:=by
    have e:(m:Int)=n*(m / n:Nat):=by rw [← Int.natCast_mul];congr 1;omega
    rw [e,show -1*((n:Int)*(m / n:Nat))=n*(-1*(m / n:Nat)) by grind,Int.mul_ediv_cancel_left _ (by omega)]
   have e2:-1*((m % n:Nat):Int)=-1*(m:Int) % n:=by
    have e:(m:Int)=n*(m / n:Nat):=by rw [← Int.natCast_mul];congr 1;omega
    rw [h0,e,show -1*((n:Int)*(m / n:Nat))=n*(-1*(m / n:Nat)) by grind,Int.mul_emod_right]
    simp
   (refine ac Tryz.func262 ?_;(conv=>whnf);repeat (refine zy ?_;conv=>whnf))
   repeat' (first|refine zx ?_|refine qp r1 ?_|refine qp r2 ?_|refine qp dv ?_|refine qp s1 ?_|refine qp s2 ?_|refine ⟨_,L0 (y:=-1) rfl (by decide) (by decide),?_⟩|refine zd ?_ ?_<;>intro h<;>try omega|fail)<;>conv=>whnf
   all_goals first|omega|exact fin _ _ _ e1 e2
  ·have hz0:(dg (m % n)).length≠0:=fun h=>h0 (hz.1 h)
   have one:dg 1=[1]:=rfl
   have ad:=b6m (m / n) 1 (by omega) (by simp [one])
   have sb:=aa5 n (m % n) (by omega) (by omega)
   have l1:=a6C (m / n) 1
   have l2:=C0 (Nat.sub_le n (m % n))
   have s1:=A6 (-1) (m / n+1) (by simp) (by rw [one] at l1;simp at l1;omega)
   have s2:=A6 1 (n - m % n) (by simp) (by omega)
   have key:(-1*(m:Int))=(n - m % n:Nat)+n*(-1*((m / n+1:Nat):Int)):=by
    have e:(m:Int)=n*(m / n:Nat)+(m % n:Nat):=by rw [← Int.natCast_mul];omega
    have e2:((n - m % n:Nat):Int)=n - (m % n:Nat):=by omega
    have e3:((m / n+1:Nat):Int)=(m / n:Nat)+1:=by omega
    rw [e2,e3]
    grind
   have e1:-1*((m / n+1:Nat):Int)=-1*(m:Int) / n:=by
    rw [key,Int.add_mul_ediv_left _ _ (by omega),Int.ediv_eq_zero_of_lt (by omega) (by omega)]
    simp
   have e2:1*((n - m % n:Nat):Int)=-1*(m:Int) % n:=by
    rw [key,Int.add_mul_emod_self_left,Int.emod_eq_of_lt (by omega) (by omega)]
    simp
   (refine ac Tryz.func262 ?_;(conv=>whnf);repeat (refine zy ?_;conv=>whnf))
   repeat' (first|refine zx ?_|refine qp r1 ?_|refine qp r2 ?_|refine qp dv ?_|refine qp s1 ?_|refine qp s2 ?_|refine qp sb ?_|refine .inl ⟨_,_,a3Z ad ⟨b3T,a2N (ae6 rfl),trivial⟩ rfl,?_⟩|refine ⟨_,L0 (y:=-1) rfl (by decide) (by decide),?_⟩|refine zd ?_ ?_<;>intro h<;>try omega|fail)<;>conv=>whnf
   all_goals first|omega|exact fin _ _ _ e1 e2
theorem ay4 (x y:Int) (hy:0<y) (lx:bl x<=200000) (ly:bl y<=200000):b9 Tryz.prog 262 [bgS (bz x),bgS (bz y)] [] (.tup [bgS (bz (x / y)),bgS (bz (x % y)),b7 .i64 0]) []:=by
 have h:=be7 _ _ y.natAbs (au1 x) (by omega) lx ly
 rw [sgm,show (y.natAbs:Int)=y by omega] at h
 unfold bz at *
 rw [Int.sign_eq_one_of_pos hy]
 exact h
open St1 St2 St3 St4 St5 St6 St7 St8 StA StB
set_option maxRecDepth 100000
abbrev b9I:Blk:={ mode:=.live,elem:=84,size:=2,rows:=[[I0 (.int .i64 0),I0 (.slice none 0 0)]],box:=true }
theorem a5w:L8 [[I0 (.int .i64 0),I0 (.slice none 0 0)]]:=by
 intro r hr c hc
 simp at hr
 subst hr
 simp at hc
 rcases hc with rfl|rfl<;>rfl
structure bj4 (x y:Int) (X Y:Nat):Prop where
 g:Nat.gcd X Y=Nat.gcd x.natAbs y.natAbs
 lx:(dg X).length<=200000
 ly:(dg Y).length<=200000
theorem b04 (x y:Int) (lx:bl x<=200000) (ly:bl y<=200000):b9 Tryz.prog 182 [bgS (bz x),bgS (bz y)] [] (.tup [bgS (bz (Int.gcd x y)),b7 .i64 0]) []:=by
 have r1:=a58 x (by omega)
 have r2:=a58 y (by omega)
 have cl:=a9z (bz x).dl (show bl x<=1000000 by omega)
 (refine ac Tryz.func182 ?_;(conv=>whnf);repeat (refine zy ?_;conv=>whnf))
 repeat' (first|refine zx ?_|refine qp r1 ?_|refine qp r2 ?_|refine qp cl ?_|refine zd ?_ ?_<;>intro h<;>try omega|fail)<;>conv=>whnf
 all_goals first
  |(exfalso;simp_all;done)
  |skip
 refine w5 g6 (σ:=Nat × Nat) (fun|(X,Y)=>([J,J,J,J,S.c (C.ptr 0 0 0),J,i7 (dg X),i7 (dg Y)]++Jn 36,[b9I])) (fun s=>bj4 x y s.1 s.2) (fun s=>s.2) (x.natAbs,y.natAbs) [some 2]
  ⟨rfl,lx,ly⟩ ⟨rfl,rfl,⟨⟨rfl,rfl,rfl,.inl ⟨rfl,a5w⟩⟩,trivial⟩,⟨⟨rfl,rfl,rfl⟩,rfl,rfl,trivial⟩⟩ ?_
 rintro ⟨X,Y⟩ hI
 have hI:bj4 x y X Y:=hI
 obtain ⟨g1,g2,g3⟩:=hI
 have l2:((dg Y).map g9).length=(dg Y).length:=by simp
 conv=>whnf
 by_cases hY:0<Y
 ·have hp:(dg Y).length≠0:=by rw [Ne,List.length_eq_zero_iff,U9];omega
  have dv:=b95 X Y hY (by omega) (by omega)
  repeat' (first|refine zx ?_|refine qp dv ?_|refine zd ?_ ?_<;>intro h<;>try omega|fail)<;>conv=>whnf
  all_goals first
   |omega
   |skip
  exact ⟨[some 0],(Y,X % Y),⟨rfl,rfl,⟨⟨rfl,rfl,rfl,.inl ⟨rfl,a5w⟩⟩,trivial⟩,⟨⟨rfl,rfl,rfl⟩,rfl,rfl,trivial⟩⟩,⟨by rw [← g1,Nat.gcd_comm Y,←Nat.gcd_rec,Nat.gcd_comm],g3,lbR (C0 (Nat.le_of_lt (Nat.mod_lt X hY))) g3⟩,Nat.mod_lt X hY⟩
 ·have hY:Y=0:=by omega
  subst hY
  have hp:(dg 0).length=0:=rfl
  have c2:=a9z (dg X) (by omega)
  have s1:=A6 1 X (by simp) (by omega)
  have ck:=K3 true (bz (1*X))
  repeat' (first|refine zx ?_|refine qp c2 ?_|refine qp s1 ?_|refine qp ck ?_|refine zd ?_ ?_<;>intro h<;>try omega|fail)<;>conv=>whnf
  all_goals first
   |omega
   |skip
  refine aT5 ?_
  rw [Int.one_mul,show X=Int.gcd x y by rw [Int.gcd,←g1,Nat.gcd_zero_right]]
  rfl
open St1 St2 St3 St4 St5 St6 St7 St8 StA StB
set_option maxRecDepth 100000
theorem a1F {x y:Int} (h:x % 18446744073709551616=y):J0 .u64 x y:=by
 unfold J0
 simp only [IntKind.wrap,IntKind.bits,IntKind.signed]
 simp
 omega
theorem b1k (a:Int):a48 .and .u64 a 1048575 (a % 1048576):=(a7r (a:=a) 20 (by decide)).symm
theorem b6O (a:Int):aI3 .u64 a 20 (a / 1048576):=by
 show a / 1048576=a.fdiv 1048576
 exact (Int.fdiv_eq_ediv_of_nonneg _ (by decide)).symm
structure OfI (n:Int) (acc:List Int) (u:Nat):Prop where
 eq:acc++dg u=dg n.natAbs
theorem OfI.len {n:Int} {acc:List Int} {u:Nat} (h:OfI n acc u) (h0:-9223372036854775808<=n) (h1:n<=9223372036854775807):acc.length<=4:=by
 have h2:(dg n.natAbs).length<=4:=N9 (by simp only [pw];omega)
 have h3:=congrArg List.length h.eq
 simp at h3
 omega
theorem OfI.step {n:Int} {acc:List Int} {u:Nat} (h:OfI n acc u) (hu:0<u):OfI n (acc++[(u:Int) % 1048576]) (u / 1048576):=by
 refine ⟨?_⟩
 rw [← h.eq,a6O hu]
 simp
theorem OfI.le {n:Int} {acc:List Int} {u:Nat} (h:OfI n acc u):u<=n.natAbs:=by
 have h1:=congrArg val h.eq
 rw [S2,B8,B8] at h1
 have h2:Okd acc:=fun x hx=>E5 n.natAbs x (by rw [← h.eq];simp [hx])
 have h3:=w8 h2
 have h4:=T5 acc.length
 have h5:=lbW (a:=1) (b:=pw acc.length) (c:=(u:Int)) (by omega) (by omega)
 omega
theorem aN6 {xs:List Int} {x:Int}:(toC (xs.map g9)).take xs.length++toC [[ti x]]=toC ((xs++[x]).map g9):=b1m (f:=g9)
theorem b1I (n:Int) (h0:-9223372036854775808<=n) (h1:n<=9223372036854775807):b9 Tryz.prog 122 [b7 .i64 n] [] (bgS (bz n)) []:=by
 by_cases hn:n<0
 ·(refine ac Tryz.func122 ?_;(conv=>whnf);repeat (refine zy ?_;conv=>whnf))
  repeat' (first|refine zx ?_|refine ⟨_,a1F (y:=n+18446744073709551616) (by omega),?_⟩|refine ⟨_,a1F (y:=(n.natAbs:Int)) (by omega),?_⟩|refine zd ?_ ?_<;>intro h<;>try omega|fail)<;>conv=>whnf
  refine w5 g6 (σ:=List Int × Nat) (fun|(acc,u)=>([J,J,S.c (C.ptr 0 0 0),b7 .i64 (-1),b7 .u64 u,Z7 1 acc]++Jn 19,[b9I,t8 acc])) (fun s=>OfI n s.1 s.2) (fun s=>s.2) ([],n.natAbs) [some 0,none]
   ⟨rfl⟩ ⟨rfl,rfl,⟨⟨rfl,rfl,rfl,.inl ⟨rfl,a5w⟩⟩,⟨rfl,rfl⟩,trivial⟩,⟨⟨rfl,rfl,rfl⟩,rfl,e8 (by omega),⟨rfl,rfl,rfl⟩,trivial⟩⟩ ?_
  rintro ⟨acc,u⟩ hI
  have hI:OfI n acc u:=hI
  have hl:=hI.len h0 h1
  have hu:=hI.le
  conv=>whnf
  repeat' (first|refine zx ?_|refine qp toC ?_|refine qp toC ?_|refine ⟨_,b1k _,?_⟩|refine ⟨by decide,_,b6O _,?_⟩|refine D5 (by simp [toC]) (by simp [toC];omega) ?_|refine ⟨_,a1F (by omega),?_⟩|refine zd ?_ ?_<;>intro h<;>try omega|fail)<;>conv=>whnf
  ·refine ⟨[some 0,some 2],(acc++[(u:Int) % 1048576],u / 1048576),⟨rfl,rfl,⟨⟨rfl,rfl,rfl,.inl ⟨rfl,a5w⟩⟩,b8 rfl rfl rfl aN6 rfl,trivial⟩,⟨⟨rfl,rfl,rfl⟩,rfl,e8 (by simp),m8 rfl (by simp [toC]),trivial⟩⟩,hI.step (by omega),by show u / 1048576<u;omega⟩
  ·have h0u:u=0:=by omega
   subst h0u
   have e:acc=dg n.natAbs:=by have:=hI.eq;rw [a2w,List.append_nil] at this;exact this
   have sg:=A6 (-1) n.natAbs (by omega) (by rw [← e];omega)
   rw [← e,show (-1)*(n.natAbs:Int)=n by omega] at sg
   refine .inr ⟨_,_,E7 [1] sg ⟨b3T,a2N (B7 (by simp) rfl (by intro h;cases h) rfl rfl (by simp)),trivial⟩ rfl,?_⟩
   conv=>whnf
   exact s7 ⟨rfl,rfl,trivial⟩
 ·(refine ac Tryz.func122 ?_;(conv=>whnf);repeat (refine zy ?_;conv=>whnf))
  repeat' (first|refine zx ?_|refine ⟨_,a1F (y:=(n.natAbs:Int)) (by omega),?_⟩|refine zd ?_ ?_<;>intro h<;>try omega|fail)<;>conv=>whnf
  refine w5 g6 (σ:=List Int × Nat) (fun|(acc,u)=>([J,J,S.c (C.ptr 0 0 0),b7 .i64 1,b7 .u64 u,Z7 1 acc]++Jn 19,[b9I,t8 acc])) (fun s=>OfI n s.1 s.2) (fun s=>s.2) ([],n.natAbs) [some 0,none]
   ⟨rfl⟩ ⟨rfl,rfl,⟨⟨rfl,rfl,rfl,.inl ⟨rfl,a5w⟩⟩,⟨rfl,rfl⟩,trivial⟩,⟨⟨rfl,rfl,rfl⟩,rfl,e8 (by omega),⟨rfl,rfl,rfl⟩,trivial⟩⟩ ?_
  rintro ⟨acc,u⟩ hI
  have hI:OfI n acc u:=hI
  have hl:=hI.len h0 h1
  have hu:=hI.le
  conv=>whnf
  repeat' (first|refine zx ?_|refine qp toC ?_|refine qp toC ?_|refine ⟨_,b1k _,?_⟩|refine ⟨by decide,_,b6O _,?_⟩|refine D5 (by simp [toC]) (by simp [toC];omega) ?_|refine ⟨_,a1F (by omega),?_⟩|refine zd ?_ ?_<;>intro h<;>try omega|fail)<;>conv=>whnf
  ·refine ⟨[some 0,some 2],(acc++[(u:Int) % 1048576],u / 1048576),⟨rfl,rfl,⟨⟨rfl,rfl,rfl,.inl ⟨rfl,a5w⟩⟩,b8 rfl rfl rfl aN6 rfl,trivial⟩,⟨⟨rfl,rfl,rfl⟩,rfl,e8 (by simp),m8 rfl (by simp [toC]),trivial⟩⟩,hI.step (by omega),by show u / 1048576<u;omega⟩
  ·have h0u:u=0:=by omega
   subst h0u
   have e:acc=dg n.natAbs:=by have:=hI.eq;rw [a2w,List.append_nil] at this;exact this
   have sg:=A6 (1) n.natAbs (by omega) (by rw [← e];omega)
   rw [← e,show (1)*(n.natAbs:Int)=n by omega] at sg
   refine .inr ⟨_,_,E7 [1] sg ⟨b3T,a2N (B7 (by simp) rfl (by intro h;cases h) rfl rfl (by simp)),trivial⟩ rfl,?_⟩
   conv=>whnf
   exact s7 ⟨rfl,rfl,trivial⟩
open St1 St2 St3 St4 St5 St6 St7 St8 StA StB
set_option maxRecDepth 100000
theorem aD6 (i:Nat):pw i=((2 ^ (20*i):Nat):Int):=by
 unfold pw;rw [show (1048576:Int)=((2 ^ 20:Nat):Int) by decide,←Int.natCast_pow,←Nat.pow_mul]
theorem bl8 {d:Int} {i:Nat} {b:Int} (hi:i<=3) (h:0<=d) (h2:d*pw i<18446744073709551616) (hb:b=20*i):J0 .u64 (d*2 ^ min b.toNat (IntKind.bits .u64)) (d*pw i):=by
 have e:min b.toNat (IntKind.bits .u64)=20*i:=by show min b.toNat 64=_;omega
 have hp:=T5 i
 have h3:0<=d*pw i:=lbZ h (by omega)
 rw [e,show (2:Int) ^ (20*i)=pw i by rw [aD6];simp]
 exact a3f h3 h2
theorem oru {u d:Int} {i:Nat} (hu:0<=u) (hu2:u<pw i) (h:0<=d) (h2:u+d*pw i<18446744073709551616):a48 .or .u64 u (d*pw i) (u+d*pw i):=by
 obtain ⟨U,rfl⟩:=Int.eq_ofNat_of_zero_le hu
 obtain ⟨D,rfl⟩:=Int.eq_ofNat_of_zero_le h
 have hp:=T5 i
 have e2:(U:Int)+D*pw i=((U+2 ^ (20*i)*D:Nat):Int):=by rw [aD6];simp [Int.mul_comm]
 have e3:(D:Int)*pw i=((2 ^ (20*i)*D:Nat):Int):=by rw [aD6];simp [Int.mul_comm]
 rw [e2] at h2
 have hU:U<2 ^ (20*i):=by rw [aD6] at hu2;omega
 have k1:(BitVec.ofInt (IntKind.bits .u64) (U:Int) ||| BitVec.ofInt (IntKind.bits .u64) ((2 ^ (20*i)*D:Nat):Int)).toNat=U+2 ^ (20*i)*D:=by
  show (BitVec.ofInt 64 _ ||| BitVec.ofInt 64 _).toNat=_
  rw [BitVec.toNat_or,BitVec.toNat_ofInt,BitVec.toNat_ofInt]
  rw [Int.emod_eq_of_lt (by omega) (by omega),Int.emod_eq_of_lt (by omega) (by omega),lbX,lbX,Nat.or_comm,←Nat.two_pow_add_eq_or_of_lt hU,Nat.add_comm]
 rw [e2,e3]
 unfold a48
 simp only
 rw [k1]
 exact (ah4 (by omega) h2).symm
structure b0C (n:Nat) (k:Nat) (u:Int):Prop where
 eq:u=val ((dg n).take k)
 le:k<=(dg n).length
 lt:k=4->u<9*1152921504606846976
theorem b0C.rng {n k:Nat} {u:Int} (h:b0C n k u):0<=u∧u<pw k:=by
 have h1:=w8 ((E5 n).take k)
 have h2:=a0A ((E5 n).take k)
 rw [lbs,Nat.min_eq_left h.le,←h.eq] at h2
 rw [← h.eq] at h1
 exact ⟨h1,h2⟩
theorem b0C.step {n k:Nat} {u:Int} (h:b0C n k u) (hk:k<(dg n).length) (hd:k=3->dat (dg n) k<=8):b0C n (k+1) (u+dat (dg n) k*pw k):=by
 have hr:=h.rng
 refine ⟨by rw [z7,h.eq,Int.mul_comm],hk,fun h4=>?_⟩
 have:k=3:=by omega
 subst this
 have:=hd rfl
 simp only [pw] at hr ⊢
 omega
theorem bb7 {k:Nat} (h:k<=3):pw k<=1152921504606846976:=by
 have:=a2y h
 simp only [pw] at this ⊢
 omega
theorem ba0 {k:Nat} (h:k<=2):pw k<=1099511627776:=by
 have:=a2y h
 simp only [pw] at this ⊢
 omega
theorem aD1 {a a':Int} {b b':Bool} {k:IntKind} {H1:Hp} (h:a=a') (h2:b=b'):Fin 0 (.tup [b7 k a,j0 b]) H1 (.tup [b7 k a',j0 b']) []:=by
 subst h h2;exact s7 ⟨rfl,rfl,trivial⟩
theorem b0h {x:Int} (h1:9223372036854775808<=x) (h2:x<18446744073709551616):J0 .i64 x (x - 18446744073709551616):=by
 unfold J0
 simp only [IntKind.wrap,IntKind.bits,IntKind.signed]
 simp
 omega
abbrev a8z (x:Int):Prop:=-9223372036854775808<=x∧x<=9223372036854775807
theorem b9s (x:Int) (lx:bl x<=200000):b9 Tryz.prog 254 [bgS (bz x)] [] (.tup [b7 .i64 (if a8z x then x else 0),j0 (decide (a8z x))]) []:=by
 have r1:=a58 x (by omega)
 have l1:((bz x).dl.map g9).length=(dg x.natAbs).length:=by simp [bz]
 have l2:(bz x).dl=dg x.natAbs:=rfl
 have hlast:∀k:Nat,k<(dg x.natAbs).length->pw k<=x.natAbs:=fun k hk=>Int.le_trans (a2y (by omega)) (aE9 (by
  rcases Nat.eq_zero_or_pos x.natAbs with h|h
  ·rw [h,a2w] at hk;simp at hk
  ·exact h))
 (refine ac Tryz.func254 ?_;(conv=>whnf);repeat (refine zy ?_;conv=>whnf))
 repeat' (first|refine zx ?_|refine qp r1 ?_|refine zd ?_ ?_<;>intro h<;>try omega|fail)<;>conv=>whnf
 ·have hl:4<(dg x.natAbs).length:=by omega
  have:=hlast 4 hl
  simp only [pw] at this
  have hn:¬a8z x:=by unfold a8z;omega
  exact aD1 (by rw [if_neg hn]) (by simp [hn])
 ·refine w5 g6 (σ:=Nat × Int) (fun|(k,u)=>([J,S.c (C.ptr 0 0 0),J,J,b7 .u64 u]++Jn 12++[i7 (dg x.natAbs),b7 .i64 (dg x.natAbs).length,b7 .i64 k]++Jn 39,[bgB (bz x)])) (fun s=>b0C x.natAbs s.1 s.2) (fun s=>(dg x.natAbs).length - s.1) (0,0) [some 0]
   ⟨by simp [val],by omega,by omega⟩ ⟨rfl,rfl,⟨⟨rfl,rfl,rfl,.inl ⟨rfl,a4T _⟩⟩,trivial⟩,⟨⟨rfl,rfl,rfl⟩,rfl,k9 rfl,e8 (by omega),rfl,trivial⟩⟩ ?_
  rintro ⟨k,u⟩ hI
  have hI:b0C x.natAbs k u:=hI
  have hr:=hI.rng
  have hle:=hI.le
  have hd:=(E5 x.natAbs).dat k
  have hp:=T5 k
  have hp3:k<=3->pw k<=1152921504606846976:=bb7
  have hdm:0<=dat (dg x.natAbs) k*pw k:=lbZ hd.1 (by omega)
  have l3:((dg x.natAbs).map g9).length=(dg x.natAbs).length:=by simp
  have hp2:k<=2->pw k<=1099511627776:=ba0
  have hA:k<=3->(k=3->dat (dg x.natAbs) k<=8)->u+dat (dg x.natAbs) k*pw k<18446744073709551616:=fun h3 h8=>by
   by_cases hk:k=3
   ·have:=lbW (c:=pw k) (h8 hk) (by omega)
    have:=hp3 h3
    omega
   ·have:=lbW (c:=pw k) (show dat (dg x.natAbs) k<=1048575 by omega) (by omega)
    have:=hp2 (by omega)
    omega
  have hE:k=(dg x.natAbs).length->u=x.natAbs:=fun h=>by
   have:=hI.eq
   rw [h,lbn (lbQ _),B8] at this
   exact this
  have hs:=P8 x
  have hsg:(bz x).sg=x.sign:=rfl
  conv=>whnf
  repeat' (first|refine zx ?_|refine i3 (C6 (by omega)) ?_|refine ⟨_,a3f (by omega) (by omega),?_⟩|refine ⟨by omega,_,bl8 (i:=k) (by omega) (by omega) (by omega) (by omega),?_⟩|refine ⟨_,oru (by omega) (by omega) (by omega) (by omega),?_⟩|refine ⟨_,a1F (y:=18446744073709551616 - u) (by omega),?_⟩|refine ⟨_,b0h (by omega) (by omega),?_⟩|refine zd ?_ ?_<;>intro h<;>try omega|fail)<;>conv=>whnf
  ·have hk:k=3:=by omega
   have h8:9<=dat (dg x.natAbs) k:=by omega
   have h1:=z7 (dg x.natAbs) k
   have h4:val (dg x.natAbs)=val ((dg x.natAbs).take (k+1)):=by rw [lbn (by omega)]
   rw [B8] at h4
   have h5:=w8 ((E5 x.natAbs).take k)
   have h6:=lbV (a:=9) (b:=dat (dg x.natAbs) k) (c:=pw k) h8 (by omega)
   have h7:pw k=1152921504606846976:=by rw [hk];rfl
   have hn:¬a8z x:=by unfold a8z;omega
   exact aD1 (by rw [if_neg hn]) (by simp [hn])
  ·have hst:=hI.step (by omega) (by omega)
   exact ⟨[some 0],(k+1,u+dat (dg x.natAbs) k*pw k),⟨rfl,rfl,⟨⟨rfl,rfl,rfl,.inl ⟨rfl,a4T _⟩⟩,trivial⟩,⟨⟨rfl,rfl,rfl⟩,rfl,rfl,rfl,e8 (by omega),trivial⟩⟩,hst,by show (dg x.natAbs).length - (k+1)<(dg x.natAbs).length - k;omega⟩
  ·have hst:=hI.step (by omega) (by omega)
   exact ⟨[some 0],(k+1,u+dat (dg x.natAbs) k*pw k),⟨rfl,rfl,⟨⟨rfl,rfl,rfl,.inl ⟨rfl,a4T _⟩⟩,trivial⟩,⟨⟨rfl,rfl,rfl⟩,rfl,rfl,rfl,e8 (by omega),trivial⟩⟩,hst,by show (dg x.natAbs).length - (k+1)<(dg x.natAbs).length - k;omega⟩
  all_goals
   have hu:=hE (by omega)
   first
    |(have hn:a8z x:=by unfold a8z;omega
      exact aD1 (by rw [if_pos hn];omega) (by simp [hn]))
    |(have hn:¬a8z x:=by unfold a8z;omega
      exact aD1 (by rw [if_neg hn]) (by simp [hn]))
open St1 St2 St3 St4 St5 St6 St7 St8 StA StB
set_option maxRecDepth 100000
abbrev frC (f:Fr):List C:=[.t (ti f.p.sg),.t (E1 f.p.dl),.t (ti f.q.sg),.t (E1 f.q.dl)]
abbrev frS (f:Fr):S:=.agg (frC f)
theorem bj8 (x:Int) (lx:bl x<=200000):b9 Tryz.prog 183 [bgS (bz x)] [] (j0 (x == 1)) []:=by
 have i:=b9s x lx
 by_cases h:a8z x
 ·rw [if_pos h,show decide (a8z x)=true by simp [h]] at i
  (refine ac Tryz.func183 ?_;(conv=>whnf);repeat (refine zy ?_;conv=>whnf))
  repeat' (first|refine zx ?_|refine qp i ?_|refine zd ?_ ?_<;>intro h<;>try omega|fail)<;>conv=>whnf
  all_goals (refine i4 ?_;simp;omega)
 ·rw [if_neg h,show decide (a8z x)=false by simp [h]] at i
  have hx:x≠1:=by rintro rfl;exact h (by decide)
  (refine ac Tryz.func183 ?_;(conv=>whnf);repeat (refine zy ?_;conv=>whnf))
  repeat' (first|refine zx ?_|refine qp i ?_|refine zd ?_ ?_<;>intro h<;>try omega|fail)<;>conv=>whnf
  all_goals (refine i4 ?_;simp;omega)
theorem ag8 (f:Fr) (lp:f.p.dl.length<=200000) (lq:f.q.dl.length<=200000):b9 Tryz.prog 114 [frS f] [] (j0 (N2 f)) []:=by
 obtain ⟨p,q⟩:=f
 simp only at lp lq
 have r1:=a3k p (by omega)
 have r2:=a3k q (by omega)
 cases hp:Q9 p with
 |false=>
  rw [hp] at r1
  (refine ac Tryz.func114 ?_;(conv=>whnf);repeat (refine zy ?_;conv=>whnf))
  repeat' (first|refine zx ?_|refine qp r1 ?_|refine qp r2 ?_|refine zd ?_ ?_<;>intro h<;>try omega|fail)<;>conv=>whnf
  all_goals (first|(exfalso;simp_all;done)|(refine i4 ?_;unfold N2;simp [hp]))
 |true=>
  rw [hp] at r1
  cases hq:Q9 q with
  |false=>
   rw [hq] at r2
   (refine ac Tryz.func114 ?_;(conv=>whnf);repeat (refine zy ?_;conv=>whnf))
   repeat' (first|refine zx ?_|refine qp r1 ?_|refine qp r2 ?_|refine zd ?_ ?_<;>intro h<;>try omega|fail)<;>conv=>whnf
   all_goals (first|(exfalso;simp_all;done)|(refine i4 ?_;unfold N2;simp [hq]))
  |true=>
   rw [hq] at r2
   obtain ⟨x,rfl⟩:=aP6 hp
   obtain ⟨y,rfl⟩:=aP6 hq
   have g:=b04 x y lp lq
   have o:=bj8 (Int.gcd x y) (aZ2 x y lp lq)
   (refine ac Tryz.func114 ?_;(conv=>whnf);repeat (refine zy ?_;conv=>whnf))
   repeat' (first|refine zx ?_|refine qp r1 ?_|refine qp r2 ?_|refine qp g ?_|refine qp o ?_|refine zd ?_ ?_<;>intro h<;>try omega|fail)<;>conv=>whnf
   all_goals (refine i4 ?_;unfold N2;simp only [a35,a74,Bool.true_and];symm;simp_all<;>omega)
theorem a1v (x y:Int) (lx:bl x<=200000) (ly:bl y<=200000):b9 Tryz.prog 121 [bgS (bz x),bgS (bz y)] [] (bgS (bz (x*y))) []:=by
 have mu:=bb2 x y lx ly
 (refine ac Tryz.func121 ?_;(conv=>whnf);repeat (refine zy ?_;conv=>whnf))
 repeat' (first|refine zx ?_|refine qp mu ?_|refine zd ?_ ?_<;>intro h<;>try omega|fail)<;>conv=>whnf
 exact s7 ⟨rfl,rfl,trivial⟩
theorem a2F {f f':Fr} {e:Int} {H1:Hp} (h:f=f'):Fin 0 (.tup [frS f,b7 .i64 e]) H1 (.tup [frS f',b7 .i64 e]) []:=by
 subst h;exact s7 ⟨⟨rfl,rfl,rfl,rfl,trivial⟩,rfl,trivial⟩
theorem ay5 (p q:Int) (hq:q≠0) (lp:bl p<=200000) (lq:bl q<=200000):b9 Tryz.prog 187 [bgS (bz p),bgS (bz q)] [] (.tup [frS (fz (Rat.divInt p q)),b7 .i64 0]) []:=by
 have r1:=a58 p (by omega)
 have r2:=a58 q (by omega)
 have hs:=P8 q
 have hsg:(bz q).sg=q.sign:=rfl
 by_cases h:q<0
 ·have n1:=a8f p (by omega)
  have n2:=a8f q (by omega)
  have lg:=aZ2 (-p) (-q) (by rw [a47];exact lp) (by rw [a47];exact lq)
  have hg:0<(Int.gcd (-p) (-q):Int):=by have:=Int.gcd_pos_of_ne_zero_right (-p) (b:=-q) (by omega);omega
  have g:=b04 (-p) (-q) (by rw [a47];exact lp) (by rw [a47];exact lq)
  have d1:=ay4 (-p) _ hg (by rw [a47];exact lp) lg
  have d2:=ay4 (-q) _ hg (by rw [a47];exact lq) lg
  have e:=ar5 (p:=-p) (q:=-q) (by omega) rfl
  rw [Rat.neg_divInt_neg] at e
  (refine ac Tryz.func187 ?_;(conv=>whnf);repeat (refine zy ?_;conv=>whnf))
  repeat' (first|refine zx ?_|refine qp r1 ?_|refine qp r2 ?_|refine qp n1 ?_|refine qp n2 ?_|refine qp g ?_|refine qp d1 ?_|refine qp d2 ?_|refine zd ?_ ?_<;>intro h<;>try omega|fail)<;>conv=>whnf
  all_goals first
   |(exfalso;simp_all;done)
   |omega
   |exact a2F e.symm
 ·have lg:=aZ2 p q lp lq
  have hg:0<(Int.gcd p q:Int):=by have:=Int.gcd_pos_of_ne_zero_right p (b:=q) (by omega);omega
  have g:=b04 p q lp lq
  have d1:=ay4 p _ hg lp lg
  have d2:=ay4 q _ hg lq lg
  have e:=ar5 (p:=p) (q:=q) (by omega) rfl
  (refine ac Tryz.func187 ?_;(conv=>whnf);repeat (refine zy ?_;conv=>whnf))
  repeat' (first|refine zx ?_|refine qp r1 ?_|refine qp r2 ?_|refine qp g ?_|refine qp d1 ?_|refine qp d2 ?_|refine zd ?_ ?_<;>intro h<;>try omega|fail)<;>conv=>whnf
  all_goals first
   |omega
   |(exfalso;simp_all;done)
   |exact a2F e.symm
theorem K8 (x:Rat) (lx:rl x<=200000):b9 Tryz.prog 114 [frS (fz x)] [] (j0 true) []:=by
 have h:=ag8 (fz x) (lbR (V7 x) lx) (lbR (V9 x) lx)
 rw [aa6] at h
 exact h
theorem a5f (x y:Rat) (lx:rl x<=60000) (ly:rl y<=60000):b9 Tryz.prog 119 [frS (fz x),frS (fz y)] [] (.tup [frS (fz (x+y)),b7 .i64 0]) []:=by
 have r1:=K8 x (by omega)
 have r2:=K8 y (by omega)
 have x1:=V7 x
 have x2:=V9 x
 have y1:=V7 y
 have y2:=V9 y
 have l1:=S0 x.num y.den
 have l2:=S0 y.num x.den
 have l3:=S0 x.den y.den
 have l4:=aD5 (x.num*y.den) (y.num*x.den)
 have t1:=a1v x.num y.den (by omega) (by omega)
 have t2:=a1v y.num x.den (by omega) (by omega)
 have t3:=a1v x.den y.den (by omega) (by omega)
 have a:=b9P (x.num*y.den) (y.num*x.den) (by omega) (by omega)
 have n:=ay5 (x.num*y.den+y.num*x.den) (x.den*y.den) (a9P x y) (by omega) (by omega)
 rw [← b1N] at n
 (refine ac Tryz.func119 ?_;(conv=>whnf);repeat (refine zy ?_;conv=>whnf))
 repeat' (first|refine zx ?_|refine qp r1 ?_|refine qp r2 ?_|refine qp t1 ?_|refine qp t2 ?_|refine qp t3 ?_|refine qp a ?_|refine qp n ?_|refine qp 13 ?_|refine bl0 [13] ?_|refine zd ?_ ?_<;>intro h<;>try omega|fail)<;>conv=>whnf
 all_goals first
  |(exfalso;simp_all;done)
  |exact a2F rfl
theorem b0b (x y:Rat) (lx:rl x<=60000) (ly:rl y<=60000):b9 Tryz.prog 118 [frS (fz x),frS (fz y)] [] (.tup [frS (fz (x - y)),b7 .i64 0]) []:=by
 have r1:=K8 x (by omega)
 have r2:=K8 y (by omega)
 have y1:=V7 y
 have n:=a8f y.num (by omega)
 have a:=a5f x (-y) lx (by rw [a2T];exact ly)
 rw [← Rat.sub_eq_add_neg] at a
 have e:fz (-y)=⟨bz (-y.num),bz y.den⟩:=rfl
 rw [e] at a
 (refine ac Tryz.func118 ?_;(conv=>whnf);repeat (refine zy ?_;conv=>whnf))
 repeat' (first|refine zx ?_|refine qp r1 ?_|refine qp r2 ?_|refine qp n ?_|refine qp a ?_|refine zd ?_ ?_<;>intro h<;>try omega|fail)<;>conv=>whnf
 all_goals first
  |(exfalso;simp_all;done)
  |exact a2F rfl
theorem b07 (x y:Rat) (lx:rl x<=60000) (ly:rl y<=60000):b9 Tryz.prog 233 [frS (fz x),frS (fz y)] [] (.tup [frS (fz (x*y)),b7 .i64 0]) []:=by
 have r1:=K8 x (by omega)
 have r2:=K8 y (by omega)
 have x1:=V7 x
 have x2:=V9 x
 have y1:=V7 y
 have y2:=V9 y
 have l1:=S0 x.num y.num
 have l3:=S0 x.den y.den
 have t1:=a1v x.num y.num (by omega) (by omega)
 have t3:=a1v x.den y.den (by omega) (by omega)
 have n:=ay5 (x.num*y.num) (x.den*y.den) (a9P x y) (by omega) (by omega)
 rw [← b16] at n
 (refine ac Tryz.func233 ?_;(conv=>whnf);repeat (refine zy ?_;conv=>whnf))
 repeat' (first|refine zx ?_|refine qp r1 ?_|refine qp r2 ?_|refine qp t1 ?_|refine qp t3 ?_|refine qp n ?_|refine zd ?_ ?_<;>intro h<;>try omega|fail)<;>conv=>whnf
 all_goals first
  |(exfalso;simp_all;done)
  |exact a2F rfl
theorem b6k (x y:Rat):W7 (x.num*y.den) (y.num*x.den)=Z9 x y:=by
 unfold W7 Z9
 simp only [← Rat.lt_iff]
theorem a0N (x y:Rat) (lx:rl x<=60000) (ly:rl y<=60000):b9 Tryz.prog 54 [frS (fz x),frS (fz y)] [] (b7 .i64 (Z9 x y)) []:=by
 have r1:=K8 x (by omega)
 have r2:=K8 y (by omega)
 have x1:=V7 x
 have x2:=V9 x
 have y1:=V7 y
 have y2:=V9 y
 have l1:=S0 x.num y.den
 have l2:=S0 y.num x.den
 have t1:=a1v x.num y.den (by omega) (by omega)
 have t2:=a1v y.num x.den (by omega) (by omega)
 have c:=aW0 (x.num*y.den) (y.num*x.den) (by omega) (by omega)
 rw [b6k] at c
 (refine ac Tryz.func54 ?_;(conv=>whnf);repeat (refine zy ?_;conv=>whnf))
 repeat' (first|refine zx ?_|refine qp r1 ?_|refine qp r2 ?_|refine qp t1 ?_|refine qp t2 ?_|refine qp c ?_|refine zd ?_ ?_<;>intro h<;>try omega|fail)<;>conv=>whnf
 all_goals first
  |(exfalso;simp_all;done)
  |exact t6 rfl
theorem X8 (x:Rat) (lx:rl x<=60000):b9 Tryz.prog 56 [frS (fz x)] [] (b7 .i64 (sgR x)) []:=by
 have r1:=K8 x (by omega)
 (refine ac Tryz.func56 ?_;(conv=>whnf);repeat (refine zy ?_;conv=>whnf))
 repeat' (first|refine zx ?_|refine qp r1 ?_|refine zd ?_ ?_<;>intro h<;>try omega|fail)<;>conv=>whnf
 all_goals first
  |(exfalso;simp_all;done)
  |exact t6 (aj7 x)
theorem bj1 (p q:Int) (hq:q≠0) (p0:-9223372036854775808<=p) (p1:p<=9223372036854775807) (q0:-9223372036854775808<=q) (q1:q<=9223372036854775807):
 b9 Tryz.prog 248 [b7 .i64 p,b7 .i64 q] [] (.tup [frS (fz (Rat.divInt p q)),b7 .i64 0]) []:=by
 have l1:=a18 p0 p1
 have l2:=a18 q0 q1
 have o1:=b1I p p0 p1
 have o2:=b1I q q0 q1
 have n:=ay5 p q hq (by omega) (by omega)
 (refine ac Tryz.func248 ?_;(conv=>whnf);repeat (refine zy ?_;conv=>whnf))
 repeat' (first|refine zx ?_|refine qp o1 ?_|refine qp o2 ?_|refine qp n ?_|refine zd ?_ ?_<;>intro h<;>try omega|fail)<;>conv=>whnf
 all_goals exact a2F rfl
theorem bb5 (n:Int):fz (n:Rat)=⟨bz n,bz 1⟩:=by unfold fz;rw [Rat.num_intCast,Rat.den_intCast];rfl
theorem I3 (n:Int) (p0:-9223372036854775808<=n) (p1:n<=9223372036854775807):b9 Tryz.prog 55 [b7 .i64 n] [] (frS (fz (n:Rat))) []:=by
 have o1:=b1I n p0 p1
 have o2:=b1I 1 (by decide) (by decide)
 rw [bb5]
 (refine ac Tryz.func55 ?_;(conv=>whnf);repeat (refine zy ?_;conv=>whnf))
 repeat' (first|refine zx ?_|refine qp o1 ?_|refine qp o2 ?_|refine zd ?_ ?_<;>intro h<;>try omega|fail)<;>conv=>whnf
 all_goals exact s7 ⟨rfl,rfl,rfl,rfl,trivial⟩
theorem ae3 (x:Int) (lx:bl x<=200000):b9 Tryz.prog 322 [bgS (bz x)] [] (bgS (bz x)) []:=by
 have n1:=a8f x (by omega)
 have n2:=a8f (-x) (by rw [a47];omega)
 rw [Int.neg_neg] at n2
 (refine ac Tryz.func322 ?_;(conv=>whnf);repeat (refine zy ?_;conv=>whnf))
 repeat' (first|refine zx ?_|refine qp n1 ?_|refine qp n2 ?_|refine zd ?_ ?_<;>intro h<;>try omega|fail)<;>conv=>whnf
 all_goals exact s7 ⟨rfl,rfl,trivial⟩
open St1 St2 St3 St4 St5 St6 St7 St8 StA StB
def a0I (c:P5):Bool:=
 decide (0<=c.since) && decide (c.since<=c.till) && decide (c.till<=100000) && idx c.scale 30 && btw c.grams 0 1099511627776 && btw c.permille 0 1000 && btw c.drift 0 10000000
def a0k (c:P5) (day:Int):Bool:=a0I c && btw day c.since c.till
def aB4 (cs:List P5) (i:Nat):Int:=((cs[i]?).map (·.since)).getD 0
def a8Q (cs:List P5) (o:Option Nat) (c:P5):Bool:=match o with
 |none=>true
 |some b=>decide (aB4 cs b<=c.since)
def T4 (cs:List P5) (scale day:Int):Nat->Option Nat
 |0=>none
 |k+1=>match cs[k]? with
  |none=>T4 cs scale day k
  |some c=>if decide (c.scale=scale) && a0k c day && a8Q cs (T4 cs scale day k) c then some k else T4 cs scale day k
theorem T6 {cs:List P5} {scale day:Int}:∀{k b:Nat},T4 cs scale day k=some b->b<k∧∃c,cs[b]? =some c∧c.scale=scale∧a0k c day=true
 |0,b,h=>by simp [T4] at h
 |k+1,b,h=>by
  unfold T4 at h
  split at h
  ·obtain ⟨h1,h2⟩:=T6 h;exact ⟨by omega,h2⟩
  ·rename_i c hc
   split at h
   ·rename_i hcc
    injection h with h
    subst h
    simp only [lbM,lbI] at hcc
    exact ⟨by omega,c,hc,hcc.1.1,hcc.1.2⟩
   ·obtain ⟨h1,h2⟩:=T6 h;exact ⟨by omega,h2⟩
def a9Q (rs:List I8) (scale day:Int):Bool:=rs.any fun r=>decide (r.scale=scale) && decide (r.since<=day)
def a6K (c:P5) (reading day:Int):Rat:=Rat.divInt (c.permille*reading) 1000+((c.grams+c.drift*(day - c.since):Int):Rat)
def aT0 (x y:Rat):Rat:=if x<y then y else x
def b3Y:P5:=⟨0,0,0,0,0,0⟩
def a2M (cs:List P5) (i:Nat):P5:=(cs[i]?).getD b3Y
def Q3 (cs:List P5) (rs:List I8) (scale reading day:Int):Option (Rat × Rat):=
 match T4 cs scale day cs.length with
 |none=>none
 |some i=>if a9Q rs scale day then none else if btw reading 0 1099511627776 then
   some (aT0 ((reading:Rat) - a6K (a2M cs i) reading day) ((0:Int):Rat),(reading:Rat)+a6K (a2M cs i) reading day) else none
def bm8 (l:List Rat):Rat:=l.foldl (·+·) ((0:Int):Rat)
def hz (H:List (List Rat)):List (List Fr):=H.map (·.map fz)
theorem ak9 {l:List Fr} (h:l.all N2=true):∃L:List Rat,l=L.map fz:=by
 induction l with
 |nil=>exact ⟨[],rfl⟩
 |cons f r ih=>
  simp only [List.all_cons,lbM] at h
  obtain ⟨L,rfl⟩:=ih h.2
  exact ⟨fv f::L,by simp [← bg3 h.1]⟩
structure bm5 (e:Ev) (H:List (List Rat)):Prop where
 len:H.length=e.moves.length
 wid:∀l ∈ H,(l.length:Int)=e.mats
def hAt (H:List (List Rat)) (k m:Nat):Rat:=(H.getD k []).getD m 0
def ae8 (x:t4) (v:Nat->Rat) (f:Nat->Nat->Rat):Nat->Nat->Rat:=fun p m=>if x.src=(p:Int) then f p m - v m else if x.dst=(p:Int) then f p m+v m else f p m
def stk (e:Ev) (H:List (List Rat)):Nat->Nat->Nat->Rat
 |0=>fun _ _=>((0:Int):Rat)
 |k+1=>match e.moves[k]? with
  |none=>stk e H k
  |some x=>ae8 x (hAt H k) (stk e H k)
def inB (iv:Option (Rat × Rat)) (mass:Rat):Bool:=match iv with
 |none=>true
 |some (lo,hi)=>decide (lo<=mass) && decide (mass<=hi)
def bi2 (e:Ev) (x:t4) (mass:Rat):Bool:=if x.scale=-1 then true else inB (Q3 e.certs e.recalls x.scale x.reading x.day) mass
theorem b31 {x:t4} {v:Nat->Rat} {f:Nat->Nat->Rat} {B C:Nat} (hv:∀m,rl (v m)<=B) (hf:∀p m,rl (f p m)<=C) (p m:Nat):rl (ae8 x v f p m)<=C+(B+1):=by
 unfold ae8
 have h1:=hf p m
 have h2:=hv m
 have h3:=aY7 (f p m) (v m)
 have h4:=a2O (f p m) (v m)
 split
 ·omega
 ·split<;>omega
theorem a6X:rl ((0:Int):Rat)=1:=by rw [a17];rfl
theorem b9X {H:List (List Rat)} {B:Nat} (hB:∀l ∈ H,∀x ∈ l,rl x<=B) (h1:1<=B) (k m:Nat):rl (hAt H k m)<=B:=by
 unfold hAt
 rw [lbl,lbl]
 cases hk:H[k]? with
 |none=>
  have:rl 0=1:=a6X
  simp only [Option.getD_none,List.getElem?_nil]
  omega
 |some l=>
  simp only [Option.getD_some]
  cases hm:l[m]? with
  |none=>
   have:rl 0=1:=a6X
   simp only [Option.getD_none]
   omega
  |some x=>exact hB l (lbm hk) x (lbm hm)
theorem b4V {e:Ev} {H:List (List Rat)} {B:Nat} (hB:∀l ∈ H,∀x ∈ l,rl x<=B) (h1:1<=B):∀k p m,rl (stk e H k p m)<=k*(B+1)+1
 |0,p,m=>by unfold stk;rw [a6X];omega
 |k+1,p,m=>by
  have ih:=b4V hB h1 (e:=e) k
  unfold stk
  cases hx:e.moves[k]? with
  |none=>have:=ih p m;rw [lbU];simp only;omega
  |some x=>
   simp only
   have:=b31 (x:=x) (b9X hB h1 k) ih p m
   rw [lbU];omega
end Go.Proofs.YtikokmdpigploaaGreat
