/- Part 3. -/
import Derived.Test.YtdbogogfeffjlaaGreatSsA2
namespace Go.Proofs.YtdbogogfeffjlaaGreat
set_option linter.unusedVariables false
set_option linter.unusedSimpArgs false
section
set_option maxRecDepth 100000
def b7F:List (Option TD):=[none,some ⟨.bas,false,1,8,[.nilFunc]⟩,some ⟨.int .i64,false,1,8,[.int .i64 0]⟩,some ⟨.int .i64,false,1,8,[.int .i64 0]⟩,some ⟨.bool,false,1,1,[.bool false]⟩,some ⟨.int .u8,false,1,1,[.int .u8 0]⟩,some ⟨.int .u8,false,1,1,[.int .u8 0]⟩,some ⟨.struct [(0,1,false),(1,1,false),(2,1,false),(3,1,false)],true,4,24,[.int .i64 0,.int .i64 0,.bool false,.int .u8 0]⟩,some ⟨.struct [(0,1,false),(1,1,false),(2,1,false),(3,1,false)],true,4,24,[.int .i64 0,.int .i64 0,.bool false,.int .u8 0]⟩,none,none,none,some ⟨.int .u64,false,1,8,[.int .u64 0]⟩,none,none,some ⟨.bas,false,1,8,[.pointer none]⟩,some ⟨.bas,false,1,8,[.pointer none]⟩,some ⟨.bas,false,1,8,[.pointer none]⟩,some ⟨.struct [(0,1,false)],true,1,8,[.pointer none]⟩,some ⟨.struct [(0,1,false)],true,1,8,[.pointer none]⟩,none,some ⟨.int .i32,false,1,4,[.int .i32 0]⟩,some ⟨.slice 77,false,1,24,[.slice none 0 0]⟩,some ⟨.slice 79,false,1,24,[.slice none 0 0]⟩,some ⟨.slice 209,false,1,24,[.slice none 0 0]⟩,some ⟨.slice 54,false,1,24,[.slice none 0 0]⟩,some ⟨.slice 216,false,1,24,[.slice none 0 0]⟩,some ⟨.struct [(0,1,false),(1,1,false),(2,1,false),(3,1,false),(4,1,false),(5,1,false),(6,1,false),(7,1,false)],true,8,144,[.int .i64 0,.int .i64 0,.int .i64 0,.slice none 0 0,.slice none 0 0,.slice none 0 0,.slice none 0 0,.slice none 0 0]⟩,some ⟨.struct [(0,1,false),(1,1,false),(2,1,false),(3,1,false),(4,1,false),(5,1,false),(6,1,false),(7,1,false)],true,8,144,[.int .i64 0,.int .i64 0,.int .i64 0,.slice none 0 0,.slice none 0 0,.slice none 0 0,.slice none 0 0,.slice none 0 0]⟩,some ⟨.slice 34,false,1,24,[.slice none 0 0]⟩,some ⟨.slice 36,false,1,24,[.slice none 0 0]⟩,some ⟨.struct [(0,8,false),(8,1,false),(9,1,false)],true,10,192,[.int .i64 0,.int .i64 0,.int .i64 0,.slice none 0 0,.slice none 0 0,.slice none 0 0,.slice none 0 0,.slice none 0 0,.slice none 0 0,.slice none 0 0]⟩,some ⟨.struct [(0,8,false),(8,1,false),(9,1,false)],true,10,192,[.int .i64 0,.int .i64 0,.int .i64 0,.slice none 0 0,.slice none 0 0,.slice none 0 0,.slice none 0 0,.slice none 0 0,.slice none 0 0,.slice none 0 0]⟩,some ⟨.struct [(0,1,false),(1,1,false),(2,1,false)],true,3,24,[.int .i64 0,.int .i64 0,.int .i64 0]⟩,some ⟨.struct [(0,1,false),(1,1,false),(2,1,false)],true,3,24,[.int .i64 0,.int .i64 0,.int .i64 0]⟩,some ⟨.struct [(0,1,false),(1,1,false)],true,2,16,[.int .i64 0,.int .i64 0]⟩,some ⟨.struct [(0,1,false),(1,1,false)],true,2,16,[.int .i64 0,.int .i64 0]⟩,some ⟨.bas,false,1,8,[.nilFunc]⟩,some ⟨.bas,false,1,8,[.nilFunc]⟩,some ⟨.int .i64,false,1,8,[.int .i64 0]⟩,some ⟨.bas,false,1,8,[.nilFunc]⟩,some ⟨.slice 46,false,1,24,[.slice none 0 0]⟩,none,some ⟨.bas,false,1,8,[.nilFunc]⟩,some ⟨.slice 83,false,1,24,[.slice none 0 0]⟩,some ⟨.struct [(0,1,false),(1,1,false),(2,1,false),(3,1,false),(4,1,false)],true,5,88,[.int .i64 0,.int .i64 0,.slice none 0 0,.slice none 0 0,.slice none 0 0]⟩,some ⟨.struct [(0,1,false),(1,1,false),(2,1,false),(3,1,false),(4,1,false)],true,5,88,[.int .i64 0,.int .i64 0,.slice none 0 0,.slice none 0 0,.slice none 0 0]⟩,some ⟨.bas,false,1,8,[.nilFunc]⟩,none,some ⟨.bas,false,1,8,[.nilFunc]⟩,some ⟨.bas,false,1,8,[.nilFunc]⟩,some ⟨.bas,false,1,8,[.nilFunc]⟩,some ⟨.bas,false,1,8,[.nilFunc]⟩,some ⟨.struct [(0,1,false),(1,1,false)],true,2,16,[.int .i64 0,.int .i64 0]⟩,some ⟨.struct [(0,1,false),(1,1,false)],true,2,16,[.int .i64 0,.int .i64 0]⟩,some ⟨.slice 3,false,1,24,[.slice none 0 0]⟩,none,some ⟨.bas,false,1,8,[.nilFunc]⟩,some ⟨.bas,false,1,8,[.nilFunc]⟩,some ⟨.bas,false,1,8,[.nilFunc]⟩,some ⟨.bas,false,1,8,[.nilFunc]⟩,none,some ⟨.bas,false,1,8,[.nilFunc]⟩,some ⟨.bas,false,1,8,[.nilFunc]⟩,some ⟨.slice 132,false,1,24,[.slice none 0 0]⟩,some ⟨.bas,false,1,8,[.nilFunc]⟩,some ⟨.bas,false,1,8,[.nilFunc]⟩,some ⟨.bas,false,1,8,[.nilFunc]⟩,some ⟨.slice 143,false,1,24,[.slice none 0 0]⟩,some ⟨.struct [(0,1,false),(1,1,false)],true,2,32,[.int .i64 0,.slice none 0 0]⟩,some ⟨.struct [(0,1,false),(1,1,false)],true,2,32,[.int .i64 0,.slice none 0 0]⟩,none,some ⟨.bas,false,1,8,[.nilFunc]⟩,some ⟨.bas,false,1,8,[.nilFunc]⟩,some ⟨.bas,false,1,8,[.nilFunc]⟩,some ⟨.bas,false,1,8,[.nilFunc]⟩,some ⟨.struct [(0,1,false),(1,1,false),(2,1,false)],true,3,24,[.int .i64 0,.int .i64 0,.int .i64 0]⟩,some ⟨.struct [(0,1,false),(1,1,false),(2,1,false)],true,3,24,[.int .i64 0,.int .i64 0,.int .i64 0]⟩,some ⟨.struct [(0,1,false),(1,1,false),(2,1,false),(3,1,false),(4,1,false),(5,1,false)],true,6,48,[.int .i64 0,.int .i64 0,.int .i64 0,.int .i64 0,.int .i64 0,.bool false]⟩,some ⟨.struct [(0,1,false),(1,1,false),(2,1,false),(3,1,false),(4,1,false),(5,1,false)],true,6,48,[.int .i64 0,.int .i64 0,.int .i64 0,.int .i64 0,.int .i64 0,.bool false]⟩,some ⟨.struct [(0,1,false),(1,1,false)],true,2,32,[.int .i64 0,.slice none 0 0]⟩,some ⟨.struct [(0,1,false),(1,1,false)],true,2,32,[.int .i64 0,.slice none 0 0]⟩,some ⟨.struct [(0,2,false),(2,2,false)],true,4,64,[.int .i64 0,.slice none 0 0,.int .i64 0,.slice none 0 0]⟩,some ⟨.struct [(0,2,false),(2,2,false)],true,4,64,[.int .i64 0,.slice none 0 0,.int .i64 0,.slice none 0 0]⟩,some ⟨.bas,false,1,8,[.nilFunc]⟩,none,some ⟨.bas,false,1,8,[.nilFunc]⟩,some ⟨.bas,false,1,8,[.nilFunc]⟩,some ⟨.bas,false,1,8,[.nilFunc]⟩,some ⟨.bas,false,1,8,[.nilFunc]⟩,some ⟨.bas,false,1,8,[.nilFunc]⟩,none,some ⟨.bas,false,1,8,[.nilFunc]⟩,some ⟨.slice 4,false,1,24,[.slice none 0 0]⟩,none,some ⟨.bas,false,1,8,[.nilFunc]⟩,some ⟨.bas,false,1,8,[.nilFunc]⟩,none,some ⟨.bas,false,1,8,[.nilFunc]⟩,some ⟨.slice 44,false,1,24,[.slice none 0 0]⟩,some ⟨.bas,false,1,8,[.nilFunc]⟩,some ⟨.bas,false,1,8,[.nilFunc]⟩,none,some ⟨.bas,false,1,8,[.nilFunc]⟩,some ⟨.bas,false,1,8,[.nilFunc]⟩,some ⟨.bas,false,1,8,[.nilFunc]⟩,some ⟨.bas,false,1,8,[.nilFunc]⟩,some ⟨.bas,false,1,8,[.nilFunc]⟩,some ⟨.bas,false,1,8,[.nilFunc]⟩,some ⟨.bas,false,1,8,[.nilFunc]⟩,none,some ⟨.bas,false,1,8,[.nilFunc]⟩,some ⟨.bas,false,1,8,[.nilFunc]⟩,some ⟨.bas,false,1,8,[.nilFunc]⟩,some ⟨.bas,false,1,8,[.nilFunc]⟩,some ⟨.bas,false,1,8,[.nilFunc]⟩,some ⟨.slice 119,false,1,24,[.slice none 0 0]⟩,some ⟨.bas,false,1,8,[.nilFunc]⟩,some ⟨.struct [(0,4,false),(4,1,false),(5,1,false),(6,1,false)],true,7,104,[.int .i64 0,.slice none 0 0,.int .i64 0,.slice none 0 0,.bool false,.slice none 0 0,.int .i64 0]⟩,some ⟨.struct [(0,4,false),(4,1,false),(5,1,false),(6,1,false)],true,7,104,[.int .i64 0,.slice none 0 0,.int .i64 0,.slice none 0 0,.bool false,.slice none 0 0,.int .i64 0]⟩,some ⟨.bas,false,1,8,[.nilFunc]⟩,some ⟨.bas,false,1,8,[.nilFunc]⟩,some ⟨.bas,false,1,8,[.nilFunc]⟩,some ⟨.slice 127,false,1,24,[.slice none 0 0]⟩,some ⟨.bas,false,1,8,[.nilFunc]⟩,some ⟨.bas,false,1,8,[.nilFunc]⟩,some ⟨.struct [(0,1,false),(1,1,false),(2,1,false)],true,3,56,[.int .i64 0,.slice none 0 0,.slice none 0 0]⟩,some ⟨.struct [(0,1,false),(1,1,false),(2,1,false)],true,3,56,[.int .i64 0,.slice none 0 0,.slice none 0 0]⟩,some ⟨.bas,false,1,8,[.nilFunc]⟩,some ⟨.bas,false,1,8,[.nilFunc]⟩,some ⟨.bas,false,1,8,[.nilFunc]⟩,some ⟨.struct [(0,1,false),(1,4,false)],true,5,72,[.int .i64 0,.int .i64 0,.slice none 0 0,.int .i64 0,.slice none 0 0]⟩,some ⟨.struct [(0,1,false),(1,4,false)],true,5,72,[.int .i64 0,.int .i64 0,.slice none 0 0,.int .i64 0,.slice none 0 0]⟩,some ⟨.bas,false,1,8,[.nilFunc]⟩,some ⟨.bas,false,1,8,[.nilFunc]⟩,some ⟨.bas,false,1,8,[.nilFunc]⟩,none,some ⟨.bas,false,1,8,[.nilFunc]⟩,some ⟨.bas,false,1,8,[.nilFunc]⟩,some ⟨.bas,false,1,8,[.nilFunc]⟩,some ⟨.bas,false,1,8,[.nilFunc]⟩,some ⟨.bas,false,1,8,[.nilFunc]⟩,some ⟨.struct [(0,1,false),(1,1,false),(2,4,false)],true,6,96,[.slice none 0 0,.int .i64 0,.int .i64 0,.slice none 0 0,.int .i64 0,.slice none 0 0]⟩,some ⟨.struct [(0,1,false),(1,1,false),(2,4,false)],true,6,96,[.slice none 0 0,.int .i64 0,.int .i64 0,.slice none 0 0,.int .i64 0,.slice none 0 0]⟩,none,some ⟨.bas,false,1,8,[.nilFunc]⟩,some ⟨.bas,false,1,8,[.nilFunc]⟩,some ⟨.bas,false,1,8,[.nilFunc]⟩,some ⟨.bas,false,1,8,[.nilFunc]⟩,some ⟨.bas,false,1,8,[.nilFunc]⟩,some ⟨.bas,false,1,8,[.nilFunc]⟩,none,some ⟨.bas,false,1,8,[.nilFunc]⟩,some ⟨.bas,false,1,8,[.nilFunc]⟩,none,some ⟨.bas,false,1,8,[.nilFunc]⟩,some ⟨.bas,false,1,8,[.nilFunc]⟩,some ⟨.bas,false,1,8,[.nilFunc]⟩,some ⟨.bas,false,1,8,[.nilFunc]⟩,some ⟨.bas,false,1,8,[.nilFunc]⟩,none,some ⟨.bas,false,1,8,[.nilFunc]⟩,some ⟨.bas,false,1,8,[.nilFunc]⟩,some ⟨.bas,false,1,8,[.nilFunc]⟩,some ⟨.bas,false,1,8,[.nilFunc]⟩,some ⟨.bas,false,1,8,[.nilFunc]⟩,some ⟨.bas,false,1,8,[.nilFunc]⟩,some ⟨.struct [(0,1,false),(1,4,false),(5,1,false),(6,1,false),(7,1,false)],true,8,144,[.int .i64 0,.int .i64 0,.slice none 0 0,.int .i64 0,.slice none 0 0,.slice none 0 0,.slice none 0 0,.slice none 0 0]⟩,some ⟨.struct [(0,1,false),(1,4,false),(5,1,false),(6,1,false),(7,1,false)],true,8,144,[.int .i64 0,.int .i64 0,.slice none 0 0,.int .i64 0,.slice none 0 0,.slice none 0 0,.slice none 0 0,.slice none 0 0]⟩,none,some ⟨.bas,false,1,8,[.nilFunc]⟩,some ⟨.bas,false,1,8,[.nilFunc]⟩,some ⟨.bas,false,1,8,[.nilFunc]⟩,some ⟨.bas,false,1,8,[.nilFunc]⟩,some ⟨.bas,false,1,8,[.nilFunc]⟩,some ⟨.bas,false,1,8,[.nilFunc]⟩,some ⟨.bas,false,1,8,[.nilFunc]⟩,some ⟨.bas,false,1,8,[.nilFunc]⟩,some ⟨.bas,false,1,8,[.nilFunc]⟩,some ⟨.bas,false,1,8,[.nilFunc]⟩,some ⟨.slice 64,false,1,24,[.slice none 0 0]⟩,some ⟨.bas,false,1,8,[.nilFunc]⟩,none,some ⟨.bas,false,1,8,[.nilFunc]⟩,some ⟨.bas,false,1,8,[.nilFunc]⟩,some ⟨.bas,false,1,8,[.nilFunc]⟩,some ⟨.bas,false,1,8,[.nilFunc]⟩,some ⟨.bas,false,1,8,[.nilFunc]⟩,some ⟨.bas,false,1,8,[.nilFunc]⟩,some ⟨.bas,false,1,8,[.nilFunc]⟩,some ⟨.bas,false,1,8,[.nilFunc]⟩,none,some ⟨.bas,false,1,8,[.nilFunc]⟩,some ⟨.bas,false,1,8,[.nilFunc]⟩,some ⟨.bas,false,1,8,[.nilFunc]⟩,some ⟨.bas,false,1,8,[.nilFunc]⟩,some ⟨.bas,false,1,8,[.nilFunc]⟩,some ⟨.bas,false,1,8,[.nilFunc]⟩,some ⟨.bas,false,1,8,[.nilFunc]⟩,some ⟨.bas,false,1,8,[.nilFunc]⟩,some ⟨.bas,false,1,8,[.nilFunc]⟩,some ⟨.bas,false,1,8,[.nilFunc]⟩,none,some ⟨.bas,false,1,8,[.nilFunc]⟩,none,some ⟨.bas,false,1,8,[.nilFunc]⟩,some ⟨.bas,false,1,8,[.nilFunc]⟩,some ⟨.bas,false,1,8,[.nilFunc]⟩,some ⟨.struct [(0,1,false),(1,1,false),(2,1,false),(3,1,false),(4,1,false),(5,1,false)],true,6,48,[.int .i64 0,.int .i64 0,.int .i64 0,.int .i64 0,.int .i64 0,.int .i64 0]⟩,some ⟨.struct [(0,1,false),(1,1,false),(2,1,false),(3,1,false),(4,1,false),(5,1,false)],true,6,48,[.int .i64 0,.int .i64 0,.int .i64 0,.int .i64 0,.int .i64 0,.int .i64 0]⟩,some ⟨.bas,false,1,8,[.nilFunc]⟩,some ⟨.bas,false,1,8,[.nilFunc]⟩,some ⟨.arr 2 3,true,2,16,[.int .i64 0,.int .i64 0]⟩,some ⟨.slice 212,false,1,24,[.slice none 0 0]⟩,some ⟨.bas,false,1,8,[.nilFunc]⟩,some ⟨.struct [(0,1,false),(1,1,false),(2,1,false),(3,1,false)],true,4,32,[.int .i64 0,.int .i64 0,.int .i64 0,.int .i64 0]⟩,some ⟨.struct [(0,1,false),(1,1,false),(2,1,false),(3,1,false)],true,4,32,[.int .i64 0,.int .i64 0,.int .i64 0,.int .i64 0]⟩,some ⟨.bas,false,1,8,[.pointer none]⟩,some ⟨.bas,false,1,8,[.nilFunc]⟩,none,some ⟨.bas,false,1,8,[.nilFunc]⟩,some ⟨.bas,false,1,8,[.nilFunc]⟩,some ⟨.bas,false,1,8,[.nilFunc]⟩,some ⟨.bas,false,1,8,[.nilFunc]⟩,some ⟨.bas,false,1,8,[.nilFunc]⟩,some ⟨.bas,false,1,8,[.nilFunc]⟩,some ⟨.bas,false,1,8,[.nilFunc]⟩,some ⟨.bas,false,1,8,[.nilFunc]⟩,some ⟨.bas,false,1,8,[.nilFunc]⟩,some ⟨.int .u64,false,1,8,[.int .u64 0]⟩,some ⟨.int .u64,false,1,8,[.int .u64 0]⟩,some ⟨.bas,false,1,8,[.nilFunc]⟩,some ⟨.bas,false,1,8,[.nilFunc]⟩,some ⟨.bas,false,1,8,[.nilFunc]⟩,some ⟨.bas,false,1,8,[.nilFunc]⟩,some ⟨.bas,false,1,8,[.nilFunc]⟩,some ⟨.bas,false,1,8,[.nilFunc]⟩,some ⟨.bas,false,1,8,[.pointer none]⟩,some ⟨.bas,false,1,8,[.nilFunc]⟩,some ⟨.bas,false,1,8,[.nilFunc]⟩,some ⟨.bas,false,1,8,[.nilFunc]⟩,some ⟨.bas,false,1,8,[.nilFunc]⟩,some ⟨.bas,false,1,8,[.nilFunc]⟩,some ⟨.bas,false,1,8,[.nilFunc]⟩,some ⟨.bas,false,1,8,[.nilFunc]⟩,some ⟨.bas,false,1,8,[.nilFunc]⟩,some ⟨.bas,false,1,8,[.nilFunc]⟩,some ⟨.bas,false,1,8,[.nilFunc]⟩,some ⟨.bas,false,1,8,[.nilFunc]⟩,some ⟨.bas,false,1,8,[.nilFunc]⟩,some ⟨.bas,false,1,8,[.nilFunc]⟩,none,some ⟨.bas,false,1,8,[.nilFunc]⟩,some ⟨.slice 259,false,1,24,[.slice none 0 0]⟩,some ⟨.slice 284,false,1,24,[.slice none 0 0]⟩,some ⟨.struct [(0,1,false),(1,1,false),(2,1,false),(3,1,false),(4,1,false),(5,1,false)],true,6,128,[.int .i64 0,.slice none 0 0,.slice none 0 0,.slice none 0 0,.slice none 0 0,.slice none 0 0]⟩,some ⟨.struct [(0,1,false),(1,1,false),(2,1,false),(3,1,false),(4,1,false),(5,1,false)],true,6,128,[.int .i64 0,.slice none 0 0,.slice none 0 0,.slice none 0 0,.slice none 0 0,.slice none 0 0]⟩,some ⟨.bas,false,1,8,[.nilFunc]⟩,some ⟨.struct [(0,4,false),(4,1,false)],true,5,88,[.int .i64 0,.slice none 0 0,.int .i64 0,.slice none 0 0,.slice none 0 0]⟩,some ⟨.struct [(0,4,false),(4,1,false)],true,5,88,[.int .i64 0,.slice none 0 0,.int .i64 0,.slice none 0 0,.slice none 0 0]⟩,some ⟨.bas,false,1,8,[.nilFunc]⟩,some ⟨.bas,false,1,8,[.nilFunc]⟩,none,some ⟨.bas,false,1,8,[.nilFunc]⟩,some ⟨.bas,false,1,8,[.nilFunc]⟩,some ⟨.bas,false,1,8,[.nilFunc]⟩,some ⟨.slice 81,false,1,24,[.slice none 0 0]⟩,some ⟨.slice 266,false,1,24,[.slice none 0 0]⟩,some ⟨.struct [(0,1,false),(1,1,false),(2,1,false),(3,2,false),(5,1,false),(6,1,false),(7,1,false),(8,1,false),(9,1,false),(10,2,false)],true,12,256,[.slice none 0 0,.slice none 0 0,.slice none 0 0,.int .i64 0,.slice none 0 0,.slice none 0 0,.slice none 0 0,.slice none 0 0,.slice none 0 0,.slice none 0 0,.int .i64 0,.slice none 0 0]⟩,some ⟨.struct [(0,1,false),(1,1,false),(2,1,false),(3,2,false),(5,1,false),(6,1,false),(7,1,false),(8,1,false),(9,1,false),(10,2,false)],true,12,256,[.slice none 0 0,.slice none 0 0,.slice none 0 0,.int .i64 0,.slice none 0 0,.slice none 0 0,.slice none 0 0,.slice none 0 0,.slice none 0 0,.slice none 0 0,.int .i64 0,.slice none 0 0]⟩,some ⟨.bas,false,1,8,[.nilFunc]⟩,some ⟨.bas,false,1,8,[.nilFunc]⟩,some ⟨.bas,false,1,8,[.nilFunc]⟩,some ⟨.bas,false,1,8,[.nilFunc]⟩,some ⟨.bas,false,1,8,[.nilFunc]⟩,some ⟨.bas,false,1,8,[.nilFunc]⟩,some ⟨.bas,false,1,8,[.nilFunc]⟩,some ⟨.bas,false,1,8,[.nilFunc]⟩,some ⟨.int .u32,false,1,4,[.int .u32 0]⟩,none,some ⟨.bas,false,1,8,[.nilFunc]⟩,none,some ⟨.bas,false,1,8,[.nilFunc]⟩,some ⟨.struct [(0,1,false),(1,1,false)],true,2,16,[.int .i64 0,.bool false]⟩,some ⟨.struct [(0,1,false),(1,1,false)],true,2,16,[.int .i64 0,.bool false]⟩,some ⟨.bas,false,1,8,[.pointer none]⟩,some ⟨.bas,false,1,8,[.nilFunc]⟩,some ⟨.bas,false,1,8,[.nilFunc]⟩,some ⟨.bas,false,1,8,[.nilFunc]⟩,some ⟨.bas,false,1,8,[.nilFunc]⟩,none,none,some ⟨.arr 0 16,true,0,0,[]⟩,some ⟨.struct [(0,0,false)],true,0,0,[]⟩,some ⟨.struct [(0,0,false)],true,0,0,[]⟩,some ⟨.int .u8,false,1,1,[.int .u8 0]⟩,some ⟨.int .u8,false,1,1,[.int .u8 0]⟩,some ⟨.bas,false,1,8,[.nilFunc]⟩,some ⟨.bas,false,1,8,[.pointer none]⟩,some ⟨.int .i32,false,1,4,[.int .i32 0]⟩,some ⟨.int .i32,false,1,4,[.int .i32 0]⟩,some ⟨.struct [(0,1,false),(1,1,false),(2,1,false),(3,1,false),(4,1,false),(5,1,false),(6,1,false),(7,1,false),(8,1,false),(9,1,false),(10,1,false)],true,11,48,[.int .u64 0,.int .u64 0,.int .u32 0,.int .u8 0,.int .u8 0,.int .u8 0,.int .u8 0,.nilFunc,.pointer none,.int .i32 0,.int .i32 0]⟩,some ⟨.struct [(0,1,false),(1,1,false),(2,1,false),(3,1,false),(4,1,false),(5,1,false),(6,1,false),(7,1,false),(8,1,false),(9,1,false),(10,1,false)],true,11,48,[.int .u64 0,.int .u64 0,.int .u32 0,.int .u8 0,.int .u8 0,.int .u8 0,.int .u8 0,.nilFunc,.pointer none,.int .i32 0,.int .i32 0]⟩,none]
def tab:Tab:=fun t=>b7F.getD t none
theorem td1:e8 Go.Proofs.Tryz.prog 1 ⟨.bas,false,1,8,[.nilFunc]⟩:=d6 (by kernel_rfl) rfl (by kernel_rfl) rfl rfl
theorem td2:e8 Go.Proofs.Tryz.prog 2 ⟨.int .i64,false,1,8,[.int .i64 0]⟩:=d6 (by kernel_rfl) rfl (by kernel_rfl) rfl rfl
theorem td3:e8 Go.Proofs.Tryz.prog 3 ⟨.int .i64,false,1,8,[.int .i64 0]⟩:=d6 (by kernel_rfl) rfl (by kernel_rfl) rfl rfl
theorem td4:e8 Go.Proofs.Tryz.prog 4 ⟨.bool,false,1,1,[.bool false]⟩:=d6 (by kernel_rfl) rfl (by kernel_rfl) rfl rfl
theorem td5:e8 Go.Proofs.Tryz.prog 5 ⟨.int .u8,false,1,1,[.int .u8 0]⟩:=d6 (by kernel_rfl) rfl (by kernel_rfl) rfl rfl
theorem td6:e8 Go.Proofs.Tryz.prog 6 ⟨.int .u8,false,1,1,[.int .u8 0]⟩:=d6 (by kernel_rfl) rfl (by kernel_rfl) rfl rfl
theorem td7:e8 Go.Proofs.Tryz.prog 7 ⟨.struct [(0,1,false),(1,1,false),(2,1,false),(3,1,false)],true,4,24,[.int .i64 0,.int .i64 0,.bool false,.int .u8 0]⟩:=d6 (by kernel_rfl) rfl (by kernel_rfl) rfl rfl
theorem td8:e8 Go.Proofs.Tryz.prog 8 ⟨.struct [(0,1,false),(1,1,false),(2,1,false),(3,1,false)],true,4,24,[.int .i64 0,.int .i64 0,.bool false,.int .u8 0]⟩:=d6 (by kernel_rfl) rfl (by kernel_rfl) rfl rfl
theorem bd5:e8 Go.Proofs.Tryz.prog 12 ⟨.int .u64,false,1,8,[.int .u64 0]⟩:=d6 (by kernel_rfl) rfl (by kernel_rfl) rfl rfl
theorem bg8:e8 Go.Proofs.Tryz.prog 15 ⟨.bas,false,1,8,[.pointer none]⟩:=d6 (by kernel_rfl) rfl (by kernel_rfl) rfl rfl
theorem bf8:e8 Go.Proofs.Tryz.prog 16 ⟨.bas,false,1,8,[.pointer none]⟩:=d6 (by kernel_rfl) rfl (by kernel_rfl) rfl rfl
theorem ba5:e8 Go.Proofs.Tryz.prog 17 ⟨.bas,false,1,8,[.pointer none]⟩:=d6 (by kernel_rfl) rfl (by kernel_rfl) rfl rfl
theorem bf4:e8 Go.Proofs.Tryz.prog 18 ⟨.struct [(0,1,false)],true,1,8,[.pointer none]⟩:=d6 (by kernel_rfl) rfl (by kernel_rfl) rfl rfl
theorem b9P:e8 Go.Proofs.Tryz.prog 19 ⟨.struct [(0,1,false)],true,1,8,[.pointer none]⟩:=d6 (by kernel_rfl) rfl (by kernel_rfl) rfl rfl
theorem bf9:e8 Go.Proofs.Tryz.prog 21 ⟨.int .i32,false,1,4,[.int .i32 0]⟩:=d6 (by kernel_rfl) rfl (by kernel_rfl) rfl rfl
theorem bb8:e8 Go.Proofs.Tryz.prog 22 ⟨.slice 77,false,1,24,[.slice none 0 0]⟩:=d6 (by kernel_rfl) rfl (by kernel_rfl) rfl rfl
theorem ba6:e8 Go.Proofs.Tryz.prog 23 ⟨.slice 79,false,1,24,[.slice none 0 0]⟩:=d6 (by kernel_rfl) rfl (by kernel_rfl) rfl rfl
theorem bg0:e8 Go.Proofs.Tryz.prog 24 ⟨.slice 209,false,1,24,[.slice none 0 0]⟩:=d6 (by kernel_rfl) rfl (by kernel_rfl) rfl rfl
theorem bd8:e8 Go.Proofs.Tryz.prog 25 ⟨.slice 54,false,1,24,[.slice none 0 0]⟩:=d6 (by kernel_rfl) rfl (by kernel_rfl) rfl rfl
theorem bf2:e8 Go.Proofs.Tryz.prog 26 ⟨.slice 216,false,1,24,[.slice none 0 0]⟩:=d6 (by kernel_rfl) rfl (by kernel_rfl) rfl rfl
theorem be2:e8 Go.Proofs.Tryz.prog 27 ⟨.struct [(0,1,false),(1,1,false),(2,1,false),(3,1,false),(4,1,false),(5,1,false),(6,1,false),(7,1,false)],true,8,144,[.int .i64 0,.int .i64 0,.int .i64 0,.slice none 0 0,.slice none 0 0,.slice none 0 0,.slice none 0 0,.slice none 0 0]⟩:=d6 (by kernel_rfl) rfl (by kernel_rfl) rfl rfl
theorem be3:e8 Go.Proofs.Tryz.prog 28 ⟨.struct [(0,1,false),(1,1,false),(2,1,false),(3,1,false),(4,1,false),(5,1,false),(6,1,false),(7,1,false)],true,8,144,[.int .i64 0,.int .i64 0,.int .i64 0,.slice none 0 0,.slice none 0 0,.slice none 0 0,.slice none 0 0,.slice none 0 0]⟩:=d6 (by kernel_rfl) rfl (by kernel_rfl) rfl rfl
theorem b9O:e8 Go.Proofs.Tryz.prog 29 ⟨.slice 34,false,1,24,[.slice none 0 0]⟩:=d6 (by kernel_rfl) rfl (by kernel_rfl) rfl rfl
theorem be4:e8 Go.Proofs.Tryz.prog 30 ⟨.slice 36,false,1,24,[.slice none 0 0]⟩:=d6 (by kernel_rfl) rfl (by kernel_rfl) rfl rfl
theorem bc1:e8 Go.Proofs.Tryz.prog 31 ⟨.struct [(0,8,false),(8,1,false),(9,1,false)],true,10,192,[.int .i64 0,.int .i64 0,.int .i64 0,.slice none 0 0,.slice none 0 0,.slice none 0 0,.slice none 0 0,.slice none 0 0,.slice none 0 0,.slice none 0 0]⟩:=d6 (by kernel_rfl) rfl (by kernel_rfl) rfl rfl
theorem ba1:e8 Go.Proofs.Tryz.prog 32 ⟨.struct [(0,8,false),(8,1,false),(9,1,false)],true,10,192,[.int .i64 0,.int .i64 0,.int .i64 0,.slice none 0 0,.slice none 0 0,.slice none 0 0,.slice none 0 0,.slice none 0 0,.slice none 0 0,.slice none 0 0]⟩:=d6 (by kernel_rfl) rfl (by kernel_rfl) rfl rfl
theorem b9J:e8 Go.Proofs.Tryz.prog 33 ⟨.struct [(0,1,false),(1,1,false),(2,1,false)],true,3,24,[.int .i64 0,.int .i64 0,.int .i64 0]⟩:=d6 (by kernel_rfl) rfl (by kernel_rfl) rfl rfl
theorem bg6:e8 Go.Proofs.Tryz.prog 34 ⟨.struct [(0,1,false),(1,1,false),(2,1,false)],true,3,24,[.int .i64 0,.int .i64 0,.int .i64 0]⟩:=d6 (by kernel_rfl) rfl (by kernel_rfl) rfl rfl
theorem b9N:e8 Go.Proofs.Tryz.prog 35 ⟨.struct [(0,1,false),(1,1,false)],true,2,16,[.int .i64 0,.int .i64 0]⟩:=d6 (by kernel_rfl) rfl (by kernel_rfl) rfl rfl
theorem bc3:e8 Go.Proofs.Tryz.prog 36 ⟨.struct [(0,1,false),(1,1,false)],true,2,16,[.int .i64 0,.int .i64 0]⟩:=d6 (by kernel_rfl) rfl (by kernel_rfl) rfl rfl
theorem bf6:e8 Go.Proofs.Tryz.prog 37 ⟨.bas,false,1,8,[.nilFunc]⟩:=d6 (by kernel_rfl) rfl (by kernel_rfl) rfl rfl
theorem bb1:e8 Go.Proofs.Tryz.prog 38 ⟨.bas,false,1,8,[.nilFunc]⟩:=d6 (by kernel_rfl) rfl (by kernel_rfl) rfl rfl
theorem bg7:e8 Go.Proofs.Tryz.prog 39 ⟨.int .i64,false,1,8,[.int .i64 0]⟩:=d6 (by kernel_rfl) rfl (by kernel_rfl) rfl rfl
theorem bc5:e8 Go.Proofs.Tryz.prog 40 ⟨.bas,false,1,8,[.nilFunc]⟩:=d6 (by kernel_rfl) rfl (by kernel_rfl) rfl rfl
theorem b9Z:e8 Go.Proofs.Tryz.prog 41 ⟨.slice 46,false,1,24,[.slice none 0 0]⟩:=d6 (by kernel_rfl) rfl (by kernel_rfl) rfl rfl
theorem bd4:e8 Go.Proofs.Tryz.prog 43 ⟨.bas,false,1,8,[.nilFunc]⟩:=d6 (by kernel_rfl) rfl (by kernel_rfl) rfl rfl
theorem bd7:e8 Go.Proofs.Tryz.prog 44 ⟨.slice 83,false,1,24,[.slice none 0 0]⟩:=d6 (by kernel_rfl) rfl (by kernel_rfl) rfl rfl
theorem bd3:e8 Go.Proofs.Tryz.prog 45 ⟨.struct [(0,1,false),(1,1,false),(2,1,false),(3,1,false),(4,1,false)],true,5,88,[.int .i64 0,.int .i64 0,.slice none 0 0,.slice none 0 0,.slice none 0 0]⟩:=d6 (by kernel_rfl) rfl (by kernel_rfl) rfl rfl
theorem bd6:e8 Go.Proofs.Tryz.prog 46 ⟨.struct [(0,1,false),(1,1,false),(2,1,false),(3,1,false),(4,1,false)],true,5,88,[.int .i64 0,.int .i64 0,.slice none 0 0,.slice none 0 0,.slice none 0 0]⟩:=d6 (by kernel_rfl) rfl (by kernel_rfl) rfl rfl
theorem bg4:e8 Go.Proofs.Tryz.prog 47 ⟨.bas,false,1,8,[.nilFunc]⟩:=d6 (by kernel_rfl) rfl (by kernel_rfl) rfl rfl
theorem b9I:e8 Go.Proofs.Tryz.prog 49 ⟨.bas,false,1,8,[.nilFunc]⟩:=d6 (by kernel_rfl) rfl (by kernel_rfl) rfl rfl
theorem bg9:e8 Go.Proofs.Tryz.prog 50 ⟨.bas,false,1,8,[.nilFunc]⟩:=d6 (by kernel_rfl) rfl (by kernel_rfl) rfl rfl
theorem b9W:e8 Go.Proofs.Tryz.prog 51 ⟨.bas,false,1,8,[.nilFunc]⟩:=d6 (by kernel_rfl) rfl (by kernel_rfl) rfl rfl
theorem b9U:e8 Go.Proofs.Tryz.prog 52 ⟨.bas,false,1,8,[.nilFunc]⟩:=d6 (by kernel_rfl) rfl (by kernel_rfl) rfl rfl
theorem bf1:e8 Go.Proofs.Tryz.prog 53 ⟨.struct [(0,1,false),(1,1,false)],true,2,16,[.int .i64 0,.int .i64 0]⟩:=d6 (by kernel_rfl) rfl (by kernel_rfl) rfl rfl
theorem b9S:e8 Go.Proofs.Tryz.prog 54 ⟨.struct [(0,1,false),(1,1,false)],true,2,16,[.int .i64 0,.int .i64 0]⟩:=d6 (by kernel_rfl) rfl (by kernel_rfl) rfl rfl
theorem bb0:e8 Go.Proofs.Tryz.prog 55 ⟨.slice 3,false,1,24,[.slice none 0 0]⟩:=d6 (by kernel_rfl) rfl (by kernel_rfl) rfl rfl
theorem be0:e8 Go.Proofs.Tryz.prog 57 ⟨.bas,false,1,8,[.nilFunc]⟩:=d6 (by kernel_rfl) rfl (by kernel_rfl) rfl rfl
theorem bc0:e8 Go.Proofs.Tryz.prog 58 ⟨.bas,false,1,8,[.nilFunc]⟩:=d6 (by kernel_rfl) rfl (by kernel_rfl) rfl rfl
theorem bg5:e8 Go.Proofs.Tryz.prog 59 ⟨.bas,false,1,8,[.nilFunc]⟩:=d6 (by kernel_rfl) rfl (by kernel_rfl) rfl rfl
theorem be7:e8 Go.Proofs.Tryz.prog 60 ⟨.bas,false,1,8,[.nilFunc]⟩:=d6 (by kernel_rfl) rfl (by kernel_rfl) rfl rfl
theorem bb3:e8 Go.Proofs.Tryz.prog 62 ⟨.bas,false,1,8,[.nilFunc]⟩:=d6 (by kernel_rfl) rfl (by kernel_rfl) rfl rfl
theorem be5:e8 Go.Proofs.Tryz.prog 63 ⟨.bas,false,1,8,[.nilFunc]⟩:=d6 (by kernel_rfl) rfl (by kernel_rfl) rfl rfl
theorem bc9:e8 Go.Proofs.Tryz.prog 64 ⟨.slice 132,false,1,24,[.slice none 0 0]⟩:=d6 (by kernel_rfl) rfl (by kernel_rfl) rfl rfl
theorem bf0:e8 Go.Proofs.Tryz.prog 65 ⟨.bas,false,1,8,[.nilFunc]⟩:=d6 (by kernel_rfl) rfl (by kernel_rfl) rfl rfl
theorem b9M:e8 Go.Proofs.Tryz.prog 66 ⟨.bas,false,1,8,[.nilFunc]⟩:=d6 (by kernel_rfl) rfl (by kernel_rfl) rfl rfl
theorem b9V:e8 Go.Proofs.Tryz.prog 67 ⟨.bas,false,1,8,[.nilFunc]⟩:=d6 (by kernel_rfl) rfl (by kernel_rfl) rfl rfl
theorem bd1:e8 Go.Proofs.Tryz.prog 68 ⟨.slice 143,false,1,24,[.slice none 0 0]⟩:=d6 (by kernel_rfl) rfl (by kernel_rfl) rfl rfl
theorem ba4:e8 Go.Proofs.Tryz.prog 69 ⟨.struct [(0,1,false),(1,1,false)],true,2,32,[.int .i64 0,.slice none 0 0]⟩:=d6 (by kernel_rfl) rfl (by kernel_rfl) rfl rfl
theorem be8:e8 Go.Proofs.Tryz.prog 70 ⟨.struct [(0,1,false),(1,1,false)],true,2,32,[.int .i64 0,.slice none 0 0]⟩:=d6 (by kernel_rfl) rfl (by kernel_rfl) rfl rfl
theorem be9:e8 Go.Proofs.Tryz.prog 72 ⟨.bas,false,1,8,[.nilFunc]⟩:=d6 (by kernel_rfl) rfl (by kernel_rfl) rfl rfl
theorem bc6:e8 Go.Proofs.Tryz.prog 73 ⟨.bas,false,1,8,[.nilFunc]⟩:=d6 (by kernel_rfl) rfl (by kernel_rfl) rfl rfl
theorem bf5:e8 Go.Proofs.Tryz.prog 74 ⟨.bas,false,1,8,[.nilFunc]⟩:=d6 (by kernel_rfl) rfl (by kernel_rfl) rfl rfl
theorem b9Q:e8 Go.Proofs.Tryz.prog 75 ⟨.bas,false,1,8,[.nilFunc]⟩:=d6 (by kernel_rfl) rfl (by kernel_rfl) rfl rfl
theorem b9T:e8 Go.Proofs.Tryz.prog 76 ⟨.struct [(0,1,false),(1,1,false),(2,1,false)],true,3,24,[.int .i64 0,.int .i64 0,.int .i64 0]⟩:=d6 (by kernel_rfl) rfl (by kernel_rfl) rfl rfl
theorem ba0:e8 Go.Proofs.Tryz.prog 77 ⟨.struct [(0,1,false),(1,1,false),(2,1,false)],true,3,24,[.int .i64 0,.int .i64 0,.int .i64 0]⟩:=d6 (by kernel_rfl) rfl (by kernel_rfl) rfl rfl
theorem ba2:e8 Go.Proofs.Tryz.prog 78 ⟨.struct [(0,1,false),(1,1,false),(2,1,false),(3,1,false),(4,1,false),(5,1,false)],true,6,48,[.int .i64 0,.int .i64 0,.int .i64 0,.int .i64 0,.int .i64 0,.bool false]⟩:=d6 (by kernel_rfl) rfl (by kernel_rfl) rfl rfl
theorem bg3:e8 Go.Proofs.Tryz.prog 79 ⟨.struct [(0,1,false),(1,1,false),(2,1,false),(3,1,false),(4,1,false),(5,1,false)],true,6,48,[.int .i64 0,.int .i64 0,.int .i64 0,.int .i64 0,.int .i64 0,.bool false]⟩:=d6 (by kernel_rfl) rfl (by kernel_rfl) rfl rfl
theorem be6:e8 Go.Proofs.Tryz.prog 80 ⟨.struct [(0,1,false),(1,1,false)],true,2,32,[.int .i64 0,.slice none 0 0]⟩:=d6 (by kernel_rfl) rfl (by kernel_rfl) rfl rfl
theorem be1:e8 Go.Proofs.Tryz.prog 81 ⟨.struct [(0,1,false),(1,1,false)],true,2,32,[.int .i64 0,.slice none 0 0]⟩:=d6 (by kernel_rfl) rfl (by kernel_rfl) rfl rfl
theorem bc4:e8 Go.Proofs.Tryz.prog 82 ⟨.struct [(0,2,false),(2,2,false)],true,4,64,[.int .i64 0,.slice none 0 0,.int .i64 0,.slice none 0 0]⟩:=d6 (by kernel_rfl) rfl (by kernel_rfl) rfl rfl
theorem bd2:e8 Go.Proofs.Tryz.prog 83 ⟨.struct [(0,2,false),(2,2,false)],true,4,64,[.int .i64 0,.slice none 0 0,.int .i64 0,.slice none 0 0]⟩:=d6 (by kernel_rfl) rfl (by kernel_rfl) rfl rfl
theorem b9R:e8 Go.Proofs.Tryz.prog 84 ⟨.bas,false,1,8,[.nilFunc]⟩:=d6 (by kernel_rfl) rfl (by kernel_rfl) rfl rfl
theorem b9X:e8 Go.Proofs.Tryz.prog 86 ⟨.bas,false,1,8,[.nilFunc]⟩:=d6 (by kernel_rfl) rfl (by kernel_rfl) rfl rfl
theorem bh0:e8 Go.Proofs.Tryz.prog 87 ⟨.bas,false,1,8,[.nilFunc]⟩:=d6 (by kernel_rfl) rfl (by kernel_rfl) rfl rfl
theorem bb4:e8 Go.Proofs.Tryz.prog 88 ⟨.bas,false,1,8,[.nilFunc]⟩:=d6 (by kernel_rfl) rfl (by kernel_rfl) rfl rfl
theorem b9Y:e8 Go.Proofs.Tryz.prog 89 ⟨.bas,false,1,8,[.nilFunc]⟩:=d6 (by kernel_rfl) rfl (by kernel_rfl) rfl rfl
theorem bd0:e8 Go.Proofs.Tryz.prog 90 ⟨.bas,false,1,8,[.nilFunc]⟩:=d6 (by kernel_rfl) rfl (by kernel_rfl) rfl rfl
theorem bd9:e8 Go.Proofs.Tryz.prog 92 ⟨.bas,false,1,8,[.nilFunc]⟩:=d6 (by kernel_rfl) rfl (by kernel_rfl) rfl rfl
theorem ba9:e8 Go.Proofs.Tryz.prog 93 ⟨.slice 4,false,1,24,[.slice none 0 0]⟩:=d6 (by kernel_rfl) rfl (by kernel_rfl) rfl rfl
theorem bb2:e8 Go.Proofs.Tryz.prog 95 ⟨.bas,false,1,8,[.nilFunc]⟩:=d6 (by kernel_rfl) rfl (by kernel_rfl) rfl rfl
theorem bb7:e8 Go.Proofs.Tryz.prog 96 ⟨.bas,false,1,8,[.nilFunc]⟩:=d6 (by kernel_rfl) rfl (by kernel_rfl) rfl rfl
theorem bb6:e8 Go.Proofs.Tryz.prog 98 ⟨.bas,false,1,8,[.nilFunc]⟩:=d6 (by kernel_rfl) rfl (by kernel_rfl) rfl rfl
theorem bf3:e8 Go.Proofs.Tryz.prog 99 ⟨.slice 44,false,1,24,[.slice none 0 0]⟩:=d6 (by kernel_rfl) rfl (by kernel_rfl) rfl rfl
theorem b6s:e8 Go.Proofs.Tryz.prog 100 ⟨.bas,false,1,8,[.nilFunc]⟩:=d6 (by kernel_rfl) rfl (by kernel_rfl) rfl rfl
theorem b80:e8 Go.Proofs.Tryz.prog 101 ⟨.bas,false,1,8,[.nilFunc]⟩:=d6 (by kernel_rfl) rfl (by kernel_rfl) rfl rfl
theorem b9y:e8 Go.Proofs.Tryz.prog 103 ⟨.bas,false,1,8,[.nilFunc]⟩:=d6 (by kernel_rfl) rfl (by kernel_rfl) rfl rfl
theorem b96:e8 Go.Proofs.Tryz.prog 104 ⟨.bas,false,1,8,[.nilFunc]⟩:=d6 (by kernel_rfl) rfl (by kernel_rfl) rfl rfl
theorem b8t:e8 Go.Proofs.Tryz.prog 105 ⟨.bas,false,1,8,[.nilFunc]⟩:=d6 (by kernel_rfl) rfl (by kernel_rfl) rfl rfl
theorem b65:e8 Go.Proofs.Tryz.prog 106 ⟨.bas,false,1,8,[.nilFunc]⟩:=d6 (by kernel_rfl) rfl (by kernel_rfl) rfl rfl
theorem b7N:e8 Go.Proofs.Tryz.prog 107 ⟨.bas,false,1,8,[.nilFunc]⟩:=d6 (by kernel_rfl) rfl (by kernel_rfl) rfl rfl
theorem b7t:e8 Go.Proofs.Tryz.prog 108 ⟨.bas,false,1,8,[.nilFunc]⟩:=d6 (by kernel_rfl) rfl (by kernel_rfl) rfl rfl
theorem b8h:e8 Go.Proofs.Tryz.prog 109 ⟨.bas,false,1,8,[.nilFunc]⟩:=d6 (by kernel_rfl) rfl (by kernel_rfl) rfl rfl
theorem b7x:e8 Go.Proofs.Tryz.prog 111 ⟨.bas,false,1,8,[.nilFunc]⟩:=d6 (by kernel_rfl) rfl (by kernel_rfl) rfl rfl
theorem b7n:e8 Go.Proofs.Tryz.prog 112 ⟨.bas,false,1,8,[.nilFunc]⟩:=d6 (by kernel_rfl) rfl (by kernel_rfl) rfl rfl
theorem b8x:e8 Go.Proofs.Tryz.prog 113 ⟨.bas,false,1,8,[.nilFunc]⟩:=d6 (by kernel_rfl) rfl (by kernel_rfl) rfl rfl
theorem b5X:e8 Go.Proofs.Tryz.prog 114 ⟨.bas,false,1,8,[.nilFunc]⟩:=d6 (by kernel_rfl) rfl (by kernel_rfl) rfl rfl
theorem b7S:e8 Go.Proofs.Tryz.prog 115 ⟨.bas,false,1,8,[.nilFunc]⟩:=d6 (by kernel_rfl) rfl (by kernel_rfl) rfl rfl
theorem b6D:e8 Go.Proofs.Tryz.prog 116 ⟨.slice 119,false,1,24,[.slice none 0 0]⟩:=d6 (by kernel_rfl) rfl (by kernel_rfl) rfl rfl
theorem b6g:e8 Go.Proofs.Tryz.prog 117 ⟨.bas,false,1,8,[.nilFunc]⟩:=d6 (by kernel_rfl) rfl (by kernel_rfl) rfl rfl
theorem b6j:e8 Go.Proofs.Tryz.prog 118 ⟨.struct [(0,4,false),(4,1,false),(5,1,false),(6,1,false)],true,7,104,[.int .i64 0,.slice none 0 0,.int .i64 0,.slice none 0 0,.bool false,.slice none 0 0,.int .i64 0]⟩:=d6 (by kernel_rfl) rfl (by kernel_rfl) rfl rfl
theorem b5U:e8 Go.Proofs.Tryz.prog 119 ⟨.struct [(0,4,false),(4,1,false),(5,1,false),(6,1,false)],true,7,104,[.int .i64 0,.slice none 0 0,.int .i64 0,.slice none 0 0,.bool false,.slice none 0 0,.int .i64 0]⟩:=d6 (by kernel_rfl) rfl (by kernel_rfl) rfl rfl
theorem b6i:e8 Go.Proofs.Tryz.prog 120 ⟨.bas,false,1,8,[.nilFunc]⟩:=d6 (by kernel_rfl) rfl (by kernel_rfl) rfl rfl
theorem b6A:e8 Go.Proofs.Tryz.prog 121 ⟨.bas,false,1,8,[.nilFunc]⟩:=d6 (by kernel_rfl) rfl (by kernel_rfl) rfl rfl
theorem b8U:e8 Go.Proofs.Tryz.prog 122 ⟨.bas,false,1,8,[.nilFunc]⟩:=d6 (by kernel_rfl) rfl (by kernel_rfl) rfl rfl
theorem b9z:e8 Go.Proofs.Tryz.prog 123 ⟨.slice 127,false,1,24,[.slice none 0 0]⟩:=d6 (by kernel_rfl) rfl (by kernel_rfl) rfl rfl
theorem b8E:e8 Go.Proofs.Tryz.prog 124 ⟨.bas,false,1,8,[.nilFunc]⟩:=d6 (by kernel_rfl) rfl (by kernel_rfl) rfl rfl
theorem b6H:e8 Go.Proofs.Tryz.prog 125 ⟨.bas,false,1,8,[.nilFunc]⟩:=d6 (by kernel_rfl) rfl (by kernel_rfl) rfl rfl
theorem b89:e8 Go.Proofs.Tryz.prog 126 ⟨.struct [(0,1,false),(1,1,false),(2,1,false)],true,3,56,[.int .i64 0,.slice none 0 0,.slice none 0 0]⟩:=d6 (by kernel_rfl) rfl (by kernel_rfl) rfl rfl
theorem b9p:e8 Go.Proofs.Tryz.prog 127 ⟨.struct [(0,1,false),(1,1,false),(2,1,false)],true,3,56,[.int .i64 0,.slice none 0 0,.slice none 0 0]⟩:=d6 (by kernel_rfl) rfl (by kernel_rfl) rfl rfl
theorem b8B:e8 Go.Proofs.Tryz.prog 128 ⟨.bas,false,1,8,[.nilFunc]⟩:=d6 (by kernel_rfl) rfl (by kernel_rfl) rfl rfl
theorem b6k:e8 Go.Proofs.Tryz.prog 129 ⟨.bas,false,1,8,[.nilFunc]⟩:=d6 (by kernel_rfl) rfl (by kernel_rfl) rfl rfl
theorem b8F:e8 Go.Proofs.Tryz.prog 130 ⟨.bas,false,1,8,[.nilFunc]⟩:=d6 (by kernel_rfl) rfl (by kernel_rfl) rfl rfl
theorem b9A:e8 Go.Proofs.Tryz.prog 131 ⟨.struct [(0,1,false),(1,4,false)],true,5,72,[.int .i64 0,.int .i64 0,.slice none 0 0,.int .i64 0,.slice none 0 0]⟩:=d6 (by kernel_rfl) rfl (by kernel_rfl) rfl rfl
theorem b8N:e8 Go.Proofs.Tryz.prog 132 ⟨.struct [(0,1,false),(1,4,false)],true,5,72,[.int .i64 0,.int .i64 0,.slice none 0 0,.int .i64 0,.slice none 0 0]⟩:=d6 (by kernel_rfl) rfl (by kernel_rfl) rfl rfl
theorem b9r:e8 Go.Proofs.Tryz.prog 133 ⟨.bas,false,1,8,[.nilFunc]⟩:=d6 (by kernel_rfl) rfl (by kernel_rfl) rfl rfl
theorem b92:e8 Go.Proofs.Tryz.prog 134 ⟨.bas,false,1,8,[.nilFunc]⟩:=d6 (by kernel_rfl) rfl (by kernel_rfl) rfl rfl
theorem b84:e8 Go.Proofs.Tryz.prog 135 ⟨.bas,false,1,8,[.nilFunc]⟩:=d6 (by kernel_rfl) rfl (by kernel_rfl) rfl rfl
theorem b6z:e8 Go.Proofs.Tryz.prog 137 ⟨.bas,false,1,8,[.nilFunc]⟩:=d6 (by kernel_rfl) rfl (by kernel_rfl) rfl rfl
theorem b6r:e8 Go.Proofs.Tryz.prog 138 ⟨.bas,false,1,8,[.nilFunc]⟩:=d6 (by kernel_rfl) rfl (by kernel_rfl) rfl rfl
theorem b7Q:e8 Go.Proofs.Tryz.prog 139 ⟨.bas,false,1,8,[.nilFunc]⟩:=d6 (by kernel_rfl) rfl (by kernel_rfl) rfl rfl
theorem b8A:e8 Go.Proofs.Tryz.prog 140 ⟨.bas,false,1,8,[.nilFunc]⟩:=d6 (by kernel_rfl) rfl (by kernel_rfl) rfl rfl
theorem b6Q:e8 Go.Proofs.Tryz.prog 141 ⟨.bas,false,1,8,[.nilFunc]⟩:=d6 (by kernel_rfl) rfl (by kernel_rfl) rfl rfl
theorem b7i:e8 Go.Proofs.Tryz.prog 142 ⟨.struct [(0,1,false),(1,1,false),(2,4,false)],true,6,96,[.slice none 0 0,.int .i64 0,.int .i64 0,.slice none 0 0,.int .i64 0,.slice none 0 0]⟩:=d6 (by kernel_rfl) rfl (by kernel_rfl) rfl rfl
theorem b7P:e8 Go.Proofs.Tryz.prog 143 ⟨.struct [(0,1,false),(1,1,false),(2,4,false)],true,6,96,[.slice none 0 0,.int .i64 0,.int .i64 0,.slice none 0 0,.int .i64 0,.slice none 0 0]⟩:=d6 (by kernel_rfl) rfl (by kernel_rfl) rfl rfl
theorem b9C:e8 Go.Proofs.Tryz.prog 145 ⟨.bas,false,1,8,[.nilFunc]⟩:=d6 (by kernel_rfl) rfl (by kernel_rfl) rfl rfl
theorem b97:e8 Go.Proofs.Tryz.prog 146 ⟨.bas,false,1,8,[.nilFunc]⟩:=d6 (by kernel_rfl) rfl (by kernel_rfl) rfl rfl
theorem b67:e8 Go.Proofs.Tryz.prog 147 ⟨.bas,false,1,8,[.nilFunc]⟩:=d6 (by kernel_rfl) rfl (by kernel_rfl) rfl rfl
theorem b9G:e8 Go.Proofs.Tryz.prog 148 ⟨.bas,false,1,8,[.nilFunc]⟩:=d6 (by kernel_rfl) rfl (by kernel_rfl) rfl rfl
theorem b5V:e8 Go.Proofs.Tryz.prog 149 ⟨.bas,false,1,8,[.nilFunc]⟩:=d6 (by kernel_rfl) rfl (by kernel_rfl) rfl rfl
theorem b8y:e8 Go.Proofs.Tryz.prog 150 ⟨.bas,false,1,8,[.nilFunc]⟩:=d6 (by kernel_rfl) rfl (by kernel_rfl) rfl rfl
theorem b79:e8 Go.Proofs.Tryz.prog 152 ⟨.bas,false,1,8,[.nilFunc]⟩:=d6 (by kernel_rfl) rfl (by kernel_rfl) rfl rfl
theorem b7d:e8 Go.Proofs.Tryz.prog 153 ⟨.bas,false,1,8,[.nilFunc]⟩:=d6 (by kernel_rfl) rfl (by kernel_rfl) rfl rfl
theorem b6W:e8 Go.Proofs.Tryz.prog 155 ⟨.bas,false,1,8,[.nilFunc]⟩:=d6 (by kernel_rfl) rfl (by kernel_rfl) rfl rfl
theorem b8f:e8 Go.Proofs.Tryz.prog 156 ⟨.bas,false,1,8,[.nilFunc]⟩:=d6 (by kernel_rfl) rfl (by kernel_rfl) rfl rfl
theorem b7c:e8 Go.Proofs.Tryz.prog 157 ⟨.bas,false,1,8,[.nilFunc]⟩:=d6 (by kernel_rfl) rfl (by kernel_rfl) rfl rfl
theorem b68:e8 Go.Proofs.Tryz.prog 158 ⟨.bas,false,1,8,[.nilFunc]⟩:=d6 (by kernel_rfl) rfl (by kernel_rfl) rfl rfl
theorem b8Y:e8 Go.Proofs.Tryz.prog 159 ⟨.bas,false,1,8,[.nilFunc]⟩:=d6 (by kernel_rfl) rfl (by kernel_rfl) rfl rfl
theorem b7y:e8 Go.Proofs.Tryz.prog 161 ⟨.bas,false,1,8,[.nilFunc]⟩:=d6 (by kernel_rfl) rfl (by kernel_rfl) rfl rfl
theorem b8W:e8 Go.Proofs.Tryz.prog 162 ⟨.bas,false,1,8,[.nilFunc]⟩:=d6 (by kernel_rfl) rfl (by kernel_rfl) rfl rfl
theorem b6M:e8 Go.Proofs.Tryz.prog 163 ⟨.bas,false,1,8,[.nilFunc]⟩:=d6 (by kernel_rfl) rfl (by kernel_rfl) rfl rfl
theorem b6q:e8 Go.Proofs.Tryz.prog 164 ⟨.bas,false,1,8,[.nilFunc]⟩:=d6 (by kernel_rfl) rfl (by kernel_rfl) rfl rfl
theorem b9f:e8 Go.Proofs.Tryz.prog 165 ⟨.bas,false,1,8,[.nilFunc]⟩:=d6 (by kernel_rfl) rfl (by kernel_rfl) rfl rfl
theorem b6J:e8 Go.Proofs.Tryz.prog 166 ⟨.bas,false,1,8,[.nilFunc]⟩:=d6 (by kernel_rfl) rfl (by kernel_rfl) rfl rfl
theorem b8l:e8 Go.Proofs.Tryz.prog 167 ⟨.struct [(0,1,false),(1,4,false),(5,1,false),(6,1,false),(7,1,false)],true,8,144,[.int .i64 0,.int .i64 0,.slice none 0 0,.int .i64 0,.slice none 0 0,.slice none 0 0,.slice none 0 0,.slice none 0 0]⟩:=d6 (by kernel_rfl) rfl (by kernel_rfl) rfl rfl
theorem b8K:e8 Go.Proofs.Tryz.prog 168 ⟨.struct [(0,1,false),(1,4,false),(5,1,false),(6,1,false),(7,1,false)],true,8,144,[.int .i64 0,.int .i64 0,.slice none 0 0,.int .i64 0,.slice none 0 0,.slice none 0 0,.slice none 0 0,.slice none 0 0]⟩:=d6 (by kernel_rfl) rfl (by kernel_rfl) rfl rfl
theorem b5Y:e8 Go.Proofs.Tryz.prog 170 ⟨.bas,false,1,8,[.nilFunc]⟩:=d6 (by kernel_rfl) rfl (by kernel_rfl) rfl rfl
theorem b6t:e8 Go.Proofs.Tryz.prog 171 ⟨.bas,false,1,8,[.nilFunc]⟩:=d6 (by kernel_rfl) rfl (by kernel_rfl) rfl rfl
theorem b7R:e8 Go.Proofs.Tryz.prog 172 ⟨.bas,false,1,8,[.nilFunc]⟩:=d6 (by kernel_rfl) rfl (by kernel_rfl) rfl rfl
theorem b9j:e8 Go.Proofs.Tryz.prog 173 ⟨.bas,false,1,8,[.nilFunc]⟩:=d6 (by kernel_rfl) rfl (by kernel_rfl) rfl rfl
theorem b9H:e8 Go.Proofs.Tryz.prog 174 ⟨.bas,false,1,8,[.nilFunc]⟩:=d6 (by kernel_rfl) rfl (by kernel_rfl) rfl rfl
theorem b6b:e8 Go.Proofs.Tryz.prog 175 ⟨.bas,false,1,8,[.nilFunc]⟩:=d6 (by kernel_rfl) rfl (by kernel_rfl) rfl rfl
theorem b90:e8 Go.Proofs.Tryz.prog 176 ⟨.bas,false,1,8,[.nilFunc]⟩:=d6 (by kernel_rfl) rfl (by kernel_rfl) rfl rfl
theorem b7j:e8 Go.Proofs.Tryz.prog 177 ⟨.bas,false,1,8,[.nilFunc]⟩:=d6 (by kernel_rfl) rfl (by kernel_rfl) rfl rfl
theorem b6V:e8 Go.Proofs.Tryz.prog 178 ⟨.bas,false,1,8,[.nilFunc]⟩:=d6 (by kernel_rfl) rfl (by kernel_rfl) rfl rfl
theorem b7a:e8 Go.Proofs.Tryz.prog 179 ⟨.bas,false,1,8,[.nilFunc]⟩:=d6 (by kernel_rfl) rfl (by kernel_rfl) rfl rfl
theorem b6y:e8 Go.Proofs.Tryz.prog 180 ⟨.slice 64,false,1,24,[.slice none 0 0]⟩:=d6 (by kernel_rfl) rfl (by kernel_rfl) rfl rfl
theorem b61:e8 Go.Proofs.Tryz.prog 181 ⟨.bas,false,1,8,[.nilFunc]⟩:=d6 (by kernel_rfl) rfl (by kernel_rfl) rfl rfl
theorem b6R:e8 Go.Proofs.Tryz.prog 183 ⟨.bas,false,1,8,[.nilFunc]⟩:=d6 (by kernel_rfl) rfl (by kernel_rfl) rfl rfl
theorem b8p:e8 Go.Proofs.Tryz.prog 184 ⟨.bas,false,1,8,[.nilFunc]⟩:=d6 (by kernel_rfl) rfl (by kernel_rfl) rfl rfl
theorem b6U:e8 Go.Proofs.Tryz.prog 185 ⟨.bas,false,1,8,[.nilFunc]⟩:=d6 (by kernel_rfl) rfl (by kernel_rfl) rfl rfl
theorem b7q:e8 Go.Proofs.Tryz.prog 186 ⟨.bas,false,1,8,[.nilFunc]⟩:=d6 (by kernel_rfl) rfl (by kernel_rfl) rfl rfl
theorem b7v:e8 Go.Proofs.Tryz.prog 187 ⟨.bas,false,1,8,[.nilFunc]⟩:=d6 (by kernel_rfl) rfl (by kernel_rfl) rfl rfl
theorem b8M:e8 Go.Proofs.Tryz.prog 188 ⟨.bas,false,1,8,[.nilFunc]⟩:=d6 (by kernel_rfl) rfl (by kernel_rfl) rfl rfl
theorem b72:e8 Go.Proofs.Tryz.prog 189 ⟨.bas,false,1,8,[.nilFunc]⟩:=d6 (by kernel_rfl) rfl (by kernel_rfl) rfl rfl
theorem b91:e8 Go.Proofs.Tryz.prog 190 ⟨.bas,false,1,8,[.nilFunc]⟩:=d6 (by kernel_rfl) rfl (by kernel_rfl) rfl rfl
theorem b9c:e8 Go.Proofs.Tryz.prog 192 ⟨.bas,false,1,8,[.nilFunc]⟩:=d6 (by kernel_rfl) rfl (by kernel_rfl) rfl rfl
theorem b7z:e8 Go.Proofs.Tryz.prog 193 ⟨.bas,false,1,8,[.nilFunc]⟩:=d6 (by kernel_rfl) rfl (by kernel_rfl) rfl rfl
theorem b83:e8 Go.Proofs.Tryz.prog 194 ⟨.bas,false,1,8,[.nilFunc]⟩:=d6 (by kernel_rfl) rfl (by kernel_rfl) rfl rfl
theorem b85:e8 Go.Proofs.Tryz.prog 195 ⟨.bas,false,1,8,[.nilFunc]⟩:=d6 (by kernel_rfl) rfl (by kernel_rfl) rfl rfl
theorem b6l:e8 Go.Proofs.Tryz.prog 196 ⟨.bas,false,1,8,[.nilFunc]⟩:=d6 (by kernel_rfl) rfl (by kernel_rfl) rfl rfl
theorem b63:e8 Go.Proofs.Tryz.prog 197 ⟨.bas,false,1,8,[.nilFunc]⟩:=d6 (by kernel_rfl) rfl (by kernel_rfl) rfl rfl
theorem b8d:e8 Go.Proofs.Tryz.prog 198 ⟨.bas,false,1,8,[.nilFunc]⟩:=d6 (by kernel_rfl) rfl (by kernel_rfl) rfl rfl
theorem b7W:e8 Go.Proofs.Tryz.prog 199 ⟨.bas,false,1,8,[.nilFunc]⟩:=d6 (by kernel_rfl) rfl (by kernel_rfl) rfl rfl
theorem b6c:e8 Go.Proofs.Tryz.prog 200 ⟨.bas,false,1,8,[.nilFunc]⟩:=d6 (by kernel_rfl) rfl (by kernel_rfl) rfl rfl
theorem b7C:e8 Go.Proofs.Tryz.prog 201 ⟨.bas,false,1,8,[.nilFunc]⟩:=d6 (by kernel_rfl) rfl (by kernel_rfl) rfl rfl
theorem b9E:e8 Go.Proofs.Tryz.prog 203 ⟨.bas,false,1,8,[.nilFunc]⟩:=d6 (by kernel_rfl) rfl (by kernel_rfl) rfl rfl
theorem b98:e8 Go.Proofs.Tryz.prog 205 ⟨.bas,false,1,8,[.nilFunc]⟩:=d6 (by kernel_rfl) rfl (by kernel_rfl) rfl rfl
theorem b8H:e8 Go.Proofs.Tryz.prog 206 ⟨.bas,false,1,8,[.nilFunc]⟩:=d6 (by kernel_rfl) rfl (by kernel_rfl) rfl rfl
theorem b8C:e8 Go.Proofs.Tryz.prog 207 ⟨.bas,false,1,8,[.nilFunc]⟩:=d6 (by kernel_rfl) rfl (by kernel_rfl) rfl rfl
theorem b7V:e8 Go.Proofs.Tryz.prog 208 ⟨.struct [(0,1,false),(1,1,false),(2,1,false),(3,1,false),(4,1,false),(5,1,false)],true,6,48,[.int .i64 0,.int .i64 0,.int .i64 0,.int .i64 0,.int .i64 0,.int .i64 0]⟩:=d6 (by kernel_rfl) rfl (by kernel_rfl) rfl rfl
theorem b6x:e8 Go.Proofs.Tryz.prog 209 ⟨.struct [(0,1,false),(1,1,false),(2,1,false),(3,1,false),(4,1,false),(5,1,false)],true,6,48,[.int .i64 0,.int .i64 0,.int .i64 0,.int .i64 0,.int .i64 0,.int .i64 0]⟩:=d6 (by kernel_rfl) rfl (by kernel_rfl) rfl rfl
theorem b7U:e8 Go.Proofs.Tryz.prog 210 ⟨.bas,false,1,8,[.nilFunc]⟩:=d6 (by kernel_rfl) rfl (by kernel_rfl) rfl rfl
theorem b76:e8 Go.Proofs.Tryz.prog 211 ⟨.bas,false,1,8,[.nilFunc]⟩:=d6 (by kernel_rfl) rfl (by kernel_rfl) rfl rfl
theorem b6C:e8 Go.Proofs.Tryz.prog 212 ⟨.arr 2 3,true,2,16,[.int .i64 0,.int .i64 0]⟩:=d6 (by kernel_rfl) rfl (by kernel_rfl) rfl rfl
theorem b6N:e8 Go.Proofs.Tryz.prog 213 ⟨.slice 212,false,1,24,[.slice none 0 0]⟩:=d6 (by kernel_rfl) rfl (by kernel_rfl) rfl rfl
theorem b8Z:e8 Go.Proofs.Tryz.prog 214 ⟨.bas,false,1,8,[.nilFunc]⟩:=d6 (by kernel_rfl) rfl (by kernel_rfl) rfl rfl
theorem b8m:e8 Go.Proofs.Tryz.prog 215 ⟨.struct [(0,1,false),(1,1,false),(2,1,false),(3,1,false)],true,4,32,[.int .i64 0,.int .i64 0,.int .i64 0,.int .i64 0]⟩:=d6 (by kernel_rfl) rfl (by kernel_rfl) rfl rfl
theorem b7T:e8 Go.Proofs.Tryz.prog 216 ⟨.struct [(0,1,false),(1,1,false),(2,1,false),(3,1,false)],true,4,32,[.int .i64 0,.int .i64 0,.int .i64 0,.int .i64 0]⟩:=d6 (by kernel_rfl) rfl (by kernel_rfl) rfl rfl
theorem b9g:e8 Go.Proofs.Tryz.prog 217 ⟨.bas,false,1,8,[.pointer none]⟩:=d6 (by kernel_rfl) rfl (by kernel_rfl) rfl rfl
theorem b8v:e8 Go.Proofs.Tryz.prog 218 ⟨.bas,false,1,8,[.nilFunc]⟩:=d6 (by kernel_rfl) rfl (by kernel_rfl) rfl rfl
theorem b7u:e8 Go.Proofs.Tryz.prog 220 ⟨.bas,false,1,8,[.nilFunc]⟩:=d6 (by kernel_rfl) rfl (by kernel_rfl) rfl rfl
theorem b7D:e8 Go.Proofs.Tryz.prog 221 ⟨.bas,false,1,8,[.nilFunc]⟩:=d6 (by kernel_rfl) rfl (by kernel_rfl) rfl rfl
theorem b9F:e8 Go.Proofs.Tryz.prog 222 ⟨.bas,false,1,8,[.nilFunc]⟩:=d6 (by kernel_rfl) rfl (by kernel_rfl) rfl rfl
theorem b9k:e8 Go.Proofs.Tryz.prog 223 ⟨.bas,false,1,8,[.nilFunc]⟩:=d6 (by kernel_rfl) rfl (by kernel_rfl) rfl rfl
theorem b9v:e8 Go.Proofs.Tryz.prog 224 ⟨.bas,false,1,8,[.nilFunc]⟩:=d6 (by kernel_rfl) rfl (by kernel_rfl) rfl rfl
theorem b78:e8 Go.Proofs.Tryz.prog 225 ⟨.bas,false,1,8,[.nilFunc]⟩:=d6 (by kernel_rfl) rfl (by kernel_rfl) rfl rfl
theorem b8I:e8 Go.Proofs.Tryz.prog 226 ⟨.bas,false,1,8,[.nilFunc]⟩:=d6 (by kernel_rfl) rfl (by kernel_rfl) rfl rfl
theorem b6n:e8 Go.Proofs.Tryz.prog 227 ⟨.bas,false,1,8,[.nilFunc]⟩:=d6 (by kernel_rfl) rfl (by kernel_rfl) rfl rfl
theorem b7g:e8 Go.Proofs.Tryz.prog 228 ⟨.bas,false,1,8,[.nilFunc]⟩:=d6 (by kernel_rfl) rfl (by kernel_rfl) rfl rfl
theorem b6G:e8 Go.Proofs.Tryz.prog 229 ⟨.int .u64,false,1,8,[.int .u64 0]⟩:=d6 (by kernel_rfl) rfl (by kernel_rfl) rfl rfl
theorem b9B:e8 Go.Proofs.Tryz.prog 230 ⟨.int .u64,false,1,8,[.int .u64 0]⟩:=d6 (by kernel_rfl) rfl (by kernel_rfl) rfl rfl
theorem b9q:e8 Go.Proofs.Tryz.prog 231 ⟨.bas,false,1,8,[.nilFunc]⟩:=d6 (by kernel_rfl) rfl (by kernel_rfl) rfl rfl
theorem b70:e8 Go.Proofs.Tryz.prog 232 ⟨.bas,false,1,8,[.nilFunc]⟩:=d6 (by kernel_rfl) rfl (by kernel_rfl) rfl rfl
theorem b8e:e8 Go.Proofs.Tryz.prog 233 ⟨.bas,false,1,8,[.nilFunc]⟩:=d6 (by kernel_rfl) rfl (by kernel_rfl) rfl rfl
theorem b8O:e8 Go.Proofs.Tryz.prog 234 ⟨.bas,false,1,8,[.nilFunc]⟩:=d6 (by kernel_rfl) rfl (by kernel_rfl) rfl rfl
theorem b9m:e8 Go.Proofs.Tryz.prog 235 ⟨.bas,false,1,8,[.nilFunc]⟩:=d6 (by kernel_rfl) rfl (by kernel_rfl) rfl rfl
theorem b8P:e8 Go.Proofs.Tryz.prog 236 ⟨.bas,false,1,8,[.nilFunc]⟩:=d6 (by kernel_rfl) rfl (by kernel_rfl) rfl rfl
theorem b8D:e8 Go.Proofs.Tryz.prog 237 ⟨.bas,false,1,8,[.pointer none]⟩:=d6 (by kernel_rfl) rfl (by kernel_rfl) rfl rfl
theorem b7o:e8 Go.Proofs.Tryz.prog 238 ⟨.bas,false,1,8,[.nilFunc]⟩:=d6 (by kernel_rfl) rfl (by kernel_rfl) rfl rfl
theorem b60:e8 Go.Proofs.Tryz.prog 239 ⟨.bas,false,1,8,[.nilFunc]⟩:=d6 (by kernel_rfl) rfl (by kernel_rfl) rfl rfl
theorem b8u:e8 Go.Proofs.Tryz.prog 240 ⟨.bas,false,1,8,[.nilFunc]⟩:=d6 (by kernel_rfl) rfl (by kernel_rfl) rfl rfl
theorem b8n:e8 Go.Proofs.Tryz.prog 241 ⟨.bas,false,1,8,[.nilFunc]⟩:=d6 (by kernel_rfl) rfl (by kernel_rfl) rfl rfl
theorem b75:e8 Go.Proofs.Tryz.prog 242 ⟨.bas,false,1,8,[.nilFunc]⟩:=d6 (by kernel_rfl) rfl (by kernel_rfl) rfl rfl
theorem b7O:e8 Go.Proofs.Tryz.prog 243 ⟨.bas,false,1,8,[.nilFunc]⟩:=d6 (by kernel_rfl) rfl (by kernel_rfl) rfl rfl
theorem b86:e8 Go.Proofs.Tryz.prog 244 ⟨.bas,false,1,8,[.nilFunc]⟩:=d6 (by kernel_rfl) rfl (by kernel_rfl) rfl rfl
theorem b81:e8 Go.Proofs.Tryz.prog 245 ⟨.bas,false,1,8,[.nilFunc]⟩:=d6 (by kernel_rfl) rfl (by kernel_rfl) rfl rfl
theorem b7e:e8 Go.Proofs.Tryz.prog 246 ⟨.bas,false,1,8,[.nilFunc]⟩:=d6 (by kernel_rfl) rfl (by kernel_rfl) rfl rfl
theorem b6O:e8 Go.Proofs.Tryz.prog 247 ⟨.bas,false,1,8,[.nilFunc]⟩:=d6 (by kernel_rfl) rfl (by kernel_rfl) rfl rfl
theorem b9s:e8 Go.Proofs.Tryz.prog 248 ⟨.bas,false,1,8,[.nilFunc]⟩:=d6 (by kernel_rfl) rfl (by kernel_rfl) rfl rfl
theorem b64:e8 Go.Proofs.Tryz.prog 249 ⟨.bas,false,1,8,[.nilFunc]⟩:=d6 (by kernel_rfl) rfl (by kernel_rfl) rfl rfl
theorem b6e:e8 Go.Proofs.Tryz.prog 250 ⟨.bas,false,1,8,[.nilFunc]⟩:=d6 (by kernel_rfl) rfl (by kernel_rfl) rfl rfl
theorem b8o:e8 Go.Proofs.Tryz.prog 252 ⟨.bas,false,1,8,[.nilFunc]⟩:=d6 (by kernel_rfl) rfl (by kernel_rfl) rfl rfl
theorem b6d:e8 Go.Proofs.Tryz.prog 253 ⟨.slice 259,false,1,24,[.slice none 0 0]⟩:=d6 (by kernel_rfl) rfl (by kernel_rfl) rfl rfl
theorem b7b:e8 Go.Proofs.Tryz.prog 254 ⟨.slice 284,false,1,24,[.slice none 0 0]⟩:=d6 (by kernel_rfl) rfl (by kernel_rfl) rfl rfl
theorem b6F:e8 Go.Proofs.Tryz.prog 255 ⟨.struct [(0,1,false),(1,1,false),(2,1,false),(3,1,false),(4,1,false),(5,1,false)],true,6,128,[.int .i64 0,.slice none 0 0,.slice none 0 0,.slice none 0 0,.slice none 0 0,.slice none 0 0]⟩:=d6 (by kernel_rfl) rfl (by kernel_rfl) rfl rfl
theorem b6v:e8 Go.Proofs.Tryz.prog 256 ⟨.struct [(0,1,false),(1,1,false),(2,1,false),(3,1,false),(4,1,false),(5,1,false)],true,6,128,[.int .i64 0,.slice none 0 0,.slice none 0 0,.slice none 0 0,.slice none 0 0,.slice none 0 0]⟩:=d6 (by kernel_rfl) rfl (by kernel_rfl) rfl rfl
theorem b66:e8 Go.Proofs.Tryz.prog 257 ⟨.bas,false,1,8,[.nilFunc]⟩:=d6 (by kernel_rfl) rfl (by kernel_rfl) rfl rfl
theorem b9x:e8 Go.Proofs.Tryz.prog 258 ⟨.struct [(0,4,false),(4,1,false)],true,5,88,[.int .i64 0,.slice none 0 0,.int .i64 0,.slice none 0 0,.slice none 0 0]⟩:=d6 (by kernel_rfl) rfl (by kernel_rfl) rfl rfl
theorem b93:e8 Go.Proofs.Tryz.prog 259 ⟨.struct [(0,4,false),(4,1,false)],true,5,88,[.int .i64 0,.slice none 0 0,.int .i64 0,.slice none 0 0,.slice none 0 0]⟩:=d6 (by kernel_rfl) rfl (by kernel_rfl) rfl rfl
theorem b9i:e8 Go.Proofs.Tryz.prog 260 ⟨.bas,false,1,8,[.nilFunc]⟩:=d6 (by kernel_rfl) rfl (by kernel_rfl) rfl rfl
theorem b7r:e8 Go.Proofs.Tryz.prog 261 ⟨.bas,false,1,8,[.nilFunc]⟩:=d6 (by kernel_rfl) rfl (by kernel_rfl) rfl rfl
theorem b9t:e8 Go.Proofs.Tryz.prog 263 ⟨.bas,false,1,8,[.nilFunc]⟩:=d6 (by kernel_rfl) rfl (by kernel_rfl) rfl rfl
theorem b7m:e8 Go.Proofs.Tryz.prog 264 ⟨.bas,false,1,8,[.nilFunc]⟩:=d6 (by kernel_rfl) rfl (by kernel_rfl) rfl rfl
theorem b7p:e8 Go.Proofs.Tryz.prog 265 ⟨.bas,false,1,8,[.nilFunc]⟩:=d6 (by kernel_rfl) rfl (by kernel_rfl) rfl rfl
theorem b8q:e8 Go.Proofs.Tryz.prog 266 ⟨.slice 81,false,1,24,[.slice none 0 0]⟩:=d6 (by kernel_rfl) rfl (by kernel_rfl) rfl rfl
theorem b7J:e8 Go.Proofs.Tryz.prog 267 ⟨.slice 266,false,1,24,[.slice none 0 0]⟩:=d6 (by kernel_rfl) rfl (by kernel_rfl) rfl rfl
theorem b6u:e8 Go.Proofs.Tryz.prog 268 ⟨.struct [(0,1,false),(1,1,false),(2,1,false),(3,2,false),(5,1,false),(6,1,false),(7,1,false),(8,1,false),(9,1,false),(10,2,false)],true,12,256,[.slice none 0 0,.slice none 0 0,.slice none 0 0,.int .i64 0,.slice none 0 0,.slice none 0 0,.slice none 0 0,.slice none 0 0,.slice none 0 0,.slice none 0 0,.int .i64 0,.slice none 0 0]⟩:=d6 (by kernel_rfl) rfl (by kernel_rfl) rfl rfl
theorem b8T:e8 Go.Proofs.Tryz.prog 269 ⟨.struct [(0,1,false),(1,1,false),(2,1,false),(3,2,false),(5,1,false),(6,1,false),(7,1,false),(8,1,false),(9,1,false),(10,2,false)],true,12,256,[.slice none 0 0,.slice none 0 0,.slice none 0 0,.int .i64 0,.slice none 0 0,.slice none 0 0,.slice none 0 0,.slice none 0 0,.slice none 0 0,.slice none 0 0,.int .i64 0,.slice none 0 0]⟩:=d6 (by kernel_rfl) rfl (by kernel_rfl) rfl rfl
theorem b8g:e8 Go.Proofs.Tryz.prog 270 ⟨.bas,false,1,8,[.nilFunc]⟩:=d6 (by kernel_rfl) rfl (by kernel_rfl) rfl rfl
theorem b8X:e8 Go.Proofs.Tryz.prog 271 ⟨.bas,false,1,8,[.nilFunc]⟩:=d6 (by kernel_rfl) rfl (by kernel_rfl) rfl rfl
theorem b6K:e8 Go.Proofs.Tryz.prog 272 ⟨.bas,false,1,8,[.nilFunc]⟩:=d6 (by kernel_rfl) rfl (by kernel_rfl) rfl rfl
theorem b6Y:e8 Go.Proofs.Tryz.prog 273 ⟨.bas,false,1,8,[.nilFunc]⟩:=d6 (by kernel_rfl) rfl (by kernel_rfl) rfl rfl
theorem b7Y:e8 Go.Proofs.Tryz.prog 274 ⟨.bas,false,1,8,[.nilFunc]⟩:=d6 (by kernel_rfl) rfl (by kernel_rfl) rfl rfl
theorem b9a:e8 Go.Proofs.Tryz.prog 275 ⟨.bas,false,1,8,[.nilFunc]⟩:=d6 (by kernel_rfl) rfl (by kernel_rfl) rfl rfl
theorem b9b:e8 Go.Proofs.Tryz.prog 276 ⟨.bas,false,1,8,[.nilFunc]⟩:=d6 (by kernel_rfl) rfl (by kernel_rfl) rfl rfl
theorem b7X:e8 Go.Proofs.Tryz.prog 277 ⟨.bas,false,1,8,[.nilFunc]⟩:=d6 (by kernel_rfl) rfl (by kernel_rfl) rfl rfl
theorem b7E:e8 Go.Proofs.Tryz.prog 278 ⟨.int .u32,false,1,4,[.int .u32 0]⟩:=d6 (by kernel_rfl) rfl (by kernel_rfl) rfl rfl
theorem b8R:e8 Go.Proofs.Tryz.prog 280 ⟨.bas,false,1,8,[.nilFunc]⟩:=d6 (by kernel_rfl) rfl (by kernel_rfl) rfl rfl
theorem b6T:e8 Go.Proofs.Tryz.prog 282 ⟨.bas,false,1,8,[.nilFunc]⟩:=d6 (by kernel_rfl) rfl (by kernel_rfl) rfl rfl
theorem b7s:e8 Go.Proofs.Tryz.prog 283 ⟨.struct [(0,1,false),(1,1,false)],true,2,16,[.int .i64 0,.bool false]⟩:=d6 (by kernel_rfl) rfl (by kernel_rfl) rfl rfl
theorem b6X:e8 Go.Proofs.Tryz.prog 284 ⟨.struct [(0,1,false),(1,1,false)],true,2,16,[.int .i64 0,.bool false]⟩:=d6 (by kernel_rfl) rfl (by kernel_rfl) rfl rfl
theorem b8b:e8 Go.Proofs.Tryz.prog 285 ⟨.bas,false,1,8,[.pointer none]⟩:=d6 (by kernel_rfl) rfl (by kernel_rfl) rfl rfl
theorem b88:e8 Go.Proofs.Tryz.prog 286 ⟨.bas,false,1,8,[.nilFunc]⟩:=d6 (by kernel_rfl) rfl (by kernel_rfl) rfl rfl
theorem b8V:e8 Go.Proofs.Tryz.prog 287 ⟨.bas,false,1,8,[.nilFunc]⟩:=d6 (by kernel_rfl) rfl (by kernel_rfl) rfl rfl
theorem b74:e8 Go.Proofs.Tryz.prog 288 ⟨.bas,false,1,8,[.nilFunc]⟩:=d6 (by kernel_rfl) rfl (by kernel_rfl) rfl rfl
theorem b7L:e8 Go.Proofs.Tryz.prog 289 ⟨.bas,false,1,8,[.nilFunc]⟩:=d6 (by kernel_rfl) rfl (by kernel_rfl) rfl rfl
theorem b99:e8 Go.Proofs.Tryz.prog 292 ⟨.arr 0 16,true,0,0,[]⟩:=d6 (by kernel_rfl) rfl (by kernel_rfl) rfl rfl
theorem b6a:e8 Go.Proofs.Tryz.prog 293 ⟨.struct [(0,0,false)],true,0,0,[]⟩:=d6 (by kernel_rfl) rfl (by kernel_rfl) rfl rfl
theorem b8L:e8 Go.Proofs.Tryz.prog 294 ⟨.struct [(0,0,false)],true,0,0,[]⟩:=d6 (by kernel_rfl) rfl (by kernel_rfl) rfl rfl
theorem b8s:e8 Go.Proofs.Tryz.prog 295 ⟨.int .u8,false,1,1,[.int .u8 0]⟩:=d6 (by kernel_rfl) rfl (by kernel_rfl) rfl rfl
theorem b7H:e8 Go.Proofs.Tryz.prog 296 ⟨.int .u8,false,1,1,[.int .u8 0]⟩:=d6 (by kernel_rfl) rfl (by kernel_rfl) rfl rfl
theorem b62:e8 Go.Proofs.Tryz.prog 297 ⟨.bas,false,1,8,[.nilFunc]⟩:=d6 (by kernel_rfl) rfl (by kernel_rfl) rfl rfl
theorem b6B:e8 Go.Proofs.Tryz.prog 298 ⟨.bas,false,1,8,[.pointer none]⟩:=d6 (by kernel_rfl) rfl (by kernel_rfl) rfl rfl
theorem b6P:e8 Go.Proofs.Tryz.prog 299 ⟨.int .i32,false,1,4,[.int .i32 0]⟩:=d6 (by kernel_rfl) rfl (by kernel_rfl) rfl rfl
theorem b94:e8 Go.Proofs.Tryz.prog 300 ⟨.int .i32,false,1,4,[.int .i32 0]⟩:=d6 (by kernel_rfl) rfl (by kernel_rfl) rfl rfl
theorem b8G:e8 Go.Proofs.Tryz.prog 301 ⟨.struct [(0,1,false),(1,1,false),(2,1,false),(3,1,false),(4,1,false),(5,1,false),(6,1,false),(7,1,false),(8,1,false),(9,1,false),(10,1,false)],true,11,48,[.int .u64 0,.int .u64 0,.int .u32 0,.int .u8 0,.int .u8 0,.int .u8 0,.int .u8 0,.nilFunc,.pointer none,.int .i32 0,.int .i32 0]⟩:=d6 (by kernel_rfl) rfl (by kernel_rfl) rfl rfl
theorem b9l:e8 Go.Proofs.Tryz.prog 302 ⟨.struct [(0,1,false),(1,1,false),(2,1,false),(3,1,false),(4,1,false),(5,1,false),(6,1,false),(7,1,false),(8,1,false),(9,1,false),(10,1,false)],true,11,48,[.int .u64 0,.int .u64 0,.int .u32 0,.int .u8 0,.int .u8 0,.int .u8 0,.int .u8 0,.nilFunc,.pointer none,.int .i32 0,.int .i32 0]⟩:=d6 (by kernel_rfl) rfl (by kernel_rfl) rfl rfl
theorem a7:z7 Go.Proofs.Tryz.prog tab:=b1h (l:=b7F) (by kernel_rfl) ⟨td1,td2,td3,td4,td5,td6,td7,td8,bd5,bg8,bf8,ba5,bf4,b9P,bf9,bb8,ba6,bg0,bd8,bf2,be2,be3,b9O,be4,bc1,ba1,b9J,bg6,b9N,bc3,bf6,bb1,bg7,bc5,b9Z,bd4,bd7,bd3,bd6,bg4,b9I,bg9,b9W,b9U,bf1,b9S,bb0,be0,bc0,bg5,be7,bb3,be5,bc9,bf0,b9M,b9V,bd1,ba4,be8,be9,bc6,bf5,b9Q,b9T,ba0,ba2,bg3,be6,be1,bc4,bd2,b9R,b9X,bh0,bb4,b9Y,bd0,bd9,ba9,bb2,bb7,bb6,bf3,b6s,b80,b9y,b96,b8t,b65,b7N,b7t,b8h,b7x,b7n,b8x,b5X,b7S,b6D,b6g,b6j,b5U,b6i,b6A,b8U,b9z,b8E,b6H,b89,b9p,b8B,b6k,b8F,b9A,b8N,b9r,b92,b84,b6z,b6r,b7Q,b8A,b6Q,b7i,b7P,b9C,b97,b67,b9G,b5V,b8y,b79,b7d,b6W,b8f,b7c,b68,b8Y,b7y,b8W,b6M,b6q,b9f,b6J,b8l,b8K,b5Y,b6t,b7R,b9j,b9H,b6b,b90,b7j,b6V,b7a,b6y,b61,b6R,b8p,b6U,b7q,b7v,b8M,b72,b91,b9c,b7z,b83,b85,b6l,b63,b8d,b7W,b6c,b7C,b9E,b98,b8H,b8C,b7V,b6x,b7U,b76,b6C,b6N,b8Z,b8m,b7T,b9g,b8v,b7u,b7D,b9F,b9k,b9v,b78,b8I,b6n,b7g,b6G,b9B,b9q,b70,b8e,b8O,b9m,b8P,b8D,b7o,b60,b8u,b8n,b75,b7O,b86,b81,b7e,b6O,b9s,b64,b6e,b8o,b6d,b7b,b6F,b6v,b66,b9x,b93,b9i,b7r,b9t,b7m,b7p,b8q,b7J,b6u,b8T,b8g,b8X,b6K,b6Y,b7Y,b9a,b9b,b7X,b7E,b8R,b6T,b7s,b6X,b8b,b88,b8V,b74,b7L,b99,b6a,b8L,b8s,b7H,b62,b6B,b6P,b94,b8G,b9l,trivial⟩
end
section
open Go.RowKit
structure I3 where
 kind:Int
 hh:Int
 mat:Int
structure n6 where
 day:Int
 src:Int
 dst:Int
 scale:Int
 reading:Int
 all:Bool
structure G4 where
 scale:Int
 since:Int
 till:Int
 grams:Int
 permille:Int
 drift:Int
structure z6 where
 scale:Int
 since:Int
structure O8 where
 move:Int
 mat:Int
 least:Int
 most:Int
structure Ev where
 mats:Int
 hhs:Int
 scs:Int
 places:List I3
 moves:List n6
 certs:List G4
 recalls:List z6
 purities:List O8
abbrev vi (n:Int):Value:=.int .i64 n
def I3.cells (p:I3):List Value:=[vi p.kind,vi p.hh,vi p.mat]
def n6.cells (m:n6):List Value:=[vi m.day,vi m.src,vi m.dst,vi m.scale,vi m.reading,.bool m.all]
def G4.cells (c:G4):List Value:=[vi c.scale,vi c.since,vi c.till,vi c.grams,vi c.permille,vi c.drift]
def z6.cells (r:z6):List Value:=[vi r.scale,vi r.since]
def O8.cells (p:O8):List Value:=[vi p.move,vi p.mat,vi p.least,vi p.most]
def Rd {α:Type} (k:Nat) (f:α→List Value) (w:World) (A:Option Addr) (n:Nat) (xs:List α):Prop:=
 n=xs.length∧(0<n→∃b off,A=some ⟨b,off,none⟩∧∀i x,xs[i]? =some x→∀j u,(f x)[j]? =some u→w.cell? ⟨b,off+(i*k+j),none⟩=some u)
theorem a4Q {w:World} {b o:Nat} {u:Value} (h:w.cell? ⟨b,o,none⟩=some u):b<w.heap.size:=World.block_lt_of_cell? w _ h
section
variable {α:Type} {k:Nat} {f:α→List Value} {w w':World} {A:Option Addr} {n:Nat} {xs:List α}
theorem Rd.nil (A:Option Addr):Rd k f w A 0 ([]:List α):=⟨rfl,fun h=>absurd h (by omega)⟩
theorem Rd.len (h:Rd k f w A n xs):n=xs.length:=h.1
theorem Rd.keep (h:Rd k f w A n xs) (hb:Below w.heap.size w w'):Rd k f w' A n xs:=
 ⟨h.1,fun hn=>by
   obtain ⟨b,off,e,hc⟩:=h.2 hn
   refine ⟨b,off,e,fun i x hx j u hu=>?_⟩
   have hcc:=hc i x hx j u hu
   exact (hb.cell (p:=⟨b,_,none⟩) (a4Q hcc)).trans hcc⟩
theorem Rd.at_ (h:Rd k f w A xs.length xs) (hf:∀x,∃u,(f x)[0]? =some u) {i:Nat} (hi:i<xs.length) (hb:Below w.heap.size w w'):
 ∃b off x,A=some ⟨b,off,none⟩∧b<w.heap.size∧xs[i]? =some x∧∀j u,(f x)[j]? =some u→w'.cell? ⟨b,off+(i*k+j),none⟩=some u:=by
 obtain ⟨b,off,e,hc0⟩:=h.2 (by omega)
 obtain ⟨u0,hu0⟩:=hf xs[i]
 have hl:b<w.heap.size:=a4Q (hc0 i _ (List.getElem?_eq_getElem hi) 0 u0 hu0)
 obtain ⟨b',off',e',hc⟩:=(h.keep hb).2 (by omega)
 obtain ⟨rfl,rfl⟩:b'=b∧off'=off:=by
  rw [e] at e'
  simp at e'
  omega
 exact ⟨b',off',xs[i],e,hl,List.getElem?_eq_getElem hi,hc i _ (List.getElem?_eq_getElem hi)⟩
end
theorem Rd.place {w w':World} {A:Option Addr} {xs:List I3} (h:Rd 3 I3.cells w A xs.length xs) {i:Nat} (hi:i<xs.length) (hb:Below w.heap.size w w'):
 ∃b off x,A=some ⟨b,off,none⟩∧b<w.heap.size∧xs[i]? =some x∧w'.cell? ⟨b,off+i*3,none⟩=some (vi x.kind)∧w'.cell? ⟨b,off+i*3+1,none⟩=some (vi x.hh)∧w'.cell? ⟨b,off+i*3+2,none⟩=some (vi x.mat):=by
 obtain ⟨b,off,x,e,hl,hx,hc⟩:=h.at_ (fun _=>⟨_,rfl⟩) hi hb
 exact ⟨b,off,x,e,hl,hx,hc 0 _ rfl,hc 1 _ rfl,hc 2 _ rfl⟩
theorem Rd.move {w w':World} {A:Option Addr} {xs:List n6} (h:Rd 6 n6.cells w A xs.length xs) {i:Nat} (hi:i<xs.length) (hb:Below w.heap.size w w'):
 ∃b off x,A=some ⟨b,off,none⟩∧b<w.heap.size∧xs[i]? =some x∧w'.cell? ⟨b,off+i*6,none⟩=some (vi x.day)∧w'.cell? ⟨b,off+i*6+1,none⟩=some (vi x.src)∧w'.cell? ⟨b,off+i*6+2,none⟩=some (vi x.dst)∧
  w'.cell? ⟨b,off+i*6+3,none⟩=some (vi x.scale)∧w'.cell? ⟨b,off+i*6+4,none⟩=some (vi x.reading)∧w'.cell? ⟨b,off+i*6+5,none⟩=some (.bool x.all):=by
 obtain ⟨b,off,x,e,hl,hx,hc⟩:=h.at_ (fun _=>⟨_,rfl⟩) hi hb
 exact ⟨b,off,x,e,hl,hx,hc 0 _ rfl,hc 1 _ rfl,hc 2 _ rfl,hc 3 _ rfl,hc 4 _ rfl,hc 5 _ rfl⟩
abbrev Ri (w:World) (A:Option Addr) (n:Nat) (xs:List Int):Prop:=Rd 1 (fun x:Int=>[vi x]) w A n xs
theorem Rd.int {w w':World} {A:Option Addr} {xs:List Int} (h:Ri w A xs.length xs) {i:Nat} (hi:i<xs.length) (hb:Below w.heap.size w w'):
 ∃b off,∃x:Int,A=some ⟨b,off,none⟩∧b<w.heap.size∧xs[i]? =some x∧w'.cell? ⟨b,off+i,none⟩=some (vi x):=by
 obtain ⟨b,off,x,e,hl,hx,hc⟩:=h.at_ (fun _=>⟨_,rfl⟩) hi hb
 exact ⟨b,off,x,e,hl,hx,by have:=hc 0 _ rfl;simpa using this⟩
abbrev Rb (w:World) (A:Option Addr) (n:Nat) (xs:List Bool):Prop:=Rd 1 (fun x:Bool=>[.bool x]) w A n xs
theorem Rd.bool {w w':World} {A:Option Addr} {xs:List Bool} (h:Rb w A xs.length xs) {i:Nat} (hi:i<xs.length) (hb:Below w.heap.size w w'):
 ∃b off,∃x:Bool,A=some ⟨b,off,none⟩∧b<w.heap.size∧xs[i]? =some x∧w'.cell? ⟨b,off+i,none⟩=some (.bool x):=by
 obtain ⟨b,off,x,e,hl,hx,hc⟩:=h.at_ (fun _=>⟨_,rfl⟩) hi hb
 exact ⟨b,off,x,e,hl,hx,by have:=hc 0 _ rfl;simpa using this⟩
structure EvR (w:World) (m h s:Int) (A1:Option Addr) (n1:Nat) (A2:Option Addr) (n2:Nat) (A3:Option Addr) (n3:Nat) (A4:Option Addr) (n4:Nat) (A5:Option Addr) (n5:Nat) (e:Ev):Prop where
 em:m=e.mats
 eh:h=e.hhs
 es:s=e.scs
 r1:Rd 3 I3.cells w A1 n1 e.places
 r2:Rd 6 n6.cells w A2 n2 e.moves
 r3:Rd 6 G4.cells w A3 n3 e.certs
 r4:Rd 2 z6.cells w A4 n4 e.recalls
 r5:Rd 4 O8.cells w A5 n5 e.purities
section
variable {w w':World} {m h s:Int} {A1 A2 A3 A4 A5:Option Addr} {n1 n2 n3 n4 n5:Nat} {e:Ev}
theorem EvR.keep (hr:EvR w m h s A1 n1 A2 n2 A3 n3 A4 n4 A5 n5 e) (hb:Below w.heap.size w w'):EvR w' m h s A1 n1 A2 n2 A3 n3 A4 n4 A5 n5 e:=
 ⟨hr.em,hr.eh,hr.es,hr.r1.keep hb,hr.r2.keep hb,hr.r3.keep hb,hr.r4.keep hb,hr.r5.keep hb⟩
end
def a59 (w:World) (xs:List Int) (r:Ending) (w':World):Prop:=∃A n c,r=.returned (.slice A n c)∧Ri w' A n xs∧(∀ ad,A=some ad→w.heap.size≤ad.block)∧Below w.heap.size w w'
theorem a59.nil {w w':World} {c:Nat} (hb:Below w.heap.size w w'):a59 w [] (.returned (.slice none 0 c)) w':=⟨none,0,c,rfl,Rd.nil none,(fun _ e=>by cases e),hb⟩
theorem a59.mono {w w1 w':World} {xs:List Int} {r:Ending} (h:a59 w1 xs r w') (hb:Below w.heap.size w w1):a59 w xs r w':=by
 obtain ⟨A,n,c,e,hr,hf,hb1⟩:=h
 exact ⟨A,n,c,e,hr,fun ad ha=>Nat.le_trans hb.size (hf ad ha),hb.trans (hb1.mono hb.size)⟩
theorem aY1 {α:Type} {xs:List α} {p:α→Bool} (h:∀j x,j<xs.length→xs[j]? =some x→p x=true):xs.all p=true:=by
 rw [List.all_eq_true]
 intro x hx
 obtain ⟨j,hj,e⟩:=List.getElem_of_mem hx
 exact h j x hj (by rw [List.getElem?_eq_getElem hj,e])
def aK0 {α:Type} (xs:List α) (p:α→Bool) (k:Nat):Prop:=∀j x,j<k→xs[j]? =some x→p x=true
theorem aK0.zero {α:Type} (xs:List α) (p:α→Bool):aK0 xs p 0:=fun _ _ h=>absurd h (by omega)
theorem aK0.next {α:Type} {xs:List α} {p:α→Bool} {k:Nat} {x:α} (h:aK0 xs p k) (hx:xs[k]? =some x) (hp:p x=true):aK0 xs p (k+1):=by
 intro j y hj hy
 by_cases e:j=k
 ·subst e
  rw [hx] at hy
  injection hy with hy
  exact hy ▸ hp
 ·exact h j y (by omega) hy
theorem aK0.all {α:Type} {xs:List α} {p:α→Bool} {k:Nat} (h:aK0 xs p k) (hk:xs.length≤k):xs.all p=true:=
 aY1 fun j x hj hx=>h j x (by omega) hx
end
section
def idx (a b:Int):Bool:=decide (0≤a) && decide (a<b)
def btw (n lo hi:Int):Bool:=decide (lo≤n) && decide (n≤hi)
theorem aS9 (a b:Int):btw a 0 (b - 1)=idx a b:=by
 unfold btw idx
 have:decide (a≤b - 1)=decide (a<b):=by simp;omega
 rw [this]
theorem an0 {a b:Int}:idx a b=true↔0≤a∧a<b:=by simp [idx]
theorem S4 {a b c:Int}:btw a b c=true↔b≤a∧a≤c:=by simp [btw]
def a0Q (e:Ev):Bool:=
 decide (6<e.mats) || decide (100<e.hhs) || decide (30<e.scs) || decide (100<e.places.length) || decide (200<e.moves.length) ||
  decide (100<e.certs.length) || decide (30<e.recalls.length) || decide (200<e.purities.length)
def P7 (e:Ev) (p:I3):Bool:=
 idx p.kind 7 && (if p.kind=0 then idx p.hh e.hhs && idx p.mat e.mats else decide (p.hh=-1) && decide (p.mat=-1))
def t7 (e:Ev) (i:Int):Int:=((e.places[i.toNat]?).map (·.kind)).getD (-1)
def F5 (e:Ev) (m:n6):Bool:=
 idx m.src e.places.length && idx m.dst e.places.length && decide (m.src≠m.dst) && decide (t7 e m.src≠5) && decide (t7 e m.src≠6) &&
  !(decide (t7 e m.src=0) && m.all) && decide (t7 e m.dst≠0) && (if m.scale=-1 then decide (m.reading=0) else idx m.scale e.scs && btw m.reading 0 1099511627776)
def a2y (e:Ev) (c:G4):Bool:=
 decide (0≤c.since) && decide (c.since≤c.till) && decide (c.till≤100000) && idx c.scale e.scs && btw c.grams 0 1099511627776 && btw c.permille 0 1000 && btw c.drift 0 10000000
def V9 (e:Ev) (r:z6):Bool:=idx r.scale e.scs && btw r.since 0 100000
def V4 (e:Ev) (p:O8):Bool:=
 idx p.move e.moves.length && idx p.mat e.mats && decide (0≤p.least) && decide (p.least≤p.most) && decide (p.most≤1000)
def T3 (e:Ev):Bool:=e.certs.all (a2y e) && e.recalls.all (V9 e) && e.purities.all (V4 e)
def t9 (e:Ev):Int→List n6→Int
 |_,[]=>0
 |last,m::r=>if m.day<last∨100000<m.day then 17 else if F5 e m then t9 e m.day r else 1
def y5 (e:Ev):Int:=
 if a0Q e then 6 else if e.mats<1∨e.hhs<0∨e.scs<0∨e.places.all (P7 e)=false then 1
 else if t9 e 0 e.moves≠0 then t9 e 0 e.moves else if T3 e then 0 else 1
theorem a6R {e:Ev} {i:Nat} {p:I3} (h:e.places[i]? =some p):t7 e (i:Int)=p.kind:=by
 simp [t7,h]
theorem aa1 {e:Ev} {l:List n6}:∀{last:Int},t9 e last l=0→∀m ∈ l,F5 e m=true:=by
 induction l with
 |nil=>intro last _ m hm;cases hm
 |cons m r ih=>
  intro last h x hx
  unfold t9 at h
  split at h
  ·simp at h
  ·split at h
   ·rename_i hmk
    rcases List.mem_cons.1 hx with rfl|hx
    ·exact hmk
    ·exact ih h x hx
   ·simp at h
theorem Y1 {e:Ev} (h:y5 e=0):a0Q e=false∧1≤e.mats∧0≤e.hhs∧0≤e.scs∧e.places.all (P7 e)=true∧t9 e 0 e.moves=0∧T3 e=true:=by
 unfold y5 at h
 by_cases h1:a0Q e=true
 ·rw [if_pos h1] at h;simp at h
 rw [if_neg h1] at h
 by_cases h2:e.mats<1∨e.hhs<0∨e.scs<0∨e.places.all (P7 e)=false
 ·rw [if_pos h2] at h;simp at h
 rw [if_neg h2] at h
 by_cases h3:t9 e 0 e.moves≠0
 ·rw [if_pos h3] at h;exact absurd h h3
 rw [if_neg h3] at h
 by_cases h4:T3 e=true
 ·refine ⟨by simpa using h1,by omega,by omega,by omega,?_,by simpa using h3,h4⟩
  rw [← Bool.not_eq_false]
  exact fun hq=>h2 (.inr (.inr (.inr hq)))
 ·rw [if_neg h4] at h;simp at h
theorem F6 {e:Ev} (h:y5 e=0) {m:n6} (hm:m ∈ e.moves):F5 e m=true:=aa1 (Y1 h).2.2.2.2.2.1 m hm
theorem M3 {e:Ev} {m:n6} (h:F5 e m=true):0≤m.src∧m.src<e.places.length:=by
 simp [F5] at h
 exact an0.1 h.1.1.1.1.1.1.1
theorem a8O {e:Ev} {m:n6} (h:F5 e m=true):0≤m.dst∧m.dst<e.places.length:=by
 simp [F5] at h
 exact an0.1 h.1.1.1.1.1.1.2
def q9 {α:Type} (p:Nat→α→Bool):Nat→List α→List Int
 |_,[]=>[]
 |k,m::r=>if p k m then (k:Int)::q9 p (k+1) r else q9 p (k+1) r
def L8 {α:Type} (p:Nat→α→Bool) (l:List α) (k:Nat):List Int:=q9 p 0 (l.take k)
theorem a7q {α:Type} (p:Nat→α→Bool) (a b:List α):∀k,q9 p k (a++b)=q9 p k a++q9 p (k+a.length) b:=by
 induction a with
 |nil=>intro k;simp [q9]
 |cons m r ih=>
  intro k
  simp only [List.cons_append,q9,ih,List.length_cons]
  rw [show k+1+r.length=k+(r.length+1) from by omega]
  split<;>simp
theorem a78 {α:Type} (p:Nat→α→Bool) {l:List α} {k:Nat} {x:α} (h:l[k]? =some x):L8 p l (k+1)=L8 p l k++(if p k x then [(k:Int)] else []):=by
 obtain ⟨hk,hx⟩:=List.getElem?_eq_some_iff.1 h
 unfold L8
 rw [List.take_succ_eq_append_getElem hk,a7q,hx]
 have:(l.take k).length=k:=by simp;omega
 rw [this]
 simp only [q9,Nat.zero_add]
theorem a25 {α:Type} (p:Nat→α→Bool) {l:List α} {k:Nat} {x:α} (h:l[k]? =some x) (hp:p k x=true):L8 p l (k+1)=L8 p l k++[(k:Int)]:=by
 rw [a78 p h,if_pos hp]
theorem a0w {α:Type} (p:Nat→α→Bool) {l:List α} {k:Nat} {x:α} (h:l[k]? =some x) (hp:p k x=false):L8 p l (k+1)=L8 p l k:=by
 rw [a78 p h,if_neg (by simp [hp])];simp
theorem a8j {α:Type} (p:Nat→α→Bool) {l:List α} {k:Nat} (h:l.length≤k):L8 p l k=q9 p 0 l:=by
 unfold L8;rw [List.take_of_length_le h]
theorem a8F {α:Type} {p q:Nat→α→Bool} (l:List α) (N:Nat) (h:∀k m,k<N→p k m=q k m):∀k,k+l.length≤N→q9 p k l=q9 q k l:=by
 induction l with
 |nil=>intro k _;rfl
 |cons m r ih=>
  intro k hk
  simp only [List.length_cons] at hk
  simp only [q9,h k m (by omega),ih (k+1) (by omega)]
theorem a7x {α:Type} (p:Nat→α→Bool) (l:List α):∀k,(q9 p k l).length≤l.length:=by
 induction l with
 |nil=>intro k;simp [q9]
 |cons m r ih=>
  intro k
  have:=ih (k+1)
  simp only [q9]
  split<;>simp<;>omega
theorem a4n {α:Type} (p:Nat→α→Bool) (l:List α) (k:Nat):(L8 p l k).length≤k:=by
 have:=a7x p (l.take k) 0
 have h2:(l.take k).length≤k:=List.length_take_le _ _
 unfold L8
 omega
def b1y (e:Ev) (place:Int):Bool:=decide (y5 e=0) && idx place e.places.length && decide (t7 e place=0)
def a0R (e:Ev) (hh mat lo hi:Int) (m:n6):Bool:=
 match e.places[m.src.toNat]? with
 |some p=>decide (p.kind=0) && decide (p.hh=hh) && (decide (mat=-1) || decide (p.mat=mat)) && btw m.day lo hi
 |none=>false
def y0 (e:Ev) (hh mat lo hi:Int):List Int:=if y5 e=0 then q9 (fun _ m=>a0R e hh mat lo hi m) 0 e.moves else []
def b3n (e:Ev) (place upto:Int):List Int:=if y5 e=0 then q9 (fun k m=>decide ((k:Int)<upto) && decide (m.dst=place)) 0 e.moves else []
end
section
structure Ev.Sized (e:Ev):Prop where
 s1:e.places.length≤1000000
 s2:e.moves.length≤1000000
 s3:e.certs.length≤1000000
 s4:e.recalls.length≤1000000
 s5:e.purities.length≤1000000
end
section
open Go.RowKit
abbrev ti (n:Int):T:=.atm (.int .i64 n)
abbrev tb (b:Bool):T:=.atm (.bool b)
def I3.row (p:I3):List T:=[ti p.kind,ti p.hh,ti p.mat]
def n6.row (m:n6):List T:=[ti m.day,ti m.src,ti m.dst,ti m.scale,ti m.reading,tb m.all]
def G4.row (c:G4):List T:=[ti c.scale,ti c.since,ti c.till,ti c.grams,ti c.permille,ti c.drift]
def z6.row (r:z6):List T:=[ti r.scale,ti r.since]
def O8.row (p:O8):List T:=[ti p.move,ti p.mat,ti p.least,ti p.most]
def i5 (n:Int):List T:=[ti n]
abbrev a3Y (l:List I3):T:=.sl 3 .any (l.map I3.row)
abbrev a2k (l:List n6):T:=.sl 6 .any (l.map n6.row)
abbrev Y4 (l:List G4):T:=.sl 6 .any (l.map G4.row)
abbrev J3 (l:List z6):T:=.sl 2 .any (l.map z6.row)
abbrev a0z (l:List O8):T:=.sl 4 .any (l.map O8.row)
abbrev J0 (l:List Int):T:=.sl 1 .any (l.map i5)
def evC (e:Ev):List C:=[.t (ti e.mats),.t (ti e.hhs),.t (ti e.scs),.t (a3Y e.places),.t (a2k e.moves),.t (Y4 e.certs),.t (J3 e.recalls),.t (a0z e.purities)]
def evT (e:Ev):List T:=[ti e.mats,ti e.hhs,ti e.scs,a3Y e.places,a2k e.moves,Y4 e.certs,J3 e.recalls,a0z e.purities]
abbrev evS (e:Ev):S:=.agg (evC e)
abbrev g6 (l:List Int):S:=.c (.t (J0 l))
def I3.cs (p:I3):List C:=p.row.map .t
def n6.cs (m:n6):List C:=m.row.map .t
abbrev aQ0 (m:n6):S:=.agg m.cs
abbrev evB (e:Ev):Blk:=C4 28 8 [evC e] true
theorem d8 {a b:Bool} {H1:Hp} (h:a=b):Fin 0 (f7 a) H1 (f7 b) []:=k8 (by subst h;exact rfl)
theorem j5 {a b:Int} {k:IntKind} {H1:Hp} (h:a=b):Fin 0 (a9 k a) H1 (a9 k b) []:=k8 (by subst h;exact rfl)
theorem j3 {x y:T} {ρ:List (Option Nat)} {H:Hp} (h:x=y):a49 ρ H (.c (.t x)) (.c (.t y)):=a7J h
theorem e7 {a b:Int} {k:IntKind} {ρ:List (Option Nat)} {H:Hp} (h:a=b):a49 ρ H (a9 k a) (a9 k b):=by subst h;exact rfl
theorem k6 (e:Ev):G8 [evC e]:=by simp [G8,evC,C.isT]
theorem b6S {H:Hp} {p:Nat→Prop} (e:Ev):VS H p (evS e) (evS e):=b7h (evT e)
end
section
def a1r (xs ys:List Int) (k:Nat):Prop:=xs.take k=ys.take k
theorem a1r.zero (xs ys:List Int):a1r xs ys 0:=by simp [a1r]
theorem a1r.next {xs ys:List Int} {k:Nat} {x:Int} (h:a1r xs ys k) (hx:xs[k]? =some x) (hy:ys[k]? =some x):a1r xs ys (k+1):=by
 unfold a1r at *
 rw [List.take_add_one,List.take_add_one,h,hx,hy]
theorem a1r.all {xs ys:List Int} {k:Nat} (h:a1r xs ys k) (h1:xs.length≤k) (h2:ys.length≤k):xs=ys:=by
 unfold a1r at h
 rwa [List.take_of_length_le h1,List.take_of_length_le h2] at h
end
section
open Go.RowKit
set_option maxRecDepth 100000
abbrev z5 (l:List Int):Blk:={ mode:=.live,elem:=3,size:=1,rows:=toC (l.map i5),box:=false }
abbrev Y8 (id:Nat) (l:List Int):S:=.c (.own id 0 l.length true)
theorem o8 {α:Type} {xs:List α} {f:α→List T} {n:Int} {x:α} {lo:Nat} {K:List C→Prop} (hx:xs[lo+n.toNat]? =some x) (h:K ((f x).map C.t)):∃row,(toC (xs.map f))[lo+n.toNat]? =some row∧K row:=
 ⟨(f x).map C.t,by simp [toC,hx],h⟩
theorem a3s {a b:Int} {n:Nat} {K:Prop} (h0:0≤a) (h1:a≤b) (h2:b≤1000000) (hn:n≤1000) (k:K):(0≤a∧a≤b∧b*((n:Int)+1)≤140737488355328)∧K:=by
 refine ⟨⟨h0,h1,?_⟩,k⟩
 have:b*((n:Int)+1)≤1000000*1001:=Int.mul_le_mul h2 (by omega) (by omega) (by omega)
 omega
theorem a1X {α:Type} {xs:List α} {f:α→List T} {i n:Nat} {v:List C} {x:α} {K:List C→Prop} (hne:i≠n) (hx:xs[n]? =some x) (h:K ((f x).map C.t)):∃row,((toC (xs.map f)).set i v)[n]? =some row∧K row:=
 ⟨(f x).map C.t,by rw [List.getElem?_set_ne hne];simp [toC,hx],h⟩
theorem b2W {α:Type} {f:α→List T} {xs:List α} {x:α}:(toC (xs.map f)).take xs.length++toC [f x]=toC ((xs++[x]).map f):=by
 rw [List.take_of_length_le (by simp [toC])];simp [toC]
theorem a9E {x:Int} (h1:0≤x) (h2:x<18446744073709551616):IntKind.wrap .u64 x=x:=by
 simp only [IntKind.wrap,IntKind.bits,IntKind.signed]
 simp
 omega
theorem aB3 {k:IntKind} (hk:k.bits=64) (a:Int) (j:Nat) (hj:j≤62):(BitVec.ofInt k.bits a &&& BitVec.ofInt k.bits ((2 ^ j - 1:Nat):Int)).toNat=(a % ((2 ^ j:Nat):Int)).toNat:=by
 rw [hk]
 rw [BitVec.toNat_and,BitVec.toNat_ofInt,BitVec.toNat_ofInt]
 have hp:(2:Nat) ^ j≤2 ^ 62:=Nat.pow_le_pow_right (by decide) hj
 have h0:0<(2:Nat) ^ j:=Nat.pow_pos (by decide)
 have e1:((((2 ^ j - 1:Nat):Int)) % ((2 ^ 64:Nat):Int)).toNat=2 ^ j - 1:=by
  rw [Int.emod_eq_of_lt (by omega) (by omega)];simp
 rw [e1,Nat.and_two_pow_sub_one_eq_mod]
 have hd:(2:Nat) ^ 64=2 ^ j*2 ^ (64 - j):=by rw [← Nat.pow_add];congr 1;omega
 have h2:0≤a % ((2 ^ 64:Nat):Int):=Int.emod_nonneg _ (by decide)
 have e2:((a % ((2 ^ 64:Nat):Int)).toNat % 2 ^ j:Nat)=((a % ((2 ^ 64:Nat):Int)) % ((2 ^ j:Nat):Int)).toNat:=by
  rw [Int.toNat_emod h2 (by omega)];rfl
 rw [e2]
 congr 1
 refine Int.emod_emod_of_dvd _ ?_
 exact ⟨((2 ^ (64 - j):Nat):Int),by exact_mod_cast hd⟩
theorem al8 {a:Int} (j:Nat) (hj:j≤62):IntKind.wrap .u64 (BitVec.ofInt (IntKind.bits .u64) a &&& BitVec.ofInt (IntKind.bits .u64) ((2 ^ j - 1:Nat):Int)).toNat=a % ((2 ^ j:Nat):Int):=by
 rw [aB3 rfl a j hj]
 have hp:(2:Nat) ^ j≤2 ^ 62:=Nat.pow_le_pow_right (by decide) hj
 have h0:0<(2:Nat) ^ j:=Nat.pow_pos (by decide)
 have h1:0≤a % ((2 ^ j:Nat):Int):=Int.emod_nonneg _ (by omega)
 have h2:a % ((2 ^ j:Nat):Int)<((2 ^ j:Nat):Int):=Int.emod_lt_of_pos _ (by omega)
 rw [Int.toNat_of_nonneg h1,a9E h1 (by omega)]
theorem aB9 {x:Int} (h1:0≤x) (h2:x<18446744073709551616):G2 .u64 x x:=by unfold G2;exact (a9E h1 h2).symm
theorem ak1 {l h m n:Int} {K:Prop} (h1:0≤l) (h2:l≤h) (h3:m=h) (h4:h≤n) (k:K):(0≤l∧l≤h∧m=h∧h≤n)∧K:=⟨⟨h1,h2,h3,h4⟩,k⟩
theorem Z6 {α:Type} {l:List α} {f:α→Bool} {k:Nat} {x:α} (h:l[k]? =some x):(l.take (k+1)).any f=((l.take k).any f || f x):=by
 rw [List.take_add_one,h];simp
theorem s7 {α:Type} {l:List α} {f:α→Bool} {k:Nat} {x:α} (h:l[k]? =some x):(l.take (k+1)).all f=((l.take k).all f && f x):=by
 rw [List.take_add_one,h];simp
theorem a10 {α:Type} {l:List α} {f:α→Bool} {k:Nat} {x:α} (h:l[k]? =some x) (hf:f x=true):l.any f=true:=List.any_eq_true.2 ⟨x,List.mem_of_getElem? h,hf⟩
theorem w7 {α:Type} {l:List α} {f:α→Bool} {k:Nat} {x:α} (h:l[k]? =some x) (hf:f x=false):l.all f=false:=by
 rw [← Bool.not_eq_true,List.all_eq_true];intro h';rw [h' x (List.mem_of_getElem? h)] at hf;cases hf
theorem a89 {x y:T} {H1:Hp} (h:x=y):Fin 0 (.c (.t x)) H1 (.c (.t y)) []:=by subst h;exact k8 (show a7n [] H1 _ _ from j3 (ρ:=[]) (H:=H1) rfl)
theorem b5g {n:Nat} {k:SK} {a b:List (List T)} {H1:Hp} (h:a=b) (hk:k=.any):Fin 0 (.c (.t (.sl n k a))) H1 (.c (.t (.sl n .any b))) []:=by subst h hk;exact k8 (show a7n [] H1 _ _ from j3 (ρ:=[]) (H:=H1) rfl)
theorem ac2 {P:Program} {g:FuncId} {args:List S} {H H':Hp} {r:S} (i:Nat) {n:Nat} (hi:args[i]? =some (.c (.t (.sl n .any [])))) (h1:b9 P g (args.set i (.c (.t (.sl n .nul [])))) H r H')
 (h2:b9 P g (args.set i (.c (.t (.sl n .non [])))) H r H'):b9 P g args H r H':=by
 refine ⟨h1.1,fun w ι M vals hl hr hH hM hF=>?_⟩
 have hv:=(hr i _ hi).inv_t
 have hil:=(List.getElem?_eq_some_iff.1 hi).1
 have key:∀k:SK,RT w M (.sl n k []) (vals.getD i undef)→∀j s,(args.set i (.c (.t (.sl n k []))))[j]? =some s→RS w ι M s (vals.getD j undef):=fun k hk j s hj=>by
  by_cases hji:i=j
  ·subst hji
   rw [List.getElem?_set_self hil] at hj
   injection hj with hj
   subst hj
   exact .c (.t hk)
  ·rw [List.getElem?_set_ne hji] at hj
   exact hr j s hj
 generalize hu:vals.getD i undef=u at hv
 cases hv with
 |@sl _ _ _ b off cap A f hrow hcap hmax hk hn hA hc hr' hx=>
  cases A with
  |none=>exact h1.2 w ι M vals (by simpa using hl) (key .nul (by rw [hu];exact .sl (b:=b) (off:=off) f hrow hcap hmax (by intro h;cases h) (by intro h;cases h) (by simp) hc hr' ⟨(fun _=>⟨rfl,rfl⟩),(fun h=>nomatch h)⟩)) hH hM hF
  |some a=>exact h2.2 w ι M vals (by simpa using hl) (key .non (by rw [hu];exact .sl (b:=b) (off:=off) f hrow hcap hmax (by intro h;cases h) (by intro h;cases h) (by simp) hc hr' ⟨(fun h=>nomatch h),(fun _ h=>nomatch h)⟩)) hH hM hF
theorem ac5 {P:Program} {g:FuncId} {args:List S} {H:Hp} {n:Nat} {b:Blk} {rows:List (List T)} (h:b9 P g args [] (.c (.own 0 0 n true)) [b]) (hargs:args=args.map (a4a [])) (hok:args.all (okS 0)=true)
 (hm:b.mode=.live) (hb:b.rows=toC rows):b9 P g args H (.c (.own H.length 0 n true)) (H++[b]):=by
 refine P3 [] h hargs hok rfl List.nodup_nil (by simp) (by intro k hk;simp at hk;subst hk;rw [hm];simp) (by simp) rfl ?_ (by simp) ?_ ?_
 ·simp [a4a,U8,a2h]
 ·intro i k hk
  match i,hk with
  |0,hk=>
   simp at hk
   subst hk
   exact ⟨b,by simp [a2h],E0 hb⟩
 ·intro j hj _
  rw [List.getElem?_append_left hj]
theorem aM0 {P:Program} {g:FuncId} {args args':List S} {r:S} {H':Hp} (h:b9 P g args' [] r H') (ha:a4h [] (fun _=>False) args args'):b9 P g args [] r H':=by
 refine ⟨h.1,fun w ι M vals hl hv hH hM hf=>?_⟩
 obtain ⟨hlen,hget⟩:=a4h.get ha
 exact h.2 w ι M vals (by omega) (fun j s hj=>by
  obtain ⟨x,hx,hs⟩:=hget j s hj
  exact hs.rs hH (fun _ h=>h) (fun _ _ _ _ _ h _ _ _ _=>h.elim) (hv j x hx)) hH hM hf
end
section
open Go.RowKit
theorem St1.zd {p:Prop} [Decidable p] {k:S→Prop} (a:p→k (f7 true)) (b:¬p→k (f7 false)):a9Z p k:=a9Z.mk a b
theorem St2.zd {b:Bool} {k:S→Prop} (a:b=true→k (f7 true)) (c:b=false→k (f7 false)):a1R b k:=a1R.mk a c
theorem St1.zz {x:Int} {K:Int→Prop} (k:K x) (h1:-9223372036854775808≤x:=by omega) (h2:x≤9223372036854775807:=by omega):∃n,G2 .i64 x n∧K n:=⟨_,a46 h1 h2,k⟩
theorem St2.zz {n m:Int} {K:Prop} (k:K) (h0:0≤n:=by omega) (h1:n<m:=by omega):(0≤n∧n<m)∧K:=⟨⟨h0,h1⟩,k⟩
theorem St3.zz {ops:List Oper} {K:List Oper→Prop} (k:K ops) (h:a9A ops=true:=by decide +kernel):b0t ops K:=b5M h k
theorem St4.zz {P:Program} {τ:Tab} {env:Env} {H':Hp} {ops:List Oper} {i:Nat} {K:Prop} (k:K) (h:J5 ops i=true:=by decide +kernel) (h2:X0 ops i=[]:=by decide +kernel):J5 ops i=true∧∃L,X0 ops i=L∧a1A P τ ops env H' K L:=b4z h h2 k
theorem St5.zz {s:S} {B:List Blk} {s':S} {K:Prop} (k:K) (h1:B=[]:=by exact rfl) (h2:s=s':=by exact rfl):(B=[]∧s=s')∧K:=b33 h1 h2 k
theorem St6.zz {α:Type} {xs:List α} {a b:Nat} {K:Prop} (k:K) (h:a=b:=by exact rfl):(xs.length=0∨a=b)∧K:=b5A h k
theorem bl0 {P:Program} {τ:Tab} {env:Env} {H':Hp} {ops:List Oper} {i:Nat} {K:Prop} (L:List Nat) (k:a1A P τ ops env H' K L) (h:J5 ops i=true:=by decide +kernel) (h2:X0 ops i=L:=by decide +kernel):J5 ops i=true∧∃L,X0 ops i=L∧a1A P τ ops env H' K L:=b0v L h h2 k
theorem qp {P:Program} {g:FuncId} {args:List S} {H:Hp} {r:S} {K:S→List Blk→Prop} {Q:Prop} (c:b9 P g args [] r []) (k:K r []) (h1:args.all S.isT=true:=by exact rfl) (h2:r.isT=true:=by exact rfl):(∃ r B,U4 P g args H r B∧K r B)∨Q:=.inl ⟨_,_,H5 c h1 h2,k⟩
theorem zc {a b:Prop} (h:a) (n:¬a:=by decide):b:=absurd h n
theorem St1.zy {a b c:Prop} (h:a):a34 a b c:=a34.data h
theorem St2.zy {a b:Prop} (h:b):ao5 a b:=ao5.own h
theorem b0x {a b:Prop} (h:a):ao5 a b:=ao5.data h
theorem lg0 {α:Type} {l:List α} {i:Nat} (h:i<l.length):l[i]? =some l[i]:=List.getElem?_eq_getElem h
theorem lg1 {α:Type} {l:List α} {i:Nat} {a:α} (h:l[i]? =some a):∃h:i<l.length,l[i]=a:=List.getElem?_eq_some_iff.1 h
theorem lg2 {α:Type} {l:List α} {i:Nat} {a:α} (h:l[i]? =some a):a ∈ l:=List.mem_of_getElem? h
theorem lg3 {α:Type} (l:List α) (i:Nat) (a:α):l.getD i a=l[i]?.getD a:=List.getD_eq_getElem?_getD
theorem lg4 {α:Type} {l:List α} {i:Nat} (h:l.length≤i):l.take i=l:=List.take_of_length_le h
theorem lg5 {α:Type} {a:α} {l:List α}:a ∈ a::l:=List.mem_cons_self ..
end
section
open St1 St2 St3 St4 St5 St6
open Go.RowKit
theorem a27 (i n:Int):b9 Tryz.prog 198 [a9 .i64 i,a9 .i64 n] [] (f7 (idx i n)) []:=by
 (refine a8 a7 Tryz.func198 rfl (by decide) ?_;(conv=>whnf);repeat (refine zy ?_;conv=>whnf))
 repeat' first|(refine zd ?_ ?_<;>intro h<;>first|exact zc h|(exfalso;omega)|conv=>whnf)|((first|refine zz ?_|refine zy ?_);conv=>whnf)
 all_goals (refine d8 ?_;simp only [idx];simp;omega)
theorem a1D (n lo hi:Int):b9 Tryz.prog 134 [a9 .i64 n,a9 .i64 lo,a9 .i64 hi] [] (f7 (btw n lo hi)) []:=by
 (refine a8 a7 Tryz.func134 rfl (by decide) ?_;(conv=>whnf);repeat (refine zy ?_;conv=>whnf))
 repeat' first|(refine zd ?_ ?_<;>intro h<;>first|exact zc h|(exfalso;omega)|conv=>whnf)|((first|refine zz ?_|refine zy ?_);conv=>whnf)
 all_goals (refine d8 ?_;simp only [btw];simp;omega)
def aN0 (p:Int × Int):List T:=[ti p.1,ti p.2]
def ah0 (e:Ev):List (Int × Int):=[(e.mats,6),(e.hhs,100),(e.scs,30),(e.places.length,100),(e.moves.length,200),(e.certs.length,100),(e.recalls.length,30),(e.purities.length,200)]
theorem ae3 (e:Ev):a0Q e=(ah0 e).any fun p=>decide (p.2<p.1):=by
 rw [Bool.eq_iff_iff]
 simp [a0Q,ah0]
 omega
set_option maxRecDepth 100000 in
theorem b5n (e:Ev) (hs:e.Sized):b9 Tryz.prog 124 [evS e] [] (f7 (a0Q e)) []:=by
 (refine a8 a7 Tryz.func124 rfl (by decide) ?_;(conv=>whnf);repeat (refine zy ?_;conv=>whnf))
 have hl:(ah0 e).length=8:=rfl
 refine f8 a7 (fun k=>([J,J,J,J,J,J,J,J,J,J,J,J,J,J,J,J,J,J,J,J,J,J,J,J,J,J,J,J,J,J,J,J,J,J,S.c (C.t (T.sl 2 .full ((ah0 e).map aN0))),a9 .i64 8,a9 .i64 k,J,J,J,J,J,J,J,J,J],[])) 8 (fun k=>((ah0 e).take k).any (fun p=>decide (p.2<p.1))=false) [] rfl
  ⟨rfl,rfl,trivial,⟨j3 (by simp [ah0,aN0]),rfl,rfl,trivial⟩⟩ ?_
 intro k hk hI
 conv=>whnf
 repeat' first|(refine zd ?_ ?_<;>intro h<;>first|exact zc h|(exfalso;omega)|conv=>whnf)|((first|refine zz ?_|refine zy ?_);conv=>whnf)
 ·have hlt:k<8:=by omega
  refine d9 (lg0 (hl ▸ hlt)) ?_
  conv=>whnf
  repeat' first|(refine zd ?_ ?_<;>intro h<;>first|exact zc h|(exfalso;omega)|conv=>whnf)|((first|refine zz ?_|refine zy ?_);conv=>whnf)
  ·refine d8 ?_
   rw [ae3,a10 (lg0 (hl ▸ hlt))]
   simpa using ‹_ > _›
  ·refine ⟨hlt,?_,[],rfl,rfl,trivial,⟨rfl,rfl,rfl,trivial⟩⟩
   rw [Z6 (lg0 (hl ▸ hlt)),hI]
   have h:=‹¬ _ > _›
   simp;omega
 ·refine d8 ?_
  rw [ae3,←hI,lg4 (by omega)]
end
section
open St1 St2 St3 St4 St5 St6
open Go.RowKit
set_option maxRecDepth 100000
theorem b2f (e:Ev) (hs:e.Sized):b9 Tryz.prog 125 [evS e] [] (f7 (e.places.all (P7 e))) []:=by
 have l1:=hs.s1
 have l2:(e.places.map I3.row).length=e.places.length:=by simp
 (refine a8 a7 Tryz.func125 rfl (by decide) ?_;(conv=>whnf);repeat (refine zy ?_;conv=>whnf))
 refine f8 a7 (fun k=>([J,S.c (C.ptr 0 0 0),J,J,J,J,S.c (C.t (a3Y e.places)),a9 .i64 e.places.length,a9 .i64 k,J,J,J,J,J,J,J,J,J,J,J,J,J,J,J,J,J,J,J,J,J,J,J,J,J,J,J,J,J,J,J,J,J,J,J,J],[evB e])) e.places.length (fun k=>(e.places.take k).all (P7 e)=true) [some 0] rfl
  ⟨rfl,rfl,⟨⟨rfl,rfl,rfl,.inl ⟨rfl,k6 e⟩⟩,trivial⟩,⟨⟨rfl,rfl,rfl⟩,j3 rfl,e7 (by simp),e7 rfl,trivial⟩⟩ ?_
 intro k hk hI
 conv=>whnf
 repeat' first|(refine zd ?_ ?_<;>intro h<;>first|exact zc h|(exfalso;omega)|conv=>whnf)|((first|refine zz ?_|refine zy ?_);conv=>whnf)
 ·have hlt:k<e.places.length:=by omega
  obtain ⟨x,hx⟩:∃x,e.places[k]? =some x:=⟨_,lg0 hlt⟩
  refine d9 hx ?_
  conv=>whnf
  repeat' first|(refine zd ?_ ?_<;>intro h<;>first|exact zc h|(exfalso;omega)|conv=>whnf)|((first|refine zz ?_|refine qp (a27 _ _) ?_|refine zy ?_);conv=>whnf)
  all_goals first
   |(refine ⟨hlt,?_,[some 0],rfl,rfl,⟨⟨rfl,rfl,rfl,.inl ⟨rfl,k6 e⟩⟩,trivial⟩,⟨⟨rfl,rfl,rfl⟩,rfl,rfl,rfl,trivial⟩⟩;rw [s7 hx,hI];simp_all [P7];done)
   |(refine d8 ?_;rw [w7 hx];simp_all [P7];done)
 ·refine d8 ?_
  rw [← hI,lg4 (by omega)]
theorem a3D {e:Ev} {i:Int} (h:idx i e.places.length=true):0≤i∧∃x,e.places[i.toNat]? =some x∧t7 e i=x.kind:=by
 have h':=an0.1 h
 have hlt:i.toNat<e.places.length:=by omega
 refine ⟨h'.1,_,lg0 hlt,?_⟩
 unfold t7
 rw [lg0 hlt];rfl
theorem b57 (e:Ev) (m:n6) (hs:e.Sized):b9 Tryz.prog 126 [evS e,aQ0 m] [] (f7 (F5 e m)) []:=by
 have l1:=hs.s1
 have l2:(e.places.map I3.row).length=e.places.length:=by simp
 by_cases h1:idx m.src e.places.length=true
 ·obtain ⟨hs0,x,hx,kx⟩:=a3D h1
  by_cases h2:idx m.dst e.places.length=true
  ·obtain ⟨hd0,y,hy,ky⟩:=a3D h2
   (refine a8 a7 Tryz.func126 rfl (by decide) ?_;(conv=>whnf);repeat (refine zy ?_;conv=>whnf))
   rw [← l2] at h1 h2
   repeat' first|(refine zd ?_ ?_<;>intro h<;>first|exact zc h|(exfalso;omega)|conv=>whnf)|((first|refine zz ?_|refine qp (a27 _ _) ?_|refine qp (a1D _ _ _) ?_|refine C1 hs0 hx ?_|refine C1 hd0 hy ?_|refine zy ?_);conv=>whnf)
   all_goals (refine d8 ?_;simp_all [F5];done)
  ·(refine a8 a7 Tryz.func126 rfl (by decide) ?_;(conv=>whnf);repeat (refine zy ?_;conv=>whnf))
   rw [← l2] at h1 h2
   repeat' first|(refine zd ?_ ?_<;>intro h<;>first|exact zc h|(exfalso;omega)|conv=>whnf)|((first|refine zz ?_|refine qp (a27 _ _) ?_|refine zy ?_);conv=>whnf)
   all_goals first|(exfalso;simp_all;done)|(refine d8 ?_;simp_all [F5];done)
 ·(refine a8 a7 Tryz.func126 rfl (by decide) ?_;(conv=>whnf);repeat (refine zy ?_;conv=>whnf))
  rw [← l2] at h1
  repeat' first|(refine zd ?_ ?_<;>intro h<;>first|exact zc h|(exfalso;omega)|conv=>whnf)|((first|refine zz ?_|refine qp (a27 _ _) ?_|refine zy ?_);conv=>whnf)
  all_goals first|(exfalso;simp_all;done)|(refine d8 ?_;simp_all [F5];done)
theorem b4X (e:Ev) (hs:e.Sized):b9 Tryz.prog 127 [evS e] [] (f7 (T3 e)) []:=by
 have l1:=hs.s3
 have l2:(e.certs.map G4.row).length=e.certs.length:=by simp
 have l3:=hs.s4
 have l4:(e.recalls.map z6.row).length=e.recalls.length:=by simp
 have l5:=hs.s5
 have l6:(e.purities.map O8.row).length=e.purities.length:=by simp
 have l7:=hs.s2
 have l8:(e.moves.map n6.row).length=e.moves.length:=by simp
 (refine a8 a7 Tryz.func127 rfl (by decide) ?_;(conv=>whnf);repeat (refine zy ?_;conv=>whnf))
 refine f8 a7 (fun k=>([J,S.c (C.ptr 0 0 0),J,J,J,J,J,J,J,J,J,S.c (C.t (Y4 e.certs)),a9 .i64 e.certs.length,a9 .i64 k,J,J,J,J,J,J,J,J,J,J,J,J,J,J,J,J,J,J,J,J,J,J,J,J,J,J,J,J,J,J,J,J,J,J,J,J,J,J,J,J,J,J,J,J,J,J,J,J,J,J,J,J,J,J,J,J,J,J,J,J,J,J,J,J,J,J,J,J,J,J,J,J,J,J,J,J,J,J,J,J,J,J,J,J,J,J,J,J,J,J,J,J,J,J,J,J,J,J,J,J,J,J,J,J,J,J,J],[evB e])) e.certs.length (fun k=>(e.certs.take k).all (a2y e)=true) [some 0] rfl
  ⟨rfl,rfl,⟨⟨rfl,rfl,rfl,.inl ⟨rfl,k6 e⟩⟩,trivial⟩,⟨⟨rfl,rfl,rfl⟩,j3 rfl,e7 (by simp),e7 rfl,trivial⟩⟩ ?_
 intro k hk hI
 conv=>whnf
 repeat' first|(refine zd ?_ ?_<;>intro h<;>first|exact zc h|(exfalso;omega)|conv=>whnf)|((first|refine zz ?_|refine zy ?_);conv=>whnf)
 ·have hlt:k<e.certs.length:=by omega
  obtain ⟨x,hx⟩:∃x,e.certs[k]? =some x:=⟨_,lg0 hlt⟩
  refine d9 hx ?_
  conv=>whnf
  repeat' first|(refine zd ?_ ?_<;>intro h<;>first|exact zc h|(exfalso;omega)|conv=>whnf)|((first|refine zz ?_|refine qp (a27 _ _) ?_|refine qp (a1D _ _ _) ?_|refine zy ?_);conv=>whnf)
  all_goals first
   |(refine ⟨hlt,?_,[some 0],rfl,rfl,⟨⟨rfl,rfl,rfl,.inl ⟨rfl,k6 e⟩⟩,trivial⟩,⟨⟨rfl,rfl,rfl⟩,rfl,rfl,rfl,trivial⟩⟩;rw [s7 hx,hI];simp_all [a2y];done)
   |(refine d8 ?_;rw [T3,w7 hx];rfl;simp_all [a2y];(try omega);done)
 ·have hc:e.certs.all (a2y e)=true:=by rw [← hI,lg4 (by omega)]
  clear hI h hk
  refine f8 a7 (fun k=>([J,S.c (C.ptr 0 0 0),J,J,J,J,J,J,J,J,J,J,J,J,J,J,J,J,J,J,J,J,J,J,J,J,J,J,J,J,J,J,J,J,J,J,J,J,J,J,J,J,J,J,J,J,J,J,J,J,J,J,J,J,J,J,J,J,J,J,J,J,S.c (C.t (J3 e.recalls)),a9 .i64 e.recalls.length,a9 .i64 k,J,J,J,J,J,J,J,J,J,J,J,J,J,J,J,J,J,J,J,J,J,J,J,J,J,J,J,J,J,J,J,J,J,J,J,J,J,J,J,J,J,J,J,J,J,J,J,J,J,J,J,J,J,J,J,J],[evB e])) e.recalls.length (fun k=>(e.recalls.take k).all (V9 e)=true) [some 0] rfl
   ⟨rfl,rfl,⟨⟨rfl,rfl,rfl,.inl ⟨rfl,k6 e⟩⟩,trivial⟩,⟨⟨rfl,rfl,rfl⟩,j3 rfl,e7 (by simp),e7 rfl,trivial⟩⟩ ?_
  intro k hk hI
  conv=>whnf
  repeat' first|(refine zd ?_ ?_<;>intro h<;>first|exact zc h|(exfalso;omega)|conv=>whnf)|((first|refine zz ?_|refine zy ?_);conv=>whnf)
  ·have hlt:k<e.recalls.length:=by omega
   obtain ⟨x,hx⟩:∃x,e.recalls[k]? =some x:=⟨_,lg0 hlt⟩
   refine d9 hx ?_
   conv=>whnf
   repeat' first|(refine zd ?_ ?_<;>intro h<;>first|exact zc h|(exfalso;omega)|conv=>whnf)|((first|refine zz ?_|refine qp (a27 _ _) ?_|refine qp (a1D _ _ _) ?_|refine zy ?_);conv=>whnf)
   all_goals first
    |(refine ⟨hlt,?_,[some 0],rfl,rfl,⟨⟨rfl,rfl,rfl,.inl ⟨rfl,k6 e⟩⟩,trivial⟩,⟨⟨rfl,rfl,rfl⟩,rfl,rfl,rfl,trivial⟩⟩;rw [s7 hx,hI];simp_all [V9];done)
    |(refine d8 ?_;rw [T3,hc,w7 hx];rfl;simp_all [V9];done)
  ·have hr:e.recalls.all (V9 e)=true:=by rw [← hI,lg4 (by omega)]
   clear hI h hk
   refine f8 a7 (fun k=>([J,S.c (C.ptr 0 0 0),J,J,J,J,J,J,J,J,J,J,J,J,J,J,J,J,J,J,J,J,J,J,J,J,J,J,J,J,J,J,J,J,J,J,J,J,J,J,J,J,J,J,J,J,J,J,J,J,J,J,J,J,J,J,J,J,J,J,J,J,J,J,J,J,J,J,J,J,J,J,J,J,J,J,J,J,J,J,J,J,S.c (C.t (a0z e.purities)),a9 .i64 e.purities.length,a9 .i64 k,J,J,J,J,J,J,J,J,J,J,J,J,J,J,J,J,J,J,J,J,J,J,J,J,J,J,J,J,J,J,J,J,J,J,J,J],[evB e])) e.purities.length (fun k=>(e.purities.take k).all (V4 e)=true) [some 0] rfl
    ⟨rfl,rfl,⟨⟨rfl,rfl,rfl,.inl ⟨rfl,k6 e⟩⟩,trivial⟩,⟨⟨rfl,rfl,rfl⟩,j3 rfl,e7 (by simp),e7 rfl,trivial⟩⟩ ?_
   intro k hk hI
   conv=>whnf
   repeat' first|(refine zd ?_ ?_<;>intro h<;>first|exact zc h|(exfalso;omega)|conv=>whnf)|((first|refine zz ?_|refine zy ?_);conv=>whnf)
   ·have hlt:k<e.purities.length:=by omega
    obtain ⟨x,hx⟩:∃x,e.purities[k]? =some x:=⟨_,lg0 hlt⟩
    refine d9 hx ?_
    conv=>whnf
    repeat' first|(refine zd ?_ ?_<;>intro h<;>first|exact zc h|(exfalso;omega)|conv=>whnf)|((first|refine zz ?_|refine qp (a27 _ _) ?_|refine qp (a1D _ _ _) ?_|refine zy ?_);conv=>whnf)
    all_goals first
     |(refine ⟨hlt,?_,[some 0],rfl,rfl,⟨⟨rfl,rfl,rfl,.inl ⟨rfl,k6 e⟩⟩,trivial⟩,⟨⟨rfl,rfl,rfl⟩,rfl,rfl,rfl,trivial⟩⟩;rw [s7 hx,hI];simp_all [V4];done)
     |(refine d8 ?_;rw [T3,hc,hr,w7 hx];rfl;simp_all [V4];(try omega);done)
   ·have hp:e.purities.all (V4 e)=true:=by rw [← hI,lg4 (by omega)]
    refine d8 ?_
    rw [T3,hc,hr,hp];rfl
end
section
open St1 St2 St3 St4 St5 St6
open Go.RowKit
set_option maxRecDepth 100000
def a1J (e:Ev):Nat→Int
 |0=>0
 |k+1=>((e.moves[k]?).map (·.day)).getD 0
theorem a0N {e:Ev} {k:Nat} {m:n6} (h:e.moves[k]? =some m):a1J e (k+1)=m.day:=by simp [a1J,h]
theorem W3 {α:Type} {l:List α} {k:Nat} {x:α} (h:l[k]? =some x):l.drop k=x::l.drop (k+1):=by
 obtain ⟨h1,h2⟩:=lg1 h
 rw [List.drop_eq_getElem_cons h1,h2]
theorem aQ3 (e:Ev) (hs:e.Sized):b9 Tryz.prog 58 [evS e] [] (a9 .i64 (y5 e)) []:=by
 have l7:=hs.s2
 have l8:(e.moves.map n6.row).length=e.moves.length:=by simp
 (refine a8 a7 Tryz.func58 rfl (by decide) ?_;(conv=>whnf);repeat (refine zy ?_;conv=>whnf))
 repeat' first|(refine zd ?_ ?_<;>intro h<;>first|exact zc h|(exfalso;omega)|conv=>whnf)|((first|refine zz ?_|refine qp (b5n _ hs) ?_|refine qp (b2f _ hs) ?_|refine zy ?_);conv=>whnf)
 case refine_2.refine_2.refine_2.refine_2.refine_1 hf h1 h2 h3=>
  have h4:=h
  clear h
  have hpre:¬(e.mats<1∨e.hhs<0∨e.scs<0∨e.places.all (P7 e)=false):=by
   rintro (h|h|h|h)
   ·omega
   ·omega
   ·omega
   ·rw [h4] at h;cases h
  have hck:y5 e=if t9 e 0 e.moves≠0 then t9 e 0 e.moves else if T3 e then 0 else 1:=by
   unfold y5;rw [if_neg (by simp [hf]),if_neg hpre]
  refine f8 a7 (fun k=>([J,S.c (C.ptr 0 0 0),J,a9 .i64 (a1J e k),J,J,J,J,J,J,J,J,J,J,J,J,J,J,J,J,J,J,J,J,J,J,J,J,J,S.c (C.t (a2k e.moves)),a9 .i64 e.moves.length,a9 .i64 k,J,J,J,J,J,J,J,J,J,J,J,J,J,J,J,J,J,J,J,J,J,J],[evB e])) e.moves.length (fun k=>t9 e 0 e.moves=t9 e (a1J e k) (e.moves.drop k)) [some 0] rfl
   ⟨rfl,rfl,⟨⟨rfl,rfl,rfl,.inl ⟨rfl,k6 e⟩⟩,trivial⟩,⟨⟨rfl,rfl,rfl⟩,e7 rfl,j3 rfl,e7 (by simp),e7 rfl,trivial⟩⟩ ?_
  intro k hk hI
  conv=>whnf
  repeat' first|(refine zd ?_ ?_<;>intro h<;>first|exact zc h|(exfalso;omega)|conv=>whnf)|((first|refine zz ?_|refine zy ?_);conv=>whnf)
  ·have hlt:k<e.moves.length:=by omega
   obtain ⟨x,hx⟩:∃x,e.moves[k]? =some x:=⟨_,lg0 hlt⟩
   rw [W3 hx,t9] at hI
   refine d9 hx ?_
   conv=>whnf
   repeat' first|(refine zd ?_ ?_<;>intro h<;>first|exact zc h|(exfalso;omega)|conv=>whnf)|((first|refine zz ?_|refine qp (b57 _ x hs) ?_|refine zy ?_);conv=>whnf)
   all_goals first
    |(refine ⟨hlt,?_,[some 0],rfl,rfl,⟨⟨rfl,rfl,rfl,.inl ⟨rfl,k6 e⟩⟩,trivial⟩,⟨⟨rfl,rfl,rfl⟩,?_,rfl,rfl,rfl,trivial⟩⟩
      ·rw [a0N hx,hI,if_neg (by omega),if_pos (by assumption)]
      ·rw [a0N hx];exact rfl)
    |(have e1:t9 e 0 e.moves=17:=by rw [hI,if_pos (by omega)]
      refine j5 ?_;rw [hck,e1];rfl)
    |(have e1:t9 e 0 e.moves=1:=by rw [hI,if_neg (by omega),if_neg (by simp_all)]
      refine j5 ?_;rw [hck,e1];rfl)
  ·rw [List.drop_eq_nil_of_le (by omega),t9] at hI
   repeat' first|(refine zd ?_ ?_<;>intro h<;>first|exact zc h|(exfalso;omega)|conv=>whnf)|((first|refine zz ?_|refine qp (b4X _ hs) ?_|refine zy ?_);conv=>whnf)
   all_goals (refine j5 ?_;rw [hck,hI];simp_all)
 all_goals (refine j5 ?_;unfold y5;simp_all;try omega)
end
section
open St1 St2 St3 St4 St5 St6
def val:List Int→Int
 |[]=>0
 |d::r=>d+1048576*val r
def Okd (l:List Int):Prop:=∀d ∈ l,0≤d∧d<1048576
def dgF:Nat→Nat→List Int
 |0,_=>[]
 |f+1,n=>if n=0 then [] else ((n % 1048576:Nat):Int)::dgF f (n / 1048576)
def dg (n:Nat):List Int:=dgF n n
def pw (i:Nat):Int:=1048576 ^ i
theorem b2I:pw 0=1:=rfl
theorem E9 (i:Nat):pw (i+1)=pw i*1048576:=Int.pow_succ ..
theorem O0 (i:Nat):0<pw i:=Int.pow_pos (by decide)
theorem a6N (i j:Nat):pw (i+j)=pw i*pw j:=Int.pow_add ..
theorem a0n {i j:Nat} (h:i≤j):pw i≤pw j:=by
 obtain ⟨k,rfl⟩:=Nat.exists_eq_add_of_le h
 rw [a6N]
 have h1:=O0 i
 have h2:=O0 k
 have:=Int.mul_le_mul_of_nonneg_left (a:=1) (b:=pw k) (c:=pw i) (by omega) (by omega)
 omega
theorem Okd.nil:Okd []:=fun _ h=>nomatch h
theorem Okd.cons {d:Int} {l:List Int} (h1:0≤d∧d<1048576) (h2:Okd l):Okd (d::l):=by
 intro x hx
 rcases List.mem_cons.1 hx with rfl|hx
 ·exact h1
 ·exact h2 x hx
theorem Okd.head {d:Int} {l:List Int} (h:Okd (d::l)):0≤d∧d<1048576:=h d (by simp)
theorem Okd.tail {d:Int} {l:List Int} (h:Okd (d::l)):Okd l:=fun x hx=>h x (by simp [hx])
theorem Okd.take {l:List Int} (h:Okd l) (n:Nat):Okd (l.take n):=fun x hx=>h x (List.mem_of_mem_take hx)
theorem Okd.drop {l:List Int} (h:Okd l) (n:Nat):Okd (l.drop n):=fun x hx=>h x (List.mem_of_mem_drop hx)
theorem Okd.append {a b:List Int} (h:Okd a) (h2:Okd b):Okd (a++b):=fun x hx=>by
 rcases List.mem_append.1 hx with hx|hx
 ·exact h x hx
 ·exact h2 x hx
theorem Okd.set {l:List Int} (h:Okd l) {i:Nat} {x:Int} (hx:0≤x∧x<1048576):Okd (l.set i x):=fun y hy=>by
 rcases List.mem_or_eq_of_mem_set hy with hy|rfl
 ·exact h y hy
 ·exact hx
theorem Okd.get {l:List Int} (h:Okd l) {i:Nat} {x:Int} (hx:l[i]? =some x):0≤x∧x<1048576:=h x (lg2 hx)
theorem Okd.zeros (n:Nat):Okd (List.replicate n 0):=fun x hx=>by rw [List.eq_of_mem_replicate hx];decide
theorem t6 {l:List Int} (h:Okd l):0≤val l:=by
 induction l with
 |nil=>simp [val]
 |cons d l ih=>have:=ih h.tail;have:=h.head;simp only [val];omega
theorem T1 {l:List Int} (h:Okd l):val l<pw l.length:=by
 induction l with
 |nil=>simp [val,pw]
 |cons d l ih=>
  have:=ih h.tail;have:=h.head
  simp only [val,List.length_cons,E9];omega
theorem J9 (a b:List Int):val (a++b)=val a+pw a.length*val b:=by
 induction a with
 |nil=>simp [val,pw]
 |cons d a ih=>simp only [List.cons_append,val,ih,List.length_cons,E9];grind
theorem a6y (n:Nat):val (List.replicate n 0)=0:=by
 induction n with
 |zero=>rfl
 |succ n ih=>simp [List.replicate_succ,val,ih]
theorem a42 (l:List Int) (i:Nat) (h:i≤l.length):val l=val (l.take i)+pw i*val (l.drop i):=by
 have:=J9 (l.take i) (l.drop i)
 rw [List.take_append_drop] at this
 rw [this]
 rw [List.length_take,Nat.min_eq_left h]
theorem a4l {l:List Int} {i:Nat} {x:Int} (h:l[i]? =some x):val (l.take (i+1))=val (l.take i)+pw i*x:=by
 have hi:i<l.length:=by
  rcases Nat.lt_or_ge i l.length with h1|h1
  ·exact h1
  ·rw [List.getElem?_eq_none h1] at h;cases h
 rw [List.take_add_one,h,J9,List.length_take,Nat.min_eq_left (by omega)]
 simp [val]
theorem a2T {l:List Int} {i:Nat} {x:Int} (h:l[i]? =some x):val (l.drop i)=x+1048576*val (l.drop (i+1)):=by
 have hi:i<l.length:=by
  rcases Nat.lt_or_ge i l.length with h1|h1
  ·exact h1
  ·rw [List.getElem?_eq_none h1] at h;cases h
 rw [List.drop_eq_getElem_cons hi]
 rw [lg0 hi] at h
 injection h with h
 rw [h];rfl
theorem b3O {l:List Int} {i:Nat} {x y:Int} (h:l[i]? =some y):val (l.set i x)=val l+pw i*(x - y):=by
 induction l generalizing i with
 |nil=>simp at h
 |cons d l ih=>
  cases i with
  |zero=>
   simp only [List.getElem?_cons_zero,Option.some.injEq] at h
   subst h
   simp [val,pw];omega
  |succ i=>
   simp only [List.getElem?_cons_succ] at h
   simp only [List.set_cons_succ,val,ih h,E9];grind
theorem b2j (f n:Nat) (h:n≤f):dgF f n=dg n:=by
 unfold dg
 induction f using Nat.strongRecOn generalizing n with
 |ind f ih=>
  cases f with
  |zero=>cases Nat.le_zero.1 h;rfl
  |succ f=>
   cases n with
   |zero=>rfl
   |succ n=>
    simp only [dgF,Nat.succ_ne_zero,if_false]
    rw [ih f (by omega) _ (by omega),ih n (by omega) _ (by omega)]
theorem S3:dg 0=[]:=rfl
theorem a4P {n:Nat} (h:0<n):dg n=((n % 1048576:Nat):Int)::dg (n / 1048576):=by
 obtain ⟨m,rfl⟩:∃m,n=m+1:=⟨n - 1,by omega⟩
 show dgF (m+1) (m+1)=_
 simp only [dgF,Nat.succ_ne_zero,if_false]
 rw [b2j _ _ (by omega)]
theorem aE4 {P:Nat→Prop} (h0:P 0) (h:∀n,0<n→P (n / 1048576)→P n) (n:Nat):P n:=by
 induction n using Nat.strongRecOn with
 |ind n ih=>
  rcases Nat.eq_zero_or_pos n with rfl|hn
  ·exact h0
  ·exact h n hn (ih _ (by omega))
theorem n7 (n:Nat):val (dg n)=n:=by
 induction n using aE4 with
 |h0=>rfl
 |h n hn ih=>rw [a4P hn,val,ih];omega
theorem p9 (n:Nat):Okd (dg n):=by
 induction n using aE4 with
 |h0=>exact .nil
 |h n hn ih=>rw [a4P hn];exact .cons (by omega) ih
theorem N4 {n:Nat}:dg n=[]↔n=0:=by
 constructor
 ·intro h
  have:=n7 n
  rw [h] at this
  simp only [val] at this;omega
 ·rintro rfl;rfl
def F7:List Int→List Int
 |[]=>[]
 |d::r=>if F7 r=[]∧d=0 then [] else d::F7 r
theorem I8 {l:List Int} (h:Okd l):F7 l=dg (val l).toNat:=by
 induction l with
 |nil=>rfl
 |cons d l ih=>
  have h0:=t6 h.tail
  have h1:=h.head
  have hv:(val (d::l)).toNat=d.toNat+1048576*(val l).toNat:=by simp only [val];omega
  rw [F7,ih h.tail,hv]
  split
  ·rename_i hc
   have:=N4.1 hc.1
   rw [this,hc.2];rfl
  ·rename_i hc
   rw [a4P (n:=d.toNat+1048576*(val l).toNat)]
   ·congr 1
    ·omega
    ·congr 1;omega
   ·rcases Nat.eq_zero_or_pos (val l).toNat with h2|h2
    ·have:d≠0:=fun h3=>hc ⟨by rw [h2];rfl,h3⟩
     omega
    ·omega
theorem a2q {l:List Int} {n:Nat} (h1:∀j x,n≤j→l[j]? =some x→x=0) (h2:∀x,0<n→l[n-1]? =some x→x≠0) (hn:n≤l.length):l.take n=F7 l:=by
 induction l generalizing n with
 |nil=>simp [F7]
 |cons d l ih=>
  cases n with
  |zero=>
   have ht:F7 l=[]:=by
    rw [← ih (n:=0) (fun j x _ hx=>h1 (j+1) x (by omega) (by simpa using hx)) (fun x h=>absurd h (by omega)) (by omega)];rfl
   have hd:d=0:=h1 0 d (by omega) (by simp)
   simp [F7,ht,hd]
  |succ n=>
   have ht:F7 l=l.take n:=by
    refine (ih (n:=n) (fun j x hj hx=>h1 (j+1) x (by omega) (by simpa using hx)) (fun x h hx=>h2 x (by omega) ?_) (by simpa using hn)).symm
    obtain ⟨m,rfl⟩:∃m,n=m+1:=⟨n - 1,by omega⟩
    simpa using hx
   rw [F7,ht,List.take_succ_cons,if_neg]
   rintro ⟨h3,h4⟩
   have hn0:n=0:=by
    rcases Nat.eq_zero_or_pos n with h5|h5
    ·exact h5
    ·have:=congrArg List.length h3
     simp only [List.length_take,List.length_nil,List.length_cons] at this hn
     omega
   subst hn0
   exact h2 d (by omega) (by simp) h4
theorem K8 {n k:Nat} (h:(n:Int)<pw k):(dg n).length≤k:=by
 induction k generalizing n with
 |zero=>have:n=0:=by simp [pw] at h;omega
        subst this;simp [S3]
 |succ k ih=>
  rcases Nat.eq_zero_or_pos n with rfl|hn
  ·simp [S3]
  ·rw [a4P hn]
   rw [E9] at h
   have:=ih (n:=n / 1048576) (by omega)
   simp;omega
theorem ai4 {n:Nat} (h:0<n):pw ((dg n).length - 1)≤n:=by
 induction n using aE4 with
 |h0=>omega
 |h n hn ih=>
  rw [a4P hn]
  rcases Nat.eq_zero_or_pos (n / 1048576) with h1|h1
  ·rw [h1,S3]
   simp [pw];omega
  ·have h2:=ih h1
   have:(dg (n / 1048576)).length≠0:=by rw [Ne,List.length_eq_zero_iff,N4];omega
   obtain ⟨m,hm⟩:∃m,(dg (n / 1048576)).length=m+1:=⟨(dg (n / 1048576)).length - 1,by omega⟩
   rw [hm] at h2
   rw [List.length_cons,hm]
   simp only [Nat.add_sub_cancel] at h2 ⊢
   rw [E9];omega
theorem N2 (n:Nat):(n:Int)<pw (dg n).length:=by
 have:=T1 (p9 n);rw [n7] at this;exact this
theorem o5 {m n:Nat} (h:m≤n):(dg m).length≤(dg n).length:=K8 (by have:=N2 n;omega)
theorem al7 {m n:Nat} (h:(dg m).length<(dg n).length):m<n:=by
 rcases Nat.lt_or_ge m n with h1|h1
 ·exact h1
 ·have:=o5 h1;omega
def Can (l:List Int):Prop:=Okd l∧∀x,l[l.length - 1]? =some x→x≠0
theorem aF1 {l:List Int} (h:Can l):l=dg (val l).toNat:=by
 rw [← I8 h.1]
 have:=a2q (l:=l) (n:=l.length) (fun j x hj hx=>by rw [List.getElem?_eq_none hj] at hx;cases hx) (fun x _ hx=>h.2 x hx) (Nat.le_refl _)
 rw [List.take_length] at this
 exact this
theorem a0O (n:Nat):Can (dg n):=by
 refine ⟨p9 n,fun x hx h0=>?_⟩
 subst h0
 have hl:0<(dg n).length:=by
  rcases Nat.eq_zero_or_pos (dg n).length with h|h
  ·rw [List.length_eq_zero_iff.1 h] at hx;simp at hx
  ·exact h
 have hp:0<n:=by
  rcases Nat.eq_zero_or_pos n with rfl|h
  ·simp [S3] at hl
  ·exact h
 have h1:=ai4 hp
 have h2:=a4l hx
 rw [show (dg n).length - 1+1=(dg n).length by omega,List.take_length,n7] at h2
 have h3:=T1 ((p9 n).take ((dg n).length - 1))
 rw [List.length_take,Nat.min_eq_left (by omega)] at h3
 omega
theorem a74 {a b:List Int} (ha:Okd a) (hb:Okd b) (hl:a.length=b.length) {i:Nat} {x y:Int} (hx:a[i]? =some x) (hy:b[i]? =some y)
 (hd:a.drop (i+1)=b.drop (i+1)) (h:x<y):val a<val b:=by
 have hi:i<a.length:=by
  rcases Nat.lt_or_ge i a.length with h1|h1
  ·exact h1
  ·rw [List.getElem?_eq_none h1] at hx;cases hx
 have e1:=a42 a i (by omega)
 have e2:=a42 b i (by omega)
 rw [a2T hx] at e1
 rw [a2T hy] at e2
 rw [hd] at e1
 have h1:=T1 (ha.take i)
 rw [List.length_take,Nat.min_eq_left (by omega)] at h1
 have h2:=t6 (hb.take i)
 have h3:=O0 i
 have h4:pw i*(x+1048576*val (b.drop (i+1)))+pw i≤pw i*(y+1048576*val (b.drop (i+1))):=by
  have:=Int.mul_le_mul_of_nonneg_left (a:=x+1048576*val (b.drop (i+1))+1) (b:=y+1048576*val (b.drop (i+1))) (c:=pw i) (by omega) (by omega)
  rw [Int.mul_add (pw i) _ 1] at this
  omega
 omega
def dat (l:List Int) (i:Nat):Int:=l.getD i 0
theorem a1I {l:List Int} {i:Nat} {x:Int} (h:l[i]? =some x):dat l i=x:=by unfold dat;rw [lg3,h];rfl
theorem M9 {l:List Int} {i:Nat} (h:l.length≤i):dat l i=0:=by unfold dat;rw [lg3,List.getElem?_eq_none h];rfl
theorem Okd.dat {l:List Int} (h:Okd l) (i:Nat):0≤dat l i∧dat l i<1048576:=by
 rcases Nat.lt_or_ge i l.length with h1|h1
 ·rw [a1I (lg0 h1)]
  exact h _ (List.getElem_mem h1)
 ·rw [M9 h1];decide
theorem p7 (l:List Int) (i:Nat):val (l.take (i+1))=val (l.take i)+pw i*dat l i:=by
 rcases Nat.lt_or_ge i l.length with h1|h1
 ·rw [a1I (lg0 h1)]
  exact a4l (lg0 h1)
 ·rw [M9 h1,lg4 (by omega),lg4 (by omega)];simp
theorem a3C (n:Int):0≤n % 1048576∧n % 1048576<1048576:=by omega
structure a6X (a b:List Int) (i:Nat) (out:List Int) (c:Int):Prop where
 len:out.length=a.length+1
 ok:Okd out
 le:i≤a.length
 zero:∀j,i≤j→dat out j=0
 c0:0≤c
 c1:c≤1
 eq:val out+pw i*c=val (a.take i)+val (b.take i)
theorem a6X.init (a b:List Int):a6X a b 0 (List.replicate (a.length+1) 0) 0:=
 ⟨by simp,.zeros _,Nat.zero_le _,fun j _=>by unfold dat;rw [lg3,List.getElem?_replicate];split<;>rfl,by decide,by decide,by rw [a6y];simp [val]⟩
theorem a3M {l:List Int} {i j:Nat} {x:Int} (h:i≠j):dat (l.set i x) j=dat l j:=by
 unfold dat;rw [lg3,lg3,List.getElem?_set_ne h]
theorem a17 {l:List Int} {i:Nat} {x:Int} (hi:i<l.length):val (l.set i x)=val l+pw i*(x - dat l i):=by
 rw [a1I (lg0 hi)];exact b3O (lg0 hi)
theorem a6X.step {a b out:List Int} {i:Nat} {c:Int} (h:a6X a b i out c) (ha:Okd a) (hb:Okd b) (hi:i<a.length):
 a6X a b (i+1) (out.set i ((c+dat a i+dat b i) % 1048576)) ((c+dat a i+dat b i) / 1048576):=by
 have h1:=ha.dat i
 have h2:=hb.dat i
 have h3:=h.c0
 have h4:=h.c1
 have hl:=h.len
 refine ⟨by simp [hl],h.ok.set (a3C _),hi,fun j hj=>?_,by omega,by omega,?_⟩
 ·rw [a3M (by omega)];exact h.zero j (by omega)
 ·rw [a17 (by omega),h.zero i (Nat.le_refl _),p7,p7,E9]
  have h5:=h.eq
  have h6:(c+dat a i+dat b i) % 1048576=c+dat a i+dat b i - 1048576*((c+dat a i+dat b i) / 1048576):=by omega
  rw [h6]
  grind
theorem a6X.fin {a b out:List Int} {c:Int} (h:a6X a b a.length out c) (hl:b.length≤a.length):F7 (out.set a.length c)=dg (val a+val b).toNat:=by
 have h1:=h.c0
 have h2:=h.c1
 have h3:=h.eq
 have hl:=h.len
 rw [I8 (h.ok.set (by omega)),a17 (by omega),h.zero _ (Nat.le_refl _)]
 rw [List.take_length,lg4 (by omega)] at h3
 congr 2
 grind
structure aa0 (a b:List Int) (i:Nat) (out:List Int) (c:Int):Prop where
 len:out.length=a.length
 ok:Okd out
 le:i≤a.length
 rest:∀j,i≤j→dat out j=dat a j
 c0:0≤c
 c1:c≤1
 eq:val out - pw i*c=val a - val (b.take i)
theorem aa0.init {a b:List Int} (ha:Okd a):aa0 a b 0 a 0:=⟨rfl,ha,Nat.zero_le _,fun _ _=>rfl,by decide,by decide,by simp [val]⟩
theorem aa0.step {a b out:List Int} {i:Nat} {c:Int} (h:aa0 a b i out c) (ha:Okd a) (hb:Okd b) (hi:i<a.length):
 aa0 a b (i+1) (out.set i ((dat out i - c - dat b i) % 1048576)) ((dat out i - c - dat b i) / 1048576 % 2):=by
 have h1:=h.ok.dat i
 have h2:=hb.dat i
 have h3:=h.c0
 have h4:=h.c1
 have hl:=h.len
 refine ⟨by simp [hl],h.ok.set (a3C _),hi,fun j hj=>?_,by omega,by omega,?_⟩
 ·rw [a3M (by omega)];exact h.rest j (by omega)
 ·rw [a17 (by omega),p7,E9]
  have h5:=h.eq
  have h6:(dat out i - c - dat b i) % 1048576=dat out i - c - dat b i+1048576*((dat out i - c - dat b i) / 1048576 % 2):=by omega
  rw [h6]
  grind
theorem aa0.fin {a b out:List Int} {c:Int} (h:aa0 a b a.length out c) (hl:b.length≤a.length) (hv:val b≤val a):F7 out=dg (val a - val b).toNat:=by
 have h1:=h.c0
 have h2:=h.c1
 have h3:=h.eq
 have hlen:=h.len
 rw [lg4 (by omega)] at h3
 have h4:=T1 h.ok
 rw [hlen] at h4
 rw [I8 h.ok]
 rcases Int.lt_or_le 0 c with h5|h5
 ·have:c=1:=by omega
  subst this;omega
 ·have:c=0:=by omega
  subst this
  congr 2;omega
structure a8G (a b:List Int) (i k:Nat) (out:List Int) (c:Int):Prop where
 len:out.length=a.length+b.length
 ok:Okd out
 le:k≤b.length
 zero:∀j,i+b.length≤j→dat out j=0
 c0:0≤c
 c1:c<1048576
 eq:val out+pw (i+k)*c=val (a.take i)*val b+pw i*dat a i*val (b.take k)
structure a2N (a b:List Int) (i:Nat) (out:List Int):Prop where
 len:out.length=a.length+b.length
 ok:Okd out
 le:i≤a.length
 zero:∀j,i+b.length≤j→dat out j=0
 eq:val out=val (a.take i)*val b
theorem a2N.init (a b:List Int):a2N a b 0 (List.replicate (a.length+b.length) 0):=
 ⟨by simp,.zeros _,Nat.zero_le _,fun j _=>by unfold dat;rw [lg3,List.getElem?_replicate];split<;>rfl,by rw [a6y];simp [val]⟩
theorem a2N.start {a b out:List Int} {i:Nat} (h:a2N a b i out):a8G a b i 0 out 0:=
 ⟨h.len,h.ok,Nat.zero_le _,h.zero,by decide,by decide,by rw [h.eq];simp [val]⟩
theorem a2m {x y:Int} (hx:0≤x∧x<1048576) (hy:0≤y∧y<1048576):0≤x*y∧x*y≤1048575*1048575:=
 ⟨Int.mul_nonneg hx.1 hy.1,Int.mul_le_mul (by omega) (by omega) hy.1 (by decide)⟩
theorem a8G.step {a b out:List Int} {i k:Nat} {c:Int} (h:a8G a b i k out c) (ha:Okd a) (hb:Okd b) (hi:i<a.length) (hk:k<b.length):
 a8G a b i (k+1) (out.set (i+k) ((dat out (i+k)+dat a i*dat b k+c) % 1048576)) ((dat out (i+k)+dat a i*dat b k+c) / 1048576):=by
 have h1:=h.ok.dat (i+k)
 have h2:=a2m (ha.dat i) (hb.dat k)
 have h3:=h.c0
 have h4:=h.c1
 have hl:=h.len
 refine ⟨by simp [hl],h.ok.set (a3C _),hk,fun j hj=>?_,by omega,by omega,?_⟩
 ·rw [a3M (by omega)];exact h.zero j (by omega)
 ·rw [a17 (by omega),p7,show i+(k+1)=i+k+1 by omega,E9]
  have h5:=h.eq
  have h6:(dat out (i+k)+dat a i*dat b k+c) % 1048576=dat out (i+k)+dat a i*dat b k+c - 1048576*((dat out (i+k)+dat a i*dat b k+c) / 1048576):=by omega
  rw [h6]
  have h7:=a6N i k
  grind
theorem a8G.done {a b out:List Int} {i:Nat} {c:Int} (h:a8G a b i b.length out c) (ha:Okd a) (hb:Okd b) (hi:i<a.length):
 a2N a b (i+1) (out.set (i+b.length) (dat out (i+b.length)+c)):=by
 have h3:=h.c0
 have h4:=h.c1
 have hl:=h.len
 have h8:=h.zero _ (Nat.le_refl _)
 refine ⟨by simp [hl],h.ok.set (by omega),hi,fun j hj=>?_,?_⟩
 ·rw [a3M (by omega)];exact h.zero j (by omega)
 ·rw [a17 (by omega),p7]
  have h5:=h.eq
  rw [List.take_length] at h5
  grind
theorem a2N.fin {a b out:List Int} (h:a2N a b a.length out):F7 out=dg (val a*val b).toNat:=by
 rw [I8 h.ok,h.eq,List.take_length]
structure Z0 (a:List Int) (d:Int) (j:Nat) (out:List Int) (r:Int):Prop where
 len:out.length=a.length
 ok:Okd out
 le:j≤a.length
 r0:0≤r
 r1:r<d
 eq:val (a.drop j)=d*val (out.drop j)+r
theorem Z0.init (a:List Int) {d:Int} (hd:0<d):Z0 a d a.length (List.replicate a.length 0) 0:=
 ⟨by simp,.zeros _,Nat.le_refl _,by decide,hd,by simp [val]⟩
theorem a5G {l:List Int} {i:Nat} (h:i<l.length):val (l.drop i)=dat l i+1048576*val (l.drop (i+1)):=by
 rw [a1I (lg0 h)];exact a2T (lg0 h)
theorem a5h {l:List Int} {i:Nat} {x:Int} (h:i<l.length):dat (l.set i x) i=x:=by
 unfold dat;rw [lg3,List.getElem?_set_self h];rfl
theorem Z0.step {a out:List Int} {d r:Int} {j:Nat} (h:Z0 a d (j+1) out r) (ha:Okd a) (hd:0<d):
 Z0 a d j (out.set j ((r*1048576+dat a j) / d)) ((r*1048576+dat a j) % d):=by
 have h1:=ha.dat j
 have h3:=h.r0
 have h4:=h.r1
 have hl:=h.len
 have hle:=h.le
 have h6:0≤(r*1048576+dat a j) / d:=Int.ediv_nonneg (by omega) (by omega)
 have h7:(r*1048576+dat a j) / d<1048576:=by
  apply Int.ediv_lt_of_lt_mul hd
  have:=Int.mul_le_mul_of_nonneg_left (a:=r+1) (b:=d) (c:=1048576) (by omega) (by omega)
  omega
 refine ⟨by simp [hl],h.ok.set ⟨h6,h7⟩,by omega,Int.emod_nonneg _ (by omega),Int.emod_lt_of_pos _ hd,?_⟩
 rw [a5G (by omega),a5G (l:=out.set j _) (by simp;omega),a5h (by omega),List.drop_set_of_lt (by omega),h.eq]
 have h8:=Int.emod_add_mul_ediv (r*1048576+dat a j) d
 grind
theorem Z0.fin {a out:List Int} {d r:Int} (h:Z0 a d 0 out r) (ha:Okd a) (hd:0<d):F7 out=dg (val a / d).toNat∧r=val a % d:=by
 have h3:=h.r0
 have h4:=h.r1
 have h5:=h.eq
 simp only [List.drop_zero] at h5
 rw [I8 h.ok]
 have e1:val a / d=val out:=by rw [h5];rw [Int.add_comm,Int.add_mul_ediv_left _ _ (by omega),Int.ediv_eq_zero_of_lt h3 h4];omega
 have e2:val a % d=r:=by rw [h5,Int.add_comm,Int.add_mul_emod_self_left,Int.emod_eq_of_lt h3 h4]
 exact ⟨by rw [e1],e2.symm⟩
structure a7r (w v:List Int) (g:Int) (i:Nat) (out:List Int) (c:Int):Prop where
 len:out.length=w.length
 ok:Okd out
 le:i≤w.length
 rest:∀j,i≤j→dat out j=dat w j
 c0:0≤c
 c1:c<1048576
 eq:val out - pw i*c=val w - g*val (v.take i)
theorem a7r.init {w v:List Int} (g:Int) (hw:Okd w):a7r w v g 0 w 0:=⟨rfl,hw,Nat.zero_le _,fun _ _=>rfl,by decide,by decide,by simp [val]⟩
theorem a7r.step {w v out:List Int} {g:Int} {i:Nat} {c:Int} (h:a7r w v g i out c) (hv:Okd v) (hg:0≤g∧g<1048576) (hi:i<w.length):
 a7r w v g (i+1) (out.set i ((dat out i - c - g*dat v i) % 1048576)) (-((dat out i - c - g*dat v i) / 1048576)):=by
 have h1:=h.ok.dat i
 have h2:=a2m hg (hv.dat i)
 have h3:=h.c0
 have h4:=h.c1
 have hl:=h.len
 refine ⟨by simp [hl],h.ok.set (a3C _),hi,fun j hj=>?_,by omega,by omega,?_⟩
 ·rw [a3M (by omega)];exact h.rest j (by omega)
 ·rw [a17 (by omega),p7,E9]
  have h5:=h.eq
  have h6:(dat out i - c - g*dat v i) % 1048576=dat out i - c - g*dat v i - 1048576*((dat out i - c - g*dat v i) / 1048576):=by omega
  rw [h6]
  grind
structure a5X (w v:List Int) (i:Nat) (out:List Int) (c:Int):Prop where
 len:out.length=w.length
 ok:Okd out
 le:i≤w.length
 rest:∀j,i≤j→dat out j=dat w j
 c0:0≤c
 c1:c≤1
 eq:val out+pw i*c=val w+val (v.take i)
theorem a5X.init {w v:List Int} (hw:Okd w):a5X w v 0 w 0:=⟨rfl,hw,Nat.zero_le _,fun _ _=>rfl,by decide,by decide,by simp [val]⟩
theorem a5X.step {w v out:List Int} {i:Nat} {c:Int} (h:a5X w v i out c) (hv:Okd v) (hi:i<w.length):
 a5X w v (i+1) (out.set i ((c+dat out i+dat v i) % 1048576)) ((c+dat out i+dat v i) / 1048576):=by
 have h1:=h.ok.dat i
 have h2:=hv.dat i
 have h3:=h.c0
 have h4:=h.c1
 have hl:=h.len
 refine ⟨by simp [hl],h.ok.set (a3C _),hi,fun j hj=>?_,by omega,by omega,?_⟩
 ·rw [a3M (by omega)];exact h.rest j (by omega)
 ·rw [a17 (by omega),p7,E9]
  have h5:=h.eq
  have h6:(c+dat out i+dat v i) % 1048576=c+dat out i+dat v i - 1048576*((c+dat out i+dat v i) / 1048576):=by omega
  rw [h6]
  grind
theorem a7r.zero {w v out:List Int} {g c:Int} (h:a7r w v g w.length out c) (hl:v.length≤w.length) (hw:Okd w) (hv:Okd v) (hg:0≤g):
 (c=0↔g*val v≤val w)∧(c=0→val out=val w - g*val v):=by
 have h3:=h.c0
 have h5:=h.eq
 rw [lg4 (by omega)] at h5
 have h6:=T1 h.ok
 have h7:=t6 h.ok
 rw [h.len] at h6
 have h8:=O0 w.length
 have h9:0<c→pw w.length≤pw w.length*c:=fun hc=>by
  have:=Int.mul_le_mul_of_nonneg_left (a:=1) (b:=c) (c:=pw w.length) (by omega) (by omega)
  omega
 constructor
 ·constructor
  ·rintro rfl;omega
  ·intro h10
   rcases Int.lt_or_le 0 c with h11|h11
   ·have:=h9 h11;omega
   ·omega
 ·rintro rfl;omega
theorem a7r.back {w v out out':List Int} {g c c':Int} (h:a7r w v g w.length out c) (h':a5X out v w.length out' c') (hl:v.length≤w.length)
 (h1:0≤val w - g*val v+val v) (h2:val w - g*val v+val v<pw w.length):val out'=val w - g*val v+val v:=by
 have h5:=h.eq
 have h6:=h'.eq
 rw [lg4 (by omega)] at h5 h6
 have h7:=T1 h'.ok
 have h8:=t6 h'.ok
 rw [h'.len,h.len] at h7
 have h9:=O0 w.length
 have e:val out'+pw w.length*(c' - c)=val w - g*val v+val v:=by grind
 rcases Int.lt_trichotomy (c' - c) 0 with hc|hc|hc
 ·have:=Int.mul_le_mul_of_nonneg_left (a:=c' - c) (b:=-1) (c:=pw w.length) (by omega) (by omega)
  omega
 ·rw [hc] at e;omega
 ·have:=Int.mul_le_mul_of_nonneg_left (a:=1) (b:=c' - c) (c:=pw w.length) (by omega) (by omega)
  omega
structure Win (P V W v1 v2 top u2:Int):Prop where
 P0:0<P
 v1l:524288≤v1
 v1u:v1<1048576
 v20:0≤v2
 v2u:v2<1048576
 u20:0≤u2
 u2u:u2<1048576
 t0:0≤top
 tu:top<1048576*1048576
 Vl:P*(v1*1048576+v2)≤V
 Vu:V<P*(v1*1048576+v2)+P
 Wl:P*(top*1048576+u2)≤W
 Wu:W<P*(top*1048576+u2)+P
 lt:W<V*1048576
theorem Win.V0 {P V W v1 v2 top u2:Int} (h:Win P V W v1 v2 top u2):0<V:=by
 have h1:=h.Vl
 have h2:=h.P0
 have h3:=h.v1l
 have h4:=h.v20
 have:=Int.mul_pos h2 (b:=v1*1048576+v2) (by omega)
 omega
structure U1 (V W v1 top g r:Int):Prop where
 g0:0≤g
 gu:g≤2097152
 r0:0≤r
 ru:r<2097152
 eq:g*v1+r=top
 hi:W<(g+1)*V
theorem U1.init {P V W v1 v2 top u2:Int} (h:Win P V W v1 v2 top u2):U1 V W v1 top (top / v1) (top % v1):=by
 have h1:=h.v1l
 have h2:=h.v1u
 have h3:=h.t0
 have h4:=h.tu
 have h5:=Int.emod_nonneg top (b:=v1) (by omega)
 have h6:=Int.emod_lt_of_pos top (b:=v1) (by omega)
 have h7:=Int.mul_ediv_add_emod top v1
 have h8:0≤top / v1:=Int.ediv_nonneg h3 (by omega)
 have hq:top / v1*v1+top % v1=top:=by rw [Int.mul_comm];exact h7
 refine ⟨h8,?_,h5,by omega,hq,?_⟩
 ·have h9:=Int.mul_le_mul_of_nonneg_left (a:=524288) (b:=v1) (c:=top / v1) h1 h8
  omega
 ·have hW:=h.Wu
  have hV:=h.Vl
  have hP:=h.P0
  have h20:=h.v20
  have hu:=h.u2u
  have e1:(top / v1+1)*(P*(v1*1048576+v2))≤(top / v1+1)*V:=Int.mul_le_mul_of_nonneg_left hV (by omega)
  have e2:top*1048576+u2+1≤(top / v1+1)*(v1*1048576+v2):=by
   have:0≤(top / v1+1)*v2:=Int.mul_nonneg (by omega) h20
   have e3:(top / v1+1)*v1≥top+1:=by grind
   grind
  have e4:=Int.mul_le_mul_of_nonneg_left (c:=P) e2 (by omega)
  grind
theorem U1.dec {P V W v1 v2 top u2 g r:Int} (h:Win P V W v1 v2 top u2) (hg:U1 V W v1 top g r) (hc:1048576≤g∨(r<1048576∧r*1048576+u2<g*v2)):
 W<g*V:=by
 have hV0:=h.V0
 rcases hc with hc|⟨hr,hc⟩
 ·have:=Int.mul_le_mul_of_nonneg_right (a:=1048576) (b:=g) (c:=V) hc (by omega)
  have:=h.lt
  omega
 ·have hW:=h.Wu
  have e1:g*(P*(v1*1048576+v2))≤g*V:=Int.mul_le_mul_of_nonneg_left h.Vl hg.g0
  have e2:top*1048576+u2+1≤g*(v1*1048576+v2):=by
   have:=hg.eq
   grind
  have e4:=Int.mul_le_mul_of_nonneg_left (c:=P) e2 (Int.le_of_lt h.P0)
  grind
theorem U1.small {P V W v1 v2 top u2 g r:Int} (h:Win P V W v1 v2 top u2) (hg:U1 V W v1 top g r) (hc:1048576≤g):r<1048576:=by
 have h1:=h.Wl
 have h2:=h.lt
 have h3:=h.Vu
 have hP:=h.P0
 have e1:P*(top*1048576+u2)<P*((v1*1048576+v2+1)*1048576):=by grind
 have e2:top*1048576+u2<(v1*1048576+v2+1)*1048576:=Int.lt_of_mul_lt_mul_left e1 (Int.le_of_lt hP)
 have h4:=h.u20
 have h5:=hg.eq
 have h6:=Int.mul_le_mul_of_nonneg_right (a:=1048576) (b:=g) (c:=v1) hc (by have:=h.v1l;omega)
 have h7:=h.v2u
 omega
theorem U1.step {P V W v1 v2 top u2 g r:Int} (h:Win P V W v1 v2 top u2) (hg:U1 V W v1 top g r) (hc:1048576≤g∨(r<1048576∧r*1048576+u2<g*v2))
 (hW0:0≤W):U1 V W v1 top (g - 1) (r+v1):=by
 have h1:=U1.dec h hg hc
 have hV0:=h.V0
 have hg0:0<g:=by
  rcases Int.lt_or_le 0 g with h2|h2
  ·exact h2
  ·have:=hg.g0
   have:g=0:=by omega
   subst this;omega
 have h2:=hg.gu
 have h3:=hg.r0
 have h4:=h.v1l
 have h5:=h.v1u
 have h6:=hg.eq
 have h7:r<1048576:=by
  rcases hc with hc|hc
  ·exact U1.small h hg hc
  ·exact hc.1
 exact ⟨by omega,by omega,by omega,by omega,by grind,by grind⟩
theorem U1.fin {P V W v1 v2 top u2 g r:Int} (h:Win P V W v1 v2 top u2) (hg:U1 V W v1 top g r) (hc:¬(1048576≤g∨(r<1048576∧r*1048576+u2<g*v2)))
 (hP:P*1048576≤V):g<1048576∧g*V≤W+V:=by
 have hg1:g<1048576:=by omega
 refine ⟨hg1,?_⟩
 have h0:=hg.g0
 have h20:=h.v20
 have h2u:=h.v2u
 have hu0:=h.u20
 have e1:g*v2≤r*1048576+u2:=by
  rcases Int.lt_or_le r 1048576 with hr|hr
  ·omega
  ·have:=a2m ⟨h0,hg1⟩ ⟨h20,h2u⟩
   omega
 have e2:g*(v1*1048576+v2)≤top*1048576+u2:=by
  have:=hg.eq
  grind
 have e3:=Int.mul_le_mul_of_nonneg_left (c:=P) e2 (Int.le_of_lt h.P0)
 have e4:g*V≤g*(P*(v1*1048576+v2)+P):=Int.mul_le_mul_of_nonneg_left (Int.le_of_lt h.Vu) h0
 have e5:g*P≤1048576*P:=Int.mul_le_mul_of_nonneg_right (Int.le_of_lt hg1) (Int.le_of_lt h.P0)
 have hW:=h.Wl
 grind
structure Bg where
 sg:Int
 dl:List Int
def bz (z:Int):Bg:=⟨z.sign,dg z.natAbs⟩
def inD (d:Int):Bool:=decide (0≤d) && decide (d≤1048575)
def H6 (b:Bg):Bool:=b.dl.all inD && (if b.dl.length=0 then b.sg == 0 else (b.sg == 1 || b.sg == -1) && !(dat b.dl (b.dl.length - 1) == 0))
def bv (b:Bg):Int:=b.sg*val b.dl
theorem aR8 {l:List Int}:l.all inD=true↔Okd l:=by
 simp only [List.all_eq_true,inD,Bool.and_eq_true,decide_eq_true_eq]
 exact ⟨fun h d hd=>by have:=h d hd;omega,fun h d hd=>by have:=h d hd;omega⟩
theorem a2J (z:Int):bv (bz z)=z:=by
 unfold bv bz
 rw [n7]
 exact Int.sign_mul_natAbs z
theorem b2l {b:Bg} (h:H6 b=true):b=bz (bv b):=by
 unfold H6 at h
 rw [Bool.and_eq_true,aR8] at h
 obtain ⟨h1,h2⟩:=h
 obtain ⟨sg,dl⟩:=b
 simp only at h1 h2
 have hv:=t6 h1
 by_cases hl:dl.length=0
 ·rw [if_pos hl] at h2
  have:dl=[]:=List.eq_nil_of_length_eq_zero hl
  subst this
  have:sg=0:=by simpa using h2
  subst this
  rfl
 ·rw [if_neg hl,Bool.and_eq_true] at h2
  have hc:Can dl:=⟨h1,fun x hx=>by rw [a1I hx] at h2;simpa using h2.2⟩
  have h3:=aF1 hc
  have hp:0<val dl:=by
   rcases Int.lt_or_le 0 (val dl) with h4|h4
   ·exact h4
   ·have:val dl=0:=by omega
    rw [this] at h3
    rw [h3] at hl
    exact absurd rfl hl
  have hs:sg=1∨sg=-1:=by simpa using h2.1
  have ha:(sg*val dl).natAbs=(val dl).toNat:=by
   rcases hs with rfl|rfl<;>omega
  have hg:(sg*val dl).sign=sg:=by
   rcases hs with rfl|rfl
   ·rw [Int.one_mul];exact Int.sign_eq_one_of_pos hp
   ·exact Int.sign_eq_neg_one_of_neg (by omega)
  unfold bz bv
  simp only
  rw [ha,hg,←h3]
theorem W5 (z:Int):H6 (bz z)=true:=by
 unfold H6
 rw [Bool.and_eq_true,aR8]
 refine ⟨p9 _,?_⟩
 by_cases hl:(bz z).dl.length=0
 ·rw [if_pos hl]
  have h0:dg z.natAbs=[]:=List.eq_nil_of_length_eq_zero hl
  have:z=0:=by have:=N4.1 h0;omega
  subst this;rfl
 ·rw [if_neg hl]
  have hz:z≠0:=by rintro rfl;exact hl rfl
  have hl0:(dg z.natAbs).length - 1<(dg z.natAbs).length:=by have:(dg z.natAbs).length≠0:=hl;omega
  have h1:=(a0O z.natAbs).2 _ (lg0 hl0)
  have h2:dat (bz z).dl ((bz z).dl.length - 1)≠0:=by
   show dat (dg z.natAbs) ((dg z.natAbs).length - 1)≠0
   rw [a1I (lg0 hl0)];exact h1
  rw [Bool.and_eq_true]
  refine ⟨?_,by simpa using h2⟩
  show ((z.sign == 1) || (z.sign == -1))=true
  rcases Int.lt_trichotomy z 0 with h|h|h
  ·rw [Int.sign_eq_neg_one_of_neg h];rfl
  ·exact absurd h hz
  ·rw [Int.sign_eq_one_of_pos h];rfl
theorem a9a {z:Int}:(bz z).sg=z.sign:=rfl
structure Fr where
 p:Bg
 q:Bg
def fz (x:Rat):Fr:=⟨bz x.num,bz x.den⟩
def D2 (f:Fr):Bool:=H6 f.p && H6 f.q && (f.q.sg == 1) && (Int.gcd (bv f.p) (bv f.q) == 1)
def fv (f:Fr):Rat:=mkRat (bv f.p) (bv f.q).toNat
theorem a5H (x:Rat):D2 (fz x)=true:=by
 unfold D2 fz
 simp only [W5,a2J,Bool.true_and,Bool.and_eq_true]
 have hd:=x.den_pos
 refine ⟨?_,?_⟩
 ·rw [a9a,Int.sign_eq_one_of_pos (by omega)];rfl
 ·have:=x.reduced
  simp only [Int.gcd,Int.natAbs_natCast]
  rw [this];rfl
theorem b82 {f:Fr} (h:D2 f=true):f=fz (fv f):=by
 unfold D2 at h
 simp only [Bool.and_eq_true,beq_iff_eq] at h
 obtain ⟨⟨⟨h1,h2⟩,h3⟩,h4⟩:=h
 have e1:=b2l h1
 have e2:=b2l h2
 rw [e2,a9a] at h3
 have hq:0<bv f.q:=Int.sign_eq_one_iff_pos.1 h3
 have hr:Nat.Coprime (bv f.p).natAbs (bv f.q).toNat:=by
  have:(bv f.q).natAbs=(bv f.q).toNat:=by omega
  rw [← this];exact h4
 have e3:fv f=⟨bv f.p,(bv f.q).toNat,by omega,hr⟩:=(Rat.mk_eq_mkRat _ _ _ _).symm
 rw [e3]
 unfold fz
 simp only
 rw [← e1,show (((bv f.q).toNat:Nat):Int)=bv f.q by omega,←e2]
theorem b7A (x:Rat):fv (fz x)=x:=by
 unfold fv fz
 simp only [a2J,Int.toNat_natCast]
 exact Rat.mkRat_self x
theorem a6m {p q g:Int} (hq:0<q) (hg:g=Int.gcd p q):fz (Rat.divInt p q)=⟨bz (p / g),bz (q / g)⟩:=by
 unfold fz
 rw [Rat.num_divInt,Rat.den_divInt,if_neg (by omega),Int.sign_eq_one_of_pos hq,Int.one_mul,Int.gcd_comm q p,←hg]
 congr 2
 rw [hg]
 have:((q.natAbs / Int.gcd p q:Nat):Int)=(q.natAbs:Int) / (Int.gcd p q:Int):=by simp
 rw [this,show (q.natAbs:Int)=q by omega]
structure a7y (U V N L:Nat) (j:Nat) (u q:List Int):Prop where
 lu:u.length=N
 oku:Okd u
 lq:q.length=N - L
 okq:Okd q
 le:j≤N - L
 eq:val (q.drop j)*pw j*V+val u=U
 lt:val u<V*pw j
theorem a7y.init {U V:Nat} (hV:0<V) (hl:(dg V).length≤(dg U).length+1):a7y U V ((dg U).length+1) (dg V).length ((dg U).length+1 - (dg V).length) (dg U++[0]) (List.replicate ((dg U).length+1 - (dg V).length) 0):=by
 have h1:=ai4 hV
 have h2:=N2 U
 have hv:val (dg U++[0])=U:=by rw [J9,n7];simp [val]
 have hL:(dg V).length≠0:=by rw [Ne,List.length_eq_zero_iff,N4];omega
 refine ⟨by simp,(p9 U).append (by intro x hx;simp at hx;omega),by simp,.zeros _,Nat.le_refl _,?_,?_⟩
 ·rw [List.drop_of_length_le (by simp),hv];simp [val]
 ·rw [hv]
  have h3:=Int.mul_le_mul_of_nonneg_right (a:=pw ((dg V).length - 1)) (b:=V) (c:=pw ((dg U).length+1 - (dg V).length)) h1 (Int.le_of_lt (O0 _))
  rw [← a6N,show (dg V).length - 1+((dg U).length+1 - (dg V).length)=(dg U).length by omega] at h3
  omega
theorem a7y.window {U V N L j:Nat} {u q:List Int} (h:a7y U V N L (j+1) u q) (hL:(dg V).length=L):
 u=u.take j++(u.drop j).take (L+1)++u.drop (j+(L+1))∧((u.drop j).take (L+1)).length=L+1∧(u.take j).length=j∧
 val u=val (u.take j)+pw j*val ((u.drop j).take (L+1))∧val (u.drop (j+(L+1)))=0∧val ((u.drop j).take (L+1))<V*1048576:=by
 have h1:=h.lu
 have h2:=h.le
 have h3:=h.lt
 have hp:=O0 j
 have e0:(u.take j).length=j:=by simp;omega
 have e1:u.drop j=(u.drop j).take (L+1)++u.drop (j+(L+1)):=by rw [← List.drop_drop,List.take_append_drop]
 have e2:((u.drop j).take (L+1)).length=L+1:=by simp;omega
 have e3:u=u.take j++(u.drop j).take (L+1)++u.drop (j+(L+1)):=by rw [List.append_assoc,←e1,List.take_append_drop]
 have hv:=a42 u j (by omega)
 have hw:=J9 ((u.drop j).take (L+1)) (u.drop (j+(L+1)))
 rw [← e1,e2] at hw
 have h4:=t6 (h.oku.take j)
 have h5:=t6 ((h.oku.drop j).take (L+1))
 have h6:=t6 (h.oku.drop (j+(L+1)))
 have hVp:=N2 V
 rw [hL] at hVp
 have hz:val (u.drop (j+(L+1)))=0:=by
  rcases Int.lt_or_le 0 (val (u.drop (j+(L+1)))) with h7|h7
  ·exfalso
   have a1:=Int.mul_le_mul_of_nonneg_left (a:=1) (b:=val (u.drop (j+(L+1)))) (c:=pw (L+1)) (by omega) (Int.le_of_lt (O0 _))
   have a2:=Int.mul_le_mul_of_nonneg_left (a:=pw (L+1)) (b:=val (u.drop j)) (c:=pw j) (by omega) (Int.le_of_lt hp)
   have a3:=Int.mul_le_mul_of_nonneg_right (a:=(V:Int)) (b:=pw L) (c:=pw (j+1)) (Int.le_of_lt hVp) (Int.le_of_lt (O0 _))
   have a4:pw j*pw (L+1)=pw L*pw (j+1):=by rw [← a6N,←a6N];congr 1;omega
   omega
  ·omega
 rw [hz,Int.mul_zero,Int.add_zero] at hw
 rw [hw] at hv
 refine ⟨e3,e2,e0,hv,hz,?_⟩
 have a5:pw j*val ((u.drop j).take (L+1))<pw j*(V*1048576):=by
  rw [E9] at h3
  have:(V:Int)*(pw j*1048576)=pw j*(V*1048576):=by grind
  omega
 exact Int.lt_of_mul_lt_mul_left a5 (Int.le_of_lt hp)
theorem aa3 (l:List Int):F7 l++List.replicate (l.length - (F7 l).length) 0=l:=by
 induction l with
 |nil=>rfl
 |cons d r ih=>
  rw [F7]
  split
  ·rename_i h
   rw [h.1] at ih
   rw [h.2]
   simp only [List.nil_append,List.length_nil,Nat.sub_zero,List.length_cons,List.replicate_succ] at ih ⊢
   rw [ih]
  ·simp only [List.cons_append,List.length_cons,Nat.add_sub_add_right]
   rw [ih]
def X2 (n:Nat) (l:List Int):List Int:=l++List.replicate (n - l.length) 0
theorem aN8 {l:List Int} (h:Okd l) {n:Nat} (hn:l.length=n):l=X2 n (dg (val l).toNat):=by
 subst hn
 have:=aa3 l
 rw [I8 h] at this
 exact this.symm
theorem b2J (n:Nat) (l:List Int):val (X2 n l)=val l:=by unfold X2;rw [J9,a6y];simp
theorem aa4 {n:Nat} {l:List Int} (h:l.length≤n):(X2 n l).length=n:=by unfold X2;simp;omega
theorem b1c {n:Nat} {l:List Int} (h:Okd l):Okd (X2 n l):=h.append (.zeros _)
theorem Win.of {v w:List Int} {L:Nat} (hv:Okd v) (hw:Okd w) (lv:v.length=L+2) (lw:w.length=L+3) (ht:524288≤dat v (L+1)) (hlt:val w<val v*1048576):
 Win (pw L) (val v) (val w) (dat v (L+1)) (dat v L) (dat w (L+2)*1048576+dat w (L+1)) (dat w L):=by
 have v1:=p7 v (L+1)
 have v2:=p7 v L
 have w1:=p7 w (L+2)
 have w2:=p7 w (L+1)
 have w3:=p7 w L
 rw [lg4 (by omega)] at v1 w1
 have a1:=t6 (hv.take L)
 have a2:=T1 (hv.take L)
 have a3:=t6 (hw.take L)
 have a4:=T1 (hw.take L)
 rw [List.length_take,Nat.min_eq_left (by omega)] at a2 a4
 have d1:=hv.dat (L+1)
 have d2:=hv.dat L
 have d3:=hw.dat (L+2)
 have d4:=hw.dat (L+1)
 have d5:=hw.dat L
 have p1:=E9 L
 have p2:=E9 (L+1)
 have e1:val v=pw L*(dat v (L+1)*1048576+dat v L)+val (v.take L):=by grind
 have e2:val w=pw L*((dat w (L+2)*1048576+dat w (L+1))*1048576+dat w L)+val (w.take L):=by grind
 exact ⟨O0 L,ht,by omega,by omega,by omega,by omega,by omega,by omega,by omega,by omega,by omega,by omega,by omega,hlt⟩
theorem a7y.step {U V N L j:Nat} {u q:List Int} (h:a7y U V N L (j+1) u q) (hL:(dg V).length=L) (hV:0<V) {Q:Int} (hQ:0≤Q∧Q<1048576)
 (hr0:0≤val ((u.drop j).take (L+1)) - Q*V) (hr1:val ((u.drop j).take (L+1)) - Q*V<V):
 a7y U V N L j (u.take j++X2 (L+1) (dg (val ((u.drop j).take (L+1)) - Q*V).toNat)++u.drop (j+(L+1))) (q.set j Q):=by
 obtain ⟨e3,e2,e0,hv,hz,hW⟩:=h.window hL
 have h1:=h.lu
 have h2:=h.le
 have h3:=h.lq
 have hVp:=N2 V
 rw [hL] at hVp
 have hmono:=a0n (Nat.le_succ L)
 have lp:(dg (val ((u.drop j).take (L+1)) - Q*V).toNat).length≤L+1:=K8 (by have:pw L≤pw (L+1):=hmono;omega)
 have hpl:=aa4 lp
 have hvp:val (X2 (L+1) (dg (val ((u.drop j).take (L+1)) - Q*V).toNat))=val ((u.drop j).take (L+1)) - Q*V:=by
  rw [b2J,n7,Int.toNat_of_nonneg hr0]
 have hu':val (u.take j++X2 (L+1) (dg (val ((u.drop j).take (L+1)) - Q*V).toNat)++u.drop (j+(L+1)))=val (u.take j)+pw j*(val ((u.drop j).take (L+1)) - Q*V):=by
  rw [J9,hz,J9,hvp,e0];simp
 have hp:=O0 j
 have hlt:=T1 (h.oku.take j)
 rw [e0] at hlt
 refine ⟨?_,((h.oku.take j).append (b1c (p9 _))).append (h.oku.drop _),by simp [h3],h.okq.set hQ,by omega,?_,?_⟩
 ·simp only [List.length_append,hpl,e0,List.length_drop];omega
 ·rw [hu',a5G (by simp;omega),a5h (by omega),List.drop_set_of_lt (by omega)]
  have h4:=h.eq
  rw [hv,E9] at h4
  grind
 ·rw [hu']
  have h5:=Int.mul_le_mul_of_nonneg_left (a:=val ((u.drop j).take (L+1)) - Q*V) (b:=(V:Int) - 1) (c:=pw j) (by omega) (by omega)
  have h6:pw j*((V:Int) - 1)=V*pw j - pw j:=by grind
  omega
theorem a7y.fin {U V N L:Nat} {u q:List Int} (h:a7y U V N L 0 u q) (hV:0<V):val q=(U / V:Nat)∧val u=(U % V:Nat):=by
 have h1:=h.eq
 have h2:=h.lt
 simp only [List.drop_zero,b2I,Int.mul_one] at h1 h2
 have h3:=t6 h.oku
 have h4:=t6 h.okq
 obtain ⟨Q,hQ⟩:=Int.eq_ofNat_of_zero_le h4
 obtain ⟨R,hR⟩:=Int.eq_ofNat_of_zero_le h3
 rw [hQ,hR] at h1
 rw [hR] at h2
 have e:U=R+Q*V:=by
  have:((R+Q*V:Nat):Int)=(U:Int):=by rw [← h1];simp [Int.add_comm]
  omega
 have hlt:R<V:=by omega
 rw [hQ,hR,e,Nat.add_mul_div_right _ _ hV,Nat.div_eq_of_lt hlt,Nat.add_mul_mod_self_right,Nat.mod_eq_of_lt hlt]
 simp
end
section
open St1 St2 St3 St4 St5 St6
open Go.RowKit
set_option maxRecDepth 100000
abbrev bgC (b:Bg):List C:=[.t (ti b.sg),.t (J0 b.dl)]
abbrev bgS (b:Bg):S:=.agg (bgC b)
abbrev bgB (b:Bg):Blk:={ mode:=.live,elem:=81,size:=2,rows:=[bgC b],box:=true }
theorem a3B (b:Bg):G8 [bgC b]:=by
 intro r hr c hc
 simp at hr
 subst hr
 simp [bgC] at hc
 rcases hc with rfl|rfl<;>rfl
theorem t5 {l:List Int} {i:Nat} (h:i<l.length):l[i]? =some (dat l i):=by
 unfold dat;rw [lg3,lg0 h];rfl
theorem a5D {l:List Int} (h:0<l.length):l[((l.length:Int) - 1).toNat]? =some (dat l (l.length - 1)):=by
 rw [show ((l.length:Int) - 1).toNat=l.length - 1 by omega];exact t5 (by omega)
theorem a19 {l:List Int} {n:Nat} (h:0<n) (hn:n≤l.length):l[((n:Int) - 1).toNat]? =some (dat l (n - 1)):=by
 rw [show ((n:Int) - 1).toNat=n - 1 by omega];exact t5 (by omega)
theorem a1M (b:Bg) (hl:b.dl.length≤1000000):b9 Tryz.prog 135 [bgS b] [] (f7 (H6 b)) []:=by
 have l2:(b.dl.map i5).length=b.dl.length:=by simp
 (refine a8 a7 Tryz.func135 rfl (by decide) ?_;(conv=>whnf);repeat (refine zy ?_;conv=>whnf))
 repeat' first|(refine zd ?_ ?_<;>intro h<;>first|exact zc h|(exfalso;omega)|conv=>whnf)|((first|refine zz ?_|refine zy ?_);conv=>whnf)
 refine f8 a7 (fun k=>([J,S.c (C.ptr 0 0 0),J,a9 .i64 b.dl.length,J,J,J,J,J,J,g6 b.dl,a9 .i64 b.dl.length,a9 .i64 k,J,J,J,J,J,J,J,J,J,J,J,J,J,J,J,J,J,J,J,J,J,J,J,J,J,J,J,J,J,J,J,J],[bgB b])) b.dl.length (fun k=>(b.dl.take k).all inD=true) [some 0] rfl
  ⟨rfl,rfl,⟨⟨rfl,rfl,rfl,.inl ⟨rfl,a3B b⟩⟩,trivial⟩,⟨⟨rfl,rfl,rfl⟩,e7 (by simp),j3 rfl,e7 (by simp),e7 rfl,trivial⟩⟩ ?_
 intro k hk hI
 conv=>whnf
 repeat' first|(refine zd ?_ ?_<;>intro h<;>first|exact zc h|(exfalso;omega)|conv=>whnf)|((first|refine zz ?_|refine d9 (t5 (by omega)) ?_|refine C1 (by omega) (a5D (by omega)) ?_|refine zy ?_);conv=>whnf)
 all_goals first
  |(have hlt:k<b.dl.length:=by omega
    refine ⟨hlt,?_,[some 0],rfl,rfl,⟨⟨rfl,rfl,rfl,.inl ⟨rfl,a3B b⟩⟩,trivial⟩,⟨⟨rfl,rfl,rfl⟩,rfl,rfl,rfl,rfl,trivial⟩⟩;rw [s7 (t5 hlt),hI];simp [inD];omega)
  |(have hlt:k<b.dl.length:=by omega
    refine d8 ?_;unfold H6;rw [w7 (t5 hlt) (by simp [inD];omega)];rfl)
  |(have ha:b.dl.all inD=true:=by rw [← hI,lg4 (by omega)]
    refine d8 ?_;unfold H6;rw [ha];simp_all;done)
theorem a2x (l:List Int) (hl:l.length≤1000000):b9 Tryz.prog 265 [g6 l] [] (g6 (F7 l)) []:=by
 have l2:(l.map i5).length=l.length:=by simp
 (refine a8 a7 Tryz.func265 rfl (by decide) ?_;(conv=>whnf);repeat (refine zy ?_;conv=>whnf))
 repeat' first|(refine zd ?_ ?_<;>intro h<;>first|exact zc h|(exfalso;omega)|conv=>whnf)|((first|refine zz ?_|refine zy ?_);conv=>whnf)
 refine o6 a7 (σ:=Nat) (fun n=>([g6 l,J,J,a9 .i64 n,J,J,J,J,J,J,J,J,J,J,J,J,J,J,J,J,J],[])) (fun n=>n≤l.length∧∀j x,n≤j→l[j]? =some x→x=0) (fun n=>n) l.length []
  ⟨Nat.le_refl _,fun j x hj hx=>by rw [List.getElem?_eq_none hj] at hx;cases hx⟩ ⟨rfl,rfl,trivial,⟨j3 rfl,e7 (by simp),trivial⟩⟩ ?_
 rintro n ⟨hn,hz⟩
 have hn:n≤l.length:=hn
 conv=>whnf
 repeat' first|(refine zd ?_ ?_<;>intro h<;>first|exact zc h|(exfalso;omega)|conv=>whnf)|((first|refine zz ?_|refine C1 (by omega) (a19 (by omega) hn) ?_|refine az2 (by omega) (by omega) (by omega) ?_|refine zy ?_);conv=>whnf)
 ·have h0:dat l (n - 1)=0:=by assumption
  have h1:0<n:=by omega
  refine ⟨[],n - 1,⟨rfl,rfl,trivial,⟨rfl,e7 (by omega),trivial⟩⟩,⟨by omega,fun j x hj hxj=>?_⟩,by show n - 1<n;omega⟩
  by_cases hj2:j=n - 1
  ·subst hj2;rw [t5 (by omega)] at hxj;injection hxj with hx;rw [← hx];exact h0
  ·exact hz j x (by omega) hxj
 all_goals
  have e:l.take n=F7 l:=a2q hz (fun x h0 hx=>by
   first
    |(exfalso;omega)
    |(rw [t5 (by omega)] at hx;injection hx with hx;rw [← hx];assumption)) hn
  refine b5g ?_ rfl
  rw [← e]
  simp [List.map_take]
end
section
open St1 St2 St3 St4 St5 St6
open Go.RowKit
set_option maxRecDepth 100000
theorem b30 (l:List Int) (hl:l.length≤1000000):b9 Tryz.prog 265 [Y8 0 l] [z5 l] (.c (.own 0 0 (F7 l).length true)) [z5 l]:=by
 (refine a8 a7 Tryz.func265 rfl (by decide) ?_;(conv=>whnf);repeat (refine zy ?_;conv=>whnf))
 repeat' first|(refine zd ?_ ?_<;>intro h<;>first|exact zc h|(exfalso;omega)|conv=>whnf)|((first|refine zz ?_|refine zy ?_);conv=>whnf)
 refine o6 a7 (σ:=Nat) (fun n=>([Y8 0 l,J,J,a9 .i64 n,J,J,J,J,J,J,J,J,J,J,J,J,J,J,J,J,J],[z5 l])) (fun n=>n≤l.length∧∀j x,n≤j→l[j]? =some x→x=0) (fun n=>n) l.length [some 0]
  ⟨Nat.le_refl _,fun j x hj hx=>by rw [List.getElem?_eq_none hj] at hx;cases hx⟩ ⟨rfl,rfl,⟨b8 rfl rfl rfl rfl rfl,trivial⟩,⟨k9 rfl rfl,e7 rfl,trivial⟩⟩ ?_
 rintro n ⟨hn,hz⟩
 have hn:n≤l.length:=hn
 have hg:0<n→l[0+((n:Int) - 1).toNat]? =some (dat l (n - 1)):=fun h=>by rw [Nat.zero_add];exact a19 h hn
 conv=>whnf
 repeat' first|(refine zd ?_ ?_<;>intro h<;>first|exact zc h|(exfalso;omega)|conv=>whnf)|((first|refine zz ?_|refine o8 (hg (by omega)) ?_|refine az2 (by omega) (by omega) (by omega) ?_|refine zy ?_);conv=>whnf)
 ·have h0:dat l (n - 1)=0:=by assumption
  have h1:0<n:=by omega
  refine ⟨[some 0],n - 1,⟨rfl,rfl,⟨b8 rfl rfl rfl rfl rfl,trivial⟩,⟨k9 rfl rfl,e7 (by omega),trivial⟩⟩,⟨by omega,fun j x hj hxj=>?_⟩,by show n - 1<n;omega⟩
  by_cases hj2:j=n - 1
  ·subst hj2;rw [t5 (by omega)] at hxj;injection hxj with hx;rw [← hx];exact h0
  ·exact hz j x (by omega) hxj
 all_goals
  have e:l.take n=F7 l:=a2q hz (fun x h0 hx=>by
   first
    |(exfalso;omega)
    |(rw [t5 (by omega)] at hx;injection hx with hx;rw [← hx];assumption)) hn
  have e2:(F7 l).length=n:=by rw [← e];simp;omega
  exact ⟨⟨[some 0],rfl,rfl,⟨b8 rfl rfl rfl rfl rfl,trivial⟩,⟨rfl,rfl,by rw [e2];omega,fun h=>h⟩⟩⟩
theorem ao6 {n:Nat} {K:Prop} (h:0<n) (k:K):0<n∧K:=⟨h,k⟩
theorem a7D (l:List Int) (hl:l.length≤1000000):b9 Tryz.prog 207 [g6 l] [] (g6 l) []:=by
 have l2:(l.map i5).length=l.length:=by simp
 cases l with
 |nil=>
  refine ac2 0 rfl ?_ ?_
  ·(refine a8 a7 Tryz.func207 rfl (by decide) ?_;(conv=>whnf);repeat (refine zy ?_;conv=>whnf))
   repeat' first|(refine zd ?_ ?_<;>intro h<;>first|exact zc h|(exfalso;omega)|conv=>whnf)|((first|refine zz ?_|refine zy ?_);conv=>whnf)
   exact k8 (show a7n [] _ _ _ from rfl)
  ·(refine a8 a7 Tryz.func207 rfl (by decide) ?_;(conv=>whnf);repeat (refine zy ?_;conv=>whnf))
   repeat' first|(refine zd ?_ ?_<;>intro h<;>first|exact zc h|(exfalso;omega)|conv=>whnf)|((first|refine zz ?_|refine qp toC ?_|refine ao6 (by simp) ?_|refine ak1 (by omega) (by omega) rfl (by omega) ?_|refine a1d rfl (by simp [toC]) ?_|refine zy ?_);conv=>whnf)
   exact O2 rfl (by intro h;cases h) rfl rfl (by simp [toC])
 |cons a r=>
  (refine a8 a7 Tryz.func207 rfl (by decide) ?_;(conv=>whnf);repeat (refine zy ?_;conv=>whnf))
  repeat' first|(refine zd ?_ ?_<;>intro h<;>first|exact zc h|(exfalso;omega)|conv=>whnf)|((first|refine zz ?_|refine qp toC ?_|refine ao6 (by simp) ?_|refine ak1 (by omega) (by omega) rfl (by omega) ?_|refine a1d rfl (by simp [toC] at *;omega) ?_|refine zy ?_);conv=>whnf)
  exact O2 rfl (by intro h;cases h) rfl rfl (by simp [toC])
theorem b1w (l:List Int) (hl:l.length≤1000000):b9 Tryz.prog 207 [g6 l] [] (Y8 0 l) [z5 l]:=by
 have l2:(l.map i5).length=l.length:=by simp
 cases l with
 |nil=>
  refine ac2 0 rfl ?_ ?_
  ·(refine a8 a7 Tryz.func207 rfl (by decide) ?_;(conv=>whnf);repeat (refine zy ?_;conv=>whnf))
   repeat' first|(refine zd ?_ ?_<;>intro h<;>first|exact zc h|(exfalso;omega)|conv=>whnf)|((first|refine zz ?_|refine zy ?_);conv=>whnf)
   exact ⟨⟨[none],rfl,rfl,⟨⟨rfl,rfl⟩,trivial⟩,⟨rfl,rfl,rfl⟩⟩⟩
  ·(refine a8 a7 Tryz.func207 rfl (by decide) ?_;(conv=>whnf);repeat (refine zy ?_;conv=>whnf))
   repeat' first|(refine zd ?_ ?_<;>intro h<;>first|exact zc h|(exfalso;omega)|conv=>whnf)|((first|refine zz ?_|refine qp toC ?_|refine ao6 (by simp) ?_|refine ak1 (by omega) (by omega) rfl (by omega) ?_|refine a1d rfl (by simp [toC]) ?_|refine zy ?_);conv=>whnf)
   exact ⟨⟨[some 0],rfl,rfl,⟨b8 rfl rfl rfl rfl rfl,trivial⟩,⟨rfl,rfl,by simp [toC],fun h=>h⟩⟩⟩
 |cons a r=>
  (refine a8 a7 Tryz.func207 rfl (by decide) ?_;(conv=>whnf);repeat (refine zy ?_;conv=>whnf))
  repeat' first|(refine zd ?_ ?_<;>intro h<;>first|exact zc h|(exfalso;omega)|conv=>whnf)|((first|refine zz ?_|refine qp toC ?_|refine ao6 (by simp) ?_|refine ak1 (by omega) (by omega) rfl (by omega) ?_|refine a1d rfl (by simp [toC] at *;omega) ?_|refine zy ?_);conv=>whnf)
  exact ⟨⟨[some 0],rfl,rfl,⟨b8 rfl rfl rfl rfl rfl,trivial⟩,⟨rfl,rfl,by simp [toC],fun h=>h⟩⟩⟩
theorem b2F (x:Int):b9 Tryz.prog 268 [a9 .i64 x] [] (f7 false) []:=by
 (refine a8 a7 Tryz.func268 rfl (by decide) ?_;(conv=>whnf);repeat (refine zy ?_;conv=>whnf))
 repeat' first|(refine zd ?_ ?_<;>intro h<;>first|exact zc h|(exfalso;omega)|conv=>whnf)|((first|refine zz ?_|refine zy ?_);conv=>whnf)
 all_goals first
  |(exfalso;omega)
  |exact d8 rfl
def K9 (x y:Int):Int:=if x<y then -1 else if x > y then 1 else 0
theorem a2j (x y:Int):b9 Tryz.prog 211 [a9 .i64 x,a9 .i64 y] [] (a9 .i64 (K9 x y)) []:=by
 (refine a8 a7 Tryz.func211 rfl (by decide) ?_;(conv=>whnf);repeat (refine zy ?_;conv=>whnf))
 repeat' first|(refine zd ?_ ?_<;>intro h<;>first|exact zc h|(exfalso;omega)|conv=>whnf)|((first|refine zz ?_|refine qp (b2F _) ?_|refine zy ?_);conv=>whnf)
 all_goals first
  |(exfalso;simp_all;done)
  |(refine j5 ?_;unfold K9;split<;>first|omega|(split<;>omega))
theorem a2B (x y:Int):b9 Tryz.prog 214 [.c (.t (.sl 1 .full ([x,y].map i5)))] [] (a9 .i64 (if x=0 then y else x)) []:=by
 (refine a8 a7 Tryz.func214 rfl (by decide) ?_;(conv=>whnf);repeat (refine zy ?_;conv=>whnf))
 repeat' first|(refine zd ?_ ?_<;>intro h<;>first|exact zc h|(exfalso;omega)|conv=>whnf)|((first|refine zz ?_|refine zy ?_);conv=>whnf)
 refine f8 a7 (fun k=>([J,J,J,a9 .i64 0,J,J,S.c (C.t (T.sl 1 .full ([x,y].map i5))),a9 .i64 2,a9 .i64 k,J,J,J,J,J,J,J,J,J],[])) 2 (fun k=>∀v ∈ [x,y].take k,v=0) [] (by simp)
  ⟨rfl,rfl,trivial,⟨rfl,j3 rfl,e7 rfl,e7 rfl,trivial⟩⟩ ?_
 intro k hk hI
 conv=>whnf
 repeat' first|(refine zd ?_ ?_<;>intro h<;>first|exact zc h|(exfalso;omega)|conv=>whnf)|((first|refine zz ?_|refine zy ?_);conv=>whnf)
 ·have hlt:k<2:=by omega
  obtain ⟨v,hv⟩:∃v,[x,y][k]? =some v:=⟨_,lg0 (by simpa using hlt)⟩
  refine d9 hv ?_
  conv=>whnf
  repeat' first|(refine zd ?_ ?_<;>intro h<;>first|exact zc h|(exfalso;omega)|conv=>whnf)|((first|refine zz ?_|refine zy ?_);conv=>whnf)
  ·refine j5 ?_
   match k,hlt with
   |0,_=>simp at hv;subst hv;rw [if_neg (by assumption)]
   |1,_=>simp at hv;subst hv;rw [if_pos (hI x (by simp))]
  ·refine ⟨hlt,?_,[],rfl,rfl,trivial,⟨rfl,rfl,rfl,rfl,trivial⟩⟩
   intro u hu
   rw [List.take_add_one,hv] at hu
   rcases List.mem_append.1 hu with hu|hu
   ·exact hI u hu
   ·simp at hu;subst hu;omega
 ·have h1:=hI x (by rw [lg4 (by simp;omega)];simp)
  have h2:=hI y (by rw [lg4 (by simp;omega)];simp)
  refine j5 ?_
  rw [if_pos h1,h2]
def sgn (s:Int) (l:List Int):Bg:=if (F7 l).length=0 then ⟨0,[]⟩ else ⟨s,F7 l⟩
theorem ax8 (s:Int) (l:List Int) (hl:l.length≤1000000):b9 Tryz.prog 209 [a9 .i64 s,g6 l] [] (bgS (sgn s l)) []:=by
 (refine a8 a7 Tryz.func209 rfl (by decide) ?_;(conv=>whnf);repeat (refine zy ?_;conv=>whnf))
 repeat' first|(refine zd ?_ ?_<;>intro h<;>first|exact zc h|(exfalso;omega)|conv=>whnf)|((first|refine zz ?_|refine qp (a2x l hl) ?_|refine zy ?_);conv=>whnf)
 ·have h0:(F7 l).length=0:=by simp at *;assumption
  unfold sgn
  rw [if_pos h0]
  exact k8 ⟨rfl,rfl,trivial⟩
 ·have h0:¬(F7 l).length=0:=by simp at *;assumption
  unfold sgn
  rw [if_neg h0]
  exact k8 ⟨rfl,rfl,trivial⟩
theorem G5 (r:Bool) (b:Bg):b9 Tryz.prog 206 [f7 r,bgS b] [] (.tup [bgS (if r then b else ⟨0,[]⟩),a9 .i64 (if r then 0 else 1)]) []:=by
 cases r<;>
 ·(refine a8 a7 Tryz.func206 rfl (by decide) ?_;(conv=>whnf);repeat (refine zy ?_;conv=>whnf))
  repeat' first|(refine zd ?_ ?_<;>intro h<;>first|exact zc h|(exfalso;omega)|conv=>whnf)|((first|refine zz ?_|refine zy ?_);conv=>whnf)
  exact k8 ⟨⟨rfl,rfl,trivial⟩,rfl,trivial⟩
end
section
open St1 St2 St3 St4 St5 St6
open Go.RowKit
set_option maxRecDepth 100000
theorem a24 {x y:Int} (h:x<y):K9 x y=-1:=by unfold K9;rw [if_pos h]
theorem a7T {x y:Int} (h:y<x):K9 x y=1:=by unfold K9;rw [if_neg (by omega),if_pos h]
theorem b2X {x y:Int} (h:x=y):K9 x y=0:=by unfold K9;rw [if_neg (by omega),if_neg (by omega)]
theorem aF2 {s:Int} {l:List Int} (h:Okd l) (hs:s=1∨s=-1∨val l=0):sgn s l=bz (s*val l):=by
 have hv:=t6 h
 unfold sgn bz
 rw [I8 h]
 by_cases h0:val l=0
 ·rw [h0,Int.mul_zero];rfl
 ·have h1:(dg (val l).toNat).length≠0:=by rw [Ne,List.length_eq_zero_iff,N4];omega
  rw [if_neg h1]
  rcases hs with rfl|rfl|h2
  ·rw [Int.sign_eq_one_of_pos (by omega)]
   congr 2;omega
  ·rw [Int.sign_eq_neg_one_of_neg (by omega)]
   congr 2;omega
  ·exact absurd h2 h0
theorem a1C (a b:List Int) (ha:Can a) (hb:Can b) (la:a.length≤1000000) (lb:b.length≤1000000):
 b9 Tryz.prog 212 [g6 a,g6 b] [] (a9 .i64 (K9 (val a) (val b))) []:=by
 have l1:(a.map i5).length=a.length:=by simp
 have l2:(b.map i5).length=b.length:=by simp
 have key:∀{x y:List Int},Can x→Can y→x.length<y.length→val x<val y:=fun {x y} hx hy h=>by
  rw [aF1 hx,aF1 hy] at h
  have:=al7 h
  have:=t6 hx.1
  omega
 by_cases hl:a.length=b.length
 ·(refine a8 a7 Tryz.func212 rfl (by decide) ?_;(conv=>whnf);repeat (refine zy ?_;conv=>whnf))
  repeat' first|(refine zd ?_ ?_<;>intro h<;>first|exact zc h|(exfalso;omega)|conv=>whnf)|((first|refine zz ?_|refine zy ?_);conv=>whnf)
  refine o6 a7 (σ:=Nat) (fun k=>([g6 a,g6 b,J,J,J,a9 .i64 ((k:Int) - 1),J,J,J,J,J,J,J,J,J,J,J,J,J,J,J,J,J,J,J,J,J,J,J,J,J,J,J,J,J,J,J,J,J,J,J],[])) (fun k=>k≤a.length∧a.drop k=b.drop k) (fun k=>k) a.length []
   ⟨Nat.le_refl _,by rw [List.drop_of_length_le (Nat.le_refl _),List.drop_of_length_le (by omega)]⟩ ⟨rfl,rfl,trivial,⟨j3 rfl,j3 rfl,e7 (by simp),trivial⟩⟩ ?_
  rintro k ⟨hk,hd⟩
  have hk:k≤a.length:=hk
  have hd:a.drop k=b.drop k:=hd
  conv=>whnf
  repeat' first|(refine zd ?_ ?_<;>intro h<;>first|exact zc h|(exfalso;omega)|conv=>whnf)|((first|refine zz ?_|refine qp (a2j _ _) ?_|refine C1 (by omega) (a19 (by omega) hk) ?_|refine C1 (by omega) (a19 (by omega) (hl ▸ hk)) ?_|refine zy ?_);conv=>whnf)
  all_goals first
   |(have hp:0<k:=by omega
     have e:k - 1+1=k:=by omega
     have gx:=t5 (l:=a) (i:=k - 1) (by omega)
     have gy:=t5 (l:=b) (i:=k - 1) (by omega)
     refine j5 ?_
     rcases Int.lt_trichotomy (dat a (k - 1)) (dat b (k - 1)) with h|h|h
     ·rw [a24 h,a24 (a74 ha.1 hb.1 hl gx gy (by rw [e];exact hd) h)]
     ·exfalso;simp_all;done
     ·rw [a7T h,a7T (a74 hb.1 ha.1 hl.symm gy gx (by rw [e];exact hd.symm) h)])
   |(have hp:0<k:=by omega
     have hq:dat a (k - 1)=dat b (k - 1):=by omega
     refine ⟨[],k - 1,⟨rfl,rfl,trivial,⟨rfl,rfl,e7 (by omega),trivial⟩⟩,⟨by omega,?_⟩,by show k - 1<k;omega⟩
     rw [List.drop_eq_getElem_cons (by omega:k - 1<a.length),List.drop_eq_getElem_cons (by omega:k - 1<b.length),show k - 1+1=k by omega,hd]
     congr 1
     have gx:=t5 (l:=a) (i:=k - 1) (by omega)
     have gy:=t5 (l:=b) (i:=k - 1) (by omega)
     rw [lg0 (by omega)] at gx gy
     injection gx with gx
     injection gy with gy
     rw [gx,gy,hq])
   |(have:k=0:=by omega
     subst this
     simp only [List.drop_zero] at hd
     refine j5 ?_
     rw [hd,b2X rfl])
 ·(refine a8 a7 Tryz.func212 rfl (by decide) ?_;(conv=>whnf);repeat (refine zy ?_;conv=>whnf))
  repeat' first|(refine zd ?_ ?_<;>intro h<;>first|exact zc h|(exfalso;omega)|conv=>whnf)|((first|refine zz ?_|refine qp (a2j _ _) ?_|refine zy ?_);conv=>whnf)
  all_goals first
   |(exfalso;omega)
   |(refine j5 ?_
     rcases Nat.lt_or_gt_of_ne hl with h|h
     ·rw [a24 (by omega),a24 (key ha hb h)]
     ·rw [a7T (by omega),a7T (key hb ha h)])
def aZ0 (a b:Bg):Int:=if H6 a && H6 b then K9 (bv a) (bv b) else 0
theorem aM1 (x:Int):Can (bz x).dl:=a0O _
theorem aq8 (x:Int):val (bz x).dl=x.natAbs:=n7 _
theorem C7 (x:Int):x.sign=0∧x=0∨x.sign=1∧0<x∨x.sign=-1∧x<0:=by
 rcases Int.lt_trichotomy x 0 with h|h|h
 ·exact .inr (.inr ⟨Int.sign_eq_neg_one_of_neg h,h⟩)
 ·subst h;exact .inl ⟨rfl,rfl⟩
 ·exact .inr (.inl ⟨Int.sign_eq_one_of_pos h,h⟩)
theorem aW2 {x y:Int} (h:x.sign≠y.sign):K9 x.sign y.sign=K9 x y:=by
 rcases C7 x with ⟨e,h1⟩|⟨e,h1⟩|⟨e,h1⟩<;>rcases C7 y with ⟨f,h2⟩|⟨f,h2⟩|⟨f,h2⟩<;>rw [e,f] at h ⊢<;>unfold K9<;>(repeat' split)<;>omega
theorem b0p {x y:Int} (h:x.sign=y.sign):x.sign*K9 x.natAbs y.natAbs=K9 x y:=by
 rcases C7 x with ⟨e,h1⟩|⟨e,h1⟩|⟨e,h1⟩<;>rcases C7 y with ⟨f,h2⟩|⟨f,h2⟩|⟨f,h2⟩<;>rw [e,f] at h<;>try omega
 all_goals (rw [e];unfold K9;(repeat' split)<;>omega)
theorem b1A (x y:Int):-1≤K9 x y∧K9 x y≤1:=by unfold K9;split<;>(try split)<;>omega
theorem a8P {b:Bg} (h:H6 b=true):∃z,b=bz z:=⟨_,b2l h⟩
theorem aI7 (a b:Bg) (la:a.dl.length≤1000000) (lb:b.dl.length≤1000000):
 b9 Tryz.prog 139 [bgS a,bgS b] [] (a9 .i64 (aZ0 a b)) []:=by
 have r1:=a1M a la
 have r2:=a1M b lb
 cases ha:H6 a with
 |false=>
  rw [ha] at r1
  (refine a8 a7 Tryz.func139 rfl (by decide) ?_;(conv=>whnf);repeat (refine zy ?_;conv=>whnf))
  repeat' first|(refine zd ?_ ?_<;>intro h<;>first|exact zc h|(exfalso;omega)|conv=>whnf)|((first|refine zz ?_|refine qp r1 ?_|refine qp r2 ?_|refine zy ?_);conv=>whnf)
  all_goals (first|(exfalso;simp_all;done)|(refine j5 ?_;unfold aZ0;rw [ha];rfl))
 |true=>
  rw [ha] at r1
  cases hb:H6 b with
  |false=>
   rw [hb] at r2
   (refine a8 a7 Tryz.func139 rfl (by decide) ?_;(conv=>whnf);repeat (refine zy ?_;conv=>whnf))
   repeat' first|(refine zd ?_ ?_<;>intro h<;>first|exact zc h|(exfalso;omega)|conv=>whnf)|((first|refine zz ?_|refine qp r1 ?_|refine qp r2 ?_|refine zy ?_);conv=>whnf)
   all_goals (first|(exfalso;simp_all;done)|(refine j5 ?_;unfold aZ0;rw [ha,hb];rfl))
  |true=>
   rw [hb] at r2
   obtain ⟨x,rfl⟩:=a8P ha
   obtain ⟨y,rfl⟩:=a8P hb
   have c:=a1C (bz x).dl (bz y).dl (aM1 x) (aM1 y) la lb
   rw [aq8,aq8] at c
   have e:aZ0 (bz x) (bz y)=K9 x y:=by unfold aZ0;rw [ha,hb,a2J,a2J];rfl
   rw [e]
   have hr:=b1A x y
   by_cases hs:x.sign=y.sign
   ·have hs':(bz x).sg=(bz y).sg:=hs
    have e2:=b0p hs
    (refine a8 a7 Tryz.func139 rfl (by decide) ?_;(conv=>whnf);repeat (refine zy ?_;conv=>whnf))
    repeat' first|(refine zd ?_ ?_<;>intro h<;>first|exact zc h|(exfalso;omega)|conv=>whnf)|((first|refine zz ?_|refine qp r1 ?_|refine qp r2 ?_|refine qp c ?_|refine ⟨_,C0 e2 (by omega) (by omega),?_⟩|refine zy ?_);conv=>whnf)
    all_goals first
     |(exfalso;omega)
     |(exfalso;simp_all;done)
     |exact j5 rfl
   ·have hs':(bz x).sg≠(bz y).sg:=hs
    (refine a8 a7 Tryz.func139 rfl (by decide) ?_;(conv=>whnf);repeat (refine zy ?_;conv=>whnf))
    repeat' first|(refine zd ?_ ?_<;>intro h<;>first|exact zc h|(exfalso;omega)|conv=>whnf)|((first|refine zz ?_|refine qp r1 ?_|refine qp r2 ?_|refine qp (a2j _ _) ?_|refine zy ?_);conv=>whnf)
    all_goals first
     |(exfalso;omega)
     |(exfalso;simp_all;done)
     |exact j5 (aW2 hs)
def aW9 (a:Bg):Bg:=if H6 a then bz (-bv a) else ⟨0,[]⟩
theorem b5b (a:Bg) (la:a.dl.length≤1000000):b9 Tryz.prog 141 [bgS a] [] (bgS (aW9 a)) []:=by
 have r1:=a1M a la
 cases ha:H6 a with
 |false=>
  rw [ha] at r1
  have e:aW9 a=⟨0,[]⟩:=by unfold aW9;rw [ha];rfl
  rw [e]
  (refine a8 a7 Tryz.func141 rfl (by decide) ?_;(conv=>whnf);repeat (refine zy ?_;conv=>whnf))
  repeat' first|(refine zd ?_ ?_<;>intro h<;>first|exact zc h|(exfalso;omega)|conv=>whnf)|((first|refine zz ?_|refine qp r1 ?_|refine zy ?_);conv=>whnf)
  all_goals (first|(exfalso;simp_all;done)|exact k8 ⟨rfl,rfl,trivial⟩)
 |true=>
  rw [ha] at r1
  obtain ⟨x,rfl⟩:=a8P ha
  have e:aW9 (bz x)=sgn (0 - (bz x).sg) (bz x).dl:=by
   rw [Int.zero_sub]
   unfold aW9
   rw [ha,aF2 (aM1 x).1 (by rcases C7 x with ⟨h,h1⟩|⟨h,h1⟩|⟨h,h1⟩<;>rw [a9a,h]<;>simp [h1,aq8]),a2J,aq8,a9a]
   show bz (-x)=_
   congr 1
   rw [Int.neg_mul,Int.sign_mul_natAbs]
  rw [e]
  have hs:-1≤(bz x).sg∧(bz x).sg≤1:=by rcases C7 x with ⟨h,h1⟩|⟨h,h1⟩|⟨h,h1⟩<;>rw [a9a,h]<;>decide
  (refine a8 a7 Tryz.func141 rfl (by decide) ?_;(conv=>whnf);repeat (refine zy ?_;conv=>whnf))
  repeat' first|(refine zd ?_ ?_<;>intro h<;>first|exact zc h|(exfalso;omega)|conv=>whnf)|((first|refine zz ?_|refine qp r1 ?_|refine qp (a7D _ la) ?_|refine qp (ax8 _ _ la) ?_|refine zy ?_);conv=>whnf)
  all_goals (first|(exfalso;simp_all;done)|exact k8 ⟨rfl,rfl,trivial⟩)
end
section
open St1 St2 St3 St4 St5 St6
open Go.RowKit
set_option maxRecDepth 100000
theorem a52 {a:Int} (j:Nat) (hj:j≤62):IntKind.wrap .i64 (BitVec.ofInt (IntKind.bits .i64) a &&& BitVec.ofInt (IntKind.bits .i64) ((2 ^ j - 1:Nat):Int)).toNat=a % ((2 ^ j:Nat):Int):=by
 rw [aB3 rfl a j hj]
 have hp:(2:Nat) ^ j≤2 ^ 62:=Nat.pow_le_pow_right (by decide) hj
 have h0:0<(2:Nat) ^ j:=Nat.pow_pos (by decide)
 have h1:0≤a % ((2 ^ j:Nat):Int):=Int.emod_nonneg _ (by omega)
 have h2:a % ((2 ^ j:Nat):Int)<((2 ^ j:Nat):Int):=Int.emod_lt_of_pos _ (by omega)
 rw [Int.toNat_of_nonneg h1]
 exact (show G2 .i64 _ _ from a46 (by omega) (by omega)).symm
structure aq5 (m n:Int):Prop where
 ok:∀a:Int,T0 .and .i64 a m (a % n)
theorem a4y:aq5 1048575 1048576:=⟨fun a=>(a52 (a:=a) 20 (by decide)).symm⟩
theorem a8o:aq5 1 2:=⟨fun a=>(a52 (a:=a) 1 (by decide)).symm⟩
theorem a9m (a:Int):aU1 .i64 a 20 (a / 1048576):=by
 show a / 1048576=a.fdiv 1048576
 exact (Int.fdiv_eq_ediv_of_nonneg _ (by decide)).symm
theorem J1 {l:List Int} {i:Nat} {n:Int} {v:Int} (h:0+n.toNat=i):(toC (l.map i5)).set (0+n.toNat) [C.t (ti v)]=toC ((l.set i v).map i5):=by
 rw [h];simp [toC,i5,List.map_set]
theorem L2 {l:List Int} {n:Int} {i:Nat} (h:n.toNat=i) (hi:i<l.length):l[0+n.toNat]? =some (dat l i):=by rw [Nat.zero_add,h];exact t5 hi
theorem b5d (a b:List Int) (ha:Okd a) (hb:Okd b) (la:a.length≤400000) (lb:b.length≤400000) (hab:b.length≤a.length):
 b9 Tryz.prog 215 [g6 a,g6 b] [] (g6 (dg (val a+val b).toNat)) []:=by
 have l1:(a.map i5).length=a.length:=by simp
 have l2:(b.map i5).length=b.length:=by simp
 (refine a8 a7 Tryz.func215 rfl (by decide) ?_;(conv=>whnf);repeat (refine zy ?_;conv=>whnf))
 repeat' first|(refine zd ?_ ?_<;>intro h<;>first|exact zc h|(exfalso;omega)|conv=>whnf)|((first|refine zz ?_|refine a3s (by omega) (by omega) (by omega) (by decide) ?_|refine zy ?_);conv=>whnf)
 refine o6 a7 (σ:=Nat × List Int × Int) (fun|(k,out,c)=>([g6 a,g6 b,J,J,J,Y8 0 out,a9 .i64 c,J,J,J,J,J,J,J,J,J,J,J,J,J,g6 a,a9 .i64 a.length,a9 .i64 k,J,J,J,J,J,J,J,J,J,J,J,J,J,J,J,J,J,J,J,J,J,J,J,J,J,J,J,J,J,J,J,J],[z5 out])) (fun x=>a6X a b x.1 x.2.1 x.2.2) (fun x=>a.length - x.1) (0,List.replicate (a.length+1) 0,0) [some 0]
  (a6X.init _ _) ⟨rfl,rfl,⟨b8 rfl rfl rfl ?_ rfl,trivial⟩,⟨j3 rfl,j3 rfl,k9 rfl (by simp),rfl,j3 rfl,e7 (by simp),rfl,trivial⟩⟩ ?_
 ·show List.replicate _ _=_
  simp [toC,i5,G3]
 rintro ⟨k,out,c⟩ hI
 have hI:a6X a b k out c:=hI
 have hlen:=hI.len
 have hle:=hI.le
 have hc0:=hI.c0
 have hc1:=hI.c1
 conv=>whnf
 have hda:=ha.dat k
 have hdb:=hb.dat k
 repeat' first|(refine zd ?_ ?_<;>intro h<;>first|exact zc h|(exfalso;omega)|conv=>whnf)|((first|refine zz ?_|refine d9 (t5 (by omega)) ?_|refine Z9 (by omega) (by show _<((out.length:Nat):Int);omega) ?_|refine o8 (L2 rfl (by omega)) ?_|refine ⟨_,aq5.ok (by first|exact a4y|exact a8o) _,?_⟩|refine ⟨by decide,_,a9m _,?_⟩|refine zy ?_);conv=>whnf)
 ·refine ⟨[some 0],(k+1,out.set k ((c+dat a k+dat b k) % 1048576),(c+dat a k+dat b k) / 1048576),⟨rfl,rfl,⟨b8 rfl rfl rfl (J1 (by omega)) rfl,trivial⟩,⟨rfl,rfl,k9 rfl (by simp),rfl,rfl,rfl,e7 (by omega),trivial⟩⟩,hI.step ha hb (by omega),?_⟩
  show a.length - (k+1)<a.length - k
  omega
 ·have e:dat b k=0:=M9 (by omega)
  have hst:=hI.step ha hb (by omega)
  rw [e,Int.add_zero] at hst
  refine ⟨[some 0],(k+1,out.set k ((c+dat a k) % 1048576),(c+dat a k) / 1048576),⟨rfl,rfl,⟨b8 rfl rfl rfl (J1 (by omega)) rfl,trivial⟩,⟨rfl,rfl,k9 rfl (by simp),rfl,rfl,rfl,e7 (by omega),trivial⟩⟩,hst,?_⟩
  show a.length - (k+1)<a.length - k
  omega
 ·have hk:k=a.length:=by omega
  subst hk
  have hf:=hI.fin (by omega)
  have t:=a2x (out.set a.length c) (by simp;omega)
  rw [hf] at t
  refine .inr ⟨_,_,t8 [0] t ⟨a0k (v5 (by simp) rfl (by intro h;cases h) rfl (J1 (by omega)) (by simp)),trivial⟩ rfl,?_⟩
  conv=>whnf
  exact a89 (by rw [Int.add_comm])
theorem b4J (a b:List Int) (ha:Okd a) (hb:Okd b) (la:a.length≤400000) (lb:b.length≤400000) (hab:a.length<b.length):
 b9 Tryz.prog 215 [g6 a,g6 b] [] (g6 (dg (val a+val b).toNat)) []:=by
 have l1:(a.map i5).length=a.length:=by simp
 have l2:(b.map i5).length=b.length:=by simp
 (refine a8 a7 Tryz.func215 rfl (by decide) ?_;(conv=>whnf);repeat (refine zy ?_;conv=>whnf))
 repeat' first|(refine zd ?_ ?_<;>intro h<;>first|exact zc h|(exfalso;omega)|conv=>whnf)|((first|refine zz ?_|refine a3s (by omega) (by omega) (by omega) (by decide) ?_|refine zy ?_);conv=>whnf)
 refine o6 a7 (σ:=Nat × List Int × Int) (fun|(k,out,c)=>([g6 b,g6 a,J,J,J,Y8 0 out,a9 .i64 c,J,J,J,J,J,J,J,J,J,J,J,J,J,g6 b,a9 .i64 b.length,a9 .i64 k,J,J,J,J,J,J,J,J,J,J,J,J,J,J,J,J,J,J,J,J,J,J,J,J,J,J,J,J,J,J,J,J],[z5 out])) (fun x=>a6X b a x.1 x.2.1 x.2.2) (fun x=>b.length - x.1) (0,List.replicate (b.length+1) 0,0) [some 0]
  (a6X.init _ _) ⟨rfl,rfl,⟨b8 rfl rfl rfl ?_ rfl,trivial⟩,⟨j3 rfl,j3 rfl,k9 rfl (by simp),rfl,j3 rfl,e7 (by simp),rfl,trivial⟩⟩ ?_
 ·show List.replicate _ _=_
  simp [toC,i5,G3]
 rintro ⟨k,out,c⟩ hI
 have hI:a6X b a k out c:=hI
 have hlen:=hI.len
 have hle:=hI.le
 have hc0:=hI.c0
 have hc1:=hI.c1
 conv=>whnf
 have hda:=hb.dat k
 have hdb:=ha.dat k
 repeat' first|(refine zd ?_ ?_<;>intro h<;>first|exact zc h|(exfalso;omega)|conv=>whnf)|((first|refine zz ?_|refine d9 (t5 (by omega)) ?_|refine Z9 (by omega) (by show _<((out.length:Nat):Int);omega) ?_|refine o8 (L2 rfl (by omega)) ?_|refine ⟨_,aq5.ok (by first|exact a4y|exact a8o) _,?_⟩|refine ⟨by decide,_,a9m _,?_⟩|refine zy ?_);conv=>whnf)
 ·refine ⟨[some 0],(k+1,out.set k ((c+dat b k+dat a k) % 1048576),(c+dat b k+dat a k) / 1048576),⟨rfl,rfl,⟨b8 rfl rfl rfl (J1 (by omega)) rfl,trivial⟩,⟨rfl,rfl,k9 rfl (by simp),rfl,rfl,rfl,e7 (by omega),trivial⟩⟩,hI.step hb ha (by omega),?_⟩
  show b.length - (k+1)<b.length - k
  omega
 ·have e:dat a k=0:=M9 (by omega)
  have hst:=hI.step hb ha (by omega)
  rw [e,Int.add_zero] at hst
  refine ⟨[some 0],(k+1,out.set k ((c+dat b k) % 1048576),(c+dat b k) / 1048576),⟨rfl,rfl,⟨b8 rfl rfl rfl (J1 (by omega)) rfl,trivial⟩,⟨rfl,rfl,k9 rfl (by simp),rfl,rfl,rfl,e7 (by omega),trivial⟩⟩,hst,?_⟩
  show b.length - (k+1)<b.length - k
  omega
 ·have hk:k=b.length:=by omega
  subst hk
  have hf:=hI.fin (by omega)
  have t:=a2x (out.set b.length c) (by simp;omega)
  rw [hf] at t
  refine .inr ⟨_,_,t8 [0] t ⟨a0k (v5 (by simp) rfl (by intro h;cases h) rfl (J1 (by omega)) (by simp)),trivial⟩ rfl,?_⟩
  conv=>whnf
  exact a89 (by rw [Int.add_comm])
theorem b95 (a b:List Int) (ha:Okd a) (hb:Okd b) (la:a.length≤400000) (lb:b.length≤400000):
 b9 Tryz.prog 215 [g6 a,g6 b] [] (g6 (dg (val a+val b).toNat)) []:=by
 rcases Nat.lt_or_ge a.length b.length with h|h
 ·exact b4J a b ha hb la lb h
 ·exact b5d a b ha hb la lb h
end
section
open St1 St2 St3 St4 St5 St6
open Go.RowKit
set_option maxRecDepth 100000
theorem b8i (a b:List Int) (ha:Okd a) (hb:Okd b) (la:a.length≤400000) (lb:b.length≤a.length) (hv:val b≤val a):
 b9 Tryz.prog 216 [g6 a,g6 b] [] (g6 (dg (val a - val b).toNat)) []:=by
 have l1:(a.map i5).length=a.length:=by simp
 have l2:(b.map i5).length=b.length:=by simp
 (refine a8 a7 Tryz.func216 rfl (by decide) ?_;(conv=>whnf);repeat (refine zy ?_;conv=>whnf))
 repeat' first|(refine zd ?_ ?_<;>intro h<;>first|exact zc h|(exfalso;omega)|conv=>whnf)|((first|refine zz ?_|refine zy ?_);conv=>whnf)
 refine .inr ⟨_,_,ac5 (b1w a (by omega)) rfl rfl rfl rfl,?_⟩
 conv=>whnf
 repeat' first|(refine zd ?_ ?_<;>intro h<;>first|exact zc h|(exfalso;omega)|conv=>whnf)|((first|refine zz ?_|refine zy ?_);conv=>whnf)
 refine o6 a7 (σ:=Nat × List Int × Int) (fun|(k,out,c)=>([J,g6 b,J,J,J,Y8 0 out,a9 .i64 c,J,J,J,J,J,a9 .i64 a.length,a9 .i64 k,J,J,J,J,J,J,J,J,J,J,J,J,J,J,J,J,J,J,J,J,J,J,J,J,J,J,J,J,J],[z5 out])) (fun x=>aa0 a b x.1 x.2.1 x.2.2) (fun x=>a.length - x.1) (0,a,0) [some 0]
  (aa0.init ha) ⟨rfl,rfl,⟨b8 rfl rfl rfl rfl rfl,trivial⟩,⟨j3 rfl,k9 rfl rfl,rfl,e7 (by simp),rfl,trivial⟩⟩ ?_
 rintro ⟨k,out,c⟩ hI
 have hI:aa0 a b k out c:=hI
 have hlen:=hI.len
 have hle:=hI.le
 have hc0:=hI.c0
 have hc1:=hI.c1
 conv=>whnf
 have hda:=hI.ok.dat k
 have hdb:=hb.dat k
 repeat' first|(refine zd ?_ ?_<;>intro h<;>first|exact zc h|(exfalso;omega)|conv=>whnf)|((first|refine zz ?_|refine d9 (t5 (by omega)) ?_|refine Z9 (by omega) (by show _<((out.length:Nat):Int);omega) ?_|refine o8 (L2 (i:=k) rfl (by omega)) ?_|refine ⟨_,aq5.ok (by first|exact a4y|exact a8o) _,?_⟩|refine ⟨by decide,_,a9m _,?_⟩|refine zy ?_);conv=>whnf)
 ·refine ⟨[some 0],(k+1,out.set k ((dat out k - c - dat b k) % 1048576),(dat out k - c - dat b k) / 1048576 % 2),⟨rfl,rfl,⟨b8 rfl rfl rfl (J1 (by omega)) rfl,trivial⟩,⟨rfl,k9 rfl (by simp),rfl,rfl,e7 (by omega),trivial⟩⟩,hI.step ha hb (by omega),?_⟩
  show a.length - (k+1)<a.length - k
  omega
 ·have e:dat b k=0:=M9 (by omega)
  have hst:=hI.step ha hb (by omega)
  rw [e,Int.sub_zero] at hst
  refine ⟨[some 0],(k+1,out.set k ((dat out k - c) % 1048576),(dat out k - c) / 1048576 % 2),⟨rfl,rfl,⟨b8 rfl rfl rfl (J1 (by omega)) rfl,trivial⟩,⟨rfl,k9 rfl (by simp),rfl,rfl,e7 (by omega),trivial⟩⟩,hst,?_⟩
  show a.length - (k+1)<a.length - k
  omega
 ·have hk:k=a.length:=by omega
  subst hk
  have hf:=hI.fin (by omega) hv
  have t:=a2x out (by omega)
  rw [hf] at t
  refine .inr ⟨_,_,t8 [0] t ⟨a0k (v5 (by simp) rfl (by intro h;cases h) rfl rfl (by simp)),trivial⟩ rfl,?_⟩
  conv=>whnf
  exact a89 rfl
set_option maxHeartbeats 1000000 in
theorem b4c (a b:List Int) (ha:Okd a) (hb:Okd b) (la:a.length≤400000) (lb:b.length≤400000):
 b9 Tryz.prog 266 [g6 a,g6 b] [] (g6 (dg (val a*val b).toNat)) []:=by
 have l1:(a.map i5).length=a.length:=by simp
 have l2:(b.map i5).length=b.length:=by simp
 (refine a8 a7 Tryz.func266 rfl (by decide) ?_;(conv=>whnf);repeat (refine zy ?_;conv=>whnf))
 repeat' first|(refine zd ?_ ?_<;>intro h<;>first|exact zc h|(exfalso;omega)|conv=>whnf)|((first|refine zz ?_|refine a3s (by omega) (by omega) (by omega) (by decide) ?_|refine zy ?_);conv=>whnf)
 refine o6 a7 (σ:=Nat × List Int) (fun|(i,out)=>([J,g6 b,J,J,J,Y8 0 out,J,J,J,J,J,J,J,J,J,J,J,J,g6 a,a9 .i64 a.length,a9 .i64 i,J,J,J,J,J,J,J,J,J,J,J,J,J,J,J,J,J,J,J,J,J,J,J,J,J,J,J,J,J,J,J,J,J,J,J,J,J,J,J,J,J,J,J,J,J,J],[z5 out])) (fun x=>a2N a b x.1 x.2) (fun x=>a.length - x.1) (0,List.replicate (a.length+b.length) 0) [some 0]
  (a2N.init a b) ⟨rfl,rfl,⟨b8 rfl rfl rfl ?_ rfl,trivial⟩,⟨j3 rfl,k9 rfl (by simp;omega),j3 rfl,e7 (by simp),rfl,trivial⟩⟩ ?_
 ·show List.replicate _ _=_
  rw [show ((((a.map i5).length:Nat):Int)+((b.map i5).length:Nat)).toNat=a.length+b.length by omega]
  simp [toC,i5,G3]
 rintro ⟨i,out⟩ hI
 have hI:a2N a b i out:=hI
 have hlen:=hI.len
 have hle:=hI.le
 conv=>whnf
 repeat' first|(refine zd ?_ ?_<;>intro h<;>first|exact zc h|(exfalso;omega)|conv=>whnf)|((first|refine zz ?_|refine d9 (t5 (by omega)) ?_|refine zy ?_);conv=>whnf)
 ·have hi:i<a.length:=by omega
  refine o6 a7 (σ:=Nat × List Int × Int) (fun|(k,out,c)=>([J,g6 b,J,J,J,Y8 0 out,a9 .i64 i,a9 .i64 (dat a i),a9 .i64 c,J,J,J,J,J,J,J,J,J,g6 a,a9 .i64 a.length,a9 .i64 i,J,J,J,J,g6 b,a9 .i64 b.length,a9 .i64 k,J,J,J,J,J,J,J,J,J,J,J,J,J,J,J,J,J,J,J,J,J,J,J,J,J,J,J,J,J,J,J,J,J,J,J,J,J,J,J],[z5 out])) (fun x=>a8G a b i x.1 x.2.1 x.2.2) (fun x=>b.length - x.1) (0,out,0) [some 0]
   hI.start ⟨rfl,rfl,⟨b8 rfl rfl rfl rfl rfl,trivial⟩,⟨j3 rfl,k9 rfl rfl,rfl,rfl,rfl,j3 rfl,rfl,rfl,j3 rfl,e7 (by simp),rfl,trivial⟩⟩ ?_
  rintro ⟨k,out,c⟩ hK
  have hK:a8G a b i k out c:=hK
  have hlen:=hK.len
  have hle:=hK.le
  have hc0:=hK.c0
  have hc1:=hK.c1
  conv=>whnf
  have hdo:=hK.ok.dat (i+k)
  have hm:=a2m (ha.dat i) (hb.dat k)
  have e1:((i:Int)+k).toNat=i+k:=by omega
  have e2:((i:Int)+b.length).toNat=i+b.length:=by omega
  have e3:((i:Int)+((b.map i5).length:Nat)).toNat=i+b.length:=by omega
  have hz:=hK.zero (i+b.length) (Nat.le_refl _)
  repeat' first|(refine zd ?_ ?_<;>intro h<;>first|exact zc h|(exfalso;omega)|conv=>whnf)|((first|refine zz ?_|refine d9 (t5 (by omega)) ?_|refine Z9 (by omega) (by show _<((out.length:Nat):Int);omega) ?_|refine o8 (L2 e1 (by omega)) ?_|refine o8 (L2 e3 (by omega)) ?_|refine ⟨_,aq5.ok (by first|exact a4y|exact a8o) _,?_⟩|refine ⟨by decide,_,a9m _,?_⟩|refine zy ?_);conv=>whnf)
  ·refine ⟨[some 0],(k+1,out.set (i+k) ((dat out (i+k)+dat a i*dat b k+c) % 1048576),(dat out (i+k)+dat a i*dat b k+c) / 1048576),⟨rfl,rfl,⟨b8 rfl rfl rfl (J1 (by omega)) rfl,trivial⟩,⟨rfl,k9 rfl (by simp),rfl,rfl,rfl,rfl,rfl,rfl,rfl,rfl,e7 (by omega),trivial⟩⟩,hK.step ha hb hi (by omega),?_⟩
   show b.length - (k+1)<b.length - k
   omega
  ·have hk:k=b.length:=by omega
   subst hk
   refine ⟨[some 0],(i+1,out.set (i+b.length) (dat out (i+b.length)+c)),⟨rfl,rfl,⟨b8 rfl rfl rfl (J1 (by omega)) rfl,trivial⟩,⟨rfl,k9 rfl (by simp),rfl,rfl,e7 (by omega),trivial⟩⟩,hK.done ha hb hi,?_⟩
   show a.length - (i+1)<a.length - i
   omega
 ·have hi:i=a.length:=by omega
  subst hi
  have hf:=hI.fin
  have t:=a2x out (by omega)
  rw [hf] at t
  refine .inr ⟨_,_,t8 [0] t ⟨a0k (v5 (by simp) rfl (by intro h;cases h) rfl rfl (by simp)),trivial⟩ rfl,?_⟩
  conv=>whnf
  exact a89 rfl
set_option maxHeartbeats 1000000 in
theorem b5h (a b:List Int) (ha:Okd a) (hb:Okd b) (la:a.length≤400000) (lb:b.length≤400000):
 b9 Tryz.prog 266 [g6 a,g6 b] [] (.c (.own 0 0 (dg (val a*val b).toNat).length true)) [z5 (X2 (a.length+b.length) (dg (val a*val b).toNat))]:=by
 have l1:(a.map i5).length=a.length:=by simp
 have l2:(b.map i5).length=b.length:=by simp
 (refine a8 a7 Tryz.func266 rfl (by decide) ?_;(conv=>whnf);repeat (refine zy ?_;conv=>whnf))
 repeat' first|(refine zd ?_ ?_<;>intro h<;>first|exact zc h|(exfalso;omega)|conv=>whnf)|((first|refine zz ?_|refine a3s (by omega) (by omega) (by omega) (by decide) ?_|refine zy ?_);conv=>whnf)
 refine o6 a7 (σ:=Nat × List Int) (fun|(i,out)=>([J,g6 b,J,J,J,Y8 0 out,J,J,J,J,J,J,J,J,J,J,J,J,g6 a,a9 .i64 a.length,a9 .i64 i,J,J,J,J,J,J,J,J,J,J,J,J,J,J,J,J,J,J,J,J,J,J,J,J,J,J,J,J,J,J,J,J,J,J,J,J,J,J,J,J,J,J,J,J,J,J],[z5 out])) (fun x=>a2N a b x.1 x.2) (fun x=>a.length - x.1) (0,List.replicate (a.length+b.length) 0) [some 0]
  (a2N.init a b) ⟨rfl,rfl,⟨b8 rfl rfl rfl ?_ rfl,trivial⟩,⟨j3 rfl,k9 rfl (by simp;omega),j3 rfl,e7 (by simp),rfl,trivial⟩⟩ ?_
 ·show List.replicate _ _=_
  rw [show ((((a.map i5).length:Nat):Int)+((b.map i5).length:Nat)).toNat=a.length+b.length by omega]
  simp [toC,i5,G3]
 rintro ⟨i,out⟩ hI
 have hI:a2N a b i out:=hI
 have hlen:=hI.len
 have hle:=hI.le
 conv=>whnf
 repeat' first|(refine zd ?_ ?_<;>intro h<;>first|exact zc h|(exfalso;omega)|conv=>whnf)|((first|refine zz ?_|refine d9 (t5 (by omega)) ?_|refine zy ?_);conv=>whnf)
 ·have hi:i<a.length:=by omega
  refine o6 a7 (σ:=Nat × List Int × Int) (fun|(k,out,c)=>([J,g6 b,J,J,J,Y8 0 out,a9 .i64 i,a9 .i64 (dat a i),a9 .i64 c,J,J,J,J,J,J,J,J,J,g6 a,a9 .i64 a.length,a9 .i64 i,J,J,J,J,g6 b,a9 .i64 b.length,a9 .i64 k,J,J,J,J,J,J,J,J,J,J,J,J,J,J,J,J,J,J,J,J,J,J,J,J,J,J,J,J,J,J,J,J,J,J,J,J,J,J,J],[z5 out])) (fun x=>a8G a b i x.1 x.2.1 x.2.2) (fun x=>b.length - x.1) (0,out,0) [some 0]
   hI.start ⟨rfl,rfl,⟨b8 rfl rfl rfl rfl rfl,trivial⟩,⟨j3 rfl,k9 rfl rfl,rfl,rfl,rfl,j3 rfl,rfl,rfl,j3 rfl,e7 (by simp),rfl,trivial⟩⟩ ?_
  rintro ⟨k,out,c⟩ hK
  have hK:a8G a b i k out c:=hK
  have hlen:=hK.len
  have hle:=hK.le
  have hc0:=hK.c0
  have hc1:=hK.c1
  conv=>whnf
  have hdo:=hK.ok.dat (i+k)
  have hm:=a2m (ha.dat i) (hb.dat k)
  have e1:((i:Int)+k).toNat=i+k:=by omega
  have e2:((i:Int)+b.length).toNat=i+b.length:=by omega
  have e3:((i:Int)+((b.map i5).length:Nat)).toNat=i+b.length:=by omega
  have hz:=hK.zero (i+b.length) (Nat.le_refl _)
  repeat' first|(refine zd ?_ ?_<;>intro h<;>first|exact zc h|(exfalso;omega)|conv=>whnf)|((first|refine zz ?_|refine d9 (t5 (by omega)) ?_|refine Z9 (by omega) (by show _<((out.length:Nat):Int);omega) ?_|refine o8 (L2 e1 (by omega)) ?_|refine o8 (L2 e3 (by omega)) ?_|refine ⟨_,aq5.ok (by first|exact a4y|exact a8o) _,?_⟩|refine ⟨by decide,_,a9m _,?_⟩|refine zy ?_);conv=>whnf)
  ·refine ⟨[some 0],(k+1,out.set (i+k) ((dat out (i+k)+dat a i*dat b k+c) % 1048576),(dat out (i+k)+dat a i*dat b k+c) / 1048576),⟨rfl,rfl,⟨b8 rfl rfl rfl (J1 (by omega)) rfl,trivial⟩,⟨rfl,k9 rfl (by simp),rfl,rfl,rfl,rfl,rfl,rfl,rfl,rfl,e7 (by omega),trivial⟩⟩,hK.step ha hb hi (by omega),?_⟩
   show b.length - (k+1)<b.length - k
   omega
  ·have hk:k=b.length:=by omega
   subst hk
   refine ⟨[some 0],(i+1,out.set (i+b.length) (dat out (i+b.length)+c)),⟨rfl,rfl,⟨b8 rfl rfl rfl (J1 (by omega)) rfl,trivial⟩,⟨rfl,k9 rfl (by simp),rfl,rfl,e7 (by omega),trivial⟩⟩,hK.done ha hb hi,?_⟩
   show a.length - (i+1)<a.length - i
   omega
 ·have hi:i=a.length:=by omega
  subst hi
  have hf:=hI.fin
  have t:=b30 out (by omega)
  have hp:=aa3 out
  rw [hf] at t hp
  refine .inr ⟨_,_,t,?_⟩
  conv=>whnf
  have hq:X2 (a.length+b.length) (dg (val a*val b).toNat)=out:=by unfold X2;rw [← hlen];exact hp
  rw [hq]
  exact ⟨⟨[some 0],rfl,rfl,⟨b8 rfl rfl rfl rfl rfl,trivial⟩,⟨rfl,rfl,rfl,fun h=>h⟩⟩⟩
end
section
open St1 St2 St3 St4 St5 St6
open Go.RowKit
set_option maxRecDepth 100000
theorem b1e {r:Int} (h0:0≤r) (h1:r<4398046511104):G2 .i64 (r*2 ^ min (20:Int).toNat (IntKind.bits .i64)) (r*1048576):=by
 show G2 .i64 (r*1048576) (r*1048576)
 exact a46 (by omega) (by omega)
theorem b5L {k:IntKind} (hk:k.bits=64) (R X:Nat) (h1:R<4398046511104) (hx:X<1048576):(BitVec.ofInt k.bits ((R:Int)*1048576) ||| BitVec.ofInt k.bits (X:Int)).toNat=R*1048576+X:=by
 rw [hk,BitVec.toNat_or,BitVec.toNat_ofInt,BitVec.toNat_ofInt]
 have e1:(((R:Int)*1048576) % ((2 ^ 64:Nat):Int)).toNat=R <<< 20:=by
  rw [Nat.shiftLeft_eq];omega
 have e2:((X:Int) % ((2 ^ 64:Nat):Int)).toNat=X:=by omega
 rw [e1,e2,←Nat.shiftLeft_add_eq_or_of_lt (by omega),Nat.shiftLeft_eq]
theorem b4Q {r x:Int} (h0:0≤r) (h1:r<4398046511104) (hx0:0≤x) (hx1:x<1048576):T0 .or .i64 (r*1048576) x (r*1048576+x):=by
 obtain ⟨R,rfl⟩:=Int.eq_ofNat_of_zero_le h0
 obtain ⟨X,rfl⟩:=Int.eq_ofNat_of_zero_le hx0
 unfold T0
 simp only
 rw [b5L rfl R X (by omega) (by omega)]
 have e:((R*1048576+X:Nat):Int)=(R:Int)*1048576+X:=by simp
 rw [e]
 exact (show G2 .i64 ((R:Int)*1048576+X) _ from a46 (by omega) (by omega))
theorem b1o {a b:Int} (h0:0≤a) (h1:a≤9223372036854775807) (hb:0<b):G2 .i64 (a.tdiv b) (a / b):=by
 rw [Int.tdiv_eq_ediv_of_nonneg h0]
 have h2:0≤a / b:=Int.ediv_nonneg h0 (by omega)
 have h3:a / b≤a:=Int.ediv_le_self _ h0
 exact a46 (by omega) (by omega)
theorem aZ9 {l:List Int} {n:Nat} (h:0<n) (hn:n≤l.length):l[0+((n:Int) - 1).toNat]? =some (dat l (n - 1)):=by rw [Nat.zero_add];exact a19 h hn
theorem aP2 (a:List Int) (d:Int) (ha:Okd a) (la:a.length≤1000000) (hd:0<d) (hd2:d<1048576):
 b9 Tryz.prog 264 [g6 a,a9 .i64 d] [] (.tup [g6 (dg (val a / d).toNat),a9 .i64 (val a % d)]) []:=by
 have l1:(a.map i5).length=a.length:=by simp
 (refine a8 a7 Tryz.func264 rfl (by decide) ?_;(conv=>whnf);repeat (refine zy ?_;conv=>whnf))
 repeat' first|(refine zd ?_ ?_<;>intro h<;>first|exact zc h|(exfalso;omega)|conv=>whnf)|((first|refine zz ?_|refine a3s (by omega) (by omega) (by omega) (by decide) ?_|refine zy ?_);conv=>whnf)
 refine o6 a7 (σ:=Nat × List Int × Int) (fun|(j,out,r)=>([g6 a,a9 .i64 d,J,J,J,J,Y8 0 out,a9 .i64 r,a9 .i64 ((j:Int) - 1),J,J,J,J,J,J,J,J,J,J,J,J,J,J,J,J,J,J,J,J,J,J,J,J,J,J,J,J,J],[z5 out])) (fun x=>Z0 a d x.1 x.2.1 x.2.2) (fun x=>x.1) (a.length,List.replicate a.length 0,0) [some 0]
  (Z0.init a hd) ⟨rfl,rfl,⟨b8 rfl rfl rfl ?_ rfl,trivial⟩,⟨j3 rfl,rfl,k9 rfl (by simp),rfl,e7 (by simp),trivial⟩⟩ ?_
 ·show List.replicate _ _=_
  simp [toC,i5,G3]
 rintro ⟨j,out,r⟩ hI
 have hI:Z0 a d j out r:=hI
 have hlen:=hI.len
 have hle:=hI.le
 have hr0:=hI.r0
 have hr1:=hI.r1
 have hda:=ha.dat (j - 1)
 conv=>whnf
 repeat' first|(refine zd ?_ ?_<;>intro h<;>first|exact zc h|(exfalso;omega)|conv=>whnf)|((first|refine zz ?_|refine C1 (by omega) (a19 (by omega) hle) ?_|refine Z9 (by omega) (by show _<((out.length:Nat):Int);omega) ?_|refine o8 (aZ9 (by omega) (by omega)) ?_|refine ⟨by decide,_,b1e (by omega) (by omega),?_⟩|refine ⟨_,b4Q (by omega) (by omega) (by omega) (by omega),?_⟩|refine ⟨by omega,_,b1o (by omega) (by omega) (by omega),?_⟩|refine af4 (by omega) ?_|refine zy ?_);conv=>whnf)
 ·obtain ⟨j,rfl⟩:∃i,j=i+1:=⟨j - 1,by omega⟩
  simp only [Nat.add_sub_cancel] at *
  have hst:=hI.step ha hd
  rw [← Int.tmod_eq_emod_of_nonneg (by omega)] at hst
  refine ⟨[some 0],(j,out.set j ((r*1048576+dat a j) / d),(r*1048576+dat a j).tmod d),⟨rfl,rfl,⟨b8 rfl rfl rfl (J1 (by omega)) rfl,trivial⟩,⟨rfl,rfl,k9 rfl (by simp),rfl,e7 (by omega),trivial⟩⟩,hst,?_⟩
  show j<j+1
  omega
 ·have hj:j=0:=by omega
  subst hj
  obtain ⟨hf,hr⟩:=hI.fin ha hd
  have t:=a2x out (by omega)
  rw [hf] at t
  refine .inr ⟨_,_,t8 [0] t ⟨a0k (v5 (by simp) rfl (by intro h;cases h) rfl rfl (by simp)),trivial⟩ rfl,?_⟩
  conv=>whnf
  repeat' first|(refine zd ?_ ?_<;>intro h<;>first|exact zc h|(exfalso;omega)|conv=>whnf)|((first|refine zz ?_|refine zy ?_);conv=>whnf)
  exact k8 ⟨rfl,e7 hr,trivial⟩
end
section
open St1 St2 St3 St4 St5 St6
open Go.RowKit
set_option maxRecDepth 100000
theorem aR7 {pre out post:List Int} {k:Nat} (h:k<out.length):(pre++out++post)[pre.length+(k:Int).toNat]? =some (dat out k):=by
 rw [List.append_assoc,List.getElem?_append_right (by omega),show pre.length+(k:Int).toNat - pre.length=k by omega,List.getElem?_append_left h]
 exact t5 h
theorem a58 {pre out post:List Int} {k:Nat} {v:Int} (h:k<out.length):(toC ((pre++out++post).map i5)).set (pre.length+(k:Int).toNat) [C.t (ti v)]=toC ((pre++out.set k v++post).map i5):=by
 have e:(pre++out++post).set (pre.length+k) v=pre++out.set k v++post:=by
  rw [List.append_assoc,List.set_append_right _ _ (by omega),show pre.length+k - pre.length=k by omega,List.set_append_left _ _ h,List.append_assoc]
 rw [← e]
 show (toC ((pre++out++post).map i5)).set (pre.length+k) _=_
 simp [toC,i5,List.map_set]
def S8 (w v g:Int):Int:=if g*v≤w then g else g - 1
theorem b0T (pre w post v:List Int) (g:Int) (hw:Okd w) (hv:Okd v) (lw:w.length≤1000000) (lv:v.length≤w.length) (hg:0≤g∧g<1048576) (hgv:g*val v≤val w+val v):
 b9 Tryz.prog 267 [.c (.own 0 pre.length w.length false),g6 v,a9 .i64 g] [z5 (pre++w++post)] (a9 .i64 (S8 (val w) (val v) g))
  [z5 (pre++X2 w.length (dg (val w - S8 (val w) (val v) g*val v).toNat)++post)]:=by
 have l1:(v.map i5).length=v.length:=by simp
 (refine a8 a7 Tryz.func267 rfl (by decide) ?_;(conv=>whnf);repeat (refine zy ?_;conv=>whnf))
 repeat' first|(refine zd ?_ ?_<;>intro h<;>first|exact zc h|(exfalso;omega)|conv=>whnf)|((first|refine zz ?_|refine zy ?_);conv=>whnf)
 refine o6 a7 (σ:=Nat × List Int × Int) (fun|(k,out,c)=>([S.c (C.own 0 pre.length w.length false),g6 v,a9 .i64 g,J,J,J,J,a9 .i64 c,J,J,J,J,J,a9 .i64 w.length,a9 .i64 k,J,J,J,J,J,J,J,J,J,J,J,J,J,J,J,J,J,J,J,J,J,J,J,J,J,J,J,J,J,J,J,J,J,J,J,J,J,J,J,J,J,J,J,J,J,J,J,J,J,J,J,J,J,J,J,J,J,J,J,J,J,J,J],[z5 (pre++out++post)])) (fun x=>a7r w v g x.1 x.2.1 x.2.2) (fun x=>w.length - x.1) (0,w,0) [some 0]
  (a7r.init g hw) ⟨rfl,rfl,⟨b8 rfl rfl rfl rfl rfl,trivial⟩,⟨⟨rfl,rfl,rfl,fun h=>h⟩,j3 rfl,rfl,rfl,rfl,rfl,trivial⟩⟩ ?_
 rintro ⟨k,out,c⟩ hI
 have hI:a7r w v g k out c:=hI
 have hlen:=hI.len
 have hle:=hI.le
 have hc0:=hI.c0
 have hc1:=hI.c1
 have hdo:=hI.ok.dat k
 have hm:=a2m hg (hv.dat k)
 conv=>whnf
 repeat' first|(refine zd ?_ ?_<;>intro h<;>first|exact zc h|(exfalso;omega)|conv=>whnf)|((first|refine zz ?_|refine d9 (t5 (by omega)) ?_|refine o8 (aR7 (by omega)) ?_|refine ⟨_,aq5.ok (by first|exact a4y|exact a8o) _,?_⟩|refine ⟨by decide,_,a9m _,?_⟩|refine zy ?_);conv=>whnf)
 ·have hst:=hI.step hv hg (by omega)
  refine ⟨[some 0],(k+1,out.set k ((dat out k - c - g*dat v k) % 1048576),-((dat out k - c - g*dat v k) / 1048576)),⟨rfl,rfl,⟨b8 rfl rfl rfl (a58 (by omega)) rfl,trivial⟩,⟨⟨rfl,rfl,rfl,fun h=>h⟩,rfl,rfl,e7 (Int.zero_sub _),rfl,e7 (by omega),trivial⟩⟩,hst,?_⟩
  show w.length - (k+1)<w.length - k
  omega
 ·have hst:=hI.step hv hg (by omega)
  rw [M9 (l:=v) (i:=k) (by omega),Int.mul_zero,Int.sub_zero] at hst
  refine ⟨[some 0],(k+1,out.set k ((dat out k - c) % 1048576),-((dat out k - c) / 1048576)),⟨rfl,rfl,⟨b8 rfl rfl rfl (a58 (by omega)) rfl,trivial⟩,⟨⟨rfl,rfl,rfl,fun h=>h⟩,rfl,rfl,e7 (Int.zero_sub _),rfl,e7 (by omega),trivial⟩⟩,hst,?_⟩
  show w.length - (k+1)<w.length - k
  omega
 ·have hk:k=w.length:=by omega
  subst hk
  have hc:c=0:=by assumption
  obtain ⟨h1,h2⟩:=hI.zero lv hw hv hg.1
  have hq:S8 (val w) (val v) g=g:=by unfold S8;rw [if_pos (h1.1 hc)]
  rw [hq,←h2 hc,←aN8 hI.ok hlen]
  exact ⟨⟨[some 0],rfl,rfl,⟨b8 rfl rfl rfl rfl rfl,trivial⟩,rfl⟩⟩
 ·have hk:k=w.length:=by omega
  subst hk
  have hc:¬c=0:=by assumption
  obtain ⟨h1,h2⟩:=hI.zero lv hw hv hg.1
  have hlt:¬g*val v≤val w:=fun h=>hc (h1.2 h)
  have hq:S8 (val w) (val v) g=g - 1:=by unfold S8;rw [if_neg hlt]
  have hvl:=T1 hv
  have hpw:=a0n lv
  rw [hq]
  refine o6 a7 (σ:=Nat × List Int × Int) (fun|(k,o,c)=>([S.c (C.own 0 pre.length w.length false),g6 v,a9 .i64 g,J,J,J,J,J,J,J,a9 .i64 c,J,J,J,J,J,J,J,J,J,J,J,J,J,J,J,J,J,J,J,J,J,J,J,J,J,J,J,J,J,J,J,J,J,J,J,J,J,a9 .i64 w.length,a9 .i64 k,J,J,J,J,J,J,J,J,J,J,J,J,J,J,J,J,J,J,J,J,J,J,J,J,J,J,J,J],[z5 (pre++o++post)])) (fun x=>a5X out v x.1 x.2.1 x.2.2) (fun x=>w.length - x.1) (0,out,0) [some 0]
   (a5X.init hI.ok) ⟨rfl,rfl,⟨b8 rfl rfl rfl rfl rfl,trivial⟩,⟨⟨rfl,rfl,rfl,fun h=>h⟩,j3 rfl,rfl,rfl,rfl,rfl,trivial⟩⟩ ?_
  rintro ⟨k,o,c'⟩ hB
  have hB:a5X out v k o c':=hB
  have hlen2:=hB.len
  have hle2:=hB.le
  have hb0:=hB.c0
  have hb1:=hB.c1
  have hdo:=hB.ok.dat k
  have hdv:=hv.dat k
  conv=>whnf
  repeat' first|(refine zd ?_ ?_<;>intro h<;>first|exact zc h|(exfalso;omega)|conv=>whnf)|((first|refine zz ?_|refine d9 (t5 (by omega)) ?_|refine o8 (aR7 (by omega)) ?_|refine ⟨_,aq5.ok (by first|exact a4y|exact a8o) _,?_⟩|refine ⟨by decide,_,a9m _,?_⟩|refine zy ?_);conv=>whnf)
  ·have hst:=hB.step hv (by omega)
   refine ⟨[some 0],(k+1,o.set k ((c'+dat o k+dat v k) % 1048576),(c'+dat o k+dat v k) / 1048576),⟨rfl,rfl,⟨b8 rfl rfl rfl (a58 (by omega)) rfl,trivial⟩,⟨⟨rfl,rfl,rfl,fun h=>h⟩,rfl,rfl,rfl,rfl,e7 (by omega),trivial⟩⟩,hst,?_⟩
   show w.length - (k+1)<w.length - k
   omega
  ·have hst:=hB.step hv (by omega)
   rw [M9 (l:=v) (i:=k) (by omega),Int.add_zero] at hst
   refine ⟨[some 0],(k+1,o.set k ((c'+dat o k) % 1048576),(c'+dat o k) / 1048576),⟨rfl,rfl,⟨b8 rfl rfl rfl (a58 (by omega)) rfl,trivial⟩,⟨⟨rfl,rfl,rfl,fun h=>h⟩,rfl,rfl,rfl,rfl,e7 (by omega),trivial⟩⟩,hst,?_⟩
   show w.length - (k+1)<w.length - k
   omega
  ·have hk:k=w.length:=by omega
   subst hk
   have e:=hI.back hB lv (by omega) (by omega)
   have e2:val w - (g - 1)*val v=val w - g*val v+val v:=by rw [Int.sub_mul];omega
   rw [e2,←e,←aN8 hB.ok (by omega)]
   exact ⟨⟨[some 0],rfl,rfl,⟨b8 rfl rfl rfl rfl rfl,trivial⟩,rfl⟩⟩
end
section
open St1 St2 St3 St4 St5 St6
open Go.RowKit
set_option maxRecDepth 100000
abbrev aL4 (m n:Nat):S:=.tup [g6 (dg (m / n)),g6 (dg (m % n))]
theorem b4T (m n:Nat) (hn:0<n) (h:m<n) (lm:(dg m).length≤400000) (ln:(dg n).length≤400000):
 b9 Tryz.prog 208 [g6 (dg m),g6 (dg n)] [] (aL4 m n) []:=by
 have c:=a1C (dg m) (dg n) (a0O m) (a0O n) (by omega) (by omega)
 rw [n7,n7,a24 (by omega)] at c
 have e1:m / n=0:=Nat.div_eq_of_lt h
 have e2:m % n=m:=Nat.mod_eq_of_lt h
 unfold aL4
 rw [e1,e2,S3]
 (refine a8 a7 Tryz.func208 rfl (by decide) ?_;(conv=>whnf);repeat (refine zy ?_;conv=>whnf))
 repeat' first|(refine zd ?_ ?_<;>intro h<;>first|exact zc h|(exfalso;omega)|conv=>whnf)|((first|refine zz ?_|refine qp c ?_|refine qp (a7D _ (by omega)) ?_|refine zy ?_);conv=>whnf)
 exact k8 ⟨rfl,rfl,trivial⟩
theorem b5k (m n:Nat) (hn:0<n) (h:n≤m) (hl:(dg n).length=1) (lm:(dg m).length≤400000):
 b9 Tryz.prog 208 [g6 (dg m),g6 (dg n)] [] (aL4 m n) []:=by
 have l2:((dg n).map i5).length=(dg n).length:=by simp
 have c:=a1C (dg m) (dg n) (a0O m) (a0O n) (by omega) (by omega)
 rw [n7,n7] at c
 have hc:0≤K9 m n:=by unfold K9;split<;>(try split)<;>omega
 have hn2:=N2 n
 rw [hl] at hn2
 have hn3:(n:Int)<1048576:=by simpa [pw] using hn2
 have hd:dg n=[(n:Int)]:=by
  rw [a4P hn,show n / 1048576=0 by omega,show n % 1048576=n by omega];rfl
 have sh:=aP2 (dg m) n (p9 m) (by omega) (by omega) hn3
 rw [n7] at sh
 have e1:((m:Int) / n).toNat=m / n:=by rw [← Int.natCast_ediv];rfl
 have e2:(m:Int) % n=((m % n:Nat):Int):=by simp
 rw [e1,e2] at sh
 have hr:m % n<n:=Nat.mod_lt _ hn
 have t:=a2x [((m % n:Nat):Int)] (by simp)
 rw [I8 (by intro x hx;simp at hx;omega)] at t
 have e3:(val [((m % n:Nat):Int)]).toNat=m % n:=by simp only [val];omega
 rw [e3] at t
 (refine a8 a7 Tryz.func208 rfl (by decide) ?_;(conv=>whnf);repeat (refine zy ?_;conv=>whnf))
 repeat' first|(refine zd ?_ ?_<;>intro h<;>first|exact zc h|(exfalso;omega)|conv=>whnf)|((first|refine zz ?_|refine qp c ?_|refine qp sh ?_|refine qp hd ?_|refine C1 (x:=(n:Int)) (by omega) (by rw [hd];rfl) ?_|refine .inl ⟨_,_,a15 t ⟨a0k (ao3 rfl),trivial⟩ rfl,?_⟩|refine zy ?_);conv=>whnf)
 all_goals (first|(exfalso;omega)|exact k8 ⟨rfl,rfl,trivial⟩)
end
section
open St1 St2 St3 St4 St5 St6
theorem b5F {n k:Nat} {top:Int} (hn:0<n) (ht:dat (dg n) ((dg n).length - 1)=top) (hk:k≤19) (h1:top*2 ^ k<1048576) (h2:¬top*2 ^ k<524288):
 (dg (n*2 ^ k)).length=(dg n).length∧524288≤dat (dg (n*2 ^ k)) ((dg n).length - 1):=by
 have hl:(dg n).length≠0:=by rw [Ne,List.length_eq_zero_iff,N4];omega
 obtain ⟨l,hl'⟩:∃l,(dg n).length=l+1:=⟨(dg n).length - 1,by omega⟩
 rw [hl',Nat.add_sub_cancel] at ht ⊢
 have e1:=p7 (dg n) l
 rw [lg4 (by omega),n7,ht] at e1
 have a1:=t6 ((p9 n).take l)
 have a2:=T1 ((p9 n).take l)
 rw [List.length_take,Nat.min_eq_left (by omega)] at a2
 have t0:=(p9 n).dat l
 rw [ht] at t0
 obtain ⟨T,rfl⟩:=Int.eq_ofNat_of_zero_le t0.1
 have hp:(0:Int)<2 ^ k:=Int.pow_pos (by decide)
 have hpp:=O0 l
 have e2:(2:Int) ^ k*2 ^ (20 - k)=1048576:=by rw [← Int.pow_add,show k+(20 - k)=20 by omega];rfl
 have h3:(T:Int)<2 ^ (20 - k):=by
  refine Int.lt_of_mul_lt_mul_left (a:=(2:Int) ^ k) ?_ (Int.le_of_lt hp)
  rw [e2,Int.mul_comm];exact h1
 have h4:((T:Int)+1)*2 ^ k≤1048576:=by
  have:=Int.mul_le_mul_of_nonneg_left (a:=(T:Int)+1) (b:=2 ^ (20 - k)) (c:=2 ^ k) (by omega) (Int.le_of_lt hp)
  rw [e2,Int.mul_comm] at this;exact this
 have hV:(((n*2 ^ k:Nat)):Int)=n*2 ^ k:=by simp
 have h5:((n*2 ^ k:Nat):Int)<pw (l+1):=by
  rw [hV,E9]
  have b1:(n:Int)+1≤pw l*(T+1):=by rw [Int.mul_add];omega
  have b2:=Int.mul_le_mul_of_nonneg_right (c:=(2:Int) ^ k) b1 (Int.le_of_lt hp)
  have b3:=Int.mul_le_mul_of_nonneg_left (c:=pw l) h4 (Int.le_of_lt hpp)
  rw [← Int.mul_assoc] at b3
  rw [Int.add_mul] at b2
  omega
 have h6:pw l*524288≤((n*2 ^ k:Nat):Int):=by
  rw [hV]
  have b1:pw l*T≤(n:Int):=by omega
  have b2:=Int.mul_le_mul_of_nonneg_right (c:=(2:Int) ^ k) b1 (Int.le_of_lt hp)
  have b3:=Int.mul_le_mul_of_nonneg_left (a:=524288) (b:=(T:Int)*2 ^ k) (c:=pw l) (by omega) (Int.le_of_lt hpp)
  rw [← Int.mul_assoc] at b3
  omega
 have h7:(dg (n*2 ^ k)).length=l+1:=by
  have c1:=K8 h5
  rcases Nat.lt_or_ge (dg (n*2 ^ k)).length (l+1) with c2|c2
  ·have c3:=N2 (n*2 ^ k)
   have c4:=a0n (show (dg (n*2 ^ k)).length≤l by omega)
   omega
  ·omega
 refine ⟨h7,?_⟩
 have f1:=p7 (dg (n*2 ^ k)) l
 rw [lg4 (by omega),n7] at f1
 have f2:=T1 ((p9 (n*2 ^ k)).take l)
 rw [List.length_take,Nat.min_eq_left (by omega)] at f2
 rcases Int.lt_or_le (dat (dg (n*2 ^ k)) l) 524288 with c|c
 ·exfalso
  have:=Int.mul_le_mul_of_nonneg_left (a:=dat (dg (n*2 ^ k)) l+1) (b:=524288) (c:=pw l) (by omega) (Int.le_of_lt hpp)
  rw [Int.mul_add] at this
  omega
 ·exact c
end
section
open St1 St2 St3 St4 St5 St6
open Go.RowKit
set_option maxRecDepth 100000
theorem b0n {a a' b b':Nat} {x y:S} (h1:a=a') (h2:b=b'):[S.c (.own 0 a b false),x,y]=[S.c (.own 0 a' b' false),x,y]:=by rw [h1,h2]
theorem aM2 {V W v1 top g r:Int} (hG:U1 V W v1 top g r) (hV:0<V) (hW:0≤W) (h1:g<1048576) (h2:g*V≤W+V):
 0≤S8 W V g∧S8 W V g<1048576∧0≤W - S8 W V g*V∧W - S8 W V g*V<V:=by
 have h3:=hG.hi
 have h4:=hG.g0
 rw [Int.add_mul,Int.one_mul] at h3
 unfold S8
 by_cases hc:g*V≤W
 ·rw [if_pos hc];omega
 ·rw [if_neg hc,Int.sub_mul,Int.one_mul]
  have:g≠0:=by rintro rfl;simp at hc;omega
  omega
set_option maxHeartbeats 4000000 in
theorem b4R (m n:Nat) (hn:0<n) (hmn:n≤m) (hl:2≤(dg n).length) (lm:(dg m).length≤300000) (ln:(dg n).length≤300000):
 b9 Tryz.prog 208 [g6 (dg m),g6 (dg n)] [] (aL4 m n) []:=by
 have l1:((dg m).map i5).length=(dg m).length:=by simp
 have l2:((dg n).map i5).length=(dg n).length:=by simp
 have c:=a1C (dg m) (dg n) (a0O m) (a0O n) (by omega) (by omega)
 rw [n7,n7] at c
 have hc:0≤K9 m n:=by unfold K9;split<;>(try split)<;>omega
 have ht0:=(p9 n).dat ((dg n).length - 1)
 have ht1:dat (dg n) ((dg n).length - 1)≠0:=(a0O n).2 _ (t5 (by omega))
 generalize htop:dat (dg n) ((dg n).length - 1)=top at ht0 ht1
 (refine a8 a7 Tryz.func208 rfl (by decide) ?_;(conv=>whnf);repeat (refine zy ?_;conv=>whnf))
 repeat' first|(refine zd ?_ ?_<;>intro h<;>first|exact zc h|(exfalso;omega)|conv=>whnf)|((first|refine zz ?_|refine qp c ?_|refine zy ?_);conv=>whnf)
 refine o6 a7 (σ:=Nat) (fun k=>([g6 (dg m),g6 (dg n),J,J,J,J,J,J,a9 .i64 (2 ^ k),J,J,J,J,J,J,J,J,J,J,J,J,J,J,J,J,J,J,J,J,J,J,J,J,J,J,J,J,J,J,J,J,J,J,J,J,J,J,J,J,J,J,J,J,J,J,J,J,J,J,J,J,J,J,J,J,J,J,J,J,J,J,J,J,J,J,J,J,J,J,J,J,J,J,J,J,J,J,J,J,J,J,J,J,J,J,J,J,J,J,J,J,J,J,J,J,J,J,J,J,J,J,J,J,J,J,J,J,J,J,J,J,J,J,J,J,J,J,J,J,J,J,J,J,J,J,J,J,J,J,J,J,J,J,J,J,J,J,J,J,J,J,J,J,J,J,J,J,J,J,J,J,J,J,J,J,J,J,J,J,J],[])) (fun k=>k≤19∧top*2 ^ k<1048576) (fun k=>20 - k) 0 []
  ⟨by omega,by omega⟩ ⟨rfl,rfl,trivial,⟨j3 rfl,j3 rfl,rfl,trivial⟩⟩ ?_
 rintro k ⟨hk1,hk2⟩
 have hk1:k≤19:=hk1
 have hk2:top*2 ^ k<1048576:=hk2
 have hp0:(0:Int)<2 ^ k:=Int.pow_pos (by decide)
 have hpt:0<top*2 ^ k:=Int.mul_pos (by omega) hp0
 have hpk:(2:Int) ^ k≤524288:=by
  have:=Nat.pow_le_pow_right (n:=2) (by decide) hk1
  have e:((2 ^ k:Nat):Int)=2 ^ k:=by simp
  omega
 have hgl:(dg n)[(((((dg n).map i5).length:Nat):Int) - 1).toNat]? =some top:=by rw [l2,←htop];exact a5D (by omega)
 conv=>whnf
 repeat' first|(refine zd ?_ ?_<;>intro h<;>first|exact zc h|(exfalso;omega)|conv=>whnf)|((first|refine zz ?_|refine C1 (by omega) hgl ?_|refine zy ?_);conv=>whnf)
 ·have hlt:top*2 ^ k<524288:=by omega
  refine ⟨[],k+1,⟨rfl,rfl,trivial,⟨rfl,rfl,e7 (Int.pow_succ _ _).symm,trivial⟩⟩,⟨?_,?_⟩,?_⟩
  ·rcases Nat.lt_or_ge k 19 with h1|h1
   ·exact h1
   ·have:k=19:=by omega
    subst this
    omega
  ·rw [Int.pow_succ,←Int.mul_assoc];omega
  ·show 20 - (k+1)<20 - k
   omega
 ·have hsh:Okd [(2:Int) ^ k]:=by intro x hx;simp at hx;omega
  have mu:=b5h (dg m) [2 ^ k] (p9 m) hsh (by omega) (by simp)
  have mv:=b4c (dg n) [2 ^ k] (p9 n) hsh (by omega) (by simp)
  have ev:val [(2:Int) ^ k]=2 ^ k:=by simp [val]
  rw [ev,n7] at mu mv
  generalize hU:((m:Int)*2 ^ k).toNat=U at mu
  generalize hV:((n:Int)*2 ^ k).toNat=V at mv
  refine .inr ⟨_,_,ac5 (aM0 mu ⟨aj3,a0k (ao3 rfl),trivial⟩) rfl rfl rfl rfl,?_⟩
  conv=>whnf
  have hVe:V=n*2 ^ k:=by
   have e:((n:Int)*2 ^ k)=((n*2 ^ k:Nat):Int):=by simp
   rw [← hV,e];exact Int.toNat_natCast _
  have hUe:U=m*2 ^ k:=by
   have e:((m:Int)*2 ^ k)=((m*2 ^ k:Nat):Int):=by simp
   rw [← hU,e];exact Int.toNat_natCast _
  obtain ⟨lV,hvt⟩:=b5F hn htop hk1 hk2 h
  rw [← hVe] at lV hvt
  have hp1:0<2 ^ k:=Nat.pow_pos (by decide)
  have lU3:(dg m).length≤(dg U).length:=o5 (by rw [hUe];exact Nat.le_mul_of_pos_right m hp1)
  have lU2:(dg U).length≤(dg m).length+1:=K8 (by
   have h1:=N2 m
   rw [E9,hUe]
   have h2:=Int.mul_le_mul_of_nonneg_left (a:=2 ^ k) (b:=1048576) (c:=(m:Int)+1) (by omega) (by omega)
   have h3:(((m*2 ^ k:Nat)):Int)=m*2 ^ k:=by simp
   rw [Int.add_mul] at h2
   omega)
  have lU1:(X2 ((dg m).length+[(2:Int) ^ k].length) (dg U)).length≤300001:=by rw [aa4 (by simpa using lU2)];simp;omega
  have l3:((dg V).map i5).length=(dg V).length:=by simp
  have lmn:(dg n).length≤(dg m).length:=o5 hmn
  have l4:(toC [[T.atm (Value.int .i64 0)]]).length=1:=rfl
  repeat' first|(refine zd ?_ ?_<;>intro h<;>first|exact zc h|(exfalso;omega)|conv=>whnf)|((first|refine zz ?_|refine qp (toC,X2) ?_|refine qp toC ?_|refine v7 (by simp [toC,X2]) (by simp [toC];omega) ?_|refine .inl ⟨_,_,a15 mv ⟨aj3,a0k (ao3 rfl),trivial⟩ rfl,?_⟩|refine a3s (by omega) (by omega) (by omega) (by decide) ?_|refine zy ?_);conv=>whnf)
  have hV0:0<V:=by rw [hVe];exact Nat.mul_pos hn hp1
  refine o6 a7 (σ:=Nat × List Int × List Int) (fun|(j,u,q)=>([J,J,J,J,J,J,J,J,a9 .i64 (2 ^ k),Y8 0 u,g6 (dg V),a9 .i64 (dg V).length,Y8 1 q,a9 .i64 ((j:Int) - 1),J,J,J,J,J,J,J,J,J,J,J,J,J,J,J,J,J,J,J,J,J,J,J,J,J,J,J,J,J,J,J,J,J,J,J,J,J,J,J,J,J,J,J,J,J,J,J,J,J,J,J,J,J,J,J,J,J,J,J,J,J,J,J,J,J,J,J,J,J,J,J,J,J,J,J,J,J,J,J,J,J,J,J,J,J,J,J,J,J,J,J,J,J,J,J,J,J,J,J,J,J,J,J,J,J,J,J,J,J,J,J,J,J,J,J,J,J,J,J,J,J,J,J,J,J,J,J,J,J,J,J,J,J,J,J,J,J,J,J,J,J,J,J,J,J,J,J,J,J,J,J,J,J,J,J,J],[z5 u,z5 q])) (fun x=>a7y U V ((dg U).length+1) (dg V).length x.1 x.2.1 x.2.2) (fun x=>x.1)
   ((dg U).length+1 - (dg V).length,dg U++[0],List.replicate ((dg U).length+1 - (dg V).length) 0) [some 1,some 2]
   (a7y.init hV0 (by omega)) ⟨rfl,rfl,⟨b8 rfl rfl rfl ?_ rfl,b8 rfl rfl rfl ?_ rfl,trivial⟩,⟨rfl,k9 rfl ?_,j3 rfl,e7 (by omega),k9 rfl ?_,e7 ?_,trivial⟩⟩ ?_
  ·simp [toC,C4,X2,List.map_append,List.take_append,i5]
  ·show List.replicate _ _=_
   simp [toC,i5,G3]
  ·simp [toC]
  ·simp [toC]
  ·simp [toC]
  rintro ⟨j,u,q⟩ hD
  have hD:a7y U V ((dg U).length+1) (dg V).length j u q:=hD
  have hlu:=hD.lu
  have hlq:=hD.lq
  have hle:=hD.le
  have hdt:0<j→dat u (j - 1+(dg V).length)=dat u (j - 1+(dg V).length):=fun _=>rfl
  have gu0:0<j→u[0+(((j:Int) - 1)+(dg V).length).toNat]? =some (dat u (j - 1+(dg V).length)):=fun h=>L2 (by omega) (by omega)
  have gu1:0<j→u[0+(((j:Int) - 1)+(dg V).length - 1).toNat]? =some (dat u (j - 1+(dg V).length - 1)):=fun h=>L2 (by omega) (by omega)
  have d0:=hD.oku.dat (j - 1+(dg V).length)
  have d1:=hD.oku.dat (j - 1+(dg V).length - 1)
  have dv:=(p9 V).dat ((dg V).length - 1)
  have hvt2:524288≤dat (dg V) ((dg V).length - 1):=by rw [lV];exact hvt
  conv=>whnf
  repeat' first|(refine zd ?_ ?_<;>intro h<;>first|exact zc h|(exfalso;omega)|conv=>whnf)|((first|refine zz ?_|refine Z9 (by omega) (by show _<((u.length:Nat):Int);omega) ?_|refine o8 (gu0 (by omega)) ?_|refine o8 (gu1 (by omega)) ?_|refine ⟨by decide,_,b1e (by omega) (by omega),?_⟩|refine ⟨_,b4Q (by omega) (by omega) (by omega) (by omega),?_⟩|refine C1 (by omega) (a5D (by omega)) ?_|refine ⟨by omega,_,b1o (by omega) (by omega) (by omega),?_⟩|refine af4 (by omega) ?_|refine zy ?_);conv=>whnf)
  ·have hj:0<j:=by omega
   obtain ⟨i,rfl⟩:∃i,j=i+1:=⟨j - 1,by omega⟩
   simp only [Nat.add_sub_cancel] at *
   obtain ⟨L,hL⟩:∃L,(dg V).length=L+2:=⟨(dg V).length - 2,by omega⟩
   obtain ⟨w3,w2,w0,wv,wz,wlt⟩:=hD.window rfl
   generalize hw:(u.drop i).take ((dg V).length+1)=w at w3 w2 wv wlt
   have hwo:Okd w:=by rw [← hw];exact (hD.oku.drop i).take _
   have dw:∀t,t≤(dg V).length→dat w t=dat u (i+t):=fun t ht=>by
    rw [← hw];unfold dat
    rw [lg3,List.getElem?_take,if_pos (by omega),List.getElem?_drop,←lg3]
   have win:=Win.of (p9 V) hwo hL (by omega) (by rw [hL] at hvt2;exact hvt2) (by rw [n7];exact wlt)
   rw [dw (L+2) (by omega),dw (L+1) (by omega),dw L (by omega),n7] at win
   have eL1:(dg V).length - 1=L+1:=by omega
   have eu0:i+(L+2)=i+(dg V).length:=by omega
   have eu1:i+(L+1)=i+(dg V).length - 1:=by omega
   rw [eu0,eu1] at win
   generalize ht:dat u (i+(dg V).length)*1048576+dat u (i+(dg V).length - 1)=top2 at win
   have win':=win
   have ht0:=win.t0
   refine o6 a7 (σ:=Int × Int) (fun|(g,r)=>([J,J,J,J,J,J,J,J,a9 .i64 (2 ^ k),Y8 0 u,g6 (dg V),a9 .i64 (dg V).length,Y8 1 q,a9 .i64 i,J,a9 .i64 g,a9 .i64 r,J,J,J,J,J,J,J,J,J,J,J,J,J,J,J,J,J,J,J,J,J,J,J,J,J,J,J,J,J,J,J,J,J,J,J,J,J,J,J,J,J,J,J,J,J,J,J,J,J,J,J,J,J,J,J,J,J,J,J,J,J,J,J,J,J,J,J,J,J,J,J,J,J,J,J,J,J,J,J,J,J,J,J,J,J,J,J,J,J,J,J,J,J,J,J,J,J,J,J,J,J,J,J,J,J,J,J,J,J,J,J,J,J,J,J,J,J,J,J,J,J,J,J,J,J,J,J,J,J,J,J,J,J,J,J,J,J,J,J,J,J,J,J,J,J,J,J,J,J,J,J,J,J],[z5 u,z5 q])) (fun x=>U1 V (val w) (dat (dg V) (L+1)) top2 x.1 x.2) (fun x=>x.1.toNat)
    (top2 / dat (dg V) (L+1),top2 % dat (dg V) (L+1)) [some 0,some 1]
    (U1.init win) ⟨rfl,rfl,⟨b8 rfl rfl rfl rfl rfl,b8 rfl rfl rfl rfl rfl,trivial⟩,⟨rfl,k9 rfl rfl,j3 rfl,rfl,k9 rfl rfl,e7 (by omega),e7 ?_,e7 ?_,trivial⟩⟩ ?_
   ·rw [eL1]
   ·rw [eL1,Int.tmod_eq_emod_of_nonneg ht0]
   rintro ⟨g,r⟩ hG
   have hG:U1 V (val w) (dat (dg V) (L+1)) top2 g r:=hG
   have hg0:=hG.g0
   have hgu:=hG.gu
   have hr0:=hG.r0
   have hru:=hG.ru
   have dv2:=(p9 V).dat L
   have dv1:=(p9 V).dat (L+1)
   have du2:=hD.oku.dat (i+L)
   have hgm:0≤g*dat (dg V) L∧g*dat (dg V) L≤2097152*1048576:=⟨Int.mul_nonneg hg0 dv2.1,Int.mul_le_mul hgu (by omega) dv2.1 (by omega)⟩
   have gv2:(dg V)[((((dg V).length:Nat):Int) - 2).toNat]? =some (dat (dg V) L):=by rw [show ((((dg V).length:Nat):Int) - 2).toNat=L by omega];exact t5 (by omega)
   have gv1:(dg V)[((((dg V).length:Nat):Int) - 1).toNat]? =some (dat (dg V) (L+1)):=by rw [show ((((dg V).length:Nat):Int) - 1).toNat=L+1 by omega];exact t5 (by omega)
   have gu2:u[0+((i:Int)+((dg V).length:Nat) - 2).toNat]? =some (dat u (i+L)):=L2 (by omega) (by omega)
   conv=>whnf
   repeat' first|(refine zd ?_ ?_<;>intro h<;>first|exact zc h|(exfalso;omega)|conv=>whnf)|((first|refine zz ?_|refine Z9 (by omega) (by show _<((u.length:Nat):Int);omega) ?_|refine C1 (by omega) gv2 ?_|refine C1 (by omega) gv1 ?_|refine o8 gu2 ?_|refine ⟨by decide,_,b1e (by omega) (by omega),?_⟩|refine ⟨_,b4Q (by omega) (by omega) (by omega) (by omega),?_⟩|refine az2 (by omega) (by omega) (by show _≤((u.length:Nat):Int);omega) ?_|refine zy ?_);conv=>whnf)
   ·have hgc:1048576≤g:=by omega
    have hst:=U1.step win hG (.inl hgc) (t6 hwo)
    exact ⟨[some 0,some 1],(g - 1,r+dat (dg V) (L+1)),⟨rfl,rfl,⟨b8 rfl rfl rfl rfl rfl,b8 rfl rfl rfl rfl rfl,trivial⟩,⟨rfl,k9 rfl rfl,rfl,rfl,k9 rfl rfl,rfl,rfl,rfl,trivial⟩⟩,hst,by have:=hst.g0;show (g - 1).toNat<g.toNat;omega⟩
   ·have hgc:r<1048576∧r*1048576+dat u (i+L)<g*dat (dg V) L:=by omega
    have hst:=U1.step win hG (.inr hgc) (t6 hwo)
    exact ⟨[some 0,some 1],(g - 1,r+dat (dg V) (L+1)),⟨rfl,rfl,⟨b8 rfl rfl rfl rfl rfl,b8 rfl rfl rfl rfl rfl,trivial⟩,⟨rfl,k9 rfl rfl,rfl,rfl,k9 rfl rfl,rfl,rfl,rfl,trivial⟩⟩,hst,by have:=hst.g0;show (g - 1).toNat<g.toNat;omega⟩
   all_goals
    have hgc:¬(1048576≤g∨(r<1048576∧r*1048576+dat u (i+L)<g*dat (dg V) L)):=by omega
    obtain ⟨hg1,hgV⟩:=U1.fin win hG hgc (by
     have h1:=win.Vl
     have h3:=win.v1l
     have h2:=Int.mul_le_mul_of_nonneg_left (a:=1048576) (b:=dat (dg V) (L+1)*1048576+dat (dg V) L) (by omega) (Int.le_of_lt win.P0)
     omega)
    have st:=b0T (u.take i) w (u.drop (i+((dg V).length+1))) (dg V) g hwo (p9 V) (by omega) (by omega) ⟨hg0,hg1⟩ (by rw [n7];exact hgV)
    rw [n7] at st
    obtain ⟨q0,q1,q2,q3⟩:=aM2 hG (by omega) (t6 hwo) hg1 hgV
    have hds:=hD.step rfl hV0 ⟨q0,q1⟩ (by rw [hw];exact q2) (by rw [hw];exact q3)
    rw [hw] at hds
    generalize S8 (val w) V g=Q at st q0 q1 q2 q3 hds
    rw [← w3,w2] at st
    generalize hu':u.take i++X2 ((dg V).length+1) (dg (val w - Q*V).toNat)++u.drop (i+((dg V).length+1))=u' at st hds
    refine .inr ⟨_,_,P3 (H':=[z5 u',z5 q]) [0] st (b0n (by rw [w0];omega) (by omega)) rfl rfl (by decide) ?_ (by simp) (by simp) rfl rfl rfl ?_ ?_,?_⟩
    ·intro i k hk
     match i,hk with
     |0,hk=>
      injection hk with hk
      subst hk
      exact ⟨rfl,rfl,a29 _,_,rfl,E0 rfl⟩
    ·intro i k hk
     match i,hk with
     |0,hk=>
      injection hk with hk
      subst hk
      exact ⟨_,rfl,E0 rfl⟩
    ·intro j hj hn
     match j,hj with
     |0,_=>simp at hn
     |1,_=>rfl
    conv=>whnf
    have hlu':=hds.lu
    refine zz ?_
    conv=>whnf
    repeat' first|(refine zd ?_ ?_<;>intro h<;>first|exact zc h|(exfalso;omega)|conv=>whnf)|((first|refine zz ?_|refine o8 (L2 rfl (by omega)) ?_|refine zy ?_);conv=>whnf)
    exact ⟨[some 0,some 1],(i,u',q.set i Q),⟨rfl,rfl,⟨b8 rfl rfl rfl rfl rfl,b8 rfl rfl rfl (J1 (i:=i) (n:=(i:Int)) (by simp)) rfl,trivial⟩,⟨rfl,k9 rfl (hlu.trans hlu'.symm),rfl,rfl,k9 rfl (by simp),rfl,trivial⟩⟩,hds,by show i<i+1;omega⟩
  ·have hj:j=0:=by omega
   subst hj
   obtain ⟨fq,fu⟩:=hD.fin hV0
   have tu:=a2x u (by omega)
   rw [I8 hD.oku,fu,Int.toNat_natCast] at tu
   have tq:=a2x q (by omega)
   rw [I8 hD.okq,fq,Int.toNat_natCast] at tq
   have lUV:(dg (U % V)).length≤(dg U).length:=o5 (Nat.mod_le _ _)
   have sh:=aP2 (dg (U % V)) (2 ^ k) (p9 _) (by omega) (by omega) (by omega)
   have e1:U % V / 2 ^ k=m % n:=by rw [hUe,hVe,Nat.mul_mod_mul_right,Nat.mul_div_cancel _ hp1]
   have e2:U / V=m / n:=by rw [hUe,hVe,Nat.mul_div_mul_right _ _ hp1]
   have e3:((U % V:Nat):Int) / 2 ^ k=((m % n:Nat):Int):=by rw [← e1];simp
   rw [n7,e3,Int.toNat_natCast] at sh
   rw [e2] at tq
   refine .inr ⟨_,_,t8 [0] tu ⟨a0k (v5 (by simp) rfl (by intro h;cases h) rfl rfl (by simp)),trivial⟩ rfl,?_⟩
   conv=>whnf
   repeat' first|(refine zd ?_ ?_<;>intro h<;>first|exact zc h|(exfalso;omega)|conv=>whnf)|((first|refine zz ?_|refine qp sh ?_|refine zy ?_);conv=>whnf)
   refine .inr ⟨_,_,t8 [1] tq ⟨a0k (v5 (by simp) rfl (by intro h;cases h) rfl rfl (by simp)),trivial⟩ rfl,?_⟩
   conv=>whnf
   exact k8 ⟨rfl,rfl,trivial⟩
theorem b4l (m n:Nat) (hn:0<n) (lm:(dg m).length≤300000) (ln:(dg n).length≤300000):
 b9 Tryz.prog 208 [g6 (dg m),g6 (dg n)] [] (aL4 m n) []:=by
 rcases Nat.lt_or_ge m n with h|h
 ·exact b4T m n hn h (by omega) (by omega)
 ·have h1:(dg n).length≠0:=by rw [Ne,List.length_eq_zero_iff,N4];omega
  by_cases hl:(dg n).length=1
  ·exact b5k m n hn h hl (by omega)
  ·exact b4R m n hn h (by omega) lm ln
end
end Go.Proofs.YtdbogogfeffjlaaGreat
