/- Part 3. -/
import Derived.Test.YtdbogogfeffjlaaGreatSsB2
namespace Go.Proofs.YtdbogogfeffjlaaGreat
set_option linter.unusedVariables false
set_option linter.unusedSimpArgs false
section
set_option maxRecDepth 100000
def b6O:List (Option TD):=[none,some ⟨.bas,false,1,8,[.nilFunc]⟩,some ⟨.int .i64,false,1,8,[.int .i64 0]⟩,some ⟨.int .i64,false,1,8,[.int .i64 0]⟩,some ⟨.bool,false,1,1,[.bool false]⟩,some ⟨.int .u8,false,1,1,[.int .u8 0]⟩,some ⟨.int .u8,false,1,1,[.int .u8 0]⟩,some ⟨.struct [(0,1,false),(1,1,false),(2,1,false),(3,1,false)],true,4,24,[.int .i64 0,.int .i64 0,.bool false,.int .u8 0]⟩,some ⟨.struct [(0,1,false),(1,1,false),(2,1,false),(3,1,false)],true,4,24,[.int .i64 0,.int .i64 0,.bool false,.int .u8 0]⟩,none,none,none,some ⟨.int .u64,false,1,8,[.int .u64 0]⟩,none,none,some ⟨.bas,false,1,8,[.pointer none]⟩,some ⟨.bas,false,1,8,[.pointer none]⟩,some ⟨.bas,false,1,8,[.pointer none]⟩,some ⟨.struct [(0,1,false)],true,1,8,[.pointer none]⟩,some ⟨.struct [(0,1,false)],true,1,8,[.pointer none]⟩,none,some ⟨.int .i32,false,1,4,[.int .i32 0]⟩,some ⟨.slice 77,false,1,24,[.slice none 0 0]⟩,some ⟨.slice 79,false,1,24,[.slice none 0 0]⟩,some ⟨.slice 209,false,1,24,[.slice none 0 0]⟩,some ⟨.slice 54,false,1,24,[.slice none 0 0]⟩,some ⟨.slice 216,false,1,24,[.slice none 0 0]⟩,some ⟨.struct [(0,1,false),(1,1,false),(2,1,false),(3,1,false),(4,1,false),(5,1,false),(6,1,false),(7,1,false)],true,8,144,[.int .i64 0,.int .i64 0,.int .i64 0,.slice none 0 0,.slice none 0 0,.slice none 0 0,.slice none 0 0,.slice none 0 0]⟩,some ⟨.struct [(0,1,false),(1,1,false),(2,1,false),(3,1,false),(4,1,false),(5,1,false),(6,1,false),(7,1,false)],true,8,144,[.int .i64 0,.int .i64 0,.int .i64 0,.slice none 0 0,.slice none 0 0,.slice none 0 0,.slice none 0 0,.slice none 0 0]⟩,some ⟨.slice 34,false,1,24,[.slice none 0 0]⟩,some ⟨.slice 36,false,1,24,[.slice none 0 0]⟩,some ⟨.struct [(0,8,false),(8,1,false),(9,1,false)],true,10,192,[.int .i64 0,.int .i64 0,.int .i64 0,.slice none 0 0,.slice none 0 0,.slice none 0 0,.slice none 0 0,.slice none 0 0,.slice none 0 0,.slice none 0 0]⟩,some ⟨.struct [(0,8,false),(8,1,false),(9,1,false)],true,10,192,[.int .i64 0,.int .i64 0,.int .i64 0,.slice none 0 0,.slice none 0 0,.slice none 0 0,.slice none 0 0,.slice none 0 0,.slice none 0 0,.slice none 0 0]⟩,some ⟨.struct [(0,1,false),(1,1,false),(2,1,false)],true,3,24,[.int .i64 0,.int .i64 0,.int .i64 0]⟩,some ⟨.struct [(0,1,false),(1,1,false),(2,1,false)],true,3,24,[.int .i64 0,.int .i64 0,.int .i64 0]⟩,some ⟨.struct [(0,1,false),(1,1,false)],true,2,16,[.int .i64 0,.int .i64 0]⟩,some ⟨.struct [(0,1,false),(1,1,false)],true,2,16,[.int .i64 0,.int .i64 0]⟩,some ⟨.bas,false,1,8,[.nilFunc]⟩,some ⟨.bas,false,1,8,[.nilFunc]⟩,some ⟨.int .i64,false,1,8,[.int .i64 0]⟩,some ⟨.bas,false,1,8,[.nilFunc]⟩,some ⟨.slice 46,false,1,24,[.slice none 0 0]⟩,none,some ⟨.bas,false,1,8,[.nilFunc]⟩,some ⟨.slice 83,false,1,24,[.slice none 0 0]⟩,some ⟨.struct [(0,1,false),(1,1,false),(2,1,false),(3,1,false),(4,1,false)],true,5,88,[.int .i64 0,.int .i64 0,.slice none 0 0,.slice none 0 0,.slice none 0 0]⟩,some ⟨.struct [(0,1,false),(1,1,false),(2,1,false),(3,1,false),(4,1,false)],true,5,88,[.int .i64 0,.int .i64 0,.slice none 0 0,.slice none 0 0,.slice none 0 0]⟩,some ⟨.bas,false,1,8,[.nilFunc]⟩,none,some ⟨.bas,false,1,8,[.nilFunc]⟩,some ⟨.bas,false,1,8,[.nilFunc]⟩,some ⟨.bas,false,1,8,[.nilFunc]⟩,some ⟨.bas,false,1,8,[.nilFunc]⟩,some ⟨.struct [(0,1,false),(1,1,false)],true,2,16,[.int .i64 0,.int .i64 0]⟩,some ⟨.struct [(0,1,false),(1,1,false)],true,2,16,[.int .i64 0,.int .i64 0]⟩,some ⟨.slice 3,false,1,24,[.slice none 0 0]⟩,none,some ⟨.bas,false,1,8,[.nilFunc]⟩,some ⟨.bas,false,1,8,[.nilFunc]⟩,some ⟨.bas,false,1,8,[.nilFunc]⟩,some ⟨.bas,false,1,8,[.nilFunc]⟩,none,some ⟨.bas,false,1,8,[.nilFunc]⟩,some ⟨.bas,false,1,8,[.nilFunc]⟩,some ⟨.slice 132,false,1,24,[.slice none 0 0]⟩,some ⟨.bas,false,1,8,[.nilFunc]⟩,some ⟨.bas,false,1,8,[.nilFunc]⟩,some ⟨.bas,false,1,8,[.nilFunc]⟩,some ⟨.slice 143,false,1,24,[.slice none 0 0]⟩,some ⟨.struct [(0,1,false),(1,1,false)],true,2,32,[.int .i64 0,.slice none 0 0]⟩,some ⟨.struct [(0,1,false),(1,1,false)],true,2,32,[.int .i64 0,.slice none 0 0]⟩,none,some ⟨.bas,false,1,8,[.nilFunc]⟩,some ⟨.bas,false,1,8,[.nilFunc]⟩,some ⟨.bas,false,1,8,[.nilFunc]⟩,some ⟨.bas,false,1,8,[.nilFunc]⟩,some ⟨.struct [(0,1,false),(1,1,false),(2,1,false)],true,3,24,[.int .i64 0,.int .i64 0,.int .i64 0]⟩,some ⟨.struct [(0,1,false),(1,1,false),(2,1,false)],true,3,24,[.int .i64 0,.int .i64 0,.int .i64 0]⟩,some ⟨.struct [(0,1,false),(1,1,false),(2,1,false),(3,1,false),(4,1,false),(5,1,false)],true,6,48,[.int .i64 0,.int .i64 0,.int .i64 0,.int .i64 0,.int .i64 0,.bool false]⟩,some ⟨.struct [(0,1,false),(1,1,false),(2,1,false),(3,1,false),(4,1,false),(5,1,false)],true,6,48,[.int .i64 0,.int .i64 0,.int .i64 0,.int .i64 0,.int .i64 0,.bool false]⟩,some ⟨.struct [(0,1,false),(1,1,false)],true,2,32,[.int .i64 0,.slice none 0 0]⟩,some ⟨.struct [(0,1,false),(1,1,false)],true,2,32,[.int .i64 0,.slice none 0 0]⟩,some ⟨.struct [(0,2,false),(2,2,false)],true,4,64,[.int .i64 0,.slice none 0 0,.int .i64 0,.slice none 0 0]⟩,some ⟨.struct [(0,2,false),(2,2,false)],true,4,64,[.int .i64 0,.slice none 0 0,.int .i64 0,.slice none 0 0]⟩,some ⟨.bas,false,1,8,[.nilFunc]⟩,none,some ⟨.bas,false,1,8,[.nilFunc]⟩,some ⟨.bas,false,1,8,[.nilFunc]⟩,some ⟨.bas,false,1,8,[.nilFunc]⟩,some ⟨.bas,false,1,8,[.nilFunc]⟩,some ⟨.bas,false,1,8,[.nilFunc]⟩,none,some ⟨.bas,false,1,8,[.nilFunc]⟩,some ⟨.slice 4,false,1,24,[.slice none 0 0]⟩,none,some ⟨.bas,false,1,8,[.nilFunc]⟩,some ⟨.bas,false,1,8,[.nilFunc]⟩,none,some ⟨.bas,false,1,8,[.nilFunc]⟩,some ⟨.slice 44,false,1,24,[.slice none 0 0]⟩,some ⟨.bas,false,1,8,[.nilFunc]⟩,some ⟨.bas,false,1,8,[.nilFunc]⟩,none,some ⟨.bas,false,1,8,[.nilFunc]⟩,some ⟨.bas,false,1,8,[.nilFunc]⟩,some ⟨.bas,false,1,8,[.nilFunc]⟩,some ⟨.bas,false,1,8,[.nilFunc]⟩,some ⟨.bas,false,1,8,[.nilFunc]⟩,some ⟨.bas,false,1,8,[.nilFunc]⟩,some ⟨.bas,false,1,8,[.nilFunc]⟩,none,some ⟨.bas,false,1,8,[.nilFunc]⟩,some ⟨.bas,false,1,8,[.nilFunc]⟩,some ⟨.bas,false,1,8,[.nilFunc]⟩,some ⟨.bas,false,1,8,[.nilFunc]⟩,some ⟨.bas,false,1,8,[.nilFunc]⟩,some ⟨.slice 119,false,1,24,[.slice none 0 0]⟩,some ⟨.bas,false,1,8,[.nilFunc]⟩,some ⟨.struct [(0,4,false),(4,1,false),(5,1,false),(6,1,false)],true,7,104,[.int .i64 0,.slice none 0 0,.int .i64 0,.slice none 0 0,.bool false,.slice none 0 0,.int .i64 0]⟩,some ⟨.struct [(0,4,false),(4,1,false),(5,1,false),(6,1,false)],true,7,104,[.int .i64 0,.slice none 0 0,.int .i64 0,.slice none 0 0,.bool false,.slice none 0 0,.int .i64 0]⟩,some ⟨.bas,false,1,8,[.nilFunc]⟩,some ⟨.bas,false,1,8,[.nilFunc]⟩,some ⟨.bas,false,1,8,[.nilFunc]⟩,some ⟨.slice 127,false,1,24,[.slice none 0 0]⟩,some ⟨.bas,false,1,8,[.nilFunc]⟩,some ⟨.bas,false,1,8,[.nilFunc]⟩,some ⟨.struct [(0,1,false),(1,1,false),(2,1,false)],true,3,56,[.int .i64 0,.slice none 0 0,.slice none 0 0]⟩,some ⟨.struct [(0,1,false),(1,1,false),(2,1,false)],true,3,56,[.int .i64 0,.slice none 0 0,.slice none 0 0]⟩,some ⟨.bas,false,1,8,[.nilFunc]⟩,some ⟨.bas,false,1,8,[.nilFunc]⟩,some ⟨.bas,false,1,8,[.nilFunc]⟩,some ⟨.struct [(0,1,false),(1,4,false)],true,5,72,[.int .i64 0,.int .i64 0,.slice none 0 0,.int .i64 0,.slice none 0 0]⟩,some ⟨.struct [(0,1,false),(1,4,false)],true,5,72,[.int .i64 0,.int .i64 0,.slice none 0 0,.int .i64 0,.slice none 0 0]⟩,some ⟨.bas,false,1,8,[.nilFunc]⟩,some ⟨.bas,false,1,8,[.nilFunc]⟩,some ⟨.bas,false,1,8,[.nilFunc]⟩,none,some ⟨.bas,false,1,8,[.nilFunc]⟩,some ⟨.bas,false,1,8,[.nilFunc]⟩,some ⟨.bas,false,1,8,[.nilFunc]⟩,some ⟨.bas,false,1,8,[.nilFunc]⟩,some ⟨.bas,false,1,8,[.nilFunc]⟩,some ⟨.struct [(0,1,false),(1,1,false),(2,4,false)],true,6,96,[.slice none 0 0,.int .i64 0,.int .i64 0,.slice none 0 0,.int .i64 0,.slice none 0 0]⟩,some ⟨.struct [(0,1,false),(1,1,false),(2,4,false)],true,6,96,[.slice none 0 0,.int .i64 0,.int .i64 0,.slice none 0 0,.int .i64 0,.slice none 0 0]⟩,none,some ⟨.bas,false,1,8,[.nilFunc]⟩,some ⟨.bas,false,1,8,[.nilFunc]⟩,some ⟨.bas,false,1,8,[.nilFunc]⟩,some ⟨.bas,false,1,8,[.nilFunc]⟩,some ⟨.bas,false,1,8,[.nilFunc]⟩,some ⟨.bas,false,1,8,[.nilFunc]⟩,none,some ⟨.bas,false,1,8,[.nilFunc]⟩,some ⟨.bas,false,1,8,[.nilFunc]⟩,none,some ⟨.bas,false,1,8,[.nilFunc]⟩,some ⟨.bas,false,1,8,[.nilFunc]⟩,some ⟨.bas,false,1,8,[.nilFunc]⟩,some ⟨.bas,false,1,8,[.nilFunc]⟩,some ⟨.bas,false,1,8,[.nilFunc]⟩,none,some ⟨.bas,false,1,8,[.nilFunc]⟩,some ⟨.bas,false,1,8,[.nilFunc]⟩,some ⟨.bas,false,1,8,[.nilFunc]⟩,some ⟨.bas,false,1,8,[.nilFunc]⟩,some ⟨.bas,false,1,8,[.nilFunc]⟩,some ⟨.bas,false,1,8,[.nilFunc]⟩,some ⟨.struct [(0,1,false),(1,4,false),(5,1,false),(6,1,false),(7,1,false)],true,8,144,[.int .i64 0,.int .i64 0,.slice none 0 0,.int .i64 0,.slice none 0 0,.slice none 0 0,.slice none 0 0,.slice none 0 0]⟩,some ⟨.struct [(0,1,false),(1,4,false),(5,1,false),(6,1,false),(7,1,false)],true,8,144,[.int .i64 0,.int .i64 0,.slice none 0 0,.int .i64 0,.slice none 0 0,.slice none 0 0,.slice none 0 0,.slice none 0 0]⟩,none,some ⟨.bas,false,1,8,[.nilFunc]⟩,some ⟨.bas,false,1,8,[.nilFunc]⟩,some ⟨.bas,false,1,8,[.nilFunc]⟩,some ⟨.bas,false,1,8,[.nilFunc]⟩,some ⟨.bas,false,1,8,[.nilFunc]⟩,some ⟨.bas,false,1,8,[.nilFunc]⟩,some ⟨.bas,false,1,8,[.nilFunc]⟩,some ⟨.bas,false,1,8,[.nilFunc]⟩,some ⟨.bas,false,1,8,[.nilFunc]⟩,some ⟨.bas,false,1,8,[.nilFunc]⟩,some ⟨.slice 64,false,1,24,[.slice none 0 0]⟩,some ⟨.bas,false,1,8,[.nilFunc]⟩,none,some ⟨.bas,false,1,8,[.nilFunc]⟩,some ⟨.bas,false,1,8,[.nilFunc]⟩,some ⟨.bas,false,1,8,[.nilFunc]⟩,some ⟨.bas,false,1,8,[.nilFunc]⟩,some ⟨.bas,false,1,8,[.nilFunc]⟩,some ⟨.bas,false,1,8,[.nilFunc]⟩,some ⟨.bas,false,1,8,[.nilFunc]⟩,some ⟨.bas,false,1,8,[.nilFunc]⟩,none,some ⟨.bas,false,1,8,[.nilFunc]⟩,some ⟨.bas,false,1,8,[.nilFunc]⟩,some ⟨.bas,false,1,8,[.nilFunc]⟩,some ⟨.bas,false,1,8,[.nilFunc]⟩,some ⟨.bas,false,1,8,[.nilFunc]⟩,some ⟨.bas,false,1,8,[.nilFunc]⟩,some ⟨.bas,false,1,8,[.nilFunc]⟩,some ⟨.bas,false,1,8,[.nilFunc]⟩,some ⟨.bas,false,1,8,[.nilFunc]⟩,some ⟨.bas,false,1,8,[.nilFunc]⟩,none,some ⟨.bas,false,1,8,[.nilFunc]⟩,none,some ⟨.bas,false,1,8,[.nilFunc]⟩,some ⟨.bas,false,1,8,[.nilFunc]⟩,some ⟨.bas,false,1,8,[.nilFunc]⟩,some ⟨.struct [(0,1,false),(1,1,false),(2,1,false),(3,1,false),(4,1,false),(5,1,false)],true,6,48,[.int .i64 0,.int .i64 0,.int .i64 0,.int .i64 0,.int .i64 0,.int .i64 0]⟩,some ⟨.struct [(0,1,false),(1,1,false),(2,1,false),(3,1,false),(4,1,false),(5,1,false)],true,6,48,[.int .i64 0,.int .i64 0,.int .i64 0,.int .i64 0,.int .i64 0,.int .i64 0]⟩,some ⟨.bas,false,1,8,[.nilFunc]⟩,some ⟨.bas,false,1,8,[.nilFunc]⟩,some ⟨.arr 2 3,true,2,16,[.int .i64 0,.int .i64 0]⟩,some ⟨.slice 212,false,1,24,[.slice none 0 0]⟩,some ⟨.bas,false,1,8,[.nilFunc]⟩,some ⟨.struct [(0,1,false),(1,1,false),(2,1,false),(3,1,false)],true,4,32,[.int .i64 0,.int .i64 0,.int .i64 0,.int .i64 0]⟩,some ⟨.struct [(0,1,false),(1,1,false),(2,1,false),(3,1,false)],true,4,32,[.int .i64 0,.int .i64 0,.int .i64 0,.int .i64 0]⟩,some ⟨.bas,false,1,8,[.pointer none]⟩,some ⟨.bas,false,1,8,[.nilFunc]⟩,none,some ⟨.bas,false,1,8,[.nilFunc]⟩,some ⟨.bas,false,1,8,[.nilFunc]⟩,some ⟨.bas,false,1,8,[.nilFunc]⟩,some ⟨.bas,false,1,8,[.nilFunc]⟩,some ⟨.bas,false,1,8,[.nilFunc]⟩,some ⟨.bas,false,1,8,[.nilFunc]⟩,some ⟨.bas,false,1,8,[.nilFunc]⟩,some ⟨.bas,false,1,8,[.nilFunc]⟩,some ⟨.bas,false,1,8,[.nilFunc]⟩,some ⟨.int .u64,false,1,8,[.int .u64 0]⟩,some ⟨.int .u64,false,1,8,[.int .u64 0]⟩,some ⟨.bas,false,1,8,[.nilFunc]⟩,some ⟨.bas,false,1,8,[.nilFunc]⟩,some ⟨.bas,false,1,8,[.nilFunc]⟩,some ⟨.bas,false,1,8,[.nilFunc]⟩,some ⟨.bas,false,1,8,[.nilFunc]⟩,some ⟨.bas,false,1,8,[.nilFunc]⟩,some ⟨.bas,false,1,8,[.pointer none]⟩,some ⟨.bas,false,1,8,[.nilFunc]⟩,some ⟨.bas,false,1,8,[.nilFunc]⟩,some ⟨.bas,false,1,8,[.nilFunc]⟩,some ⟨.bas,false,1,8,[.nilFunc]⟩,some ⟨.bas,false,1,8,[.nilFunc]⟩,some ⟨.bas,false,1,8,[.nilFunc]⟩,some ⟨.bas,false,1,8,[.nilFunc]⟩,some ⟨.bas,false,1,8,[.nilFunc]⟩,some ⟨.bas,false,1,8,[.nilFunc]⟩,some ⟨.bas,false,1,8,[.nilFunc]⟩,some ⟨.bas,false,1,8,[.nilFunc]⟩,some ⟨.bas,false,1,8,[.nilFunc]⟩,some ⟨.bas,false,1,8,[.nilFunc]⟩,none,some ⟨.bas,false,1,8,[.nilFunc]⟩,some ⟨.slice 259,false,1,24,[.slice none 0 0]⟩,some ⟨.slice 284,false,1,24,[.slice none 0 0]⟩,some ⟨.struct [(0,1,false),(1,1,false),(2,1,false),(3,1,false),(4,1,false),(5,1,false)],true,6,128,[.int .i64 0,.slice none 0 0,.slice none 0 0,.slice none 0 0,.slice none 0 0,.slice none 0 0]⟩,some ⟨.struct [(0,1,false),(1,1,false),(2,1,false),(3,1,false),(4,1,false),(5,1,false)],true,6,128,[.int .i64 0,.slice none 0 0,.slice none 0 0,.slice none 0 0,.slice none 0 0,.slice none 0 0]⟩,some ⟨.bas,false,1,8,[.nilFunc]⟩,some ⟨.struct [(0,4,false),(4,1,false)],true,5,88,[.int .i64 0,.slice none 0 0,.int .i64 0,.slice none 0 0,.slice none 0 0]⟩,some ⟨.struct [(0,4,false),(4,1,false)],true,5,88,[.int .i64 0,.slice none 0 0,.int .i64 0,.slice none 0 0,.slice none 0 0]⟩,some ⟨.bas,false,1,8,[.nilFunc]⟩,some ⟨.bas,false,1,8,[.nilFunc]⟩,none,some ⟨.bas,false,1,8,[.nilFunc]⟩,some ⟨.bas,false,1,8,[.nilFunc]⟩,some ⟨.bas,false,1,8,[.nilFunc]⟩,some ⟨.slice 81,false,1,24,[.slice none 0 0]⟩,some ⟨.slice 266,false,1,24,[.slice none 0 0]⟩,some ⟨.struct [(0,1,false),(1,1,false),(2,1,false),(3,2,false),(5,1,false),(6,1,false),(7,1,false),(8,1,false),(9,1,false),(10,2,false)],true,12,256,[.slice none 0 0,.slice none 0 0,.slice none 0 0,.int .i64 0,.slice none 0 0,.slice none 0 0,.slice none 0 0,.slice none 0 0,.slice none 0 0,.slice none 0 0,.int .i64 0,.slice none 0 0]⟩,some ⟨.struct [(0,1,false),(1,1,false),(2,1,false),(3,2,false),(5,1,false),(6,1,false),(7,1,false),(8,1,false),(9,1,false),(10,2,false)],true,12,256,[.slice none 0 0,.slice none 0 0,.slice none 0 0,.int .i64 0,.slice none 0 0,.slice none 0 0,.slice none 0 0,.slice none 0 0,.slice none 0 0,.slice none 0 0,.int .i64 0,.slice none 0 0]⟩,some ⟨.bas,false,1,8,[.nilFunc]⟩,some ⟨.bas,false,1,8,[.nilFunc]⟩,some ⟨.bas,false,1,8,[.nilFunc]⟩,some ⟨.bas,false,1,8,[.nilFunc]⟩,some ⟨.bas,false,1,8,[.nilFunc]⟩,some ⟨.bas,false,1,8,[.nilFunc]⟩,some ⟨.bas,false,1,8,[.nilFunc]⟩,some ⟨.bas,false,1,8,[.nilFunc]⟩,some ⟨.int .u32,false,1,4,[.int .u32 0]⟩,none,some ⟨.bas,false,1,8,[.nilFunc]⟩,none,some ⟨.bas,false,1,8,[.nilFunc]⟩,some ⟨.struct [(0,1,false),(1,1,false)],true,2,16,[.int .i64 0,.bool false]⟩,some ⟨.struct [(0,1,false),(1,1,false)],true,2,16,[.int .i64 0,.bool false]⟩,some ⟨.bas,false,1,8,[.pointer none]⟩,some ⟨.bas,false,1,8,[.nilFunc]⟩,some ⟨.bas,false,1,8,[.nilFunc]⟩,some ⟨.bas,false,1,8,[.nilFunc]⟩,some ⟨.bas,false,1,8,[.nilFunc]⟩,none,none,some ⟨.arr 0 16,true,0,0,[]⟩,some ⟨.struct [(0,0,false)],true,0,0,[]⟩,some ⟨.struct [(0,0,false)],true,0,0,[]⟩,some ⟨.int .u8,false,1,1,[.int .u8 0]⟩,some ⟨.int .u8,false,1,1,[.int .u8 0]⟩,some ⟨.bas,false,1,8,[.nilFunc]⟩,some ⟨.bas,false,1,8,[.pointer none]⟩,some ⟨.int .i32,false,1,4,[.int .i32 0]⟩,some ⟨.int .i32,false,1,4,[.int .i32 0]⟩,some ⟨.struct [(0,1,false),(1,1,false),(2,1,false),(3,1,false),(4,1,false),(5,1,false),(6,1,false),(7,1,false),(8,1,false),(9,1,false),(10,1,false)],true,11,48,[.int .u64 0,.int .u64 0,.int .u32 0,.int .u8 0,.int .u8 0,.int .u8 0,.int .u8 0,.nilFunc,.pointer none,.int .i32 0,.int .i32 0]⟩,some ⟨.struct [(0,1,false),(1,1,false),(2,1,false),(3,1,false),(4,1,false),(5,1,false),(6,1,false),(7,1,false),(8,1,false),(9,1,false),(10,1,false)],true,11,48,[.int .u64 0,.int .u64 0,.int .u32 0,.int .u8 0,.int .u8 0,.int .u8 0,.int .u8 0,.nilFunc,.pointer none,.int .i32 0,.int .i32 0]⟩,none]
def tab:Tab:=fun t=>b6O.getD t none
theorem td1:d8 Go.Proofs.Tryz.prog 1 ⟨.bas,false,1,8,[.nilFunc]⟩:=c7 (by kernel_rfl) rfl (by kernel_rfl) rfl rfl
theorem td2:d8 Go.Proofs.Tryz.prog 2 ⟨.int .i64,false,1,8,[.int .i64 0]⟩:=c7 (by kernel_rfl) rfl (by kernel_rfl) rfl rfl
theorem td3:d8 Go.Proofs.Tryz.prog 3 ⟨.int .i64,false,1,8,[.int .i64 0]⟩:=c7 (by kernel_rfl) rfl (by kernel_rfl) rfl rfl
theorem td4:d8 Go.Proofs.Tryz.prog 4 ⟨.bool,false,1,1,[.bool false]⟩:=c7 (by kernel_rfl) rfl (by kernel_rfl) rfl rfl
theorem td5:d8 Go.Proofs.Tryz.prog 5 ⟨.int .u8,false,1,1,[.int .u8 0]⟩:=c7 (by kernel_rfl) rfl (by kernel_rfl) rfl rfl
theorem td6:d8 Go.Proofs.Tryz.prog 6 ⟨.int .u8,false,1,1,[.int .u8 0]⟩:=c7 (by kernel_rfl) rfl (by kernel_rfl) rfl rfl
theorem td7:d8 Go.Proofs.Tryz.prog 7 ⟨.struct [(0,1,false),(1,1,false),(2,1,false),(3,1,false)],true,4,24,[.int .i64 0,.int .i64 0,.bool false,.int .u8 0]⟩:=c7 (by kernel_rfl) rfl (by kernel_rfl) rfl rfl
theorem td8:d8 Go.Proofs.Tryz.prog 8 ⟨.struct [(0,1,false),(1,1,false),(2,1,false),(3,1,false)],true,4,24,[.int .i64 0,.int .i64 0,.bool false,.int .u8 0]⟩:=c7 (by kernel_rfl) rfl (by kernel_rfl) rfl rfl
theorem b9i:d8 Go.Proofs.Tryz.prog 12 ⟨.int .u64,false,1,8,[.int .u64 0]⟩:=c7 (by kernel_rfl) rfl (by kernel_rfl) rfl rfl
theorem b9R:d8 Go.Proofs.Tryz.prog 15 ⟨.bas,false,1,8,[.pointer none]⟩:=c7 (by kernel_rfl) rfl (by kernel_rfl) rfl rfl
theorem b9c:d8 Go.Proofs.Tryz.prog 16 ⟨.bas,false,1,8,[.pointer none]⟩:=c7 (by kernel_rfl) rfl (by kernel_rfl) rfl rfl
theorem b8O:d8 Go.Proofs.Tryz.prog 17 ⟨.bas,false,1,8,[.pointer none]⟩:=c7 (by kernel_rfl) rfl (by kernel_rfl) rfl rfl
theorem b8U:d8 Go.Proofs.Tryz.prog 18 ⟨.struct [(0,1,false)],true,1,8,[.pointer none]⟩:=c7 (by kernel_rfl) rfl (by kernel_rfl) rfl rfl
theorem b9X:d8 Go.Proofs.Tryz.prog 19 ⟨.struct [(0,1,false)],true,1,8,[.pointer none]⟩:=c7 (by kernel_rfl) rfl (by kernel_rfl) rfl rfl
theorem b8M:d8 Go.Proofs.Tryz.prog 21 ⟨.int .i32,false,1,4,[.int .i32 0]⟩:=c7 (by kernel_rfl) rfl (by kernel_rfl) rfl rfl
theorem ba0:d8 Go.Proofs.Tryz.prog 22 ⟨.slice 77,false,1,24,[.slice none 0 0]⟩:=c7 (by kernel_rfl) rfl (by kernel_rfl) rfl rfl
theorem b99:d8 Go.Proofs.Tryz.prog 23 ⟨.slice 79,false,1,24,[.slice none 0 0]⟩:=c7 (by kernel_rfl) rfl (by kernel_rfl) rfl rfl
theorem b95:d8 Go.Proofs.Tryz.prog 24 ⟨.slice 209,false,1,24,[.slice none 0 0]⟩:=c7 (by kernel_rfl) rfl (by kernel_rfl) rfl rfl
theorem b9G:d8 Go.Proofs.Tryz.prog 25 ⟨.slice 54,false,1,24,[.slice none 0 0]⟩:=c7 (by kernel_rfl) rfl (by kernel_rfl) rfl rfl
theorem ba3:d8 Go.Proofs.Tryz.prog 26 ⟨.slice 216,false,1,24,[.slice none 0 0]⟩:=c7 (by kernel_rfl) rfl (by kernel_rfl) rfl rfl
theorem b9L:d8 Go.Proofs.Tryz.prog 27 ⟨.struct [(0,1,false),(1,1,false),(2,1,false),(3,1,false),(4,1,false),(5,1,false),(6,1,false),(7,1,false)],true,8,144,[.int .i64 0,.int .i64 0,.int .i64 0,.slice none 0 0,.slice none 0 0,.slice none 0 0,.slice none 0 0,.slice none 0 0]⟩:=c7 (by kernel_rfl) rfl (by kernel_rfl) rfl rfl
theorem b8R:d8 Go.Proofs.Tryz.prog 28 ⟨.struct [(0,1,false),(1,1,false),(2,1,false),(3,1,false),(4,1,false),(5,1,false),(6,1,false),(7,1,false)],true,8,144,[.int .i64 0,.int .i64 0,.int .i64 0,.slice none 0 0,.slice none 0 0,.slice none 0 0,.slice none 0 0,.slice none 0 0]⟩:=c7 (by kernel_rfl) rfl (by kernel_rfl) rfl rfl
theorem b9q:d8 Go.Proofs.Tryz.prog 29 ⟨.slice 34,false,1,24,[.slice none 0 0]⟩:=c7 (by kernel_rfl) rfl (by kernel_rfl) rfl rfl
theorem b9m:d8 Go.Proofs.Tryz.prog 30 ⟨.slice 36,false,1,24,[.slice none 0 0]⟩:=c7 (by kernel_rfl) rfl (by kernel_rfl) rfl rfl
theorem b9V:d8 Go.Proofs.Tryz.prog 31 ⟨.struct [(0,8,false),(8,1,false),(9,1,false)],true,10,192,[.int .i64 0,.int .i64 0,.int .i64 0,.slice none 0 0,.slice none 0 0,.slice none 0 0,.slice none 0 0,.slice none 0 0,.slice none 0 0,.slice none 0 0]⟩:=c7 (by kernel_rfl) rfl (by kernel_rfl) rfl rfl
theorem ba4:d8 Go.Proofs.Tryz.prog 32 ⟨.struct [(0,8,false),(8,1,false),(9,1,false)],true,10,192,[.int .i64 0,.int .i64 0,.int .i64 0,.slice none 0 0,.slice none 0 0,.slice none 0 0,.slice none 0 0,.slice none 0 0,.slice none 0 0,.slice none 0 0]⟩:=c7 (by kernel_rfl) rfl (by kernel_rfl) rfl rfl
theorem b8L:d8 Go.Proofs.Tryz.prog 33 ⟨.struct [(0,1,false),(1,1,false),(2,1,false)],true,3,24,[.int .i64 0,.int .i64 0,.int .i64 0]⟩:=c7 (by kernel_rfl) rfl (by kernel_rfl) rfl rfl
theorem b9y:d8 Go.Proofs.Tryz.prog 34 ⟨.struct [(0,1,false),(1,1,false),(2,1,false)],true,3,24,[.int .i64 0,.int .i64 0,.int .i64 0]⟩:=c7 (by kernel_rfl) rfl (by kernel_rfl) rfl rfl
theorem b9v:d8 Go.Proofs.Tryz.prog 35 ⟨.struct [(0,1,false),(1,1,false)],true,2,16,[.int .i64 0,.int .i64 0]⟩:=c7 (by kernel_rfl) rfl (by kernel_rfl) rfl rfl
theorem b9A:d8 Go.Proofs.Tryz.prog 36 ⟨.struct [(0,1,false),(1,1,false)],true,2,16,[.int .i64 0,.int .i64 0]⟩:=c7 (by kernel_rfl) rfl (by kernel_rfl) rfl rfl
theorem b8Z:d8 Go.Proofs.Tryz.prog 37 ⟨.bas,false,1,8,[.nilFunc]⟩:=c7 (by kernel_rfl) rfl (by kernel_rfl) rfl rfl
theorem b8T:d8 Go.Proofs.Tryz.prog 38 ⟨.bas,false,1,8,[.nilFunc]⟩:=c7 (by kernel_rfl) rfl (by kernel_rfl) rfl rfl
theorem b8P:d8 Go.Proofs.Tryz.prog 39 ⟨.int .i64,false,1,8,[.int .i64 0]⟩:=c7 (by kernel_rfl) rfl (by kernel_rfl) rfl rfl
theorem b9U:d8 Go.Proofs.Tryz.prog 40 ⟨.bas,false,1,8,[.nilFunc]⟩:=c7 (by kernel_rfl) rfl (by kernel_rfl) rfl rfl
theorem ba5:d8 Go.Proofs.Tryz.prog 41 ⟨.slice 46,false,1,24,[.slice none 0 0]⟩:=c7 (by kernel_rfl) rfl (by kernel_rfl) rfl rfl
theorem b9o:d8 Go.Proofs.Tryz.prog 43 ⟨.bas,false,1,8,[.nilFunc]⟩:=c7 (by kernel_rfl) rfl (by kernel_rfl) rfl rfl
theorem b9D:d8 Go.Proofs.Tryz.prog 44 ⟨.slice 83,false,1,24,[.slice none 0 0]⟩:=c7 (by kernel_rfl) rfl (by kernel_rfl) rfl rfl
theorem b94:d8 Go.Proofs.Tryz.prog 45 ⟨.struct [(0,1,false),(1,1,false),(2,1,false),(3,1,false),(4,1,false)],true,5,88,[.int .i64 0,.int .i64 0,.slice none 0 0,.slice none 0 0,.slice none 0 0]⟩:=c7 (by kernel_rfl) rfl (by kernel_rfl) rfl rfl
theorem b9Q:d8 Go.Proofs.Tryz.prog 46 ⟨.struct [(0,1,false),(1,1,false),(2,1,false),(3,1,false),(4,1,false)],true,5,88,[.int .i64 0,.int .i64 0,.slice none 0 0,.slice none 0 0,.slice none 0 0]⟩:=c7 (by kernel_rfl) rfl (by kernel_rfl) rfl rfl
theorem b9Z:d8 Go.Proofs.Tryz.prog 47 ⟨.bas,false,1,8,[.nilFunc]⟩:=c7 (by kernel_rfl) rfl (by kernel_rfl) rfl rfl
theorem b9W:d8 Go.Proofs.Tryz.prog 49 ⟨.bas,false,1,8,[.nilFunc]⟩:=c7 (by kernel_rfl) rfl (by kernel_rfl) rfl rfl
theorem b9p:d8 Go.Proofs.Tryz.prog 50 ⟨.bas,false,1,8,[.nilFunc]⟩:=c7 (by kernel_rfl) rfl (by kernel_rfl) rfl rfl
theorem b8Y:d8 Go.Proofs.Tryz.prog 51 ⟨.bas,false,1,8,[.nilFunc]⟩:=c7 (by kernel_rfl) rfl (by kernel_rfl) rfl rfl
theorem b9z:d8 Go.Proofs.Tryz.prog 52 ⟨.bas,false,1,8,[.nilFunc]⟩:=c7 (by kernel_rfl) rfl (by kernel_rfl) rfl rfl
theorem b9g:d8 Go.Proofs.Tryz.prog 53 ⟨.struct [(0,1,false),(1,1,false)],true,2,16,[.int .i64 0,.int .i64 0]⟩:=c7 (by kernel_rfl) rfl (by kernel_rfl) rfl rfl
theorem b9Y:d8 Go.Proofs.Tryz.prog 54 ⟨.struct [(0,1,false),(1,1,false)],true,2,16,[.int .i64 0,.int .i64 0]⟩:=c7 (by kernel_rfl) rfl (by kernel_rfl) rfl rfl
theorem b9j:d8 Go.Proofs.Tryz.prog 55 ⟨.slice 3,false,1,24,[.slice none 0 0]⟩:=c7 (by kernel_rfl) rfl (by kernel_rfl) rfl rfl
theorem b9h:d8 Go.Proofs.Tryz.prog 57 ⟨.bas,false,1,8,[.nilFunc]⟩:=c7 (by kernel_rfl) rfl (by kernel_rfl) rfl rfl
theorem b8K:d8 Go.Proofs.Tryz.prog 58 ⟨.bas,false,1,8,[.nilFunc]⟩:=c7 (by kernel_rfl) rfl (by kernel_rfl) rfl rfl
theorem b98:d8 Go.Proofs.Tryz.prog 59 ⟨.bas,false,1,8,[.nilFunc]⟩:=c7 (by kernel_rfl) rfl (by kernel_rfl) rfl rfl
theorem b8V:d8 Go.Proofs.Tryz.prog 60 ⟨.bas,false,1,8,[.nilFunc]⟩:=c7 (by kernel_rfl) rfl (by kernel_rfl) rfl rfl
theorem b9a:d8 Go.Proofs.Tryz.prog 62 ⟨.bas,false,1,8,[.nilFunc]⟩:=c7 (by kernel_rfl) rfl (by kernel_rfl) rfl rfl
theorem b9F:d8 Go.Proofs.Tryz.prog 63 ⟨.bas,false,1,8,[.nilFunc]⟩:=c7 (by kernel_rfl) rfl (by kernel_rfl) rfl rfl
theorem b91:d8 Go.Proofs.Tryz.prog 64 ⟨.slice 132,false,1,24,[.slice none 0 0]⟩:=c7 (by kernel_rfl) rfl (by kernel_rfl) rfl rfl
theorem b9J:d8 Go.Proofs.Tryz.prog 65 ⟨.bas,false,1,8,[.nilFunc]⟩:=c7 (by kernel_rfl) rfl (by kernel_rfl) rfl rfl
theorem b8N:d8 Go.Proofs.Tryz.prog 66 ⟨.bas,false,1,8,[.nilFunc]⟩:=c7 (by kernel_rfl) rfl (by kernel_rfl) rfl rfl
theorem b9k:d8 Go.Proofs.Tryz.prog 67 ⟨.bas,false,1,8,[.nilFunc]⟩:=c7 (by kernel_rfl) rfl (by kernel_rfl) rfl rfl
theorem b9K:d8 Go.Proofs.Tryz.prog 68 ⟨.slice 143,false,1,24,[.slice none 0 0]⟩:=c7 (by kernel_rfl) rfl (by kernel_rfl) rfl rfl
theorem b9N:d8 Go.Proofs.Tryz.prog 69 ⟨.struct [(0,1,false),(1,1,false)],true,2,32,[.int .i64 0,.slice none 0 0]⟩:=c7 (by kernel_rfl) rfl (by kernel_rfl) rfl rfl
theorem b93:d8 Go.Proofs.Tryz.prog 70 ⟨.struct [(0,1,false),(1,1,false)],true,2,32,[.int .i64 0,.slice none 0 0]⟩:=c7 (by kernel_rfl) rfl (by kernel_rfl) rfl rfl
theorem b9w:d8 Go.Proofs.Tryz.prog 72 ⟨.bas,false,1,8,[.nilFunc]⟩:=c7 (by kernel_rfl) rfl (by kernel_rfl) rfl rfl
theorem b8W:d8 Go.Proofs.Tryz.prog 73 ⟨.bas,false,1,8,[.nilFunc]⟩:=c7 (by kernel_rfl) rfl (by kernel_rfl) rfl rfl
theorem b9I:d8 Go.Proofs.Tryz.prog 74 ⟨.bas,false,1,8,[.nilFunc]⟩:=c7 (by kernel_rfl) rfl (by kernel_rfl) rfl rfl
theorem b9P:d8 Go.Proofs.Tryz.prog 75 ⟨.bas,false,1,8,[.nilFunc]⟩:=c7 (by kernel_rfl) rfl (by kernel_rfl) rfl rfl
theorem b9b:d8 Go.Proofs.Tryz.prog 76 ⟨.struct [(0,1,false),(1,1,false),(2,1,false)],true,3,24,[.int .i64 0,.int .i64 0,.int .i64 0]⟩:=c7 (by kernel_rfl) rfl (by kernel_rfl) rfl rfl
theorem ba1:d8 Go.Proofs.Tryz.prog 77 ⟨.struct [(0,1,false),(1,1,false),(2,1,false)],true,3,24,[.int .i64 0,.int .i64 0,.int .i64 0]⟩:=c7 (by kernel_rfl) rfl (by kernel_rfl) rfl rfl
theorem b9n:d8 Go.Proofs.Tryz.prog 78 ⟨.struct [(0,1,false),(1,1,false),(2,1,false),(3,1,false),(4,1,false),(5,1,false)],true,6,48,[.int .i64 0,.int .i64 0,.int .i64 0,.int .i64 0,.int .i64 0,.bool false]⟩:=c7 (by kernel_rfl) rfl (by kernel_rfl) rfl rfl
theorem b9T:d8 Go.Proofs.Tryz.prog 79 ⟨.struct [(0,1,false),(1,1,false),(2,1,false),(3,1,false),(4,1,false),(5,1,false)],true,6,48,[.int .i64 0,.int .i64 0,.int .i64 0,.int .i64 0,.int .i64 0,.bool false]⟩:=c7 (by kernel_rfl) rfl (by kernel_rfl) rfl rfl
theorem b9u:d8 Go.Proofs.Tryz.prog 80 ⟨.struct [(0,1,false),(1,1,false)],true,2,32,[.int .i64 0,.slice none 0 0]⟩:=c7 (by kernel_rfl) rfl (by kernel_rfl) rfl rfl
theorem b8X:d8 Go.Proofs.Tryz.prog 81 ⟨.struct [(0,1,false),(1,1,false)],true,2,32,[.int .i64 0,.slice none 0 0]⟩:=c7 (by kernel_rfl) rfl (by kernel_rfl) rfl rfl
theorem b9x:d8 Go.Proofs.Tryz.prog 82 ⟨.struct [(0,2,false),(2,2,false)],true,4,64,[.int .i64 0,.slice none 0 0,.int .i64 0,.slice none 0 0]⟩:=c7 (by kernel_rfl) rfl (by kernel_rfl) rfl rfl
theorem b96:d8 Go.Proofs.Tryz.prog 83 ⟨.struct [(0,2,false),(2,2,false)],true,4,64,[.int .i64 0,.slice none 0 0,.int .i64 0,.slice none 0 0]⟩:=c7 (by kernel_rfl) rfl (by kernel_rfl) rfl rfl
theorem ba6:d8 Go.Proofs.Tryz.prog 84 ⟨.bas,false,1,8,[.nilFunc]⟩:=c7 (by kernel_rfl) rfl (by kernel_rfl) rfl rfl
theorem b9M:d8 Go.Proofs.Tryz.prog 86 ⟨.bas,false,1,8,[.nilFunc]⟩:=c7 (by kernel_rfl) rfl (by kernel_rfl) rfl rfl
theorem b9H:d8 Go.Proofs.Tryz.prog 87 ⟨.bas,false,1,8,[.nilFunc]⟩:=c7 (by kernel_rfl) rfl (by kernel_rfl) rfl rfl
theorem b9B:d8 Go.Proofs.Tryz.prog 88 ⟨.bas,false,1,8,[.nilFunc]⟩:=c7 (by kernel_rfl) rfl (by kernel_rfl) rfl rfl
theorem b9l:d8 Go.Proofs.Tryz.prog 89 ⟨.bas,false,1,8,[.nilFunc]⟩:=c7 (by kernel_rfl) rfl (by kernel_rfl) rfl rfl
theorem b8H:d8 Go.Proofs.Tryz.prog 90 ⟨.bas,false,1,8,[.nilFunc]⟩:=c7 (by kernel_rfl) rfl (by kernel_rfl) rfl rfl
theorem b9d:d8 Go.Proofs.Tryz.prog 92 ⟨.bas,false,1,8,[.nilFunc]⟩:=c7 (by kernel_rfl) rfl (by kernel_rfl) rfl rfl
theorem b9S:d8 Go.Proofs.Tryz.prog 93 ⟨.slice 4,false,1,24,[.slice none 0 0]⟩:=c7 (by kernel_rfl) rfl (by kernel_rfl) rfl rfl
theorem b97:d8 Go.Proofs.Tryz.prog 95 ⟨.bas,false,1,8,[.nilFunc]⟩:=c7 (by kernel_rfl) rfl (by kernel_rfl) rfl rfl
theorem b9O:d8 Go.Proofs.Tryz.prog 96 ⟨.bas,false,1,8,[.nilFunc]⟩:=c7 (by kernel_rfl) rfl (by kernel_rfl) rfl rfl
theorem b92:d8 Go.Proofs.Tryz.prog 98 ⟨.bas,false,1,8,[.nilFunc]⟩:=c7 (by kernel_rfl) rfl (by kernel_rfl) rfl rfl
theorem b8I:d8 Go.Proofs.Tryz.prog 99 ⟨.slice 44,false,1,24,[.slice none 0 0]⟩:=c7 (by kernel_rfl) rfl (by kernel_rfl) rfl rfl
theorem b6V:d8 Go.Proofs.Tryz.prog 100 ⟨.bas,false,1,8,[.nilFunc]⟩:=c7 (by kernel_rfl) rfl (by kernel_rfl) rfl rfl
theorem b63:d8 Go.Proofs.Tryz.prog 101 ⟨.bas,false,1,8,[.nilFunc]⟩:=c7 (by kernel_rfl) rfl (by kernel_rfl) rfl rfl
theorem b5M:d8 Go.Proofs.Tryz.prog 103 ⟨.bas,false,1,8,[.nilFunc]⟩:=c7 (by kernel_rfl) rfl (by kernel_rfl) rfl rfl
theorem b8r:d8 Go.Proofs.Tryz.prog 104 ⟨.bas,false,1,8,[.nilFunc]⟩:=c7 (by kernel_rfl) rfl (by kernel_rfl) rfl rfl
theorem b8h:d8 Go.Proofs.Tryz.prog 105 ⟨.bas,false,1,8,[.nilFunc]⟩:=c7 (by kernel_rfl) rfl (by kernel_rfl) rfl rfl
theorem b6E:d8 Go.Proofs.Tryz.prog 106 ⟨.bas,false,1,8,[.nilFunc]⟩:=c7 (by kernel_rfl) rfl (by kernel_rfl) rfl rfl
theorem b7k:d8 Go.Proofs.Tryz.prog 107 ⟨.bas,false,1,8,[.nilFunc]⟩:=c7 (by kernel_rfl) rfl (by kernel_rfl) rfl rfl
theorem b51:d8 Go.Proofs.Tryz.prog 108 ⟨.bas,false,1,8,[.nilFunc]⟩:=c7 (by kernel_rfl) rfl (by kernel_rfl) rfl rfl
theorem b7K:d8 Go.Proofs.Tryz.prog 109 ⟨.bas,false,1,8,[.nilFunc]⟩:=c7 (by kernel_rfl) rfl (by kernel_rfl) rfl rfl
theorem b5O:d8 Go.Proofs.Tryz.prog 111 ⟨.bas,false,1,8,[.nilFunc]⟩:=c7 (by kernel_rfl) rfl (by kernel_rfl) rfl rfl
theorem b5P:d8 Go.Proofs.Tryz.prog 112 ⟨.bas,false,1,8,[.nilFunc]⟩:=c7 (by kernel_rfl) rfl (by kernel_rfl) rfl rfl
theorem b5n:d8 Go.Proofs.Tryz.prog 113 ⟨.bas,false,1,8,[.nilFunc]⟩:=c7 (by kernel_rfl) rfl (by kernel_rfl) rfl rfl
theorem b5k:d8 Go.Proofs.Tryz.prog 114 ⟨.bas,false,1,8,[.nilFunc]⟩:=c7 (by kernel_rfl) rfl (by kernel_rfl) rfl rfl
theorem b5l:d8 Go.Proofs.Tryz.prog 115 ⟨.bas,false,1,8,[.nilFunc]⟩:=c7 (by kernel_rfl) rfl (by kernel_rfl) rfl rfl
theorem b5d:d8 Go.Proofs.Tryz.prog 116 ⟨.slice 119,false,1,24,[.slice none 0 0]⟩:=c7 (by kernel_rfl) rfl (by kernel_rfl) rfl rfl
theorem b4Z:d8 Go.Proofs.Tryz.prog 117 ⟨.bas,false,1,8,[.nilFunc]⟩:=c7 (by kernel_rfl) rfl (by kernel_rfl) rfl rfl
theorem b6B:d8 Go.Proofs.Tryz.prog 118 ⟨.struct [(0,4,false),(4,1,false),(5,1,false),(6,1,false)],true,7,104,[.int .i64 0,.slice none 0 0,.int .i64 0,.slice none 0 0,.bool false,.slice none 0 0,.int .i64 0]⟩:=c7 (by kernel_rfl) rfl (by kernel_rfl) rfl rfl
theorem b5E:d8 Go.Proofs.Tryz.prog 119 ⟨.struct [(0,4,false),(4,1,false),(5,1,false),(6,1,false)],true,7,104,[.int .i64 0,.slice none 0 0,.int .i64 0,.slice none 0 0,.bool false,.slice none 0 0,.int .i64 0]⟩:=c7 (by kernel_rfl) rfl (by kernel_rfl) rfl rfl
theorem b8l:d8 Go.Proofs.Tryz.prog 120 ⟨.bas,false,1,8,[.nilFunc]⟩:=c7 (by kernel_rfl) rfl (by kernel_rfl) rfl rfl
theorem b5w:d8 Go.Proofs.Tryz.prog 121 ⟨.bas,false,1,8,[.nilFunc]⟩:=c7 (by kernel_rfl) rfl (by kernel_rfl) rfl rfl
theorem b6r:d8 Go.Proofs.Tryz.prog 122 ⟨.bas,false,1,8,[.nilFunc]⟩:=c7 (by kernel_rfl) rfl (by kernel_rfl) rfl rfl
theorem b89:d8 Go.Proofs.Tryz.prog 123 ⟨.slice 127,false,1,24,[.slice none 0 0]⟩:=c7 (by kernel_rfl) rfl (by kernel_rfl) rfl rfl
theorem b74:d8 Go.Proofs.Tryz.prog 124 ⟨.bas,false,1,8,[.nilFunc]⟩:=c7 (by kernel_rfl) rfl (by kernel_rfl) rfl rfl
theorem b6t:d8 Go.Proofs.Tryz.prog 125 ⟨.bas,false,1,8,[.nilFunc]⟩:=c7 (by kernel_rfl) rfl (by kernel_rfl) rfl rfl
theorem b56:d8 Go.Proofs.Tryz.prog 126 ⟨.struct [(0,1,false),(1,1,false),(2,1,false)],true,3,56,[.int .i64 0,.slice none 0 0,.slice none 0 0]⟩:=c7 (by kernel_rfl) rfl (by kernel_rfl) rfl rfl
theorem b6j:d8 Go.Proofs.Tryz.prog 127 ⟨.struct [(0,1,false),(1,1,false),(2,1,false)],true,3,56,[.int .i64 0,.slice none 0 0,.slice none 0 0]⟩:=c7 (by kernel_rfl) rfl (by kernel_rfl) rfl rfl
theorem b7Z:d8 Go.Proofs.Tryz.prog 128 ⟨.bas,false,1,8,[.nilFunc]⟩:=c7 (by kernel_rfl) rfl (by kernel_rfl) rfl rfl
theorem b5K:d8 Go.Proofs.Tryz.prog 129 ⟨.bas,false,1,8,[.nilFunc]⟩:=c7 (by kernel_rfl) rfl (by kernel_rfl) rfl rfl
theorem b8e:d8 Go.Proofs.Tryz.prog 130 ⟨.bas,false,1,8,[.nilFunc]⟩:=c7 (by kernel_rfl) rfl (by kernel_rfl) rfl rfl
theorem b7Q:d8 Go.Proofs.Tryz.prog 131 ⟨.struct [(0,1,false),(1,4,false)],true,5,72,[.int .i64 0,.int .i64 0,.slice none 0 0,.int .i64 0,.slice none 0 0]⟩:=c7 (by kernel_rfl) rfl (by kernel_rfl) rfl rfl
theorem b88:d8 Go.Proofs.Tryz.prog 132 ⟨.struct [(0,1,false),(1,4,false)],true,5,72,[.int .i64 0,.int .i64 0,.slice none 0 0,.int .i64 0,.slice none 0 0]⟩:=c7 (by kernel_rfl) rfl (by kernel_rfl) rfl rfl
theorem b7L:d8 Go.Proofs.Tryz.prog 133 ⟨.bas,false,1,8,[.nilFunc]⟩:=c7 (by kernel_rfl) rfl (by kernel_rfl) rfl rfl
theorem b8n:d8 Go.Proofs.Tryz.prog 134 ⟨.bas,false,1,8,[.nilFunc]⟩:=c7 (by kernel_rfl) rfl (by kernel_rfl) rfl rfl
theorem b6x:d8 Go.Proofs.Tryz.prog 135 ⟨.bas,false,1,8,[.nilFunc]⟩:=c7 (by kernel_rfl) rfl (by kernel_rfl) rfl rfl
theorem b5Z:d8 Go.Proofs.Tryz.prog 137 ⟨.bas,false,1,8,[.nilFunc]⟩:=c7 (by kernel_rfl) rfl (by kernel_rfl) rfl rfl
theorem b5S:d8 Go.Proofs.Tryz.prog 138 ⟨.bas,false,1,8,[.nilFunc]⟩:=c7 (by kernel_rfl) rfl (by kernel_rfl) rfl rfl
theorem b8F:d8 Go.Proofs.Tryz.prog 139 ⟨.bas,false,1,8,[.nilFunc]⟩:=c7 (by kernel_rfl) rfl (by kernel_rfl) rfl rfl
theorem b8x:d8 Go.Proofs.Tryz.prog 140 ⟨.bas,false,1,8,[.nilFunc]⟩:=c7 (by kernel_rfl) rfl (by kernel_rfl) rfl rfl
theorem b84:d8 Go.Proofs.Tryz.prog 141 ⟨.bas,false,1,8,[.nilFunc]⟩:=c7 (by kernel_rfl) rfl (by kernel_rfl) rfl rfl
theorem b5u:d8 Go.Proofs.Tryz.prog 142 ⟨.struct [(0,1,false),(1,1,false),(2,4,false)],true,6,96,[.slice none 0 0,.int .i64 0,.int .i64 0,.slice none 0 0,.int .i64 0,.slice none 0 0]⟩:=c7 (by kernel_rfl) rfl (by kernel_rfl) rfl rfl
theorem b6h:d8 Go.Proofs.Tryz.prog 143 ⟨.struct [(0,1,false),(1,1,false),(2,4,false)],true,6,96,[.slice none 0 0,.int .i64 0,.int .i64 0,.slice none 0 0,.int .i64 0,.slice none 0 0]⟩:=c7 (by kernel_rfl) rfl (by kernel_rfl) rfl rfl
theorem b83:d8 Go.Proofs.Tryz.prog 145 ⟨.bas,false,1,8,[.nilFunc]⟩:=c7 (by kernel_rfl) rfl (by kernel_rfl) rfl rfl
theorem b5g:d8 Go.Proofs.Tryz.prog 146 ⟨.bas,false,1,8,[.nilFunc]⟩:=c7 (by kernel_rfl) rfl (by kernel_rfl) rfl rfl
theorem b7W:d8 Go.Proofs.Tryz.prog 147 ⟨.bas,false,1,8,[.nilFunc]⟩:=c7 (by kernel_rfl) rfl (by kernel_rfl) rfl rfl
theorem b79:d8 Go.Proofs.Tryz.prog 148 ⟨.bas,false,1,8,[.nilFunc]⟩:=c7 (by kernel_rfl) rfl (by kernel_rfl) rfl rfl
theorem b7x:d8 Go.Proofs.Tryz.prog 149 ⟨.bas,false,1,8,[.nilFunc]⟩:=c7 (by kernel_rfl) rfl (by kernel_rfl) rfl rfl
theorem b7P:d8 Go.Proofs.Tryz.prog 150 ⟨.bas,false,1,8,[.nilFunc]⟩:=c7 (by kernel_rfl) rfl (by kernel_rfl) rfl rfl
theorem b8B:d8 Go.Proofs.Tryz.prog 152 ⟨.bas,false,1,8,[.nilFunc]⟩:=c7 (by kernel_rfl) rfl (by kernel_rfl) rfl rfl
theorem b6l:d8 Go.Proofs.Tryz.prog 153 ⟨.bas,false,1,8,[.nilFunc]⟩:=c7 (by kernel_rfl) rfl (by kernel_rfl) rfl rfl
theorem b70:d8 Go.Proofs.Tryz.prog 155 ⟨.bas,false,1,8,[.nilFunc]⟩:=c7 (by kernel_rfl) rfl (by kernel_rfl) rfl rfl
theorem b6d:d8 Go.Proofs.Tryz.prog 156 ⟨.bas,false,1,8,[.nilFunc]⟩:=c7 (by kernel_rfl) rfl (by kernel_rfl) rfl rfl
theorem b6o:d8 Go.Proofs.Tryz.prog 157 ⟨.bas,false,1,8,[.nilFunc]⟩:=c7 (by kernel_rfl) rfl (by kernel_rfl) rfl rfl
theorem b8f:d8 Go.Proofs.Tryz.prog 158 ⟨.bas,false,1,8,[.nilFunc]⟩:=c7 (by kernel_rfl) rfl (by kernel_rfl) rfl rfl
theorem b66:d8 Go.Proofs.Tryz.prog 159 ⟨.bas,false,1,8,[.nilFunc]⟩:=c7 (by kernel_rfl) rfl (by kernel_rfl) rfl rfl
theorem b5T:d8 Go.Proofs.Tryz.prog 161 ⟨.bas,false,1,8,[.nilFunc]⟩:=c7 (by kernel_rfl) rfl (by kernel_rfl) rfl rfl
theorem b5f:d8 Go.Proofs.Tryz.prog 162 ⟨.bas,false,1,8,[.nilFunc]⟩:=c7 (by kernel_rfl) rfl (by kernel_rfl) rfl rfl
theorem b68:d8 Go.Proofs.Tryz.prog 163 ⟨.bas,false,1,8,[.nilFunc]⟩:=c7 (by kernel_rfl) rfl (by kernel_rfl) rfl rfl
theorem b6F:d8 Go.Proofs.Tryz.prog 164 ⟨.bas,false,1,8,[.nilFunc]⟩:=c7 (by kernel_rfl) rfl (by kernel_rfl) rfl rfl
theorem b7h:d8 Go.Proofs.Tryz.prog 165 ⟨.bas,false,1,8,[.nilFunc]⟩:=c7 (by kernel_rfl) rfl (by kernel_rfl) rfl rfl
theorem b7S:d8 Go.Proofs.Tryz.prog 166 ⟨.bas,false,1,8,[.nilFunc]⟩:=c7 (by kernel_rfl) rfl (by kernel_rfl) rfl rfl
theorem b7y:d8 Go.Proofs.Tryz.prog 167 ⟨.struct [(0,1,false),(1,4,false),(5,1,false),(6,1,false),(7,1,false)],true,8,144,[.int .i64 0,.int .i64 0,.slice none 0 0,.int .i64 0,.slice none 0 0,.slice none 0 0,.slice none 0 0,.slice none 0 0]⟩:=c7 (by kernel_rfl) rfl (by kernel_rfl) rfl rfl
theorem b7v:d8 Go.Proofs.Tryz.prog 168 ⟨.struct [(0,1,false),(1,4,false),(5,1,false),(6,1,false),(7,1,false)],true,8,144,[.int .i64 0,.int .i64 0,.slice none 0 0,.int .i64 0,.slice none 0 0,.slice none 0 0,.slice none 0 0,.slice none 0 0]⟩:=c7 (by kernel_rfl) rfl (by kernel_rfl) rfl rfl
theorem b5B:d8 Go.Proofs.Tryz.prog 170 ⟨.bas,false,1,8,[.nilFunc]⟩:=c7 (by kernel_rfl) rfl (by kernel_rfl) rfl rfl
theorem b6A:d8 Go.Proofs.Tryz.prog 171 ⟨.bas,false,1,8,[.nilFunc]⟩:=c7 (by kernel_rfl) rfl (by kernel_rfl) rfl rfl
theorem b5i:d8 Go.Proofs.Tryz.prog 172 ⟨.bas,false,1,8,[.nilFunc]⟩:=c7 (by kernel_rfl) rfl (by kernel_rfl) rfl rfl
theorem b7M:d8 Go.Proofs.Tryz.prog 173 ⟨.bas,false,1,8,[.nilFunc]⟩:=c7 (by kernel_rfl) rfl (by kernel_rfl) rfl rfl
theorem b65:d8 Go.Proofs.Tryz.prog 174 ⟨.bas,false,1,8,[.nilFunc]⟩:=c7 (by kernel_rfl) rfl (by kernel_rfl) rfl rfl
theorem b5p:d8 Go.Proofs.Tryz.prog 175 ⟨.bas,false,1,8,[.nilFunc]⟩:=c7 (by kernel_rfl) rfl (by kernel_rfl) rfl rfl
theorem b6G:d8 Go.Proofs.Tryz.prog 176 ⟨.bas,false,1,8,[.nilFunc]⟩:=c7 (by kernel_rfl) rfl (by kernel_rfl) rfl rfl
theorem b7g:d8 Go.Proofs.Tryz.prog 177 ⟨.bas,false,1,8,[.nilFunc]⟩:=c7 (by kernel_rfl) rfl (by kernel_rfl) rfl rfl
theorem b8y:d8 Go.Proofs.Tryz.prog 178 ⟨.bas,false,1,8,[.nilFunc]⟩:=c7 (by kernel_rfl) rfl (by kernel_rfl) rfl rfl
theorem b7i:d8 Go.Proofs.Tryz.prog 179 ⟨.bas,false,1,8,[.nilFunc]⟩:=c7 (by kernel_rfl) rfl (by kernel_rfl) rfl rfl
theorem b6J:d8 Go.Proofs.Tryz.prog 180 ⟨.slice 64,false,1,24,[.slice none 0 0]⟩:=c7 (by kernel_rfl) rfl (by kernel_rfl) rfl rfl
theorem b7f:d8 Go.Proofs.Tryz.prog 181 ⟨.bas,false,1,8,[.nilFunc]⟩:=c7 (by kernel_rfl) rfl (by kernel_rfl) rfl rfl
theorem b5r:d8 Go.Proofs.Tryz.prog 183 ⟨.bas,false,1,8,[.nilFunc]⟩:=c7 (by kernel_rfl) rfl (by kernel_rfl) rfl rfl
theorem b6w:d8 Go.Proofs.Tryz.prog 184 ⟨.bas,false,1,8,[.nilFunc]⟩:=c7 (by kernel_rfl) rfl (by kernel_rfl) rfl rfl
theorem b6I:d8 Go.Proofs.Tryz.prog 185 ⟨.bas,false,1,8,[.nilFunc]⟩:=c7 (by kernel_rfl) rfl (by kernel_rfl) rfl rfl
theorem b50:d8 Go.Proofs.Tryz.prog 186 ⟨.bas,false,1,8,[.nilFunc]⟩:=c7 (by kernel_rfl) rfl (by kernel_rfl) rfl rfl
theorem b8t:d8 Go.Proofs.Tryz.prog 187 ⟨.bas,false,1,8,[.nilFunc]⟩:=c7 (by kernel_rfl) rfl (by kernel_rfl) rfl rfl
theorem b5j:d8 Go.Proofs.Tryz.prog 188 ⟨.bas,false,1,8,[.nilFunc]⟩:=c7 (by kernel_rfl) rfl (by kernel_rfl) rfl rfl
theorem b5I:d8 Go.Proofs.Tryz.prog 189 ⟨.bas,false,1,8,[.nilFunc]⟩:=c7 (by kernel_rfl) rfl (by kernel_rfl) rfl rfl
theorem b4X:d8 Go.Proofs.Tryz.prog 190 ⟨.bas,false,1,8,[.nilFunc]⟩:=c7 (by kernel_rfl) rfl (by kernel_rfl) rfl rfl
theorem b62:d8 Go.Proofs.Tryz.prog 192 ⟨.bas,false,1,8,[.nilFunc]⟩:=c7 (by kernel_rfl) rfl (by kernel_rfl) rfl rfl
theorem b8q:d8 Go.Proofs.Tryz.prog 193 ⟨.bas,false,1,8,[.nilFunc]⟩:=c7 (by kernel_rfl) rfl (by kernel_rfl) rfl rfl
theorem b8A:d8 Go.Proofs.Tryz.prog 194 ⟨.bas,false,1,8,[.nilFunc]⟩:=c7 (by kernel_rfl) rfl (by kernel_rfl) rfl rfl
theorem b6c:d8 Go.Proofs.Tryz.prog 195 ⟨.bas,false,1,8,[.nilFunc]⟩:=c7 (by kernel_rfl) rfl (by kernel_rfl) rfl rfl
theorem b6v:d8 Go.Proofs.Tryz.prog 196 ⟨.bas,false,1,8,[.nilFunc]⟩:=c7 (by kernel_rfl) rfl (by kernel_rfl) rfl rfl
theorem b7O:d8 Go.Proofs.Tryz.prog 197 ⟨.bas,false,1,8,[.nilFunc]⟩:=c7 (by kernel_rfl) rfl (by kernel_rfl) rfl rfl
theorem b5V:d8 Go.Proofs.Tryz.prog 198 ⟨.bas,false,1,8,[.nilFunc]⟩:=c7 (by kernel_rfl) rfl (by kernel_rfl) rfl rfl
theorem b7I:d8 Go.Proofs.Tryz.prog 199 ⟨.bas,false,1,8,[.nilFunc]⟩:=c7 (by kernel_rfl) rfl (by kernel_rfl) rfl rfl
theorem b8E:d8 Go.Proofs.Tryz.prog 200 ⟨.bas,false,1,8,[.nilFunc]⟩:=c7 (by kernel_rfl) rfl (by kernel_rfl) rfl rfl
theorem b5C:d8 Go.Proofs.Tryz.prog 201 ⟨.bas,false,1,8,[.nilFunc]⟩:=c7 (by kernel_rfl) rfl (by kernel_rfl) rfl rfl
theorem b7D:d8 Go.Proofs.Tryz.prog 203 ⟨.bas,false,1,8,[.nilFunc]⟩:=c7 (by kernel_rfl) rfl (by kernel_rfl) rfl rfl
theorem b6q:d8 Go.Proofs.Tryz.prog 205 ⟨.bas,false,1,8,[.nilFunc]⟩:=c7 (by kernel_rfl) rfl (by kernel_rfl) rfl rfl
theorem b5y:d8 Go.Proofs.Tryz.prog 206 ⟨.bas,false,1,8,[.nilFunc]⟩:=c7 (by kernel_rfl) rfl (by kernel_rfl) rfl rfl
theorem b5L:d8 Go.Proofs.Tryz.prog 207 ⟨.bas,false,1,8,[.nilFunc]⟩:=c7 (by kernel_rfl) rfl (by kernel_rfl) rfl rfl
theorem b7c:d8 Go.Proofs.Tryz.prog 208 ⟨.struct [(0,1,false),(1,1,false),(2,1,false),(3,1,false),(4,1,false),(5,1,false)],true,6,48,[.int .i64 0,.int .i64 0,.int .i64 0,.int .i64 0,.int .i64 0,.int .i64 0]⟩:=c7 (by kernel_rfl) rfl (by kernel_rfl) rfl rfl
theorem b77:d8 Go.Proofs.Tryz.prog 209 ⟨.struct [(0,1,false),(1,1,false),(2,1,false),(3,1,false),(4,1,false),(5,1,false)],true,6,48,[.int .i64 0,.int .i64 0,.int .i64 0,.int .i64 0,.int .i64 0,.int .i64 0]⟩:=c7 (by kernel_rfl) rfl (by kernel_rfl) rfl rfl
theorem b5t:d8 Go.Proofs.Tryz.prog 210 ⟨.bas,false,1,8,[.nilFunc]⟩:=c7 (by kernel_rfl) rfl (by kernel_rfl) rfl rfl
theorem b7R:d8 Go.Proofs.Tryz.prog 211 ⟨.bas,false,1,8,[.nilFunc]⟩:=c7 (by kernel_rfl) rfl (by kernel_rfl) rfl rfl
theorem b4R:d8 Go.Proofs.Tryz.prog 212 ⟨.arr 2 3,true,2,16,[.int .i64 0,.int .i64 0]⟩:=c7 (by kernel_rfl) rfl (by kernel_rfl) rfl rfl
theorem b6z:d8 Go.Proofs.Tryz.prog 213 ⟨.slice 212,false,1,24,[.slice none 0 0]⟩:=c7 (by kernel_rfl) rfl (by kernel_rfl) rfl rfl
theorem b8j:d8 Go.Proofs.Tryz.prog 214 ⟨.bas,false,1,8,[.nilFunc]⟩:=c7 (by kernel_rfl) rfl (by kernel_rfl) rfl rfl
theorem b7C:d8 Go.Proofs.Tryz.prog 215 ⟨.struct [(0,1,false),(1,1,false),(2,1,false),(3,1,false)],true,4,32,[.int .i64 0,.int .i64 0,.int .i64 0,.int .i64 0]⟩:=c7 (by kernel_rfl) rfl (by kernel_rfl) rfl rfl
theorem b6i:d8 Go.Proofs.Tryz.prog 216 ⟨.struct [(0,1,false),(1,1,false),(2,1,false),(3,1,false)],true,4,32,[.int .i64 0,.int .i64 0,.int .i64 0,.int .i64 0]⟩:=c7 (by kernel_rfl) rfl (by kernel_rfl) rfl rfl
theorem b7r:d8 Go.Proofs.Tryz.prog 217 ⟨.bas,false,1,8,[.pointer none]⟩:=c7 (by kernel_rfl) rfl (by kernel_rfl) rfl rfl
theorem b6K:d8 Go.Proofs.Tryz.prog 218 ⟨.bas,false,1,8,[.nilFunc]⟩:=c7 (by kernel_rfl) rfl (by kernel_rfl) rfl rfl
theorem b8c:d8 Go.Proofs.Tryz.prog 220 ⟨.bas,false,1,8,[.nilFunc]⟩:=c7 (by kernel_rfl) rfl (by kernel_rfl) rfl rfl
theorem b6u:d8 Go.Proofs.Tryz.prog 221 ⟨.bas,false,1,8,[.nilFunc]⟩:=c7 (by kernel_rfl) rfl (by kernel_rfl) rfl rfl
theorem b6Y:d8 Go.Proofs.Tryz.prog 222 ⟨.bas,false,1,8,[.nilFunc]⟩:=c7 (by kernel_rfl) rfl (by kernel_rfl) rfl rfl
theorem b6k:d8 Go.Proofs.Tryz.prog 223 ⟨.bas,false,1,8,[.nilFunc]⟩:=c7 (by kernel_rfl) rfl (by kernel_rfl) rfl rfl
theorem b8C:d8 Go.Proofs.Tryz.prog 224 ⟨.bas,false,1,8,[.nilFunc]⟩:=c7 (by kernel_rfl) rfl (by kernel_rfl) rfl rfl
theorem b7o:d8 Go.Proofs.Tryz.prog 225 ⟨.bas,false,1,8,[.nilFunc]⟩:=c7 (by kernel_rfl) rfl (by kernel_rfl) rfl rfl
theorem b4S:d8 Go.Proofs.Tryz.prog 226 ⟨.bas,false,1,8,[.nilFunc]⟩:=c7 (by kernel_rfl) rfl (by kernel_rfl) rfl rfl
theorem b6n:d8 Go.Proofs.Tryz.prog 227 ⟨.bas,false,1,8,[.nilFunc]⟩:=c7 (by kernel_rfl) rfl (by kernel_rfl) rfl rfl
theorem b7U:d8 Go.Proofs.Tryz.prog 228 ⟨.bas,false,1,8,[.nilFunc]⟩:=c7 (by kernel_rfl) rfl (by kernel_rfl) rfl rfl
theorem b5e:d8 Go.Proofs.Tryz.prog 229 ⟨.int .u64,false,1,8,[.int .u64 0]⟩:=c7 (by kernel_rfl) rfl (by kernel_rfl) rfl rfl
theorem b8i:d8 Go.Proofs.Tryz.prog 230 ⟨.int .u64,false,1,8,[.int .u64 0]⟩:=c7 (by kernel_rfl) rfl (by kernel_rfl) rfl rfl
theorem b7J:d8 Go.Proofs.Tryz.prog 231 ⟨.bas,false,1,8,[.nilFunc]⟩:=c7 (by kernel_rfl) rfl (by kernel_rfl) rfl rfl
theorem b5N:d8 Go.Proofs.Tryz.prog 232 ⟨.bas,false,1,8,[.nilFunc]⟩:=c7 (by kernel_rfl) rfl (by kernel_rfl) rfl rfl
theorem b8u:d8 Go.Proofs.Tryz.prog 233 ⟨.bas,false,1,8,[.nilFunc]⟩:=c7 (by kernel_rfl) rfl (by kernel_rfl) rfl rfl
theorem b85:d8 Go.Proofs.Tryz.prog 234 ⟨.bas,false,1,8,[.nilFunc]⟩:=c7 (by kernel_rfl) rfl (by kernel_rfl) rfl rfl
theorem b78:d8 Go.Proofs.Tryz.prog 235 ⟨.bas,false,1,8,[.nilFunc]⟩:=c7 (by kernel_rfl) rfl (by kernel_rfl) rfl rfl
theorem b7H:d8 Go.Proofs.Tryz.prog 236 ⟨.bas,false,1,8,[.nilFunc]⟩:=c7 (by kernel_rfl) rfl (by kernel_rfl) rfl rfl
theorem b5q:d8 Go.Proofs.Tryz.prog 237 ⟨.bas,false,1,8,[.pointer none]⟩:=c7 (by kernel_rfl) rfl (by kernel_rfl) rfl rfl
theorem b7B:d8 Go.Proofs.Tryz.prog 238 ⟨.bas,false,1,8,[.nilFunc]⟩:=c7 (by kernel_rfl) rfl (by kernel_rfl) rfl rfl
theorem b5a:d8 Go.Proofs.Tryz.prog 239 ⟨.bas,false,1,8,[.nilFunc]⟩:=c7 (by kernel_rfl) rfl (by kernel_rfl) rfl rfl
theorem b71:d8 Go.Proofs.Tryz.prog 240 ⟨.bas,false,1,8,[.nilFunc]⟩:=c7 (by kernel_rfl) rfl (by kernel_rfl) rfl rfl
theorem b7l:d8 Go.Proofs.Tryz.prog 241 ⟨.bas,false,1,8,[.nilFunc]⟩:=c7 (by kernel_rfl) rfl (by kernel_rfl) rfl rfl
theorem b6g:d8 Go.Proofs.Tryz.prog 242 ⟨.bas,false,1,8,[.nilFunc]⟩:=c7 (by kernel_rfl) rfl (by kernel_rfl) rfl rfl
theorem b6f:d8 Go.Proofs.Tryz.prog 243 ⟨.bas,false,1,8,[.nilFunc]⟩:=c7 (by kernel_rfl) rfl (by kernel_rfl) rfl rfl
theorem b7z:d8 Go.Proofs.Tryz.prog 244 ⟨.bas,false,1,8,[.nilFunc]⟩:=c7 (by kernel_rfl) rfl (by kernel_rfl) rfl rfl
theorem b8a:d8 Go.Proofs.Tryz.prog 245 ⟨.bas,false,1,8,[.nilFunc]⟩:=c7 (by kernel_rfl) rfl (by kernel_rfl) rfl rfl
theorem b5J:d8 Go.Proofs.Tryz.prog 246 ⟨.bas,false,1,8,[.nilFunc]⟩:=c7 (by kernel_rfl) rfl (by kernel_rfl) rfl rfl
theorem b4V:d8 Go.Proofs.Tryz.prog 247 ⟨.bas,false,1,8,[.nilFunc]⟩:=c7 (by kernel_rfl) rfl (by kernel_rfl) rfl rfl
theorem b8d:d8 Go.Proofs.Tryz.prog 248 ⟨.bas,false,1,8,[.nilFunc]⟩:=c7 (by kernel_rfl) rfl (by kernel_rfl) rfl rfl
theorem b6Z:d8 Go.Proofs.Tryz.prog 249 ⟨.bas,false,1,8,[.nilFunc]⟩:=c7 (by kernel_rfl) rfl (by kernel_rfl) rfl rfl
theorem b61:d8 Go.Proofs.Tryz.prog 250 ⟨.bas,false,1,8,[.nilFunc]⟩:=c7 (by kernel_rfl) rfl (by kernel_rfl) rfl rfl
theorem b7N:d8 Go.Proofs.Tryz.prog 252 ⟨.bas,false,1,8,[.nilFunc]⟩:=c7 (by kernel_rfl) rfl (by kernel_rfl) rfl rfl
theorem b6P:d8 Go.Proofs.Tryz.prog 253 ⟨.slice 259,false,1,24,[.slice none 0 0]⟩:=c7 (by kernel_rfl) rfl (by kernel_rfl) rfl rfl
theorem b6U:d8 Go.Proofs.Tryz.prog 254 ⟨.slice 284,false,1,24,[.slice none 0 0]⟩:=c7 (by kernel_rfl) rfl (by kernel_rfl) rfl rfl
theorem b6C:d8 Go.Proofs.Tryz.prog 255 ⟨.struct [(0,1,false),(1,1,false),(2,1,false),(3,1,false),(4,1,false),(5,1,false)],true,6,128,[.int .i64 0,.slice none 0 0,.slice none 0 0,.slice none 0 0,.slice none 0 0,.slice none 0 0]⟩:=c7 (by kernel_rfl) rfl (by kernel_rfl) rfl rfl
theorem b7d:d8 Go.Proofs.Tryz.prog 256 ⟨.struct [(0,1,false),(1,1,false),(2,1,false),(3,1,false),(4,1,false),(5,1,false)],true,6,128,[.int .i64 0,.slice none 0 0,.slice none 0 0,.slice none 0 0,.slice none 0 0,.slice none 0 0]⟩:=c7 (by kernel_rfl) rfl (by kernel_rfl) rfl rfl
theorem b7V:d8 Go.Proofs.Tryz.prog 257 ⟨.bas,false,1,8,[.nilFunc]⟩:=c7 (by kernel_rfl) rfl (by kernel_rfl) rfl rfl
theorem b4T:d8 Go.Proofs.Tryz.prog 258 ⟨.struct [(0,4,false),(4,1,false)],true,5,88,[.int .i64 0,.slice none 0 0,.int .i64 0,.slice none 0 0,.slice none 0 0]⟩:=c7 (by kernel_rfl) rfl (by kernel_rfl) rfl rfl
theorem b6T:d8 Go.Proofs.Tryz.prog 259 ⟨.struct [(0,4,false),(4,1,false)],true,5,88,[.int .i64 0,.slice none 0 0,.int .i64 0,.slice none 0 0,.slice none 0 0]⟩:=c7 (by kernel_rfl) rfl (by kernel_rfl) rfl rfl
theorem b4Q:d8 Go.Proofs.Tryz.prog 260 ⟨.bas,false,1,8,[.nilFunc]⟩:=c7 (by kernel_rfl) rfl (by kernel_rfl) rfl rfl
theorem b5X:d8 Go.Proofs.Tryz.prog 261 ⟨.bas,false,1,8,[.nilFunc]⟩:=c7 (by kernel_rfl) rfl (by kernel_rfl) rfl rfl
theorem b5z:d8 Go.Proofs.Tryz.prog 263 ⟨.bas,false,1,8,[.nilFunc]⟩:=c7 (by kernel_rfl) rfl (by kernel_rfl) rfl rfl
theorem b5R:d8 Go.Proofs.Tryz.prog 264 ⟨.bas,false,1,8,[.nilFunc]⟩:=c7 (by kernel_rfl) rfl (by kernel_rfl) rfl rfl
theorem b8z:d8 Go.Proofs.Tryz.prog 265 ⟨.bas,false,1,8,[.nilFunc]⟩:=c7 (by kernel_rfl) rfl (by kernel_rfl) rfl rfl
theorem b7q:d8 Go.Proofs.Tryz.prog 266 ⟨.slice 81,false,1,24,[.slice none 0 0]⟩:=c7 (by kernel_rfl) rfl (by kernel_rfl) rfl rfl
theorem b6e:d8 Go.Proofs.Tryz.prog 267 ⟨.slice 266,false,1,24,[.slice none 0 0]⟩:=c7 (by kernel_rfl) rfl (by kernel_rfl) rfl rfl
theorem b5m:d8 Go.Proofs.Tryz.prog 268 ⟨.struct [(0,1,false),(1,1,false),(2,1,false),(3,2,false),(5,1,false),(6,1,false),(7,1,false),(8,1,false),(9,1,false),(10,2,false)],true,12,256,[.slice none 0 0,.slice none 0 0,.slice none 0 0,.int .i64 0,.slice none 0 0,.slice none 0 0,.slice none 0 0,.slice none 0 0,.slice none 0 0,.slice none 0 0,.int .i64 0,.slice none 0 0]⟩:=c7 (by kernel_rfl) rfl (by kernel_rfl) rfl rfl
theorem b7Y:d8 Go.Proofs.Tryz.prog 269 ⟨.struct [(0,1,false),(1,1,false),(2,1,false),(3,2,false),(5,1,false),(6,1,false),(7,1,false),(8,1,false),(9,1,false),(10,2,false)],true,12,256,[.slice none 0 0,.slice none 0 0,.slice none 0 0,.int .i64 0,.slice none 0 0,.slice none 0 0,.slice none 0 0,.slice none 0 0,.slice none 0 0,.slice none 0 0,.int .i64 0,.slice none 0 0]⟩:=c7 (by kernel_rfl) rfl (by kernel_rfl) rfl rfl
theorem b58:d8 Go.Proofs.Tryz.prog 270 ⟨.bas,false,1,8,[.nilFunc]⟩:=c7 (by kernel_rfl) rfl (by kernel_rfl) rfl rfl
theorem b6R:d8 Go.Proofs.Tryz.prog 271 ⟨.bas,false,1,8,[.nilFunc]⟩:=c7 (by kernel_rfl) rfl (by kernel_rfl) rfl rfl
theorem b6m:d8 Go.Proofs.Tryz.prog 272 ⟨.bas,false,1,8,[.nilFunc]⟩:=c7 (by kernel_rfl) rfl (by kernel_rfl) rfl rfl
theorem b7t:d8 Go.Proofs.Tryz.prog 273 ⟨.bas,false,1,8,[.nilFunc]⟩:=c7 (by kernel_rfl) rfl (by kernel_rfl) rfl rfl
theorem b7b:d8 Go.Proofs.Tryz.prog 274 ⟨.bas,false,1,8,[.nilFunc]⟩:=c7 (by kernel_rfl) rfl (by kernel_rfl) rfl rfl
theorem b6Q:d8 Go.Proofs.Tryz.prog 275 ⟨.bas,false,1,8,[.nilFunc]⟩:=c7 (by kernel_rfl) rfl (by kernel_rfl) rfl rfl
theorem b5D:d8 Go.Proofs.Tryz.prog 276 ⟨.bas,false,1,8,[.nilFunc]⟩:=c7 (by kernel_rfl) rfl (by kernel_rfl) rfl rfl
theorem b54:d8 Go.Proofs.Tryz.prog 277 ⟨.bas,false,1,8,[.nilFunc]⟩:=c7 (by kernel_rfl) rfl (by kernel_rfl) rfl rfl
theorem b55:d8 Go.Proofs.Tryz.prog 278 ⟨.int .u32,false,1,4,[.int .u32 0]⟩:=c7 (by kernel_rfl) rfl (by kernel_rfl) rfl rfl
theorem b5b:d8 Go.Proofs.Tryz.prog 280 ⟨.bas,false,1,8,[.nilFunc]⟩:=c7 (by kernel_rfl) rfl (by kernel_rfl) rfl rfl
theorem b6y:d8 Go.Proofs.Tryz.prog 282 ⟨.bas,false,1,8,[.nilFunc]⟩:=c7 (by kernel_rfl) rfl (by kernel_rfl) rfl rfl
theorem b73:d8 Go.Proofs.Tryz.prog 283 ⟨.struct [(0,1,false),(1,1,false)],true,2,16,[.int .i64 0,.bool false]⟩:=c7 (by kernel_rfl) rfl (by kernel_rfl) rfl rfl
theorem b7a:d8 Go.Proofs.Tryz.prog 284 ⟨.struct [(0,1,false),(1,1,false)],true,2,16,[.int .i64 0,.bool false]⟩:=c7 (by kernel_rfl) rfl (by kernel_rfl) rfl rfl
theorem b7G:d8 Go.Proofs.Tryz.prog 285 ⟨.bas,false,1,8,[.pointer none]⟩:=c7 (by kernel_rfl) rfl (by kernel_rfl) rfl rfl
theorem b6p:d8 Go.Proofs.Tryz.prog 286 ⟨.bas,false,1,8,[.nilFunc]⟩:=c7 (by kernel_rfl) rfl (by kernel_rfl) rfl rfl
theorem b6M:d8 Go.Proofs.Tryz.prog 287 ⟨.bas,false,1,8,[.nilFunc]⟩:=c7 (by kernel_rfl) rfl (by kernel_rfl) rfl rfl
theorem b8w:d8 Go.Proofs.Tryz.prog 288 ⟨.bas,false,1,8,[.nilFunc]⟩:=c7 (by kernel_rfl) rfl (by kernel_rfl) rfl rfl
theorem b8p:d8 Go.Proofs.Tryz.prog 289 ⟨.bas,false,1,8,[.nilFunc]⟩:=c7 (by kernel_rfl) rfl (by kernel_rfl) rfl rfl
theorem b5Y:d8 Go.Proofs.Tryz.prog 292 ⟨.arr 0 16,true,0,0,[]⟩:=c7 (by kernel_rfl) rfl (by kernel_rfl) rfl rfl
theorem b5v:d8 Go.Proofs.Tryz.prog 293 ⟨.struct [(0,0,false)],true,0,0,[]⟩:=c7 (by kernel_rfl) rfl (by kernel_rfl) rfl rfl
theorem b6S:d8 Go.Proofs.Tryz.prog 294 ⟨.struct [(0,0,false)],true,0,0,[]⟩:=c7 (by kernel_rfl) rfl (by kernel_rfl) rfl rfl
theorem b4Y:d8 Go.Proofs.Tryz.prog 295 ⟨.int .u8,false,1,1,[.int .u8 0]⟩:=c7 (by kernel_rfl) rfl (by kernel_rfl) rfl rfl
theorem b5h:d8 Go.Proofs.Tryz.prog 296 ⟨.int .u8,false,1,1,[.int .u8 0]⟩:=c7 (by kernel_rfl) rfl (by kernel_rfl) rfl rfl
theorem b7w:d8 Go.Proofs.Tryz.prog 297 ⟨.bas,false,1,8,[.nilFunc]⟩:=c7 (by kernel_rfl) rfl (by kernel_rfl) rfl rfl
theorem b7m:d8 Go.Proofs.Tryz.prog 298 ⟨.bas,false,1,8,[.pointer none]⟩:=c7 (by kernel_rfl) rfl (by kernel_rfl) rfl rfl
theorem b76:d8 Go.Proofs.Tryz.prog 299 ⟨.int .i32,false,1,4,[.int .i32 0]⟩:=c7 (by kernel_rfl) rfl (by kernel_rfl) rfl rfl
theorem b7n:d8 Go.Proofs.Tryz.prog 300 ⟨.int .i32,false,1,4,[.int .i32 0]⟩:=c7 (by kernel_rfl) rfl (by kernel_rfl) rfl rfl
theorem b8D:d8 Go.Proofs.Tryz.prog 301 ⟨.struct [(0,1,false),(1,1,false),(2,1,false),(3,1,false),(4,1,false),(5,1,false),(6,1,false),(7,1,false),(8,1,false),(9,1,false),(10,1,false)],true,11,48,[.int .u64 0,.int .u64 0,.int .u32 0,.int .u8 0,.int .u8 0,.int .u8 0,.int .u8 0,.nilFunc,.pointer none,.int .i32 0,.int .i32 0]⟩:=c7 (by kernel_rfl) rfl (by kernel_rfl) rfl rfl
theorem b7A:d8 Go.Proofs.Tryz.prog 302 ⟨.struct [(0,1,false),(1,1,false),(2,1,false),(3,1,false),(4,1,false),(5,1,false),(6,1,false),(7,1,false),(8,1,false),(9,1,false),(10,1,false)],true,11,48,[.int .u64 0,.int .u64 0,.int .u32 0,.int .u8 0,.int .u8 0,.int .u8 0,.int .u8 0,.nilFunc,.pointer none,.int .i32 0,.int .i32 0]⟩:=c7 (by kernel_rfl) rfl (by kernel_rfl) rfl rfl
theorem a7:y0 Go.Proofs.Tryz.prog tab:=b19 (l:=b6O) (by kernel_rfl) ⟨td1,td2,td3,td4,td5,td6,td7,td8,b9i,b9R,b9c,b8O,b8U,b9X,b8M,ba0,b99,b95,b9G,ba3,b9L,b8R,b9q,b9m,b9V,ba4,b8L,b9y,b9v,b9A,b8Z,b8T,b8P,b9U,ba5,b9o,b9D,b94,b9Q,b9Z,b9W,b9p,b8Y,b9z,b9g,b9Y,b9j,b9h,b8K,b98,b8V,b9a,b9F,b91,b9J,b8N,b9k,b9K,b9N,b93,b9w,b8W,b9I,b9P,b9b,ba1,b9n,b9T,b9u,b8X,b9x,b96,ba6,b9M,b9H,b9B,b9l,b8H,b9d,b9S,b97,b9O,b92,b8I,b6V,b63,b5M,b8r,b8h,b6E,b7k,b51,b7K,b5O,b5P,b5n,b5k,b5l,b5d,b4Z,b6B,b5E,b8l,b5w,b6r,b89,b74,b6t,b56,b6j,b7Z,b5K,b8e,b7Q,b88,b7L,b8n,b6x,b5Z,b5S,b8F,b8x,b84,b5u,b6h,b83,b5g,b7W,b79,b7x,b7P,b8B,b6l,b70,b6d,b6o,b8f,b66,b5T,b5f,b68,b6F,b7h,b7S,b7y,b7v,b5B,b6A,b5i,b7M,b65,b5p,b6G,b7g,b8y,b7i,b6J,b7f,b5r,b6w,b6I,b50,b8t,b5j,b5I,b4X,b62,b8q,b8A,b6c,b6v,b7O,b5V,b7I,b8E,b5C,b7D,b6q,b5y,b5L,b7c,b77,b5t,b7R,b4R,b6z,b8j,b7C,b6i,b7r,b6K,b8c,b6u,b6Y,b6k,b8C,b7o,b4S,b6n,b7U,b5e,b8i,b7J,b5N,b8u,b85,b78,b7H,b5q,b7B,b5a,b71,b7l,b6g,b6f,b7z,b8a,b5J,b4V,b8d,b6Z,b61,b7N,b6P,b6U,b6C,b7d,b7V,b4T,b6T,b4Q,b5X,b5z,b5R,b8z,b7q,b6e,b5m,b7Y,b58,b6R,b6m,b7t,b7b,b6Q,b5D,b54,b55,b5b,b6y,b73,b7a,b7G,b6p,b6M,b8w,b8p,b5Y,b5v,b6S,b4Y,b5h,b7w,b7m,b76,b7n,b8D,b7A,trivial⟩
end
section
open Go.RowKit
structure J7 where
 kind:Int
 hh:Int
 mat:Int
structure p7 where
 day:Int
 src:Int
 dst:Int
 scale:Int
 reading:Int
 all:Bool
structure E7 where
 scale:Int
 since:Int
 till:Int
 grams:Int
 permille:Int
 drift:Int
structure x9 where
 scale:Int
 since:Int
structure O0 where
 move:Int
 mat:Int
 least:Int
 most:Int
structure Ev where
 mats:Int
 hhs:Int
 scs:Int
 places:List J7
 moves:List p7
 certs:List E7
 recalls:List x9
 purities:List O0
abbrev vi (n:Int):Value:=.int .i64 n
def J7.cells (p:J7):List Value:=[vi p.kind,vi p.hh,vi p.mat]
def p7.cells (m:p7):List Value:=[vi m.day,vi m.src,vi m.dst,vi m.scale,vi m.reading,.bool m.all]
def E7.cells (c:E7):List Value:=[vi c.scale,vi c.since,vi c.till,vi c.grams,vi c.permille,vi c.drift]
def x9.cells (r:x9):List Value:=[vi r.scale,vi r.since]
def O0.cells (p:O0):List Value:=[vi p.move,vi p.mat,vi p.least,vi p.most]
def Rd {α:Type} (k:Nat) (f:α→List Value) (w:World) (A:Option Addr) (n:Nat) (xs:List α):Prop:=
 n=xs.length∧(0<n→∃b off,A=some ⟨b,off,none⟩∧∀i x,xs[i]? =some x→∀j u,(f x)[j]? =some u→w.cell? ⟨b,off+(i*k+j),none⟩=some u)
theorem a4s {w:World} {b o:Nat} {u:Value} (h:w.cell? ⟨b,o,none⟩=some u):b<w.heap.size:=World.block_lt_of_cell? w _ h
section
variable {α:Type} {k:Nat} {f:α→List Value} {w w':World} {A:Option Addr} {n:Nat} {xs:List α}
theorem Rd.nil (A:Option Addr):Rd k f w A 0 ([]:List α):=⟨rfl,fun h=>absurd h (by omega)⟩
theorem Rd.len (h:Rd k f w A n xs):n=xs.length:=h.1
theorem Rd.keep (h:Rd k f w A n xs) (hb:Below w.heap.size w w'):Rd k f w' A n xs:=
 ⟨h.1,fun hn=>by
   obtain ⟨b,off,e,hc⟩:=h.2 hn
   refine ⟨b,off,e,fun i x hx j u hu=>?_⟩
   have hcc:=hc i x hx j u hu
   exact (hb.cell (p:=⟨b,_,none⟩) (a4s hcc)).trans hcc⟩
theorem Rd.at_ (h:Rd k f w A xs.length xs) (hf:∀x,∃u,(f x)[0]? =some u) {i:Nat} (hi:i<xs.length) (hb:Below w.heap.size w w'):
 ∃b off x,A=some ⟨b,off,none⟩∧b<w.heap.size∧xs[i]? =some x∧∀j u,(f x)[j]? =some u→w'.cell? ⟨b,off+(i*k+j),none⟩=some u:=by
 obtain ⟨b,off,e,hc0⟩:=h.2 (by omega)
 obtain ⟨u0,hu0⟩:=hf xs[i]
 have hl:b<w.heap.size:=a4s (hc0 i _ (List.getElem?_eq_getElem hi) 0 u0 hu0)
 obtain ⟨b',off',e',hc⟩:=(h.keep hb).2 (by omega)
 obtain ⟨rfl,rfl⟩:b'=b∧off'=off:=by
  rw [e] at e'
  simp at e'
  omega
 exact ⟨b',off',xs[i],e,hl,List.getElem?_eq_getElem hi,hc i _ (List.getElem?_eq_getElem hi)⟩
end
theorem Rd.place {w w':World} {A:Option Addr} {xs:List J7} (h:Rd 3 J7.cells w A xs.length xs) {i:Nat} (hi:i<xs.length) (hb:Below w.heap.size w w'):
 ∃b off x,A=some ⟨b,off,none⟩∧b<w.heap.size∧xs[i]? =some x∧w'.cell? ⟨b,off+i*3,none⟩=some (vi x.kind)∧w'.cell? ⟨b,off+i*3+1,none⟩=some (vi x.hh)∧w'.cell? ⟨b,off+i*3+2,none⟩=some (vi x.mat):=by
 obtain ⟨b,off,x,e,hl,hx,hc⟩:=h.at_ (fun _=>⟨_,rfl⟩) hi hb
 exact ⟨b,off,x,e,hl,hx,hc 0 _ rfl,hc 1 _ rfl,hc 2 _ rfl⟩
theorem Rd.move {w w':World} {A:Option Addr} {xs:List p7} (h:Rd 6 p7.cells w A xs.length xs) {i:Nat} (hi:i<xs.length) (hb:Below w.heap.size w w'):
 ∃b off x,A=some ⟨b,off,none⟩∧b<w.heap.size∧xs[i]? =some x∧w'.cell? ⟨b,off+i*6,none⟩=some (vi x.day)∧w'.cell? ⟨b,off+i*6+1,none⟩=some (vi x.src)∧w'.cell? ⟨b,off+i*6+2,none⟩=some (vi x.dst)∧
  w'.cell? ⟨b,off+i*6+3,none⟩=some (vi x.scale)∧w'.cell? ⟨b,off+i*6+4,none⟩=some (vi x.reading)∧w'.cell? ⟨b,off+i*6+5,none⟩=some (.bool x.all):=by
 obtain ⟨b,off,x,e,hl,hx,hc⟩:=h.at_ (fun _=>⟨_,rfl⟩) hi hb
 exact ⟨b,off,x,e,hl,hx,hc 0 _ rfl,hc 1 _ rfl,hc 2 _ rfl,hc 3 _ rfl,hc 4 _ rfl,hc 5 _ rfl⟩
abbrev Ri (w:World) (A:Option Addr) (n:Nat) (xs:List Int):Prop:=Rd 1 (fun x:Int=>[vi x]) w A n xs
theorem Rd.int {w w':World} {A:Option Addr} {xs:List Int} (h:Ri w A xs.length xs) {i:Nat} (hi:i<xs.length) (hb:Below w.heap.size w w'):
 ∃b off,∃x:Int,A=some ⟨b,off,none⟩∧b<w.heap.size∧xs[i]? =some x∧w'.cell? ⟨b,off+i,none⟩=some (vi x):=by
 obtain ⟨b,off,x,e,hl,hx,hc⟩:=h.at_ (fun _=>⟨_,rfl⟩) hi hb
 exact ⟨b,off,x,e,hl,hx,by have:=hc 0 _ rfl;simpa using this⟩
abbrev Rb (w:World) (A:Option Addr) (n:Nat) (xs:List Bool):Prop:=Rd 1 (fun x:Bool=>[.bool x]) w A n xs
theorem Rd.bool {w w':World} {A:Option Addr} {xs:List Bool} (h:Rb w A xs.length xs) {i:Nat} (hi:i<xs.length) (hb:Below w.heap.size w w'):
 ∃b off,∃x:Bool,A=some ⟨b,off,none⟩∧b<w.heap.size∧xs[i]? =some x∧w'.cell? ⟨b,off+i,none⟩=some (.bool x):=by
 obtain ⟨b,off,x,e,hl,hx,hc⟩:=h.at_ (fun _=>⟨_,rfl⟩) hi hb
 exact ⟨b,off,x,e,hl,hx,by have:=hc 0 _ rfl;simpa using this⟩
structure EvR (w:World) (m h s:Int) (A1:Option Addr) (n1:Nat) (A2:Option Addr) (n2:Nat) (A3:Option Addr) (n3:Nat) (A4:Option Addr) (n4:Nat) (A5:Option Addr) (n5:Nat) (e:Ev):Prop where
 em:m=e.mats
 eh:h=e.hhs
 es:s=e.scs
 r1:Rd 3 J7.cells w A1 n1 e.places
 r2:Rd 6 p7.cells w A2 n2 e.moves
 r3:Rd 6 E7.cells w A3 n3 e.certs
 r4:Rd 2 x9.cells w A4 n4 e.recalls
 r5:Rd 4 O0.cells w A5 n5 e.purities
section
variable {w w':World} {m h s:Int} {A1 A2 A3 A4 A5:Option Addr} {n1 n2 n3 n4 n5:Nat} {e:Ev}
theorem EvR.keep (hr:EvR w m h s A1 n1 A2 n2 A3 n3 A4 n4 A5 n5 e) (hb:Below w.heap.size w w'):EvR w' m h s A1 n1 A2 n2 A3 n3 A4 n4 A5 n5 e:=
 ⟨hr.em,hr.eh,hr.es,hr.r1.keep hb,hr.r2.keep hb,hr.r3.keep hb,hr.r4.keep hb,hr.r5.keep hb⟩
end
def a5q (w:World) (xs:List Int) (r:Ending) (w':World):Prop:=∃A n c,r=.returned (.slice A n c)∧Ri w' A n xs∧(∀ ad,A=some ad→w.heap.size≤ad.block)∧Below w.heap.size w w'
theorem a5q.nil {w w':World} {c:Nat} (hb:Below w.heap.size w w'):a5q w [] (.returned (.slice none 0 c)) w':=⟨none,0,c,rfl,Rd.nil none,(fun _ e=>by cases e),hb⟩
theorem a5q.mono {w w1 w':World} {xs:List Int} {r:Ending} (h:a5q w1 xs r w') (hb:Below w.heap.size w w1):a5q w xs r w':=by
 obtain ⟨A,n,c,e,hr,hf,hb1⟩:=h
 exact ⟨A,n,c,e,hr,fun ad ha=>Nat.le_trans hb.size (hf ad ha),hb.trans (hb1.mono hb.size)⟩
theorem aM6 {α:Type} {xs:List α} {p:α→Bool} (h:∀j x,j<xs.length→xs[j]? =some x→p x=true):xs.all p=true:=by
 rw [List.all_eq_true]
 intro x hx
 obtain ⟨j,hj,e⟩:=List.getElem_of_mem hx
 exact h j x hj (by rw [List.getElem?_eq_getElem hj,e])
def az4 {α:Type} (xs:List α) (p:α→Bool) (k:Nat):Prop:=∀j x,j<k→xs[j]? =some x→p x=true
theorem az4.zero {α:Type} (xs:List α) (p:α→Bool):az4 xs p 0:=fun _ _ h=>absurd h (by omega)
theorem az4.next {α:Type} {xs:List α} {p:α→Bool} {k:Nat} {x:α} (h:az4 xs p k) (hx:xs[k]? =some x) (hp:p x=true):az4 xs p (k+1):=by
 intro j y hj hy
 by_cases e:j=k
 ·subst e
  rw [hx] at hy
  injection hy with hy
  exact hy ▸ hp
 ·exact h j y (by omega) hy
theorem az4.all {α:Type} {xs:List α} {p:α→Bool} {k:Nat} (h:az4 xs p k) (hk:xs.length≤k):xs.all p=true:=
 aM6 fun j x hj hx=>h j x (by omega) hx
end
section
def idx (a b:Int):Bool:=decide (0≤a) && decide (a<b)
def btw (n lo hi:Int):Bool:=decide (lo≤n) && decide (n≤hi)
theorem aH6 (a b:Int):btw a 0 (b - 1)=idx a b:=by
 unfold btw idx
 have:decide (a≤b - 1)=decide (a<b):=by simp;omega
 rw [this]
theorem aI2 {a b:Int}:idx a b=true↔0≤a∧a<b:=by simp [idx]
theorem U3 {a b c:Int}:btw a b c=true↔b≤a∧a≤c:=by simp [btw]
def a0x (e:Ev):Bool:=
 decide (6<e.mats) || decide (100<e.hhs) || decide (30<e.scs) || decide (100<e.places.length) || decide (200<e.moves.length) ||
  decide (100<e.certs.length) || decide (30<e.recalls.length) || decide (200<e.purities.length)
def Q9 (e:Ev) (p:J7):Bool:=
 idx p.kind 7 && (if p.kind=0 then idx p.hh e.hhs && idx p.mat e.mats else decide (p.hh=-1) && decide (p.mat=-1))
def F2 (e:Ev) (i:Int):Int:=((e.places[i.toNat]?).map (·.kind)).getD (-1)
def L4 (e:Ev) (m:p7):Bool:=
 idx m.src e.places.length && idx m.dst e.places.length && decide (m.src≠m.dst) && decide (F2 e m.src≠5) && decide (F2 e m.src≠6) &&
  !(decide (F2 e m.src=0) && m.all) && decide (F2 e m.dst≠0) && (if m.scale=-1 then decide (m.reading=0) else idx m.scale e.scs && btw m.reading 0 1099511627776)
def a2m (e:Ev) (c:E7):Bool:=
 decide (0≤c.since) && decide (c.since≤c.till) && decide (c.till≤100000) && idx c.scale e.scs && btw c.grams 0 1099511627776 && btw c.permille 0 1000 && btw c.drift 0 10000000
def U2 (e:Ev) (r:x9):Bool:=idx r.scale e.scs && btw r.since 0 100000
def T7 (e:Ev) (p:O0):Bool:=
 idx p.move e.moves.length && idx p.mat e.mats && decide (0≤p.least) && decide (p.least≤p.most) && decide (p.most≤1000)
def S0 (e:Ev):Bool:=e.certs.all (a2m e) && e.recalls.all (U2 e) && e.purities.all (T7 e)
def v7 (e:Ev):Int→List p7→Int
 |_,[]=>0
 |last,m::r=>if m.day<last∨100000<m.day then 17 else if L4 e m then v7 e m.day r else 1
def y3 (e:Ev):Int:=
 if a0x e then 6 else if e.mats<1∨e.hhs<0∨e.scs<0∨e.places.all (Q9 e)=false then 1
 else if v7 e 0 e.moves≠0 then v7 e 0 e.moves else if S0 e then 0 else 1
theorem a9n {e:Ev} {i:Nat} {p:J7} (h:e.places[i]? =some p):F2 e (i:Int)=p.kind:=by
 simp [F2,h]
theorem a97 {e:Ev} {l:List p7}:∀{last:Int},v7 e last l=0→∀m ∈ l,L4 e m=true:=by
 induction l with
 |nil=>intro last _ m hm;cases hm
 |cons m r ih=>
  intro last h x hx
  unfold v7 at h
  split at h
  ·simp at h
  ·split at h
   ·rename_i hmk
    rcases List.mem_cons.1 hx with rfl|hx
    ·exact hmk
    ·exact ih h x hx
   ·simp at h
theorem a4l {e:Ev} (h:y3 e=0):a0x e=false∧1≤e.mats∧0≤e.hhs∧0≤e.scs∧e.places.all (Q9 e)=true∧v7 e 0 e.moves=0∧S0 e=true:=by
 unfold y3 at h
 by_cases h1:a0x e=true
 ·rw [if_pos h1] at h;simp at h
 rw [if_neg h1] at h
 by_cases h2:e.mats<1∨e.hhs<0∨e.scs<0∨e.places.all (Q9 e)=false
 ·rw [if_pos h2] at h;simp at h
 rw [if_neg h2] at h
 by_cases h3:v7 e 0 e.moves≠0
 ·rw [if_pos h3] at h;exact absurd h h3
 rw [if_neg h3] at h
 by_cases h4:S0 e=true
 ·refine ⟨by simpa using h1,by omega,by omega,by omega,?_,by simpa using h3,h4⟩
  rw [← Bool.not_eq_false]
  exact fun hq=>h2 (.inr (.inr (.inr hq)))
 ·rw [if_neg h4] at h;simp at h
theorem O2 {e:Ev} (h:y3 e=0) {m:p7} (hm:m ∈ e.moves):L4 e m=true:=a97 (a4l h).2.2.2.2.2.1 m hm
theorem a0J {e:Ev} {m:p7} (h:L4 e m=true):0≤m.src∧m.src<e.places.length:=by
 simp [L4] at h
 exact aI2.1 h.1.1.1.1.1.1.1
def p5 {α:Type} (p:Nat→α→Bool):Nat→List α→List Int
 |_,[]=>[]
 |k,m::r=>if p k m then (k:Int)::p5 p (k+1) r else p5 p (k+1) r
def K8 {α:Type} (p:Nat→α→Bool) (l:List α) (k:Nat):List Int:=p5 p 0 (l.take k)
theorem a73 {α:Type} (p:Nat→α→Bool) (a b:List α):∀k,p5 p k (a++b)=p5 p k a++p5 p (k+a.length) b:=by
 induction a with
 |nil=>intro k;simp [p5]
 |cons m r ih=>
  intro k
  simp only [List.cons_append,p5,ih,List.length_cons]
  rw [show k+1+r.length=k+(r.length+1) from by omega]
  split<;>simp
theorem a6R {α:Type} (p:Nat→α→Bool) {l:List α} {k:Nat} {x:α} (h:l[k]? =some x):K8 p l (k+1)=K8 p l k++(if p k x then [(k:Int)] else []):=by
 obtain ⟨hk,hx⟩:=List.getElem?_eq_some_iff.1 h
 unfold K8
 rw [List.take_succ_eq_append_getElem hk,a73,hx]
 have:(l.take k).length=k:=by simp;omega
 rw [this]
 simp only [p5,Nat.zero_add]
theorem a21 {α:Type} (p:Nat→α→Bool) {l:List α} {k:Nat} {x:α} (h:l[k]? =some x) (hp:p k x=true):K8 p l (k+1)=K8 p l k++[(k:Int)]:=by
 rw [a6R p h,if_pos hp]
theorem a0k {α:Type} (p:Nat→α→Bool) {l:List α} {k:Nat} {x:α} (h:l[k]? =some x) (hp:p k x=false):K8 p l (k+1)=K8 p l k:=by
 rw [a6R p h,if_neg (by simp [hp])];simp
theorem a88 {α:Type} (p:Nat→α→Bool) {l:List α} {k:Nat} (h:l.length≤k):K8 p l k=p5 p 0 l:=by
 unfold K8;rw [List.take_of_length_le h]
theorem a8v {α:Type} {p q:Nat→α→Bool} (l:List α) (N:Nat) (h:∀k m,k<N→p k m=q k m):∀k,k+l.length≤N→p5 p k l=p5 q k l:=by
 induction l with
 |nil=>intro k _;rfl
 |cons m r ih=>
  intro k hk
  simp only [List.length_cons] at hk
  simp only [p5,h k m (by omega),ih (k+1) (by omega)]
theorem a79 {α:Type} (p:Nat→α→Bool) (l:List α):∀k,(p5 p k l).length≤l.length:=by
 induction l with
 |nil=>intro k;simp [p5]
 |cons m r ih=>
  intro k
  have:=ih (k+1)
  simp only [p5]
  split<;>simp<;>omega
theorem a4b {α:Type} (p:Nat→α→Bool) (l:List α) (k:Nat):(K8 p l k).length≤k:=by
 have:=a79 p (l.take k) 0
 have h2:(l.take k).length≤k:=List.length_take_le _ _
 unfold K8
 omega
def b3q (e:Ev) (place:Int):Bool:=decide (y3 e=0) && idx place e.places.length && decide (F2 e place=0)
def a2t (e:Ev) (hh mat lo hi:Int) (m:p7):Bool:=
 match e.places[m.src.toNat]? with
 |some p=>decide (p.kind=0) && decide (p.hh=hh) && (decide (mat=-1) || decide (p.mat=mat)) && btw m.day lo hi
 |none=>false
def A8 (e:Ev) (hh mat lo hi:Int):List Int:=if y3 e=0 then p5 (fun _ m=>a2t e hh mat lo hi m) 0 e.moves else []
def b2K (e:Ev) (place upto:Int):List Int:=if y3 e=0 then p5 (fun k m=>decide ((k:Int)<upto) && decide (m.dst=place)) 0 e.moves else []
def few (e:Ev):Bool:=decide (e.places.length≤110) && decide (e.moves.length≤210) && decide (e.certs.length≤110) && decide (e.recalls.length≤40) && decide (e.purities.length≤210)
end
section
structure Ev.Sized (e:Ev):Prop where
 s1:e.places.length≤1000000
 s2:e.moves.length≤1000000
 s3:e.certs.length≤1000000
 s4:e.recalls.length≤1000000
 s5:e.purities.length≤1000000
end
section
open Go.RowKit
abbrev ti (n:Int):T:=.atm (.int .i64 n)
abbrev tb (b:Bool):T:=.atm (.bool b)
def J7.row (p:J7):List T:=[ti p.kind,ti p.hh,ti p.mat]
def p7.row (m:p7):List T:=[ti m.day,ti m.src,ti m.dst,ti m.scale,ti m.reading,tb m.all]
def E7.row (c:E7):List T:=[ti c.scale,ti c.since,ti c.till,ti c.grams,ti c.permille,ti c.drift]
def x9.row (r:x9):List T:=[ti r.scale,ti r.since]
def O0.row (p:O0):List T:=[ti p.move,ti p.mat,ti p.least,ti p.most]
def g9 (n:Int):List T:=[ti n]
abbrev a3N (l:List J7):T:=.sl 3 .any (l.map J7.row)
abbrev a20 (l:List p7):T:=.sl 6 .any (l.map p7.row)
abbrev W7 (l:List E7):T:=.sl 6 .any (l.map E7.row)
abbrev H7 (l:List x9):T:=.sl 2 .any (l.map x9.row)
abbrev a0i (l:List O0):T:=.sl 4 .any (l.map O0.row)
abbrev I8 (l:List Int):T:=.sl 1 .any (l.map g9)
def evC (e:Ev):List C:=[.t (ti e.mats),.t (ti e.hhs),.t (ti e.scs),.t (a3N e.places),.t (a20 e.moves),.t (W7 e.certs),.t (H7 e.recalls),.t (a0i e.purities)]
def evT (e:Ev):List T:=[ti e.mats,ti e.hhs,ti e.scs,a3N e.places,a20 e.moves,W7 e.certs,H7 e.recalls,a0i e.purities]
abbrev evS (e:Ev):S:=.agg (evC e)
abbrev g6 (l:List Int):S:=.c (.t (I8 l))
def J7.cs (p:J7):List C:=p.row.map .t
def p7.cs (m:p7):List C:=m.row.map .t
abbrev aF6 (m:p7):S:=.agg m.cs
abbrev evB (e:Ev):Blk:=C5 28 8 [evC e] true
theorem c6 {a b:Bool} {H1:Hp} (h:a=b):Fin 0 (e6 a) H1 (e6 b) []:=j5 (by subst h;exact rfl)
theorem j8 {a b:Int} {k:IntKind} {H1:Hp} (h:a=b):Fin 0 (a9 k a) H1 (a9 k b) []:=j5 (by subst h;exact rfl)
theorem j0 {x y:T} {ρ:List (Option Nat)} {H:Hp} (h:x=y):a3U ρ H (.c (.t x)) (.c (.t y)):=a7d h
theorem c9 {a b:Int} {k:IntKind} {ρ:List (Option Nat)} {H:Hp} (h:a=b):a3U ρ H (a9 k a) (a9 k b):=by subst h;exact rfl
theorem k8 (e:Ev):E8 [evC e]:=by simp [E8,evC,C.isT]
theorem b7E {H:Hp} {p:Nat→Prop} (e:Ev):VS H p (evS e) (evS e):=b6L (evT e)
end
section
def a1l (xs ys:List Int) (k:Nat):Prop:=xs.take k=ys.take k
theorem a1l.zero (xs ys:List Int):a1l xs ys 0:=by simp [a1l]
theorem a1l.next {xs ys:List Int} {k:Nat} {x:Int} (h:a1l xs ys k) (hx:xs[k]? =some x) (hy:ys[k]? =some x):a1l xs ys (k+1):=by
 unfold a1l at *
 rw [List.take_add_one,List.take_add_one,h,hx,hy]
theorem a1l.all {xs ys:List Int} {k:Nat} (h:a1l xs ys k) (h1:xs.length≤k) (h2:ys.length≤k):xs=ys:=by
 unfold a1l at h
 rwa [List.take_of_length_le h1,List.take_of_length_le h2] at h
end
section
open Go.RowKit
set_option maxRecDepth 100000
abbrev x8 (l:List Int):Blk:={ mode:=.live,elem:=3,size:=1,rows:=toC (l.map g9),box:=false }
abbrev X2 (id:Nat) (l:List Int):S:=.c (.own id 0 l.length true)
theorem o6 {α:Type} {xs:List α} {f:α→List T} {n:Int} {x:α} {lo:Nat} {K:List C→Prop} (hx:xs[lo+n.toNat]? =some x) (h:K ((f x).map C.t)):∃row,(toC (xs.map f))[lo+n.toNat]? =some row∧K row:=
 ⟨(f x).map C.t,by simp [toC,hx],h⟩
theorem a3n {a b:Int} {n:Nat} {K:Prop} (h0:0≤a) (h1:a≤b) (h2:b≤1000000) (hn:n≤1000) (k:K):(0≤a∧a≤b∧b*((n:Int)+1)≤140737488355328)∧K:=by
 refine ⟨⟨h0,h1,?_⟩,k⟩
 have:b*((n:Int)+1)≤1000000*1001:=Int.mul_le_mul h2 (by omega) (by omega) (by omega)
 omega
theorem b2S {α:Type} {f:α→List T} {xs:List α} {x:α}:(toC (xs.map f)).take xs.length++toC [f x]=toC ((xs++[x]).map f):=by
 rw [List.take_of_length_le (by simp [toC])];simp [toC]
theorem a7C {x:Int} (h1:0≤x) (h2:x<18446744073709551616):IntKind.wrap .u64 x=x:=by
 simp only [IntKind.wrap,IntKind.bits,IntKind.signed]
 simp
 omega
theorem ar5 {k:IntKind} (hk:k.bits=64) (a:Int) (j:Nat) (hj:j≤62):(BitVec.ofInt k.bits a &&& BitVec.ofInt k.bits ((2 ^ j - 1:Nat):Int)).toNat=(a % ((2 ^ j:Nat):Int)).toNat:=by
 rw [hk]
 rw [BitVec.toNat_and,BitVec.toNat_ofInt,BitVec.toNat_ofInt]
 have hp:(2:Nat) ^ j≤2 ^ 62:=Nat.pow_le_pow_right (by decide) hj
 have h0:0<(2:Nat) ^ j:=Nat.pow_pos (by decide)
 have e1:((((2 ^ j - 1:Nat):Int)) % ((2 ^ 64:Nat):Int)).toNat=2 ^ j - 1:=by
  rw [Int.emod_eq_of_lt (by omega) (by omega)];simp
 rw [e1,Nat.and_two_pow_sub_one_eq_mod]
 have hd:(2:Nat) ^ 64=2 ^ j*2 ^ (64 - j):=by rw [← Nat.pow_add];congr 1;omega
 have h2:0≤a % ((2 ^ 64:Nat):Int):=Int.emod_nonneg _ (by decide)
 have e2:((a % ((2 ^ 64:Nat):Int)).toNat % 2 ^ j:Nat)=((a % ((2 ^ 64:Nat):Int)) % ((2 ^ j:Nat):Int)).toNat:=by
  rw [Int.toNat_emod h2 (by omega)];rfl
 rw [e2]
 congr 1
 refine Int.emod_emod_of_dvd _ ?_
 exact ⟨((2 ^ (64 - j):Nat):Int),by exact_mod_cast hd⟩
theorem af5 {a:Int} (j:Nat) (hj:j≤62):IntKind.wrap .u64 (BitVec.ofInt (IntKind.bits .u64) a &&& BitVec.ofInt (IntKind.bits .u64) ((2 ^ j - 1:Nat):Int)).toNat=a % ((2 ^ j:Nat):Int):=by
 rw [ar5 rfl a j hj]
 have hp:(2:Nat) ^ j≤2 ^ 62:=Nat.pow_le_pow_right (by decide) hj
 have h0:0<(2:Nat) ^ j:=Nat.pow_pos (by decide)
 have h1:0≤a % ((2 ^ j:Nat):Int):=Int.emod_nonneg _ (by omega)
 have h2:a % ((2 ^ j:Nat):Int)<((2 ^ j:Nat):Int):=Int.emod_lt_of_pos _ (by omega)
 rw [Int.toNat_of_nonneg h1,a7C h1 (by omega)]
theorem an5 {x:Int} (h1:0≤x) (h2:x<18446744073709551616):D9 .u64 x x:=by unfold D9;exact (a7C h1 h2).symm
theorem af8 {l h m n:Int} {K:Prop} (h1:0≤l) (h2:l≤h) (h3:m=h) (h4:h≤n) (k:K):(0≤l∧l≤h∧m=h∧h≤n)∧K:=⟨⟨h1,h2,h3,h4⟩,k⟩
theorem a1q {α:Type} {l:List α} {f:α→Bool} {k:Nat} {x:α} (h:l[k]? =some x):(l.take (k+1)).any f=((l.take k).any f || f x):=by
 rw [List.take_add_one,h];simp
theorem o4 {α:Type} {l:List α} {f:α→Bool} {k:Nat} {x:α} (h:l[k]? =some x):(l.take (k+1)).all f=((l.take k).all f && f x):=by
 rw [List.take_add_one,h];simp
theorem a4I {α:Type} {l:List α} {f:α→Bool} {k:Nat} {x:α} (h:l[k]? =some x) (hf:f x=true):l.any f=true:=List.any_eq_true.2 ⟨x,List.mem_of_getElem? h,hf⟩
theorem t7 {α:Type} {l:List α} {f:α→Bool} {k:Nat} {x:α} (h:l[k]? =some x) (hf:f x=false):l.all f=false:=by
 rw [← Bool.not_eq_true,List.all_eq_true];intro h';rw [h' x (List.mem_of_getElem? h)] at hf;cases hf
theorem a8T {x y:T} {H1:Hp} (h:x=y):Fin 0 (.c (.t x)) H1 (.c (.t y)) []:=by subst h;exact j5 (show a6Z [] H1 _ _ from j0 (ρ:=[]) (H:=H1) rfl)
theorem b4B {n:Nat} {k:SK} {a b:List (List T)} {H1:Hp} (h:a=b) (hk:k=.any):Fin 0 (.c (.t (.sl n k a))) H1 (.c (.t (.sl n .any b))) []:=by subst h hk;exact j5 (show a6Z [] H1 _ _ from j0 (ρ:=[]) (H:=H1) rfl)
theorem a9X {P:Program} {g:FuncId} {args:List S} {H H':Hp} {r:S} (i:Nat) {n:Nat} (hi:args[i]? =some (.c (.t (.sl n .any [])))) (h1:b9 P g (args.set i (.c (.t (.sl n .nul [])))) H r H')
 (h2:b9 P g (args.set i (.c (.t (.sl n .non [])))) H r H'):b9 P g args H r H':=by
 refine ⟨h1.1,fun w ι M vals hl hr hH hM hF=>?_⟩
 have hv:=(hr i _ hi).inv_t
 have hil:=(List.getElem?_eq_some_iff.1 hi).1
 have key:∀k:SK,RT w M (.sl n k []) (vals.getD i undef)→∀j s,(args.set i (.c (.t (.sl n k []))))[j]? =some s→RS w ι M s (vals.getD j undef):=fun k hk j s hj=>by
  by_cases hji:i=j
  ·subst hji
   rw [List.getElem?_set_self hil] at hj
   injection hj with hj
   subst hj
   exact .c (.t hk)
  ·rw [List.getElem?_set_ne hji] at hj
   exact hr j s hj
 generalize hu:vals.getD i undef=u at hv
 cases hv with
 |@sl _ _ _ b off cap A f hrow hcap hmax hk hn hA hc hr' hx=>
  cases A with
  |none=>exact h1.2 w ι M vals (by simpa using hl) (key .nul (by rw [hu];exact .sl (b:=b) (off:=off) f hrow hcap hmax (by intro h;cases h) (by intro h;cases h) (by simp) hc hr' ⟨(fun _=>⟨rfl,rfl⟩),(fun h=>nomatch h)⟩)) hH hM hF
  |some a=>exact h2.2 w ι M vals (by simpa using hl) (key .non (by rw [hu];exact .sl (b:=b) (off:=off) f hrow hcap hmax (by intro h;cases h) (by intro h;cases h) (by simp) hc hr' ⟨(fun h=>nomatch h),(fun _ h=>nomatch h)⟩)) hH hM hF
theorem a9U {P:Program} {g:FuncId} {args:List S} {H:Hp} {n:Nat} {b:Blk} {rows:List (List T)} (h:b9 P g args [] (.c (.own 0 0 n true)) [b]) (hargs:args=args.map (a3X [])) (hok:args.all (okS 0)=true)
 (hm:b.mode=.live) (hb:b.rows=toC rows):b9 P g args H (.c (.own H.length 0 n true)) (H++[b]):=by
 refine N9 [] h hargs hok rfl List.nodup_nil (by simp) (by intro k hk;simp at hk;subst hk;rw [hm];simp) (by simp) rfl ?_ (by simp) ?_ ?_
 ·simp [a3X,T2,a2d]
 ·intro i k hk
  match i,hk with
  |0,hk=>
   simp at hk
   subst hk
   exact ⟨b,by simp [a2d],C0 hb⟩
 ·intro j hj _
  rw [List.getElem?_append_left hj]
theorem aD7 {P:Program} {g:FuncId} {args args':List S} {r:S} {H':Hp} (h:b9 P g args' [] r H') (ha:a46 [] (fun _=>False) args args'):b9 P g args [] r H':=by
 refine ⟨h.1,fun w ι M vals hl hv hH hM hf=>?_⟩
 obtain ⟨hlen,hget⟩:=a46.get ha
 exact h.2 w ι M vals (by omega) (fun j s hj=>by
  obtain ⟨x,hx,hs⟩:=hget j s hj
  exact hs.rs hH (fun _ h=>h) (fun _ _ _ _ _ h _ _ _ _=>h.elim) (hv j x hx)) hH hM hf
end
section
open Go.RowKit
theorem St1.zd {p:Prop} [Decidable p] {k:S→Prop} (a:p→k (e6 true)) (b:¬p→k (e6 false)):a99 p k:=a99.mk a b
theorem St2.zd {b:Bool} {k:S→Prop} (a:b=true→k (e6 true)) (c:b=false→k (e6 false)):a1A b k:=a1A.mk a c
theorem St1.zz {x:Int} {K:Int→Prop} (k:K x) (h1:-9223372036854775808≤x:=by omega) (h2:x≤9223372036854775807:=by omega):∃n,D9 .i64 x n∧K n:=⟨_,a3y h1 h2,k⟩
theorem St2.zz {n m:Int} {K:Prop} (k:K) (h0:0≤n:=by omega) (h1:n<m:=by omega):(0≤n∧n<m)∧K:=⟨⟨h0,h1⟩,k⟩
theorem St3.zz {ops:List Oper} {K:List Oper→Prop} (k:K ops) (h:a7S ops=true:=by decide +kernel):aX1 ops K:=b4d h k
theorem St4.zz {P:Program} {τ:Tab} {env:Env} {H':Hp} {ops:List Oper} {i:Nat} {K:Prop} (k:K) (h:H3 ops i=true:=by decide +kernel) (h2:V4 ops i=[]:=by decide +kernel):H3 ops i=true∧∃L,V4 ops i=L∧a1K P τ ops env H' K L:=b4u h h2 k
theorem St5.zz {s:S} {B:List Blk} {s':S} {K:Prop} (k:K) (h1:B=[]:=by exact rfl) (h2:s=s':=by exact rfl):(B=[]∧s=s')∧K:=b2Y h1 h2 k
theorem St6.zz {α:Type} {xs:List α} {a b:Nat} {K:Prop} (k:K) (h:a=b:=by exact rfl):(xs.length=0∨a=b)∧K:=b3z h k
theorem bl0 {P:Program} {τ:Tab} {env:Env} {H':Hp} {ops:List Oper} {i:Nat} {K:Prop} (L:List Nat) (k:a1K P τ ops env H' K L) (h:H3 ops i=true:=by decide +kernel) (h2:V4 ops i=L:=by decide +kernel):H3 ops i=true∧∃L,V4 ops i=L∧a1K P τ ops env H' K L:=b15 L h h2 k
theorem qp {P:Program} {g:FuncId} {args:List S} {H:Hp} {r:S} {K:S→List Blk→Prop} {Q:Prop} (c:b9 P g args [] r []) (k:K r []) (h1:args.all S.isT=true:=by exact rfl) (h2:r.isT=true:=by exact rfl):(∃ r B,S4 P g args H r B∧K r B)∨Q:=.inl ⟨_,_,F8 c h1 h2,k⟩
theorem zc {a b:Prop} (h:a) (n:¬a:=by decide):b:=absurd h n
theorem St1.zy {a b c:Prop} (h:a):a3i a b c:=a3i.data h
theorem St2.zy {a b:Prop} (h:b):ag5 a b:=ag5.own h
theorem b0x {a b:Prop} (h:a):ag5 a b:=ag5.data h
theorem lg0 {α:Type} {l:List α} {i:Nat} (h:i<l.length):l[i]? =some l[i]:=List.getElem?_eq_getElem h
theorem lg1 {α:Type} {l:List α} {i:Nat} {a:α} (h:l[i]? =some a):∃h:i<l.length,l[i]=a:=List.getElem?_eq_some_iff.1 h
theorem lg2 {α:Type} {l:List α} {i:Nat} {a:α} (h:l[i]? =some a):a ∈ l:=List.mem_of_getElem? h
theorem lg3 {α:Type} (l:List α) (i:Nat) (a:α):l.getD i a=l[i]?.getD a:=List.getD_eq_getElem?_getD
theorem lg4 {α:Type} {l:List α} {i:Nat} (h:l.length≤i):l.take i=l:=List.take_of_length_le h
theorem lg5 {α:Type} {a:α} {l:List α}:a ∈ a::l:=List.mem_cons_self ..
end
section
open St1 St2 St3 St4 St5 St6
open Go.RowKit
theorem a2c (i n:Int):b9 Tryz.prog 198 [a9 .i64 i,a9 .i64 n] [] (e6 (idx i n)) []:=by
 (refine a8 a7 Tryz.func198 rfl (by decide) ?_;(conv=>whnf);repeat (refine zy ?_;conv=>whnf))
 repeat' first|(refine zd ?_ ?_<;>intro h<;>first|exact zc h|(exfalso;omega)|conv=>whnf)|((first|refine zz ?_|refine zy ?_);conv=>whnf)
 all_goals (refine c6 ?_;simp only [idx];simp;omega)
theorem a1N (n lo hi:Int):b9 Tryz.prog 134 [a9 .i64 n,a9 .i64 lo,a9 .i64 hi] [] (e6 (btw n lo hi)) []:=by
 (refine a8 a7 Tryz.func134 rfl (by decide) ?_;(conv=>whnf);repeat (refine zy ?_;conv=>whnf))
 repeat' first|(refine zd ?_ ?_<;>intro h<;>first|exact zc h|(exfalso;omega)|conv=>whnf)|((first|refine zz ?_|refine zy ?_);conv=>whnf)
 all_goals (refine c6 ?_;simp only [btw];simp;omega)
def aJ5 (p:Int × Int):List T:=[ti p.1,ti p.2]
def a9v (e:Ev):List (Int × Int):=[(e.mats,6),(e.hhs,100),(e.scs,30),(e.places.length,100),(e.moves.length,200),(e.certs.length,100),(e.recalls.length,30),(e.purities.length,200)]
theorem a9C (e:Ev):a0x e=(a9v e).any fun p=>decide (p.2<p.1):=by
 rw [Bool.eq_iff_iff]
 simp [a0x,a9v]
 omega
set_option maxRecDepth 100000 in
theorem b4O (e:Ev) (hs:e.Sized):b9 Tryz.prog 124 [evS e] [] (e6 (a0x e)) []:=by
 (refine a8 a7 Tryz.func124 rfl (by decide) ?_;(conv=>whnf);repeat (refine zy ?_;conv=>whnf))
 have hl:(a9v e).length=8:=rfl
 refine f6 a7 (fun k=>([J,J,J,J,J,J,J,J,J,J,J,J,J,J,J,J,J,J,J,J,J,J,J,J,J,J,J,J,J,J,J,J,J,J,S.c (C.t (T.sl 2 .full ((a9v e).map aJ5))),a9 .i64 8,a9 .i64 k,J,J,J,J,J,J,J,J,J],[])) 8 (fun k=>((a9v e).take k).any (fun p=>decide (p.2<p.1))=false) [] rfl
  ⟨rfl,rfl,trivial,⟨j0 (by simp [a9v,aJ5]),rfl,rfl,trivial⟩⟩ ?_
 intro k hk hI
 conv=>whnf
 repeat' first|(refine zd ?_ ?_<;>intro h<;>first|exact zc h|(exfalso;omega)|conv=>whnf)|((first|refine zz ?_|refine zy ?_);conv=>whnf)
 ·have hlt:k<8:=by omega
  refine d7 (lg0 (hl ▸ hlt)) ?_
  conv=>whnf
  repeat' first|(refine zd ?_ ?_<;>intro h<;>first|exact zc h|(exfalso;omega)|conv=>whnf)|((first|refine zz ?_|refine zy ?_);conv=>whnf)
  ·refine c6 ?_
   rw [a9C,a4I (lg0 (hl ▸ hlt))]
   simpa using ‹_ > _›
  ·refine ⟨hlt,?_,[],rfl,rfl,trivial,⟨rfl,rfl,rfl,trivial⟩⟩
   rw [a1q (lg0 (hl ▸ hlt)),hI]
   have h:=‹¬ _ > _›
   simp;omega
 ·refine c6 ?_
  rw [a9C,←hI,lg4 (by omega)]
end
section
open St1 St2 St3 St4 St5 St6
open Go.RowKit
set_option maxRecDepth 100000
theorem aY2 (e:Ev) (hs:e.Sized):b9 Tryz.prog 125 [evS e] [] (e6 (e.places.all (Q9 e))) []:=by
 have l1:=hs.s1
 have l2:(e.places.map J7.row).length=e.places.length:=by simp
 (refine a8 a7 Tryz.func125 rfl (by decide) ?_;(conv=>whnf);repeat (refine zy ?_;conv=>whnf))
 refine f6 a7 (fun k=>([J,S.c (C.ptr 0 0 0),J,J,J,J,S.c (C.t (a3N e.places)),a9 .i64 e.places.length,a9 .i64 k,J,J,J,J,J,J,J,J,J,J,J,J,J,J,J,J,J,J,J,J,J,J,J,J,J,J,J,J,J,J,J,J,J,J,J,J],[evB e])) e.places.length (fun k=>(e.places.take k).all (Q9 e)=true) [some 0] rfl
  ⟨rfl,rfl,⟨⟨rfl,rfl,rfl,.inl ⟨rfl,k8 e⟩⟩,trivial⟩,⟨⟨rfl,rfl,rfl⟩,j0 rfl,c9 (by simp),c9 rfl,trivial⟩⟩ ?_
 intro k hk hI
 conv=>whnf
 repeat' first|(refine zd ?_ ?_<;>intro h<;>first|exact zc h|(exfalso;omega)|conv=>whnf)|((first|refine zz ?_|refine zy ?_);conv=>whnf)
 ·have hlt:k<e.places.length:=by omega
  obtain ⟨x,hx⟩:∃x,e.places[k]? =some x:=⟨_,lg0 hlt⟩
  refine d7 hx ?_
  conv=>whnf
  repeat' first|(refine zd ?_ ?_<;>intro h<;>first|exact zc h|(exfalso;omega)|conv=>whnf)|((first|refine zz ?_|refine qp (a2c _ _) ?_|refine zy ?_);conv=>whnf)
  all_goals first
   |(refine ⟨hlt,?_,[some 0],rfl,rfl,⟨⟨rfl,rfl,rfl,.inl ⟨rfl,k8 e⟩⟩,trivial⟩,⟨⟨rfl,rfl,rfl⟩,rfl,rfl,rfl,trivial⟩⟩;rw [o4 hx,hI];simp_all [Q9];done)
   |(refine c6 ?_;rw [t7 hx];simp_all [Q9];done)
 ·refine c6 ?_
  rw [← hI,lg4 (by omega)]
theorem a3u {e:Ev} {i:Int} (h:idx i e.places.length=true):0≤i∧∃x,e.places[i.toNat]? =some x∧F2 e i=x.kind:=by
 have h':=aI2.1 h
 have hlt:i.toNat<e.places.length:=by omega
 refine ⟨h'.1,_,lg0 hlt,?_⟩
 unfold F2
 rw [lg0 hlt];rfl
theorem b3w (e:Ev) (m:p7) (hs:e.Sized):b9 Tryz.prog 126 [evS e,aF6 m] [] (e6 (L4 e m)) []:=by
 have l1:=hs.s1
 have l2:(e.places.map J7.row).length=e.places.length:=by simp
 by_cases h1:idx m.src e.places.length=true
 ·obtain ⟨hs0,x,hx,kx⟩:=a3u h1
  by_cases h2:idx m.dst e.places.length=true
  ·obtain ⟨hd0,y,hy,ky⟩:=a3u h2
   (refine a8 a7 Tryz.func126 rfl (by decide) ?_;(conv=>whnf);repeat (refine zy ?_;conv=>whnf))
   rw [← l2] at h1 h2
   repeat' first|(refine zd ?_ ?_<;>intro h<;>first|exact zc h|(exfalso;omega)|conv=>whnf)|((first|refine zz ?_|refine qp (a2c _ _) ?_|refine qp (a1N _ _ _) ?_|refine B5 hs0 hx ?_|refine B5 hd0 hy ?_|refine zy ?_);conv=>whnf)
   all_goals (refine c6 ?_;simp_all [L4];done)
  ·(refine a8 a7 Tryz.func126 rfl (by decide) ?_;(conv=>whnf);repeat (refine zy ?_;conv=>whnf))
   rw [← l2] at h1 h2
   repeat' first|(refine zd ?_ ?_<;>intro h<;>first|exact zc h|(exfalso;omega)|conv=>whnf)|((first|refine zz ?_|refine qp (a2c _ _) ?_|refine zy ?_);conv=>whnf)
   all_goals first|(exfalso;simp_all;done)|(refine c6 ?_;simp_all [L4];done)
 ·(refine a8 a7 Tryz.func126 rfl (by decide) ?_;(conv=>whnf);repeat (refine zy ?_;conv=>whnf))
  rw [← l2] at h1
  repeat' first|(refine zd ?_ ?_<;>intro h<;>first|exact zc h|(exfalso;omega)|conv=>whnf)|((first|refine zz ?_|refine qp (a2c _ _) ?_|refine zy ?_);conv=>whnf)
  all_goals first|(exfalso;simp_all;done)|(refine c6 ?_;simp_all [L4];done)
theorem b43 (e:Ev) (hs:e.Sized):b9 Tryz.prog 127 [evS e] [] (e6 (S0 e)) []:=by
 have l1:=hs.s3
 have l2:(e.certs.map E7.row).length=e.certs.length:=by simp
 have l3:=hs.s4
 have l4:(e.recalls.map x9.row).length=e.recalls.length:=by simp
 have l5:=hs.s5
 have l6:(e.purities.map O0.row).length=e.purities.length:=by simp
 have l7:=hs.s2
 have l8:(e.moves.map p7.row).length=e.moves.length:=by simp
 (refine a8 a7 Tryz.func127 rfl (by decide) ?_;(conv=>whnf);repeat (refine zy ?_;conv=>whnf))
 refine f6 a7 (fun k=>([J,S.c (C.ptr 0 0 0),J,J,J,J,J,J,J,J,J,S.c (C.t (W7 e.certs)),a9 .i64 e.certs.length,a9 .i64 k,J,J,J,J,J,J,J,J,J,J,J,J,J,J,J,J,J,J,J,J,J,J,J,J,J,J,J,J,J,J,J,J,J,J,J,J,J,J,J,J,J,J,J,J,J,J,J,J,J,J,J,J,J,J,J,J,J,J,J,J,J,J,J,J,J,J,J,J,J,J,J,J,J,J,J,J,J,J,J,J,J,J,J,J,J,J,J,J,J,J,J,J,J,J,J,J,J,J,J,J,J,J,J,J,J,J,J],[evB e])) e.certs.length (fun k=>(e.certs.take k).all (a2m e)=true) [some 0] rfl
  ⟨rfl,rfl,⟨⟨rfl,rfl,rfl,.inl ⟨rfl,k8 e⟩⟩,trivial⟩,⟨⟨rfl,rfl,rfl⟩,j0 rfl,c9 (by simp),c9 rfl,trivial⟩⟩ ?_
 intro k hk hI
 conv=>whnf
 repeat' first|(refine zd ?_ ?_<;>intro h<;>first|exact zc h|(exfalso;omega)|conv=>whnf)|((first|refine zz ?_|refine zy ?_);conv=>whnf)
 ·have hlt:k<e.certs.length:=by omega
  obtain ⟨x,hx⟩:∃x,e.certs[k]? =some x:=⟨_,lg0 hlt⟩
  refine d7 hx ?_
  conv=>whnf
  repeat' first|(refine zd ?_ ?_<;>intro h<;>first|exact zc h|(exfalso;omega)|conv=>whnf)|((first|refine zz ?_|refine qp (a2c _ _) ?_|refine qp (a1N _ _ _) ?_|refine zy ?_);conv=>whnf)
  all_goals first
   |(refine ⟨hlt,?_,[some 0],rfl,rfl,⟨⟨rfl,rfl,rfl,.inl ⟨rfl,k8 e⟩⟩,trivial⟩,⟨⟨rfl,rfl,rfl⟩,rfl,rfl,rfl,trivial⟩⟩;rw [o4 hx,hI];simp_all [a2m];done)
   |(refine c6 ?_;rw [S0,t7 hx];rfl;simp_all [a2m];(try omega);done)
 ·have hc:e.certs.all (a2m e)=true:=by rw [← hI,lg4 (by omega)]
  clear hI h hk
  refine f6 a7 (fun k=>([J,S.c (C.ptr 0 0 0),J,J,J,J,J,J,J,J,J,J,J,J,J,J,J,J,J,J,J,J,J,J,J,J,J,J,J,J,J,J,J,J,J,J,J,J,J,J,J,J,J,J,J,J,J,J,J,J,J,J,J,J,J,J,J,J,J,J,J,J,S.c (C.t (H7 e.recalls)),a9 .i64 e.recalls.length,a9 .i64 k,J,J,J,J,J,J,J,J,J,J,J,J,J,J,J,J,J,J,J,J,J,J,J,J,J,J,J,J,J,J,J,J,J,J,J,J,J,J,J,J,J,J,J,J,J,J,J,J,J,J,J,J,J,J,J,J],[evB e])) e.recalls.length (fun k=>(e.recalls.take k).all (U2 e)=true) [some 0] rfl
   ⟨rfl,rfl,⟨⟨rfl,rfl,rfl,.inl ⟨rfl,k8 e⟩⟩,trivial⟩,⟨⟨rfl,rfl,rfl⟩,j0 rfl,c9 (by simp),c9 rfl,trivial⟩⟩ ?_
  intro k hk hI
  conv=>whnf
  repeat' first|(refine zd ?_ ?_<;>intro h<;>first|exact zc h|(exfalso;omega)|conv=>whnf)|((first|refine zz ?_|refine zy ?_);conv=>whnf)
  ·have hlt:k<e.recalls.length:=by omega
   obtain ⟨x,hx⟩:∃x,e.recalls[k]? =some x:=⟨_,lg0 hlt⟩
   refine d7 hx ?_
   conv=>whnf
   repeat' first|(refine zd ?_ ?_<;>intro h<;>first|exact zc h|(exfalso;omega)|conv=>whnf)|((first|refine zz ?_|refine qp (a2c _ _) ?_|refine qp (a1N _ _ _) ?_|refine zy ?_);conv=>whnf)
   all_goals first
    |(refine ⟨hlt,?_,[some 0],rfl,rfl,⟨⟨rfl,rfl,rfl,.inl ⟨rfl,k8 e⟩⟩,trivial⟩,⟨⟨rfl,rfl,rfl⟩,rfl,rfl,rfl,trivial⟩⟩;rw [o4 hx,hI];simp_all [U2];done)
    |(refine c6 ?_;rw [S0,hc,t7 hx];rfl;simp_all [U2];done)
  ·have hr:e.recalls.all (U2 e)=true:=by rw [← hI,lg4 (by omega)]
   clear hI h hk
   refine f6 a7 (fun k=>([J,S.c (C.ptr 0 0 0),J,J,J,J,J,J,J,J,J,J,J,J,J,J,J,J,J,J,J,J,J,J,J,J,J,J,J,J,J,J,J,J,J,J,J,J,J,J,J,J,J,J,J,J,J,J,J,J,J,J,J,J,J,J,J,J,J,J,J,J,J,J,J,J,J,J,J,J,J,J,J,J,J,J,J,J,J,J,J,J,S.c (C.t (a0i e.purities)),a9 .i64 e.purities.length,a9 .i64 k,J,J,J,J,J,J,J,J,J,J,J,J,J,J,J,J,J,J,J,J,J,J,J,J,J,J,J,J,J,J,J,J,J,J,J,J],[evB e])) e.purities.length (fun k=>(e.purities.take k).all (T7 e)=true) [some 0] rfl
    ⟨rfl,rfl,⟨⟨rfl,rfl,rfl,.inl ⟨rfl,k8 e⟩⟩,trivial⟩,⟨⟨rfl,rfl,rfl⟩,j0 rfl,c9 (by simp),c9 rfl,trivial⟩⟩ ?_
   intro k hk hI
   conv=>whnf
   repeat' first|(refine zd ?_ ?_<;>intro h<;>first|exact zc h|(exfalso;omega)|conv=>whnf)|((first|refine zz ?_|refine zy ?_);conv=>whnf)
   ·have hlt:k<e.purities.length:=by omega
    obtain ⟨x,hx⟩:∃x,e.purities[k]? =some x:=⟨_,lg0 hlt⟩
    refine d7 hx ?_
    conv=>whnf
    repeat' first|(refine zd ?_ ?_<;>intro h<;>first|exact zc h|(exfalso;omega)|conv=>whnf)|((first|refine zz ?_|refine qp (a2c _ _) ?_|refine qp (a1N _ _ _) ?_|refine zy ?_);conv=>whnf)
    all_goals first
     |(refine ⟨hlt,?_,[some 0],rfl,rfl,⟨⟨rfl,rfl,rfl,.inl ⟨rfl,k8 e⟩⟩,trivial⟩,⟨⟨rfl,rfl,rfl⟩,rfl,rfl,rfl,trivial⟩⟩;rw [o4 hx,hI];simp_all [T7];done)
     |(refine c6 ?_;rw [S0,hc,hr,t7 hx];rfl;simp_all [T7];(try omega);done)
   ·have hp:e.purities.all (T7 e)=true:=by rw [← hI,lg4 (by omega)]
    refine c6 ?_
    rw [S0,hc,hr,hp];rfl
end
section
open St1 St2 St3 St4 St5 St6
open Go.RowKit
set_option maxRecDepth 100000
def a1B (e:Ev):Nat→Int
 |0=>0
 |k+1=>((e.moves[k]?).map (·.day)).getD 0
theorem a0q {e:Ev} {k:Nat} {m:p7} (h:e.moves[k]? =some m):a1B e (k+1)=m.day:=by simp [a1B,h]
theorem Y7 {α:Type} {l:List α} {k:Nat} {x:α} (h:l[k]? =some x):l.drop k=x::l.drop (k+1):=by
 obtain ⟨h1,h2⟩:=lg1 h
 rw [List.drop_eq_getElem_cons h1,h2]
theorem aL1 (e:Ev) (hs:e.Sized):b9 Tryz.prog 58 [evS e] [] (a9 .i64 (y3 e)) []:=by
 have l7:=hs.s2
 have l8:(e.moves.map p7.row).length=e.moves.length:=by simp
 (refine a8 a7 Tryz.func58 rfl (by decide) ?_;(conv=>whnf);repeat (refine zy ?_;conv=>whnf))
 repeat' first|(refine zd ?_ ?_<;>intro h<;>first|exact zc h|(exfalso;omega)|conv=>whnf)|((first|refine zz ?_|refine qp (b4O _ hs) ?_|refine qp (aY2 _ hs) ?_|refine zy ?_);conv=>whnf)
 case refine_2.refine_2.refine_2.refine_2.refine_1 hf h1 h2 h3=>
  have h4:=h
  clear h
  have hpre:¬(e.mats<1∨e.hhs<0∨e.scs<0∨e.places.all (Q9 e)=false):=by
   rintro (h|h|h|h)
   ·omega
   ·omega
   ·omega
   ·rw [h4] at h;cases h
  have hck:y3 e=if v7 e 0 e.moves≠0 then v7 e 0 e.moves else if S0 e then 0 else 1:=by
   unfold y3;rw [if_neg (by simp [hf]),if_neg hpre]
  refine f6 a7 (fun k=>([J,S.c (C.ptr 0 0 0),J,a9 .i64 (a1B e k),J,J,J,J,J,J,J,J,J,J,J,J,J,J,J,J,J,J,J,J,J,J,J,J,J,S.c (C.t (a20 e.moves)),a9 .i64 e.moves.length,a9 .i64 k,J,J,J,J,J,J,J,J,J,J,J,J,J,J,J,J,J,J,J,J,J,J],[evB e])) e.moves.length (fun k=>v7 e 0 e.moves=v7 e (a1B e k) (e.moves.drop k)) [some 0] rfl
   ⟨rfl,rfl,⟨⟨rfl,rfl,rfl,.inl ⟨rfl,k8 e⟩⟩,trivial⟩,⟨⟨rfl,rfl,rfl⟩,c9 rfl,j0 rfl,c9 (by simp),c9 rfl,trivial⟩⟩ ?_
  intro k hk hI
  conv=>whnf
  repeat' first|(refine zd ?_ ?_<;>intro h<;>first|exact zc h|(exfalso;omega)|conv=>whnf)|((first|refine zz ?_|refine zy ?_);conv=>whnf)
  ·have hlt:k<e.moves.length:=by omega
   obtain ⟨x,hx⟩:∃x,e.moves[k]? =some x:=⟨_,lg0 hlt⟩
   rw [Y7 hx,v7] at hI
   refine d7 hx ?_
   conv=>whnf
   repeat' first|(refine zd ?_ ?_<;>intro h<;>first|exact zc h|(exfalso;omega)|conv=>whnf)|((first|refine zz ?_|refine qp (b3w _ x hs) ?_|refine zy ?_);conv=>whnf)
   all_goals first
    |(refine ⟨hlt,?_,[some 0],rfl,rfl,⟨⟨rfl,rfl,rfl,.inl ⟨rfl,k8 e⟩⟩,trivial⟩,⟨⟨rfl,rfl,rfl⟩,?_,rfl,rfl,rfl,trivial⟩⟩
      ·rw [a0q hx,hI,if_neg (by omega),if_pos (by assumption)]
      ·rw [a0q hx];exact rfl)
    |(have e1:v7 e 0 e.moves=17:=by rw [hI,if_pos (by omega)]
      refine j8 ?_;rw [hck,e1];rfl)
    |(have e1:v7 e 0 e.moves=1:=by rw [hI,if_neg (by omega),if_neg (by simp_all)]
      refine j8 ?_;rw [hck,e1];rfl)
  ·rw [List.drop_eq_nil_of_le (by omega),v7] at hI
   repeat' first|(refine zd ?_ ?_<;>intro h<;>first|exact zc h|(exfalso;omega)|conv=>whnf)|((first|refine zz ?_|refine qp (b43 _ hs) ?_|refine zy ?_);conv=>whnf)
   all_goals (refine j8 ?_;rw [hck,hI];simp_all)
 all_goals (refine j8 ?_;unfold y3;simp_all;try omega)
end
section
open St1 St2 St3 St4 St5 St6
def val:List Int→Int
 |[]=>0
 |d::r=>d+1048576*val r
def Okd (l:List Int):Prop:=∀d ∈ l,0≤d∧d<1048576
def dgF:Nat→Nat→List Int
 |0,_=>[]
 |f+1,n=>if n=0 then [] else ((n % 1048576:Nat):Int)::dgF f (n / 1048576)
def dg (n:Nat):List Int:=dgF n n
def pw (i:Nat):Int:=1048576 ^ i
theorem b2a:pw 0=1:=rfl
theorem C8 (i:Nat):pw (i+1)=pw i*1048576:=Int.pow_succ ..
theorem N0 (i:Nat):0<pw i:=Int.pow_pos (by decide)
theorem a6j (i j:Nat):pw (i+j)=pw i*pw j:=Int.pow_add ..
theorem a08 {i j:Nat} (h:i≤j):pw i≤pw j:=by
 obtain ⟨k,rfl⟩:=Nat.exists_eq_add_of_le h
 rw [a6j]
 have h1:=N0 i
 have h2:=N0 k
 have:=Int.mul_le_mul_of_nonneg_left (a:=1) (b:=pw k) (c:=pw i) (by omega) (by omega)
 omega
theorem Okd.nil:Okd []:=fun _ h=>nomatch h
theorem Okd.cons {d:Int} {l:List Int} (h1:0≤d∧d<1048576) (h2:Okd l):Okd (d::l):=by
 intro x hx
 rcases List.mem_cons.1 hx with rfl|hx
 ·exact h1
 ·exact h2 x hx
theorem Okd.head {d:Int} {l:List Int} (h:Okd (d::l)):0≤d∧d<1048576:=h d (by simp)
theorem Okd.tail {d:Int} {l:List Int} (h:Okd (d::l)):Okd l:=fun x hx=>h x (by simp [hx])
theorem Okd.take {l:List Int} (h:Okd l) (n:Nat):Okd (l.take n):=fun x hx=>h x (List.mem_of_mem_take hx)
theorem Okd.drop {l:List Int} (h:Okd l) (n:Nat):Okd (l.drop n):=fun x hx=>h x (List.mem_of_mem_drop hx)
theorem Okd.append {a b:List Int} (h:Okd a) (h2:Okd b):Okd (a++b):=fun x hx=>by
 rcases List.mem_append.1 hx with hx|hx
 ·exact h x hx
 ·exact h2 x hx
theorem Okd.set {l:List Int} (h:Okd l) {i:Nat} {x:Int} (hx:0≤x∧x<1048576):Okd (l.set i x):=fun y hy=>by
 rcases List.mem_or_eq_of_mem_set hy with hy|rfl
 ·exact h y hy
 ·exact hx
theorem Okd.get {l:List Int} (h:Okd l) {i:Nat} {x:Int} (hx:l[i]? =some x):0≤x∧x<1048576:=h x (lg2 hx)
theorem Okd.zeros (n:Nat):Okd (List.replicate n 0):=fun x hx=>by rw [List.eq_of_mem_replicate hx];decide
theorem s8 {l:List Int} (h:Okd l):0≤val l:=by
 induction l with
 |nil=>simp [val]
 |cons d l ih=>have:=ih h.tail;have:=h.head;simp only [val];omega
theorem R6 {l:List Int} (h:Okd l):val l<pw l.length:=by
 induction l with
 |nil=>simp [val,pw]
 |cons d l ih=>
  have:=ih h.tail;have:=h.head
  simp only [val,List.length_cons,C8];omega
theorem I6 (a b:List Int):val (a++b)=val a+pw a.length*val b:=by
 induction a with
 |nil=>simp [val,pw]
 |cons d a ih=>simp only [List.cons_append,val,ih,List.length_cons,C8];grind
theorem a5T (n:Nat):val (List.replicate n 0)=0:=by
 induction n with
 |zero=>rfl
 |succ n ih=>simp [List.replicate_succ,val,ih]
theorem a3O (l:List Int) (i:Nat) (h:i≤l.length):val l=val (l.take i)+pw i*val (l.drop i):=by
 have:=I6 (l.take i) (l.drop i)
 rw [List.take_append_drop] at this
 rw [this]
 rw [List.length_take,Nat.min_eq_left h]
theorem a49 {l:List Int} {i:Nat} {x:Int} (h:l[i]? =some x):val (l.take (i+1))=val (l.take i)+pw i*x:=by
 have hi:i<l.length:=by
  rcases Nat.lt_or_ge i l.length with h1|h1
  ·exact h1
  ·rw [List.getElem?_eq_none h1] at h;cases h
 rw [List.take_add_one,h,I6,List.length_take,Nat.min_eq_left (by omega)]
 simp [val]
theorem a2G {l:List Int} {i:Nat} {x:Int} (h:l[i]? =some x):val (l.drop i)=x+1048576*val (l.drop (i+1)):=by
 have hi:i<l.length:=by
  rcases Nat.lt_or_ge i l.length with h1|h1
  ·exact h1
  ·rw [List.getElem?_eq_none h1] at h;cases h
 rw [List.drop_eq_getElem_cons hi]
 rw [lg0 hi] at h
 injection h with h
 rw [h];rfl
theorem b1v {l:List Int} {i:Nat} {x y:Int} (h:l[i]? =some y):val (l.set i x)=val l+pw i*(x - y):=by
 induction l generalizing i with
 |nil=>simp at h
 |cons d l ih=>
  cases i with
  |zero=>
   simp only [List.getElem?_cons_zero,Option.some.injEq] at h
   subst h
   simp [val,pw];omega
  |succ i=>
   simp only [List.getElem?_cons_succ] at h
   simp only [List.set_cons_succ,val,ih h,C8];grind
theorem b0a (f n:Nat) (h:n≤f):dgF f n=dg n:=by
 unfold dg
 induction f using Nat.strongRecOn generalizing n with
 |ind f ih=>
  cases f with
  |zero=>cases Nat.le_zero.1 h;rfl
  |succ f=>
   cases n with
   |zero=>rfl
   |succ n=>
    simp only [dgF,Nat.succ_ne_zero,if_false]
    rw [ih f (by omega) _ (by omega),ih n (by omega) _ (by omega)]
theorem Q8:dg 0=[]:=rfl
theorem a4z {n:Nat} (h:0<n):dg n=((n % 1048576:Nat):Int)::dg (n / 1048576):=by
 obtain ⟨m,rfl⟩:∃m,n=m+1:=⟨n - 1,by omega⟩
 show dgF (m+1) (m+1)=_
 simp only [dgF,Nat.succ_ne_zero,if_false]
 rw [b0a _ _ (by omega)]
theorem aA0 {P:Nat→Prop} (h0:P 0) (h:∀n,0<n→P (n / 1048576)→P n) (n:Nat):P n:=by
 induction n using Nat.strongRecOn with
 |ind n ih=>
  rcases Nat.eq_zero_or_pos n with rfl|hn
  ·exact h0
  ·exact h n hn (ih _ (by omega))
theorem m6 (n:Nat):val (dg n)=n:=by
 induction n using aA0 with
 |h0=>rfl
 |h n hn ih=>rw [a4z hn,val,ih];omega
theorem p4 (n:Nat):Okd (dg n):=by
 induction n using aA0 with
 |h0=>exact .nil
 |h n hn ih=>rw [a4z hn];exact .cons (by omega) ih
theorem M3 {n:Nat}:dg n=[]↔n=0:=by
 constructor
 ·intro h
  have:=m6 n
  rw [h] at this
  simp only [val] at this;omega
 ·rintro rfl;rfl
def D6:List Int→List Int
 |[]=>[]
 |d::r=>if D6 r=[]∧d=0 then [] else d::D6 r
theorem G9 {l:List Int} (h:Okd l):D6 l=dg (val l).toNat:=by
 induction l with
 |nil=>rfl
 |cons d l ih=>
  have h0:=s8 h.tail
  have h1:=h.head
  have hv:(val (d::l)).toNat=d.toNat+1048576*(val l).toNat:=by simp only [val];omega
  rw [D6,ih h.tail,hv]
  split
  ·rename_i hc
   have:=M3.1 hc.1
   rw [this,hc.2];rfl
  ·rename_i hc
   rw [a4z (n:=d.toNat+1048576*(val l).toNat)]
   ·congr 1
    ·omega
    ·congr 1;omega
   ·rcases Nat.eq_zero_or_pos (val l).toNat with h2|h2
    ·have:d≠0:=fun h3=>hc ⟨by rw [h2];rfl,h3⟩
     omega
    ·omega
theorem a1X {l:List Int} {n:Nat} (h1:∀j x,n≤j→l[j]? =some x→x=0) (h2:∀x,0<n→l[n-1]? =some x→x≠0) (hn:n≤l.length):l.take n=D6 l:=by
 induction l generalizing n with
 |nil=>simp [D6]
 |cons d l ih=>
  cases n with
  |zero=>
   have ht:D6 l=[]:=by
    rw [← ih (n:=0) (fun j x _ hx=>h1 (j+1) x (by omega) (by simpa using hx)) (fun x h=>absurd h (by omega)) (by omega)];rfl
   have hd:d=0:=h1 0 d (by omega) (by simp)
   simp [D6,ht,hd]
  |succ n=>
   have ht:D6 l=l.take n:=by
    refine (ih (n:=n) (fun j x hj hx=>h1 (j+1) x (by omega) (by simpa using hx)) (fun x h hx=>h2 x (by omega) ?_) (by simpa using hn)).symm
    obtain ⟨m,rfl⟩:∃m,n=m+1:=⟨n - 1,by omega⟩
    simpa using hx
   rw [D6,ht,List.take_succ_cons,if_neg]
   rintro ⟨h3,h4⟩
   have hn0:n=0:=by
    rcases Nat.eq_zero_or_pos n with h5|h5
    ·exact h5
    ·have:=congrArg List.length h3
     simp only [List.length_take,List.length_nil,List.length_cons] at this hn
     omega
   subst hn0
   exact h2 d (by omega) (by simp) h4
theorem J8 {n k:Nat} (h:(n:Int)<pw k):(dg n).length≤k:=by
 induction k generalizing n with
 |zero=>have:n=0:=by simp [pw] at h;omega
        subst this;simp [Q8]
 |succ k ih=>
  rcases Nat.eq_zero_or_pos n with rfl|hn
  ·simp [Q8]
  ·rw [a4z hn]
   rw [C8] at h
   have:=ih (n:=n / 1048576) (by omega)
   simp;omega
theorem ai8 {n:Nat} (h:0<n):pw ((dg n).length - 1)≤n:=by
 induction n using aA0 with
 |h0=>omega
 |h n hn ih=>
  rw [a4z hn]
  rcases Nat.eq_zero_or_pos (n / 1048576) with h1|h1
  ·rw [h1,Q8]
   simp [pw];omega
  ·have h2:=ih h1
   have:(dg (n / 1048576)).length≠0:=by rw [Ne,List.length_eq_zero_iff,M3];omega
   obtain ⟨m,hm⟩:∃m,(dg (n / 1048576)).length=m+1:=⟨(dg (n / 1048576)).length - 1,by omega⟩
   rw [hm] at h2
   rw [List.length_cons,hm]
   simp only [Nat.add_sub_cancel] at h2 ⊢
   rw [C8];omega
theorem L7 (n:Nat):(n:Int)<pw (dg n).length:=by
 have:=R6 (p4 n);rw [m6] at this;exact this
theorem n7 {m n:Nat} (h:m≤n):(dg m).length≤(dg n).length:=J8 (by have:=L7 n;omega)
theorem ak4 {m n:Nat} (h:(dg m).length<(dg n).length):m<n:=by
 rcases Nat.lt_or_ge m n with h1|h1
 ·exact h1
 ·have:=n7 h1;omega
def Can (l:List Int):Prop:=Okd l∧∀x,l[l.length - 1]? =some x→x≠0
theorem aC7 {l:List Int} (h:Can l):l=dg (val l).toNat:=by
 rw [← G9 h.1]
 have:=a1X (l:=l) (n:=l.length) (fun j x hj hx=>by rw [List.getElem?_eq_none hj] at hx;cases hx) (fun x _ hx=>h.2 x hx) (Nat.le_refl _)
 rw [List.take_length] at this
 exact this
theorem a0p (n:Nat):Can (dg n):=by
 refine ⟨p4 n,fun x hx h0=>?_⟩
 subst h0
 have hl:0<(dg n).length:=by
  rcases Nat.eq_zero_or_pos (dg n).length with h|h
  ·rw [List.length_eq_zero_iff.1 h] at hx;simp at hx
  ·exact h
 have hp:0<n:=by
  rcases Nat.eq_zero_or_pos n with rfl|h
  ·simp [Q8] at hl
  ·exact h
 have h1:=ai8 hp
 have h2:=a49 hx
 rw [show (dg n).length - 1+1=(dg n).length by omega,List.take_length,m6] at h2
 have h3:=R6 ((p4 n).take ((dg n).length - 1))
 rw [List.length_take,Nat.min_eq_left (by omega)] at h3
 omega
theorem a6w {a b:List Int} (ha:Okd a) (hb:Okd b) (hl:a.length=b.length) {i:Nat} {x y:Int} (hx:a[i]? =some x) (hy:b[i]? =some y)
 (hd:a.drop (i+1)=b.drop (i+1)) (h:x<y):val a<val b:=by
 have hi:i<a.length:=by
  rcases Nat.lt_or_ge i a.length with h1|h1
  ·exact h1
  ·rw [List.getElem?_eq_none h1] at hx;cases hx
 have e1:=a3O a i (by omega)
 have e2:=a3O b i (by omega)
 rw [a2G hx] at e1
 rw [a2G hy] at e2
 rw [hd] at e1
 have h1:=R6 (ha.take i)
 rw [List.length_take,Nat.min_eq_left (by omega)] at h1
 have h2:=s8 (hb.take i)
 have h3:=N0 i
 have h4:pw i*(x+1048576*val (b.drop (i+1)))+pw i≤pw i*(y+1048576*val (b.drop (i+1))):=by
  have:=Int.mul_le_mul_of_nonneg_left (a:=x+1048576*val (b.drop (i+1))+1) (b:=y+1048576*val (b.drop (i+1))) (c:=pw i) (by omega) (by omega)
  rw [Int.mul_add (pw i) _ 1] at this
  omega
 omega
def dat (l:List Int) (i:Nat):Int:=l.getD i 0
theorem a1z {l:List Int} {i:Nat} {x:Int} (h:l[i]? =some x):dat l i=x:=by unfold dat;rw [lg3,h];rfl
theorem L9 {l:List Int} {i:Nat} (h:l.length≤i):dat l i=0:=by unfold dat;rw [lg3,List.getElem?_eq_none h];rfl
theorem Okd.dat {l:List Int} (h:Okd l) (i:Nat):0≤dat l i∧dat l i<1048576:=by
 rcases Nat.lt_or_ge i l.length with h1|h1
 ·rw [a1z (lg0 h1)]
  exact h _ (List.getElem_mem h1)
 ·rw [L9 h1];decide
theorem o8 (l:List Int) (i:Nat):val (l.take (i+1))=val (l.take i)+pw i*dat l i:=by
 rcases Nat.lt_or_ge i l.length with h1|h1
 ·rw [a1z (lg0 h1)]
  exact a49 (lg0 h1)
 ·rw [L9 h1,lg4 (by omega),lg4 (by omega)];simp
theorem a3S (n:Int):0≤n % 1048576∧n % 1048576<1048576:=by omega
structure a64 (a b:List Int) (i:Nat) (out:List Int) (c:Int):Prop where
 len:out.length=a.length+1
 ok:Okd out
 le:i≤a.length
 zero:∀j,i≤j→dat out j=0
 c0:0≤c
 c1:c≤1
 eq:val out+pw i*c=val (a.take i)+val (b.take i)
theorem a64.init (a b:List Int):a64 a b 0 (List.replicate (a.length+1) 0) 0:=
 ⟨by simp,.zeros _,Nat.zero_le _,fun j _=>by unfold dat;rw [lg3,List.getElem?_replicate];split<;>rfl,by decide,by decide,by rw [a5T];simp [val]⟩
theorem a3x {l:List Int} {i j:Nat} {x:Int} (h:i≠j):dat (l.set i x) j=dat l j:=by
 unfold dat;rw [lg3,lg3,List.getElem?_set_ne h]
theorem a0P {l:List Int} {i:Nat} {x:Int} (hi:i<l.length):val (l.set i x)=val l+pw i*(x - dat l i):=by
 rw [a1z (lg0 hi)];exact b1v (lg0 hi)
theorem a64.step {a b out:List Int} {i:Nat} {c:Int} (h:a64 a b i out c) (ha:Okd a) (hb:Okd b) (hi:i<a.length):
 a64 a b (i+1) (out.set i ((c+dat a i+dat b i) % 1048576)) ((c+dat a i+dat b i) / 1048576):=by
 have h1:=ha.dat i
 have h2:=hb.dat i
 have h3:=h.c0
 have h4:=h.c1
 have hl:=h.len
 refine ⟨by simp [hl],h.ok.set (a3S _),hi,fun j hj=>?_,by omega,by omega,?_⟩
 ·rw [a3x (by omega)];exact h.zero j (by omega)
 ·rw [a0P (by omega),h.zero i (Nat.le_refl _),o8,o8,C8]
  have h5:=h.eq
  have h6:(c+dat a i+dat b i) % 1048576=c+dat a i+dat b i - 1048576*((c+dat a i+dat b i) / 1048576):=by omega
  rw [h6]
  grind
theorem a64.fin {a b out:List Int} {c:Int} (h:a64 a b a.length out c) (hl:b.length≤a.length):D6 (out.set a.length c)=dg (val a+val b).toNat:=by
 have h1:=h.c0
 have h2:=h.c1
 have h3:=h.eq
 have hl:=h.len
 rw [G9 (h.ok.set (by omega)),a0P (by omega),h.zero _ (Nat.le_refl _)]
 rw [List.take_length,lg4 (by omega)] at h3
 congr 2
 grind
structure a91 (a b:List Int) (i:Nat) (out:List Int) (c:Int):Prop where
 len:out.length=a.length
 ok:Okd out
 le:i≤a.length
 rest:∀j,i≤j→dat out j=dat a j
 c0:0≤c
 c1:c≤1
 eq:val out - pw i*c=val a - val (b.take i)
theorem a91.init {a b:List Int} (ha:Okd a):a91 a b 0 a 0:=⟨rfl,ha,Nat.zero_le _,fun _ _=>rfl,by decide,by decide,by simp [val]⟩
theorem a91.step {a b out:List Int} {i:Nat} {c:Int} (h:a91 a b i out c) (ha:Okd a) (hb:Okd b) (hi:i<a.length):
 a91 a b (i+1) (out.set i ((dat out i - c - dat b i) % 1048576)) ((dat out i - c - dat b i) / 1048576 % 2):=by
 have h1:=h.ok.dat i
 have h2:=hb.dat i
 have h3:=h.c0
 have h4:=h.c1
 have hl:=h.len
 refine ⟨by simp [hl],h.ok.set (a3S _),hi,fun j hj=>?_,by omega,by omega,?_⟩
 ·rw [a3x (by omega)];exact h.rest j (by omega)
 ·rw [a0P (by omega),o8,C8]
  have h5:=h.eq
  have h6:(dat out i - c - dat b i) % 1048576=dat out i - c - dat b i+1048576*((dat out i - c - dat b i) / 1048576 % 2):=by omega
  rw [h6]
  grind
theorem a91.fin {a b out:List Int} {c:Int} (h:a91 a b a.length out c) (hl:b.length≤a.length) (hv:val b≤val a):D6 out=dg (val a - val b).toNat:=by
 have h1:=h.c0
 have h2:=h.c1
 have h3:=h.eq
 have hlen:=h.len
 rw [lg4 (by omega)] at h3
 have h4:=R6 h.ok
 rw [hlen] at h4
 rw [G9 h.ok]
 rcases Int.lt_or_le 0 c with h5|h5
 ·have:c=1:=by omega
  subst this;omega
 ·have:c=0:=by omega
  subst this
  congr 2;omega
structure a86 (a b:List Int) (i k:Nat) (out:List Int) (c:Int):Prop where
 len:out.length=a.length+b.length
 ok:Okd out
 le:k≤b.length
 zero:∀j,i+b.length≤j→dat out j=0
 c0:0≤c
 c1:c<1048576
 eq:val out+pw (i+k)*c=val (a.take i)*val b+pw i*dat a i*val (b.take k)
structure a2B (a b:List Int) (i:Nat) (out:List Int):Prop where
 len:out.length=a.length+b.length
 ok:Okd out
 le:i≤a.length
 zero:∀j,i+b.length≤j→dat out j=0
 eq:val out=val (a.take i)*val b
theorem a2B.init (a b:List Int):a2B a b 0 (List.replicate (a.length+b.length) 0):=
 ⟨by simp,.zeros _,Nat.zero_le _,fun j _=>by unfold dat;rw [lg3,List.getElem?_replicate];split<;>rfl,by rw [a5T];simp [val]⟩
theorem a2B.start {a b out:List Int} {i:Nat} (h:a2B a b i out):a86 a b i 0 out 0:=
 ⟨h.len,h.ok,Nat.zero_le _,h.zero,by decide,by decide,by rw [h.eq];simp [val]⟩
theorem a2s {x y:Int} (hx:0≤x∧x<1048576) (hy:0≤y∧y<1048576):0≤x*y∧x*y≤1048575*1048575:=
 ⟨Int.mul_nonneg hx.1 hy.1,Int.mul_le_mul (by omega) (by omega) hy.1 (by decide)⟩
theorem a86.step {a b out:List Int} {i k:Nat} {c:Int} (h:a86 a b i k out c) (ha:Okd a) (hb:Okd b) (hi:i<a.length) (hk:k<b.length):
 a86 a b i (k+1) (out.set (i+k) ((dat out (i+k)+dat a i*dat b k+c) % 1048576)) ((dat out (i+k)+dat a i*dat b k+c) / 1048576):=by
 have h1:=h.ok.dat (i+k)
 have h2:=a2s (ha.dat i) (hb.dat k)
 have h3:=h.c0
 have h4:=h.c1
 have hl:=h.len
 refine ⟨by simp [hl],h.ok.set (a3S _),hk,fun j hj=>?_,by omega,by omega,?_⟩
 ·rw [a3x (by omega)];exact h.zero j (by omega)
 ·rw [a0P (by omega),o8,show i+(k+1)=i+k+1 by omega,C8]
  have h5:=h.eq
  have h6:(dat out (i+k)+dat a i*dat b k+c) % 1048576=dat out (i+k)+dat a i*dat b k+c - 1048576*((dat out (i+k)+dat a i*dat b k+c) / 1048576):=by omega
  rw [h6]
  have h7:=a6j i k
  grind
theorem a86.done {a b out:List Int} {i:Nat} {c:Int} (h:a86 a b i b.length out c) (ha:Okd a) (hb:Okd b) (hi:i<a.length):
 a2B a b (i+1) (out.set (i+b.length) (dat out (i+b.length)+c)):=by
 have h3:=h.c0
 have h4:=h.c1
 have hl:=h.len
 have h8:=h.zero _ (Nat.le_refl _)
 refine ⟨by simp [hl],h.ok.set (by omega),hi,fun j hj=>?_,?_⟩
 ·rw [a3x (by omega)];exact h.zero j (by omega)
 ·rw [a0P (by omega),o8]
  have h5:=h.eq
  rw [List.take_length] at h5
  grind
theorem a2B.fin {a b out:List Int} (h:a2B a b a.length out):D6 out=dg (val a*val b).toNat:=by
 rw [G9 h.ok,h.eq,List.take_length]
structure X5 (a:List Int) (d:Int) (j:Nat) (out:List Int) (r:Int):Prop where
 len:out.length=a.length
 ok:Okd out
 le:j≤a.length
 r0:0≤r
 r1:r<d
 eq:val (a.drop j)=d*val (out.drop j)+r
theorem X5.init (a:List Int) {d:Int} (hd:0<d):X5 a d a.length (List.replicate a.length 0) 0:=
 ⟨by simp,.zeros _,Nat.le_refl _,by decide,hd,by simp [val]⟩
theorem a4Z {l:List Int} {i:Nat} (h:i<l.length):val (l.drop i)=dat l i+1048576*val (l.drop (i+1)):=by
 rw [a1z (lg0 h)];exact a2G (lg0 h)
theorem a5a {l:List Int} {i:Nat} {x:Int} (h:i<l.length):dat (l.set i x) i=x:=by
 unfold dat;rw [lg3,List.getElem?_set_self h];rfl
theorem X5.step {a out:List Int} {d r:Int} {j:Nat} (h:X5 a d (j+1) out r) (ha:Okd a) (hd:0<d):
 X5 a d j (out.set j ((r*1048576+dat a j) / d)) ((r*1048576+dat a j) % d):=by
 have h1:=ha.dat j
 have h3:=h.r0
 have h4:=h.r1
 have hl:=h.len
 have hle:=h.le
 have h6:0≤(r*1048576+dat a j) / d:=Int.ediv_nonneg (by omega) (by omega)
 have h7:(r*1048576+dat a j) / d<1048576:=by
  apply Int.ediv_lt_of_lt_mul hd
  have:=Int.mul_le_mul_of_nonneg_left (a:=r+1) (b:=d) (c:=1048576) (by omega) (by omega)
  omega
 refine ⟨by simp [hl],h.ok.set ⟨h6,h7⟩,by omega,Int.emod_nonneg _ (by omega),Int.emod_lt_of_pos _ hd,?_⟩
 rw [a4Z (by omega),a4Z (l:=out.set j _) (by simp;omega),a5a (by omega),List.drop_set_of_lt (by omega),h.eq]
 have h8:=Int.emod_add_mul_ediv (r*1048576+dat a j) d
 grind
theorem X5.fin {a out:List Int} {d r:Int} (h:X5 a d 0 out r) (ha:Okd a) (hd:0<d):D6 out=dg (val a / d).toNat∧r=val a % d:=by
 have h3:=h.r0
 have h4:=h.r1
 have h5:=h.eq
 simp only [List.drop_zero] at h5
 rw [G9 h.ok]
 have e1:val a / d=val out:=by rw [h5];rw [Int.add_comm,Int.add_mul_ediv_left _ _ (by omega),Int.ediv_eq_zero_of_lt h3 h4];omega
 have e2:val a % d=r:=by rw [h5,Int.add_comm,Int.add_mul_emod_self_left,Int.emod_eq_of_lt h3 h4]
 exact ⟨by rw [e1],e2.symm⟩
structure a74 (w v:List Int) (g:Int) (i:Nat) (out:List Int) (c:Int):Prop where
 len:out.length=w.length
 ok:Okd out
 le:i≤w.length
 rest:∀j,i≤j→dat out j=dat w j
 c0:0≤c
 c1:c<1048576
 eq:val out - pw i*c=val w - g*val (v.take i)
theorem a74.init {w v:List Int} (g:Int) (hw:Okd w):a74 w v g 0 w 0:=⟨rfl,hw,Nat.zero_le _,fun _ _=>rfl,by decide,by decide,by simp [val]⟩
theorem a74.step {w v out:List Int} {g:Int} {i:Nat} {c:Int} (h:a74 w v g i out c) (hv:Okd v) (hg:0≤g∧g<1048576) (hi:i<w.length):
 a74 w v g (i+1) (out.set i ((dat out i - c - g*dat v i) % 1048576)) (-((dat out i - c - g*dat v i) / 1048576)):=by
 have h1:=h.ok.dat i
 have h2:=a2s hg (hv.dat i)
 have h3:=h.c0
 have h4:=h.c1
 have hl:=h.len
 refine ⟨by simp [hl],h.ok.set (a3S _),hi,fun j hj=>?_,by omega,by omega,?_⟩
 ·rw [a3x (by omega)];exact h.rest j (by omega)
 ·rw [a0P (by omega),o8,C8]
  have h5:=h.eq
  have h6:(dat out i - c - g*dat v i) % 1048576=dat out i - c - g*dat v i - 1048576*((dat out i - c - g*dat v i) / 1048576):=by omega
  rw [h6]
  grind
structure a4S (w v:List Int) (i:Nat) (out:List Int) (c:Int):Prop where
 len:out.length=w.length
 ok:Okd out
 le:i≤w.length
 rest:∀j,i≤j→dat out j=dat w j
 c0:0≤c
 c1:c≤1
 eq:val out+pw i*c=val w+val (v.take i)
theorem a4S.init {w v:List Int} (hw:Okd w):a4S w v 0 w 0:=⟨rfl,hw,Nat.zero_le _,fun _ _=>rfl,by decide,by decide,by simp [val]⟩
theorem a4S.step {w v out:List Int} {i:Nat} {c:Int} (h:a4S w v i out c) (hv:Okd v) (hi:i<w.length):
 a4S w v (i+1) (out.set i ((c+dat out i+dat v i) % 1048576)) ((c+dat out i+dat v i) / 1048576):=by
 have h1:=h.ok.dat i
 have h2:=hv.dat i
 have h3:=h.c0
 have h4:=h.c1
 have hl:=h.len
 refine ⟨by simp [hl],h.ok.set (a3S _),hi,fun j hj=>?_,by omega,by omega,?_⟩
 ·rw [a3x (by omega)];exact h.rest j (by omega)
 ·rw [a0P (by omega),o8,C8]
  have h5:=h.eq
  have h6:(c+dat out i+dat v i) % 1048576=c+dat out i+dat v i - 1048576*((c+dat out i+dat v i) / 1048576):=by omega
  rw [h6]
  grind
theorem a74.zero {w v out:List Int} {g c:Int} (h:a74 w v g w.length out c) (hl:v.length≤w.length) (hw:Okd w) (hv:Okd v) (hg:0≤g):
 (c=0↔g*val v≤val w)∧(c=0→val out=val w - g*val v):=by
 have h3:=h.c0
 have h5:=h.eq
 rw [lg4 (by omega)] at h5
 have h6:=R6 h.ok
 have h7:=s8 h.ok
 rw [h.len] at h6
 have h8:=N0 w.length
 have h9:0<c→pw w.length≤pw w.length*c:=fun hc=>by
  have:=Int.mul_le_mul_of_nonneg_left (a:=1) (b:=c) (c:=pw w.length) (by omega) (by omega)
  omega
 constructor
 ·constructor
  ·rintro rfl;omega
  ·intro h10
   rcases Int.lt_or_le 0 c with h11|h11
   ·have:=h9 h11;omega
   ·omega
 ·rintro rfl;omega
theorem a74.back {w v out out':List Int} {g c c':Int} (h:a74 w v g w.length out c) (h':a4S out v w.length out' c') (hl:v.length≤w.length)
 (h1:0≤val w - g*val v+val v) (h2:val w - g*val v+val v<pw w.length):val out'=val w - g*val v+val v:=by
 have h5:=h.eq
 have h6:=h'.eq
 rw [lg4 (by omega)] at h5 h6
 have h7:=R6 h'.ok
 have h8:=s8 h'.ok
 rw [h'.len,h.len] at h7
 have h9:=N0 w.length
 have e:val out'+pw w.length*(c' - c)=val w - g*val v+val v:=by grind
 rcases Int.lt_trichotomy (c' - c) 0 with hc|hc|hc
 ·have:=Int.mul_le_mul_of_nonneg_left (a:=c' - c) (b:=-1) (c:=pw w.length) (by omega) (by omega)
  omega
 ·rw [hc] at e;omega
 ·have:=Int.mul_le_mul_of_nonneg_left (a:=1) (b:=c' - c) (c:=pw w.length) (by omega) (by omega)
  omega
structure Win (P V W v1 v2 top u2:Int):Prop where
 P0:0<P
 v1l:524288≤v1
 v1u:v1<1048576
 v20:0≤v2
 v2u:v2<1048576
 u20:0≤u2
 u2u:u2<1048576
 t0:0≤top
 tu:top<1048576*1048576
 Vl:P*(v1*1048576+v2)≤V
 Vu:V<P*(v1*1048576+v2)+P
 Wl:P*(top*1048576+u2)≤W
 Wu:W<P*(top*1048576+u2)+P
 lt:W<V*1048576
theorem Win.V0 {P V W v1 v2 top u2:Int} (h:Win P V W v1 v2 top u2):0<V:=by
 have h1:=h.Vl
 have h2:=h.P0
 have h3:=h.v1l
 have h4:=h.v20
 have:=Int.mul_pos h2 (b:=v1*1048576+v2) (by omega)
 omega
structure S8 (V W v1 top g r:Int):Prop where
 g0:0≤g
 gu:g≤2097152
 r0:0≤r
 ru:r<2097152
 eq:g*v1+r=top
 hi:W<(g+1)*V
theorem S8.init {P V W v1 v2 top u2:Int} (h:Win P V W v1 v2 top u2):S8 V W v1 top (top / v1) (top % v1):=by
 have h1:=h.v1l
 have h2:=h.v1u
 have h3:=h.t0
 have h4:=h.tu
 have h5:=Int.emod_nonneg top (b:=v1) (by omega)
 have h6:=Int.emod_lt_of_pos top (b:=v1) (by omega)
 have h7:=Int.mul_ediv_add_emod top v1
 have h8:0≤top / v1:=Int.ediv_nonneg h3 (by omega)
 have hq:top / v1*v1+top % v1=top:=by rw [Int.mul_comm];exact h7
 refine ⟨h8,?_,h5,by omega,hq,?_⟩
 ·have h9:=Int.mul_le_mul_of_nonneg_left (a:=524288) (b:=v1) (c:=top / v1) h1 h8
  omega
 ·have hW:=h.Wu
  have hV:=h.Vl
  have hP:=h.P0
  have h20:=h.v20
  have hu:=h.u2u
  have e1:(top / v1+1)*(P*(v1*1048576+v2))≤(top / v1+1)*V:=Int.mul_le_mul_of_nonneg_left hV (by omega)
  have e2:top*1048576+u2+1≤(top / v1+1)*(v1*1048576+v2):=by
   have:0≤(top / v1+1)*v2:=Int.mul_nonneg (by omega) h20
   have e3:(top / v1+1)*v1≥top+1:=by grind
   grind
  have e4:=Int.mul_le_mul_of_nonneg_left (c:=P) e2 (by omega)
  grind
theorem S8.dec {P V W v1 v2 top u2 g r:Int} (h:Win P V W v1 v2 top u2) (hg:S8 V W v1 top g r) (hc:1048576≤g∨(r<1048576∧r*1048576+u2<g*v2)):
 W<g*V:=by
 have hV0:=h.V0
 rcases hc with hc|⟨hr,hc⟩
 ·have:=Int.mul_le_mul_of_nonneg_right (a:=1048576) (b:=g) (c:=V) hc (by omega)
  have:=h.lt
  omega
 ·have hW:=h.Wu
  have e1:g*(P*(v1*1048576+v2))≤g*V:=Int.mul_le_mul_of_nonneg_left h.Vl hg.g0
  have e2:top*1048576+u2+1≤g*(v1*1048576+v2):=by
   have:=hg.eq
   grind
  have e4:=Int.mul_le_mul_of_nonneg_left (c:=P) e2 (Int.le_of_lt h.P0)
  grind
theorem S8.small {P V W v1 v2 top u2 g r:Int} (h:Win P V W v1 v2 top u2) (hg:S8 V W v1 top g r) (hc:1048576≤g):r<1048576:=by
 have h1:=h.Wl
 have h2:=h.lt
 have h3:=h.Vu
 have hP:=h.P0
 have e1:P*(top*1048576+u2)<P*((v1*1048576+v2+1)*1048576):=by grind
 have e2:top*1048576+u2<(v1*1048576+v2+1)*1048576:=Int.lt_of_mul_lt_mul_left e1 (Int.le_of_lt hP)
 have h4:=h.u20
 have h5:=hg.eq
 have h6:=Int.mul_le_mul_of_nonneg_right (a:=1048576) (b:=g) (c:=v1) hc (by have:=h.v1l;omega)
 have h7:=h.v2u
 omega
theorem S8.step {P V W v1 v2 top u2 g r:Int} (h:Win P V W v1 v2 top u2) (hg:S8 V W v1 top g r) (hc:1048576≤g∨(r<1048576∧r*1048576+u2<g*v2))
 (hW0:0≤W):S8 V W v1 top (g - 1) (r+v1):=by
 have h1:=S8.dec h hg hc
 have hV0:=h.V0
 have hg0:0<g:=by
  rcases Int.lt_or_le 0 g with h2|h2
  ·exact h2
  ·have:=hg.g0
   have:g=0:=by omega
   subst this;omega
 have h2:=hg.gu
 have h3:=hg.r0
 have h4:=h.v1l
 have h5:=h.v1u
 have h6:=hg.eq
 have h7:r<1048576:=by
  rcases hc with hc|hc
  ·exact S8.small h hg hc
  ·exact hc.1
 exact ⟨by omega,by omega,by omega,by omega,by grind,by grind⟩
theorem S8.fin {P V W v1 v2 top u2 g r:Int} (h:Win P V W v1 v2 top u2) (hg:S8 V W v1 top g r) (hc:¬(1048576≤g∨(r<1048576∧r*1048576+u2<g*v2)))
 (hP:P*1048576≤V):g<1048576∧g*V≤W+V:=by
 have hg1:g<1048576:=by omega
 refine ⟨hg1,?_⟩
 have h0:=hg.g0
 have h20:=h.v20
 have h2u:=h.v2u
 have hu0:=h.u20
 have e1:g*v2≤r*1048576+u2:=by
  rcases Int.lt_or_le r 1048576 with hr|hr
  ·omega
  ·have:=a2s ⟨h0,hg1⟩ ⟨h20,h2u⟩
   omega
 have e2:g*(v1*1048576+v2)≤top*1048576+u2:=by
  have:=hg.eq
  grind
 have e3:=Int.mul_le_mul_of_nonneg_left (c:=P) e2 (Int.le_of_lt h.P0)
 have e4:g*V≤g*(P*(v1*1048576+v2)+P):=Int.mul_le_mul_of_nonneg_left (Int.le_of_lt h.Vu) h0
 have e5:g*P≤1048576*P:=Int.mul_le_mul_of_nonneg_right (Int.le_of_lt hg1) (Int.le_of_lt h.P0)
 have hW:=h.Wl
 grind
structure Bg where
 sg:Int
 dl:List Int
def bz (z:Int):Bg:=⟨z.sign,dg z.natAbs⟩
def inD (d:Int):Bool:=decide (0≤d) && decide (d≤1048575)
def E9 (b:Bg):Bool:=b.dl.all inD && (if b.dl.length=0 then b.sg == 0 else (b.sg == 1 || b.sg == -1) && !(dat b.dl (b.dl.length - 1) == 0))
def bv (b:Bg):Int:=b.sg*val b.dl
theorem aJ6 {l:List Int}:l.all inD=true↔Okd l:=by
 simp only [List.all_eq_true,inD,Bool.and_eq_true,decide_eq_true_eq]
 exact ⟨fun h d hd=>by have:=h d hd;omega,fun h d hd=>by have:=h d hd;omega⟩
theorem a2z (z:Int):bv (bz z)=z:=by
 unfold bv bz
 rw [m6]
 exact Int.sign_mul_natAbs z
theorem aZ9 {b:Bg} (h:E9 b=true):b=bz (bv b):=by
 unfold E9 at h
 rw [Bool.and_eq_true,aJ6] at h
 obtain ⟨h1,h2⟩:=h
 obtain ⟨sg,dl⟩:=b
 simp only at h1 h2
 have hv:=s8 h1
 by_cases hl:dl.length=0
 ·rw [if_pos hl] at h2
  have:dl=[]:=List.eq_nil_of_length_eq_zero hl
  subst this
  have:sg=0:=by simpa using h2
  subst this
  rfl
 ·rw [if_neg hl,Bool.and_eq_true] at h2
  have hc:Can dl:=⟨h1,fun x hx=>by rw [a1z hx] at h2;simpa using h2.2⟩
  have h3:=aC7 hc
  have hp:0<val dl:=by
   rcases Int.lt_or_le 0 (val dl) with h4|h4
   ·exact h4
   ·have:val dl=0:=by omega
    rw [this] at h3
    rw [h3] at hl
    exact absurd rfl hl
  have hs:sg=1∨sg=-1:=by simpa using h2.1
  have ha:(sg*val dl).natAbs=(val dl).toNat:=by
   rcases hs with rfl|rfl<;>omega
  have hg:(sg*val dl).sign=sg:=by
   rcases hs with rfl|rfl
   ·rw [Int.one_mul];exact Int.sign_eq_one_of_pos hp
   ·exact Int.sign_eq_neg_one_of_neg (by omega)
  unfold bz bv
  simp only
  rw [ha,hg,←h3]
theorem U0 (z:Int):E9 (bz z)=true:=by
 unfold E9
 rw [Bool.and_eq_true,aJ6]
 refine ⟨p4 _,?_⟩
 by_cases hl:(bz z).dl.length=0
 ·rw [if_pos hl]
  have h0:dg z.natAbs=[]:=List.eq_nil_of_length_eq_zero hl
  have:z=0:=by have:=M3.1 h0;omega
  subst this;rfl
 ·rw [if_neg hl]
  have hz:z≠0:=by rintro rfl;exact hl rfl
  have hl0:(dg z.natAbs).length - 1<(dg z.natAbs).length:=by have:(dg z.natAbs).length≠0:=hl;omega
  have h1:=(a0p z.natAbs).2 _ (lg0 hl0)
  have h2:dat (bz z).dl ((bz z).dl.length - 1)≠0:=by
   show dat (dg z.natAbs) ((dg z.natAbs).length - 1)≠0
   rw [a1z (lg0 hl0)];exact h1
  rw [Bool.and_eq_true]
  refine ⟨?_,by simpa using h2⟩
  show ((z.sign == 1) || (z.sign == -1))=true
  rcases Int.lt_trichotomy z 0 with h|h|h
  ·rw [Int.sign_eq_neg_one_of_neg h];rfl
  ·exact absurd h hz
  ·rw [Int.sign_eq_one_of_pos h];rfl
theorem a8B {z:Int}:(bz z).sg=z.sign:=rfl
structure Fr where
 p:Bg
 q:Bg
def fz (x:Rat):Fr:=⟨bz x.num,bz x.den⟩
def t6 (f:Fr):Bool:=E9 f.p && E9 f.q && (f.q.sg == 1) && (Int.gcd (bv f.p) (bv f.q) == 1)
def fv (f:Fr):Rat:=mkRat (bv f.p) (bv f.q).toNat
theorem a80 (x:Rat):t6 (fz x)=true:=by
 unfold t6 fz
 simp only [U0,a2z,Bool.true_and,Bool.and_eq_true]
 have hd:=x.den_pos
 refine ⟨?_,?_⟩
 ·rw [a8B,Int.sign_eq_one_of_pos (by omega)];rfl
 ·have:=x.reduced
  simp only [Int.gcd,Int.natAbs_natCast]
  rw [this];rfl
theorem b8s {f:Fr} (h:t6 f=true):f=fz (fv f):=by
 unfold t6 at h
 simp only [Bool.and_eq_true,beq_iff_eq] at h
 obtain ⟨⟨⟨h1,h2⟩,h3⟩,h4⟩:=h
 have e1:=aZ9 h1
 have e2:=aZ9 h2
 rw [e2,a8B] at h3
 have hq:0<bv f.q:=Int.sign_eq_one_iff_pos.1 h3
 have hr:Nat.Coprime (bv f.p).natAbs (bv f.q).toNat:=by
  have:(bv f.q).natAbs=(bv f.q).toNat:=by omega
  rw [← this];exact h4
 have e3:fv f=⟨bv f.p,(bv f.q).toNat,by omega,hr⟩:=(Rat.mk_eq_mkRat _ _ _ _).symm
 rw [e3]
 unfold fz
 simp only
 rw [← e1,show (((bv f.q).toNat:Nat):Int)=bv f.q by omega,←e2]
theorem b7p (x:Rat):fv (fz x)=x:=by
 unfold fv fz
 simp only [a2z,Int.toNat_natCast]
 exact Rat.mkRat_self x
theorem a5N {p q g:Int} (hq:0<q) (hg:g=Int.gcd p q):fz (Rat.divInt p q)=⟨bz (p / g),bz (q / g)⟩:=by
 unfold fz
 rw [Rat.num_divInt,Rat.den_divInt,if_neg (by omega),Int.sign_eq_one_of_pos hq,Int.one_mul,Int.gcd_comm q p,←hg]
 congr 2
 rw [hg]
 have:((q.natAbs / Int.gcd p q:Nat):Int)=(q.natAbs:Int) / (Int.gcd p q:Int):=by simp
 rw [this,show (q.natAbs:Int)=q by omega]
structure a6W (U V N L:Nat) (j:Nat) (u q:List Int):Prop where
 lu:u.length=N
 oku:Okd u
 lq:q.length=N - L
 okq:Okd q
 le:j≤N - L
 eq:val (q.drop j)*pw j*V+val u=U
 lt:val u<V*pw j
theorem a6W.init {U V:Nat} (hV:0<V) (hl:(dg V).length≤(dg U).length+1):a6W U V ((dg U).length+1) (dg V).length ((dg U).length+1 - (dg V).length) (dg U++[0]) (List.replicate ((dg U).length+1 - (dg V).length) 0):=by
 have h1:=ai8 hV
 have h2:=L7 U
 have hv:val (dg U++[0])=U:=by rw [I6,m6];simp [val]
 have hL:(dg V).length≠0:=by rw [Ne,List.length_eq_zero_iff,M3];omega
 refine ⟨by simp,(p4 U).append (by intro x hx;simp at hx;omega),by simp,.zeros _,Nat.le_refl _,?_,?_⟩
 ·rw [List.drop_of_length_le (by simp),hv];simp [val]
 ·rw [hv]
  have h3:=Int.mul_le_mul_of_nonneg_right (a:=pw ((dg V).length - 1)) (b:=V) (c:=pw ((dg U).length+1 - (dg V).length)) h1 (Int.le_of_lt (N0 _))
  rw [← a6j,show (dg V).length - 1+((dg U).length+1 - (dg V).length)=(dg U).length by omega] at h3
  omega
theorem a6W.window {U V N L j:Nat} {u q:List Int} (h:a6W U V N L (j+1) u q) (hL:(dg V).length=L):
 u=u.take j++(u.drop j).take (L+1)++u.drop (j+(L+1))∧((u.drop j).take (L+1)).length=L+1∧(u.take j).length=j∧
 val u=val (u.take j)+pw j*val ((u.drop j).take (L+1))∧val (u.drop (j+(L+1)))=0∧val ((u.drop j).take (L+1))<V*1048576:=by
 have h1:=h.lu
 have h2:=h.le
 have h3:=h.lt
 have hp:=N0 j
 have e0:(u.take j).length=j:=by simp;omega
 have e1:u.drop j=(u.drop j).take (L+1)++u.drop (j+(L+1)):=by rw [← List.drop_drop,List.take_append_drop]
 have e2:((u.drop j).take (L+1)).length=L+1:=by simp;omega
 have e3:u=u.take j++(u.drop j).take (L+1)++u.drop (j+(L+1)):=by rw [List.append_assoc,←e1,List.take_append_drop]
 have hv:=a3O u j (by omega)
 have hw:=I6 ((u.drop j).take (L+1)) (u.drop (j+(L+1)))
 rw [← e1,e2] at hw
 have h4:=s8 (h.oku.take j)
 have h5:=s8 ((h.oku.drop j).take (L+1))
 have h6:=s8 (h.oku.drop (j+(L+1)))
 have hVp:=L7 V
 rw [hL] at hVp
 have hz:val (u.drop (j+(L+1)))=0:=by
  rcases Int.lt_or_le 0 (val (u.drop (j+(L+1)))) with h7|h7
  ·exfalso
   have a1:=Int.mul_le_mul_of_nonneg_left (a:=1) (b:=val (u.drop (j+(L+1)))) (c:=pw (L+1)) (by omega) (Int.le_of_lt (N0 _))
   have a2:=Int.mul_le_mul_of_nonneg_left (a:=pw (L+1)) (b:=val (u.drop j)) (c:=pw j) (by omega) (Int.le_of_lt hp)
   have a3:=Int.mul_le_mul_of_nonneg_right (a:=(V:Int)) (b:=pw L) (c:=pw (j+1)) (Int.le_of_lt hVp) (Int.le_of_lt (N0 _))
   have a4:pw j*pw (L+1)=pw L*pw (j+1):=by rw [← a6j,←a6j];congr 1;omega
   omega
  ·omega
 rw [hz,Int.mul_zero,Int.add_zero] at hw
 rw [hw] at hv
 refine ⟨e3,e2,e0,hv,hz,?_⟩
 have a5:pw j*val ((u.drop j).take (L+1))<pw j*(V*1048576):=by
  rw [C8] at h3
  have:(V:Int)*(pw j*1048576)=pw j*(V*1048576):=by grind
  omega
 exact Int.lt_of_mul_lt_mul_left a5 (Int.le_of_lt hp)
theorem a9u (l:List Int):D6 l++List.replicate (l.length - (D6 l).length) 0=l:=by
 induction l with
 |nil=>rfl
 |cons d r ih=>
  rw [D6]
  split
  ·rename_i h
   rw [h.1] at ih
   rw [h.2]
   simp only [List.nil_append,List.length_nil,Nat.sub_zero,List.length_cons,List.replicate_succ] at ih ⊢
   rw [ih]
  ·simp only [List.cons_append,List.length_cons,Nat.add_sub_add_right]
   rw [ih]
def V3 (n:Nat) (l:List Int):List Int:=l++List.replicate (n - l.length) 0
theorem aH8 {l:List Int} (h:Okd l) {n:Nat} (hn:l.length=n):l=V3 n (dg (val l).toNat):=by
 subst hn
 have:=a9u l
 rw [G9 h] at this
 exact this.symm
theorem b1V (n:Nat) (l:List Int):val (V3 n l)=val l:=by unfold V3;rw [I6,a5T];simp
theorem a9q {n:Nat} {l:List Int} (h:l.length≤n):(V3 n l).length=n:=by unfold V3;simp;omega
theorem b08 {n:Nat} {l:List Int} (h:Okd l):Okd (V3 n l):=h.append (.zeros _)
theorem Win.of {v w:List Int} {L:Nat} (hv:Okd v) (hw:Okd w) (lv:v.length=L+2) (lw:w.length=L+3) (ht:524288≤dat v (L+1)) (hlt:val w<val v*1048576):
 Win (pw L) (val v) (val w) (dat v (L+1)) (dat v L) (dat w (L+2)*1048576+dat w (L+1)) (dat w L):=by
 have v1:=o8 v (L+1)
 have v2:=o8 v L
 have w1:=o8 w (L+2)
 have w2:=o8 w (L+1)
 have w3:=o8 w L
 rw [lg4 (by omega)] at v1 w1
 have a1:=s8 (hv.take L)
 have a2:=R6 (hv.take L)
 have a3:=s8 (hw.take L)
 have a4:=R6 (hw.take L)
 rw [List.length_take,Nat.min_eq_left (by omega)] at a2 a4
 have d1:=hv.dat (L+1)
 have d2:=hv.dat L
 have d3:=hw.dat (L+2)
 have d4:=hw.dat (L+1)
 have d5:=hw.dat L
 have p1:=C8 L
 have p2:=C8 (L+1)
 have e1:val v=pw L*(dat v (L+1)*1048576+dat v L)+val (v.take L):=by grind
 have e2:val w=pw L*((dat w (L+2)*1048576+dat w (L+1))*1048576+dat w L)+val (w.take L):=by grind
 exact ⟨N0 L,ht,by omega,by omega,by omega,by omega,by omega,by omega,by omega,by omega,by omega,by omega,by omega,hlt⟩
theorem a6W.step {U V N L j:Nat} {u q:List Int} (h:a6W U V N L (j+1) u q) (hL:(dg V).length=L) (hV:0<V) {Q:Int} (hQ:0≤Q∧Q<1048576)
 (hr0:0≤val ((u.drop j).take (L+1)) - Q*V) (hr1:val ((u.drop j).take (L+1)) - Q*V<V):
 a6W U V N L j (u.take j++V3 (L+1) (dg (val ((u.drop j).take (L+1)) - Q*V).toNat)++u.drop (j+(L+1))) (q.set j Q):=by
 obtain ⟨e3,e2,e0,hv,hz,hW⟩:=h.window hL
 have h1:=h.lu
 have h2:=h.le
 have h3:=h.lq
 have hVp:=L7 V
 rw [hL] at hVp
 have hmono:=a08 (Nat.le_succ L)
 have lp:(dg (val ((u.drop j).take (L+1)) - Q*V).toNat).length≤L+1:=J8 (by have:pw L≤pw (L+1):=hmono;omega)
 have hpl:=a9q lp
 have hvp:val (V3 (L+1) (dg (val ((u.drop j).take (L+1)) - Q*V).toNat))=val ((u.drop j).take (L+1)) - Q*V:=by
  rw [b1V,m6,Int.toNat_of_nonneg hr0]
 have hu':val (u.take j++V3 (L+1) (dg (val ((u.drop j).take (L+1)) - Q*V).toNat)++u.drop (j+(L+1)))=val (u.take j)+pw j*(val ((u.drop j).take (L+1)) - Q*V):=by
  rw [I6,hz,I6,hvp,e0];simp
 have hp:=N0 j
 have hlt:=R6 (h.oku.take j)
 rw [e0] at hlt
 refine ⟨?_,((h.oku.take j).append (b08 (p4 _))).append (h.oku.drop _),by simp [h3],h.okq.set hQ,by omega,?_,?_⟩
 ·simp only [List.length_append,hpl,e0,List.length_drop];omega
 ·rw [hu',a4Z (by simp;omega),a5a (by omega),List.drop_set_of_lt (by omega)]
  have h4:=h.eq
  rw [hv,C8] at h4
  grind
 ·rw [hu']
  have h5:=Int.mul_le_mul_of_nonneg_left (a:=val ((u.drop j).take (L+1)) - Q*V) (b:=(V:Int) - 1) (c:=pw j) (by omega) (by omega)
  have h6:pw j*((V:Int) - 1)=V*pw j - pw j:=by grind
  omega
theorem a6W.fin {U V N L:Nat} {u q:List Int} (h:a6W U V N L 0 u q) (hV:0<V):val q=(U / V:Nat)∧val u=(U % V:Nat):=by
 have h1:=h.eq
 have h2:=h.lt
 simp only [List.drop_zero,b2a,Int.mul_one] at h1 h2
 have h3:=s8 h.oku
 have h4:=s8 h.okq
 obtain ⟨Q,hQ⟩:=Int.eq_ofNat_of_zero_le h4
 obtain ⟨R,hR⟩:=Int.eq_ofNat_of_zero_le h3
 rw [hQ,hR] at h1
 rw [hR] at h2
 have e:U=R+Q*V:=by
  have:((R+Q*V:Nat):Int)=(U:Int):=by rw [← h1];simp [Int.add_comm]
  omega
 have hlt:R<V:=by omega
 rw [hQ,hR,e,Nat.add_mul_div_right _ _ hV,Nat.div_eq_of_lt hlt,Nat.add_mul_mod_self_right,Nat.mod_eq_of_lt hlt]
 simp
end
section
open St1 St2 St3 St4 St5 St6
open Go.RowKit
set_option maxRecDepth 100000
abbrev bgC (b:Bg):List C:=[.t (ti b.sg),.t (I8 b.dl)]
abbrev bgS (b:Bg):S:=.agg (bgC b)
abbrev bgB (b:Bg):Blk:={ mode:=.live,elem:=81,size:=2,rows:=[bgC b],box:=true }
theorem a2I (b:Bg):E8 [bgC b]:=by
 intro r hr c hc
 simp at hr
 subst hr
 simp [bgC] at hc
 rcases hc with rfl|rfl<;>rfl
theorem s6 {l:List Int} {i:Nat} (h:i<l.length):l[i]? =some (dat l i):=by
 unfold dat;rw [lg3,lg0 h];rfl
theorem a4V {l:List Int} (h:0<l.length):l[((l.length:Int) - 1).toNat]? =some (dat l (l.length - 1)):=by
 rw [show ((l.length:Int) - 1).toNat=l.length - 1 by omega];exact s6 (by omega)
theorem a0B {l:List Int} {n:Nat} (h:0<n) (hn:n≤l.length):l[((n:Int) - 1).toNat]? =some (dat l (n - 1)):=by
 rw [show ((n:Int) - 1).toNat=n - 1 by omega];exact s6 (by omega)
theorem a1P (b:Bg) (hl:b.dl.length≤1000000):b9 Tryz.prog 135 [bgS b] [] (e6 (E9 b)) []:=by
 have l2:(b.dl.map g9).length=b.dl.length:=by simp
 (refine a8 a7 Tryz.func135 rfl (by decide) ?_;(conv=>whnf);repeat (refine zy ?_;conv=>whnf))
 repeat' first|(refine zd ?_ ?_<;>intro h<;>first|exact zc h|(exfalso;omega)|conv=>whnf)|((first|refine zz ?_|refine zy ?_);conv=>whnf)
 refine f6 a7 (fun k=>([J,S.c (C.ptr 0 0 0),J,a9 .i64 b.dl.length,J,J,J,J,J,J,g6 b.dl,a9 .i64 b.dl.length,a9 .i64 k,J,J,J,J,J,J,J,J,J,J,J,J,J,J,J,J,J,J,J,J,J,J,J,J,J,J,J,J,J,J,J,J],[bgB b])) b.dl.length (fun k=>(b.dl.take k).all inD=true) [some 0] rfl
  ⟨rfl,rfl,⟨⟨rfl,rfl,rfl,.inl ⟨rfl,a2I b⟩⟩,trivial⟩,⟨⟨rfl,rfl,rfl⟩,c9 (by simp),j0 rfl,c9 (by simp),c9 rfl,trivial⟩⟩ ?_
 intro k hk hI
 conv=>whnf
 repeat' first|(refine zd ?_ ?_<;>intro h<;>first|exact zc h|(exfalso;omega)|conv=>whnf)|((first|refine zz ?_|refine d7 (s6 (by omega)) ?_|refine B5 (by omega) (a4V (by omega)) ?_|refine zy ?_);conv=>whnf)
 all_goals first
  |(have hlt:k<b.dl.length:=by omega
    refine ⟨hlt,?_,[some 0],rfl,rfl,⟨⟨rfl,rfl,rfl,.inl ⟨rfl,a2I b⟩⟩,trivial⟩,⟨⟨rfl,rfl,rfl⟩,rfl,rfl,rfl,rfl,trivial⟩⟩;rw [o4 (s6 hlt),hI];simp [inD];omega)
  |(have hlt:k<b.dl.length:=by omega
    refine c6 ?_;unfold E9;rw [t7 (s6 hlt) (by simp [inD];omega)];rfl)
  |(have ha:b.dl.all inD=true:=by rw [← hI,lg4 (by omega)]
    refine c6 ?_;unfold E9;rw [ha];simp_all;done)
theorem a2j (l:List Int) (hl:l.length≤1000000):b9 Tryz.prog 265 [g6 l] [] (g6 (D6 l)) []:=by
 have l2:(l.map g9).length=l.length:=by simp
 (refine a8 a7 Tryz.func265 rfl (by decide) ?_;(conv=>whnf);repeat (refine zy ?_;conv=>whnf))
 repeat' first|(refine zd ?_ ?_<;>intro h<;>first|exact zc h|(exfalso;omega)|conv=>whnf)|((first|refine zz ?_|refine zy ?_);conv=>whnf)
 refine m9 a7 (σ:=Nat) (fun n=>([g6 l,J,J,a9 .i64 n,J,J,J,J,J,J,J,J,J,J,J,J,J,J,J,J,J],[])) (fun n=>n≤l.length∧∀j x,n≤j→l[j]? =some x→x=0) (fun n=>n) l.length []
  ⟨Nat.le_refl _,fun j x hj hx=>by rw [List.getElem?_eq_none hj] at hx;cases hx⟩ ⟨rfl,rfl,trivial,⟨j0 rfl,c9 (by simp),trivial⟩⟩ ?_
 rintro n ⟨hn,hz⟩
 have hn:n≤l.length:=hn
 conv=>whnf
 repeat' first|(refine zd ?_ ?_<;>intro h<;>first|exact zc h|(exfalso;omega)|conv=>whnf)|((first|refine zz ?_|refine B5 (by omega) (a0B (by omega) hn) ?_|refine a0D (by omega) (by omega) (by omega) ?_|refine zy ?_);conv=>whnf)
 ·have h0:dat l (n - 1)=0:=by assumption
  have h1:0<n:=by omega
  refine ⟨[],n - 1,⟨rfl,rfl,trivial,⟨rfl,c9 (by omega),trivial⟩⟩,⟨by omega,fun j x hj hxj=>?_⟩,by show n - 1<n;omega⟩
  by_cases hj2:j=n - 1
  ·subst hj2;rw [s6 (by omega)] at hxj;injection hxj with hx;rw [← hx];exact h0
  ·exact hz j x (by omega) hxj
 all_goals
  have e:l.take n=D6 l:=a1X hz (fun x h0 hx=>by
   first
    |(exfalso;omega)
    |(rw [s6 (by omega)] at hx;injection hx with hx;rw [← hx];assumption)) hn
  refine b4B ?_ rfl
  rw [← e]
  simp [List.map_take]
end
section
open St1 St2 St3 St4 St5 St6
open Go.RowKit
set_option maxRecDepth 100000
theorem b2E (l:List Int) (hl:l.length≤1000000):b9 Tryz.prog 265 [X2 0 l] [x8 l] (.c (.own 0 0 (D6 l).length true)) [x8 l]:=by
 (refine a8 a7 Tryz.func265 rfl (by decide) ?_;(conv=>whnf);repeat (refine zy ?_;conv=>whnf))
 repeat' first|(refine zd ?_ ?_<;>intro h<;>first|exact zc h|(exfalso;omega)|conv=>whnf)|((first|refine zz ?_|refine zy ?_);conv=>whnf)
 refine m9 a7 (σ:=Nat) (fun n=>([X2 0 l,J,J,a9 .i64 n,J,J,J,J,J,J,J,J,J,J,J,J,J,J,J,J,J],[x8 l])) (fun n=>n≤l.length∧∀j x,n≤j→l[j]? =some x→x=0) (fun n=>n) l.length [some 0]
  ⟨Nat.le_refl _,fun j x hj hx=>by rw [List.getElem?_eq_none hj] at hx;cases hx⟩ ⟨rfl,rfl,⟨b8 rfl rfl rfl rfl rfl,trivial⟩,⟨j9 rfl rfl,c9 rfl,trivial⟩⟩ ?_
 rintro n ⟨hn,hz⟩
 have hn:n≤l.length:=hn
 have hg:0<n→l[0+((n:Int) - 1).toNat]? =some (dat l (n - 1)):=fun h=>by rw [Nat.zero_add];exact a0B h hn
 conv=>whnf
 repeat' first|(refine zd ?_ ?_<;>intro h<;>first|exact zc h|(exfalso;omega)|conv=>whnf)|((first|refine zz ?_|refine o6 (hg (by omega)) ?_|refine a0D (by omega) (by omega) (by omega) ?_|refine zy ?_);conv=>whnf)
 ·have h0:dat l (n - 1)=0:=by assumption
  have h1:0<n:=by omega
  refine ⟨[some 0],n - 1,⟨rfl,rfl,⟨b8 rfl rfl rfl rfl rfl,trivial⟩,⟨j9 rfl rfl,c9 (by omega),trivial⟩⟩,⟨by omega,fun j x hj hxj=>?_⟩,by show n - 1<n;omega⟩
  by_cases hj2:j=n - 1
  ·subst hj2;rw [s6 (by omega)] at hxj;injection hxj with hx;rw [← hx];exact h0
  ·exact hz j x (by omega) hxj
 all_goals
  have e:l.take n=D6 l:=a1X hz (fun x h0 hx=>by
   first
    |(exfalso;omega)
    |(rw [s6 (by omega)] at hx;injection hx with hx;rw [← hx];assumption)) hn
  have e2:(D6 l).length=n:=by rw [← e];simp;omega
  exact ⟨⟨[some 0],rfl,rfl,⟨b8 rfl rfl rfl rfl rfl,trivial⟩,⟨rfl,rfl,by rw [e2];omega,fun h=>h⟩⟩⟩
theorem ae5 {n:Nat} {K:Prop} (h:0<n) (k:K):0<n∧K:=⟨h,k⟩
theorem a7l (l:List Int) (hl:l.length≤1000000):b9 Tryz.prog 207 [g6 l] [] (g6 l) []:=by
 have l2:(l.map g9).length=l.length:=by simp
 cases l with
 |nil=>
  refine a9X 0 rfl ?_ ?_
  ·(refine a8 a7 Tryz.func207 rfl (by decide) ?_;(conv=>whnf);repeat (refine zy ?_;conv=>whnf))
   repeat' first|(refine zd ?_ ?_<;>intro h<;>first|exact zc h|(exfalso;omega)|conv=>whnf)|((first|refine zz ?_|refine zy ?_);conv=>whnf)
   exact j5 (show a6Z [] _ _ _ from rfl)
  ·(refine a8 a7 Tryz.func207 rfl (by decide) ?_;(conv=>whnf);repeat (refine zy ?_;conv=>whnf))
   repeat' first|(refine zd ?_ ?_<;>intro h<;>first|exact zc h|(exfalso;omega)|conv=>whnf)|((first|refine zz ?_|refine qp toC ?_|refine ae5 (by simp) ?_|refine af8 (by omega) (by omega) rfl (by omega) ?_|refine a0X rfl (by simp [toC]) ?_|refine zy ?_);conv=>whnf)
   exact N4 rfl (by intro h;cases h) rfl rfl (by simp [toC])
 |cons a r=>
  (refine a8 a7 Tryz.func207 rfl (by decide) ?_;(conv=>whnf);repeat (refine zy ?_;conv=>whnf))
  repeat' first|(refine zd ?_ ?_<;>intro h<;>first|exact zc h|(exfalso;omega)|conv=>whnf)|((first|refine zz ?_|refine qp toC ?_|refine ae5 (by simp) ?_|refine af8 (by omega) (by omega) rfl (by omega) ?_|refine a0X rfl (by simp [toC] at *;omega) ?_|refine zy ?_);conv=>whnf)
  exact N4 rfl (by intro h;cases h) rfl rfl (by simp [toC])
theorem aT4 (l:List Int) (hl:l.length≤1000000):b9 Tryz.prog 207 [g6 l] [] (X2 0 l) [x8 l]:=by
 have l2:(l.map g9).length=l.length:=by simp
 cases l with
 |nil=>
  refine a9X 0 rfl ?_ ?_
  ·(refine a8 a7 Tryz.func207 rfl (by decide) ?_;(conv=>whnf);repeat (refine zy ?_;conv=>whnf))
   repeat' first|(refine zd ?_ ?_<;>intro h<;>first|exact zc h|(exfalso;omega)|conv=>whnf)|((first|refine zz ?_|refine zy ?_);conv=>whnf)
   exact ⟨⟨[none],rfl,rfl,⟨⟨rfl,rfl⟩,trivial⟩,⟨rfl,rfl,rfl⟩⟩⟩
  ·(refine a8 a7 Tryz.func207 rfl (by decide) ?_;(conv=>whnf);repeat (refine zy ?_;conv=>whnf))
   repeat' first|(refine zd ?_ ?_<;>intro h<;>first|exact zc h|(exfalso;omega)|conv=>whnf)|((first|refine zz ?_|refine qp toC ?_|refine ae5 (by simp) ?_|refine af8 (by omega) (by omega) rfl (by omega) ?_|refine a0X rfl (by simp [toC]) ?_|refine zy ?_);conv=>whnf)
   exact ⟨⟨[some 0],rfl,rfl,⟨b8 rfl rfl rfl rfl rfl,trivial⟩,⟨rfl,rfl,by simp [toC],fun h=>h⟩⟩⟩
 |cons a r=>
  (refine a8 a7 Tryz.func207 rfl (by decide) ?_;(conv=>whnf);repeat (refine zy ?_;conv=>whnf))
  repeat' first|(refine zd ?_ ?_<;>intro h<;>first|exact zc h|(exfalso;omega)|conv=>whnf)|((first|refine zz ?_|refine qp toC ?_|refine ae5 (by simp) ?_|refine af8 (by omega) (by omega) rfl (by omega) ?_|refine a0X rfl (by simp [toC] at *;omega) ?_|refine zy ?_);conv=>whnf)
  exact ⟨⟨[some 0],rfl,rfl,⟨b8 rfl rfl rfl rfl rfl,trivial⟩,⟨rfl,rfl,by simp [toC],fun h=>h⟩⟩⟩
theorem b1S (x:Int):b9 Tryz.prog 268 [a9 .i64 x] [] (e6 false) []:=by
 (refine a8 a7 Tryz.func268 rfl (by decide) ?_;(conv=>whnf);repeat (refine zy ?_;conv=>whnf))
 repeat' first|(refine zd ?_ ?_<;>intro h<;>first|exact zc h|(exfalso;omega)|conv=>whnf)|((first|refine zz ?_|refine zy ?_);conv=>whnf)
 all_goals first
  |(exfalso;omega)
  |exact c6 rfl
def J2 (x y:Int):Int:=if x<y then -1 else if x > y then 1 else 0
theorem a1V (x y:Int):b9 Tryz.prog 211 [a9 .i64 x,a9 .i64 y] [] (a9 .i64 (J2 x y)) []:=by
 (refine a8 a7 Tryz.func211 rfl (by decide) ?_;(conv=>whnf);repeat (refine zy ?_;conv=>whnf))
 repeat' first|(refine zd ?_ ?_<;>intro h<;>first|exact zc h|(exfalso;omega)|conv=>whnf)|((first|refine zz ?_|refine qp (b1S _) ?_|refine zy ?_);conv=>whnf)
 all_goals first
  |(exfalso;simp_all;done)
  |(refine j8 ?_;unfold J2;split<;>first|omega|(split<;>omega))
theorem a24 (x y:Int):b9 Tryz.prog 214 [.c (.t (.sl 1 .full ([x,y].map g9)))] [] (a9 .i64 (if x=0 then y else x)) []:=by
 (refine a8 a7 Tryz.func214 rfl (by decide) ?_;(conv=>whnf);repeat (refine zy ?_;conv=>whnf))
 repeat' first|(refine zd ?_ ?_<;>intro h<;>first|exact zc h|(exfalso;omega)|conv=>whnf)|((first|refine zz ?_|refine zy ?_);conv=>whnf)
 refine f6 a7 (fun k=>([J,J,J,a9 .i64 0,J,J,S.c (C.t (T.sl 1 .full ([x,y].map g9))),a9 .i64 2,a9 .i64 k,J,J,J,J,J,J,J,J,J],[])) 2 (fun k=>∀v ∈ [x,y].take k,v=0) [] (by simp)
  ⟨rfl,rfl,trivial,⟨rfl,j0 rfl,c9 rfl,c9 rfl,trivial⟩⟩ ?_
 intro k hk hI
 conv=>whnf
 repeat' first|(refine zd ?_ ?_<;>intro h<;>first|exact zc h|(exfalso;omega)|conv=>whnf)|((first|refine zz ?_|refine zy ?_);conv=>whnf)
 ·have hlt:k<2:=by omega
  obtain ⟨v,hv⟩:∃v,[x,y][k]? =some v:=⟨_,lg0 (by simpa using hlt)⟩
  refine d7 hv ?_
  conv=>whnf
  repeat' first|(refine zd ?_ ?_<;>intro h<;>first|exact zc h|(exfalso;omega)|conv=>whnf)|((first|refine zz ?_|refine zy ?_);conv=>whnf)
  ·refine j8 ?_
   match k,hlt with
   |0,_=>simp at hv;subst hv;rw [if_neg (by assumption)]
   |1,_=>simp at hv;subst hv;rw [if_pos (hI x (by simp))]
  ·refine ⟨hlt,?_,[],rfl,rfl,trivial,⟨rfl,rfl,rfl,rfl,trivial⟩⟩
   intro u hu
   rw [List.take_add_one,hv] at hu
   rcases List.mem_append.1 hu with hu|hu
   ·exact hI u hu
   ·simp at hu;subst hu;omega
 ·have h1:=hI x (by rw [lg4 (by simp;omega)];simp)
  have h2:=hI y (by rw [lg4 (by simp;omega)];simp)
  refine j8 ?_
  rw [if_pos h1,h2]
def sgn (s:Int) (l:List Int):Bg:=if (D6 l).length=0 then ⟨0,[]⟩ else ⟨s,D6 l⟩
theorem au2 (s:Int) (l:List Int) (hl:l.length≤1000000):b9 Tryz.prog 209 [a9 .i64 s,g6 l] [] (bgS (sgn s l)) []:=by
 (refine a8 a7 Tryz.func209 rfl (by decide) ?_;(conv=>whnf);repeat (refine zy ?_;conv=>whnf))
 repeat' first|(refine zd ?_ ?_<;>intro h<;>first|exact zc h|(exfalso;omega)|conv=>whnf)|((first|refine zz ?_|refine qp (a2j l hl) ?_|refine zy ?_);conv=>whnf)
 ·have h0:(D6 l).length=0:=by simp at *;assumption
  unfold sgn
  rw [if_pos h0]
  exact j5 ⟨rfl,rfl,trivial⟩
 ·have h0:¬(D6 l).length=0:=by simp at *;assumption
  unfold sgn
  rw [if_neg h0]
  exact j5 ⟨rfl,rfl,trivial⟩
theorem E6 (r:Bool) (b:Bg):b9 Tryz.prog 206 [e6 r,bgS b] [] (.tup [bgS (if r then b else ⟨0,[]⟩),a9 .i64 (if r then 0 else 1)]) []:=by
 cases r<;>
 ·(refine a8 a7 Tryz.func206 rfl (by decide) ?_;(conv=>whnf);repeat (refine zy ?_;conv=>whnf))
  repeat' first|(refine zd ?_ ?_<;>intro h<;>first|exact zc h|(exfalso;omega)|conv=>whnf)|((first|refine zz ?_|refine zy ?_);conv=>whnf)
  exact j5 ⟨⟨rfl,rfl,trivial⟩,rfl,trivial⟩
end
section
open St1 St2 St3 St4 St5 St6
open Go.RowKit
set_option maxRecDepth 100000
theorem a25 {x y:Int} (h:x<y):J2 x y=-1:=by unfold J2;rw [if_pos h]
theorem a7q {x y:Int} (h:y<x):J2 x y=1:=by unfold J2;rw [if_neg (by omega),if_pos h]
theorem b2x {x y:Int} (h:x=y):J2 x y=0:=by unfold J2;rw [if_neg (by omega),if_neg (by omega)]
theorem ay3 {s:Int} {l:List Int} (h:Okd l) (hs:s=1∨s=-1∨val l=0):sgn s l=bz (s*val l):=by
 have hv:=s8 h
 unfold sgn bz
 rw [G9 h]
 by_cases h0:val l=0
 ·rw [h0,Int.mul_zero];rfl
 ·have h1:(dg (val l).toNat).length≠0:=by rw [Ne,List.length_eq_zero_iff,M3];omega
  rw [if_neg h1]
  rcases hs with rfl|rfl|h2
  ·rw [Int.sign_eq_one_of_pos (by omega)]
   congr 2;omega
  ·rw [Int.sign_eq_neg_one_of_neg (by omega)]
   congr 2;omega
  ·exact absurd h2 h0
theorem a1E (a b:List Int) (ha:Can a) (hb:Can b) (la:a.length≤1000000) (lb:b.length≤1000000):
 b9 Tryz.prog 212 [g6 a,g6 b] [] (a9 .i64 (J2 (val a) (val b))) []:=by
 have l1:(a.map g9).length=a.length:=by simp
 have l2:(b.map g9).length=b.length:=by simp
 have key:∀{x y:List Int},Can x→Can y→x.length<y.length→val x<val y:=fun {x y} hx hy h=>by
  rw [aC7 hx,aC7 hy] at h
  have:=ak4 h
  have:=s8 hx.1
  omega
 by_cases hl:a.length=b.length
 ·(refine a8 a7 Tryz.func212 rfl (by decide) ?_;(conv=>whnf);repeat (refine zy ?_;conv=>whnf))
  repeat' first|(refine zd ?_ ?_<;>intro h<;>first|exact zc h|(exfalso;omega)|conv=>whnf)|((first|refine zz ?_|refine zy ?_);conv=>whnf)
  refine m9 a7 (σ:=Nat) (fun k=>([g6 a,g6 b,J,J,J,a9 .i64 ((k:Int) - 1),J,J,J,J,J,J,J,J,J,J,J,J,J,J,J,J,J,J,J,J,J,J,J,J,J,J,J,J,J,J,J,J,J,J,J],[])) (fun k=>k≤a.length∧a.drop k=b.drop k) (fun k=>k) a.length []
   ⟨Nat.le_refl _,by rw [List.drop_of_length_le (Nat.le_refl _),List.drop_of_length_le (by omega)]⟩ ⟨rfl,rfl,trivial,⟨j0 rfl,j0 rfl,c9 (by simp),trivial⟩⟩ ?_
  rintro k ⟨hk,hd⟩
  have hk:k≤a.length:=hk
  have hd:a.drop k=b.drop k:=hd
  conv=>whnf
  repeat' first|(refine zd ?_ ?_<;>intro h<;>first|exact zc h|(exfalso;omega)|conv=>whnf)|((first|refine zz ?_|refine qp (a1V _ _) ?_|refine B5 (by omega) (a0B (by omega) hk) ?_|refine B5 (by omega) (a0B (by omega) (hl ▸ hk)) ?_|refine zy ?_);conv=>whnf)
  all_goals first
   |(have hp:0<k:=by omega
     have e:k - 1+1=k:=by omega
     have gx:=s6 (l:=a) (i:=k - 1) (by omega)
     have gy:=s6 (l:=b) (i:=k - 1) (by omega)
     refine j8 ?_
     rcases Int.lt_trichotomy (dat a (k - 1)) (dat b (k - 1)) with h|h|h
     ·rw [a25 h,a25 (a6w ha.1 hb.1 hl gx gy (by rw [e];exact hd) h)]
     ·exfalso;simp_all;done
     ·rw [a7q h,a7q (a6w hb.1 ha.1 hl.symm gy gx (by rw [e];exact hd.symm) h)])
   |(have hp:0<k:=by omega
     have hq:dat a (k - 1)=dat b (k - 1):=by omega
     refine ⟨[],k - 1,⟨rfl,rfl,trivial,⟨rfl,rfl,c9 (by omega),trivial⟩⟩,⟨by omega,?_⟩,by show k - 1<k;omega⟩
     rw [List.drop_eq_getElem_cons (by omega:k - 1<a.length),List.drop_eq_getElem_cons (by omega:k - 1<b.length),show k - 1+1=k by omega,hd]
     congr 1
     have gx:=s6 (l:=a) (i:=k - 1) (by omega)
     have gy:=s6 (l:=b) (i:=k - 1) (by omega)
     rw [lg0 (by omega)] at gx gy
     injection gx with gx
     injection gy with gy
     rw [gx,gy,hq])
   |(have:k=0:=by omega
     subst this
     simp only [List.drop_zero] at hd
     refine j8 ?_
     rw [hd,b2x rfl])
 ·(refine a8 a7 Tryz.func212 rfl (by decide) ?_;(conv=>whnf);repeat (refine zy ?_;conv=>whnf))
  repeat' first|(refine zd ?_ ?_<;>intro h<;>first|exact zc h|(exfalso;omega)|conv=>whnf)|((first|refine zz ?_|refine qp (a1V _ _) ?_|refine zy ?_);conv=>whnf)
  all_goals first
   |(exfalso;omega)
   |(refine j8 ?_
     rcases Nat.lt_or_gt_of_ne hl with h|h
     ·rw [a25 (by omega),a25 (key ha hb h)]
     ·rw [a7q (by omega),a7q (key hb ha h)])
def aP4 (a b:Bg):Int:=if E9 a && E9 b then J2 (bv a) (bv b) else 0
theorem aC3 (x:Int):Can (bz x).dl:=a0p _
theorem aj1 (x:Int):val (bz x).dl=x.natAbs:=m6 _
theorem A6 (x:Int):x.sign=0∧x=0∨x.sign=1∧0<x∨x.sign=-1∧x<0:=by
 rcases Int.lt_trichotomy x 0 with h|h|h
 ·exact .inr (.inr ⟨Int.sign_eq_neg_one_of_neg h,h⟩)
 ·subst h;exact .inl ⟨rfl,rfl⟩
 ·exact .inr (.inl ⟨Int.sign_eq_one_of_pos h,h⟩)
theorem aN9 {x y:Int} (h:x.sign≠y.sign):J2 x.sign y.sign=J2 x y:=by
 rcases A6 x with ⟨e,h1⟩|⟨e,h1⟩|⟨e,h1⟩<;>rcases A6 y with ⟨f,h2⟩|⟨f,h2⟩|⟨f,h2⟩<;>rw [e,f] at h ⊢<;>unfold J2<;>(repeat' split)<;>omega
theorem aZ1 {x y:Int} (h:x.sign=y.sign):x.sign*J2 x.natAbs y.natAbs=J2 x y:=by
 rcases A6 x with ⟨e,h1⟩|⟨e,h1⟩|⟨e,h1⟩<;>rcases A6 y with ⟨f,h2⟩|⟨f,h2⟩|⟨f,h2⟩<;>rw [e,f] at h<;>try omega
 all_goals (rw [e];unfold J2;(repeat' split)<;>omega)
theorem b0N (x y:Int):-1≤J2 x y∧J2 x y≤1:=by unfold J2;split<;>(try split)<;>omega
theorem a7P {b:Bg} (h:E9 b=true):∃z,b=bz z:=⟨_,aZ9 h⟩
theorem aA3 (a b:Bg) (la:a.dl.length≤1000000) (lb:b.dl.length≤1000000):
 b9 Tryz.prog 139 [bgS a,bgS b] [] (a9 .i64 (aP4 a b)) []:=by
 have r1:=a1P a la
 have r2:=a1P b lb
 cases ha:E9 a with
 |false=>
  rw [ha] at r1
  (refine a8 a7 Tryz.func139 rfl (by decide) ?_;(conv=>whnf);repeat (refine zy ?_;conv=>whnf))
  repeat' first|(refine zd ?_ ?_<;>intro h<;>first|exact zc h|(exfalso;omega)|conv=>whnf)|((first|refine zz ?_|refine qp r1 ?_|refine qp r2 ?_|refine zy ?_);conv=>whnf)
  all_goals (first|(exfalso;simp_all;done)|(refine j8 ?_;unfold aP4;rw [ha];rfl))
 |true=>
  rw [ha] at r1
  cases hb:E9 b with
  |false=>
   rw [hb] at r2
   (refine a8 a7 Tryz.func139 rfl (by decide) ?_;(conv=>whnf);repeat (refine zy ?_;conv=>whnf))
   repeat' first|(refine zd ?_ ?_<;>intro h<;>first|exact zc h|(exfalso;omega)|conv=>whnf)|((first|refine zz ?_|refine qp r1 ?_|refine qp r2 ?_|refine zy ?_);conv=>whnf)
   all_goals (first|(exfalso;simp_all;done)|(refine j8 ?_;unfold aP4;rw [ha,hb];rfl))
  |true=>
   rw [hb] at r2
   obtain ⟨x,rfl⟩:=a7P ha
   obtain ⟨y,rfl⟩:=a7P hb
   have c:=a1E (bz x).dl (bz y).dl (aC3 x) (aC3 y) la lb
   rw [aj1,aj1] at c
   have e:aP4 (bz x) (bz y)=J2 x y:=by unfold aP4;rw [ha,hb,a2z,a2z];rfl
   rw [e]
   have hr:=b0N x y
   by_cases hs:x.sign=y.sign
   ·have hs':(bz x).sg=(bz y).sg:=hs
    have e2:=aZ1 hs
    (refine a8 a7 Tryz.func139 rfl (by decide) ?_;(conv=>whnf);repeat (refine zy ?_;conv=>whnf))
    repeat' first|(refine zd ?_ ?_<;>intro h<;>first|exact zc h|(exfalso;omega)|conv=>whnf)|((first|refine zz ?_|refine qp r1 ?_|refine qp r2 ?_|refine qp c ?_|refine ⟨_,y9 e2 (by omega) (by omega),?_⟩|refine zy ?_);conv=>whnf)
    all_goals first
     |(exfalso;omega)
     |(exfalso;simp_all;done)
     |exact j8 rfl
   ·have hs':(bz x).sg≠(bz y).sg:=hs
    (refine a8 a7 Tryz.func139 rfl (by decide) ?_;(conv=>whnf);repeat (refine zy ?_;conv=>whnf))
    repeat' first|(refine zd ?_ ?_<;>intro h<;>first|exact zc h|(exfalso;omega)|conv=>whnf)|((first|refine zz ?_|refine qp r1 ?_|refine qp r2 ?_|refine qp (a1V _ _) ?_|refine zy ?_);conv=>whnf)
    all_goals first
     |(exfalso;omega)
     |(exfalso;simp_all;done)
     |exact j8 (aN9 hs)
def aS1 (a:Bg):Bg:=if E9 a then bz (-bv a) else ⟨0,[]⟩
theorem b48 (a:Bg) (la:a.dl.length≤1000000):b9 Tryz.prog 141 [bgS a] [] (bgS (aS1 a)) []:=by
 have r1:=a1P a la
 cases ha:E9 a with
 |false=>
  rw [ha] at r1
  have e:aS1 a=⟨0,[]⟩:=by unfold aS1;rw [ha];rfl
  rw [e]
  (refine a8 a7 Tryz.func141 rfl (by decide) ?_;(conv=>whnf);repeat (refine zy ?_;conv=>whnf))
  repeat' first|(refine zd ?_ ?_<;>intro h<;>first|exact zc h|(exfalso;omega)|conv=>whnf)|((first|refine zz ?_|refine qp r1 ?_|refine zy ?_);conv=>whnf)
  all_goals (first|(exfalso;simp_all;done)|exact j5 ⟨rfl,rfl,trivial⟩)
 |true=>
  rw [ha] at r1
  obtain ⟨x,rfl⟩:=a7P ha
  have e:aS1 (bz x)=sgn (0 - (bz x).sg) (bz x).dl:=by
   rw [Int.zero_sub]
   unfold aS1
   rw [ha,ay3 (aC3 x).1 (by rcases A6 x with ⟨h,h1⟩|⟨h,h1⟩|⟨h,h1⟩<;>rw [a8B,h]<;>simp [h1,aj1]),a2z,aj1,a8B]
   show bz (-x)=_
   congr 1
   rw [Int.neg_mul,Int.sign_mul_natAbs]
  rw [e]
  have hs:-1≤(bz x).sg∧(bz x).sg≤1:=by rcases A6 x with ⟨h,h1⟩|⟨h,h1⟩|⟨h,h1⟩<;>rw [a8B,h]<;>decide
  (refine a8 a7 Tryz.func141 rfl (by decide) ?_;(conv=>whnf);repeat (refine zy ?_;conv=>whnf))
  repeat' first|(refine zd ?_ ?_<;>intro h<;>first|exact zc h|(exfalso;omega)|conv=>whnf)|((first|refine zz ?_|refine qp r1 ?_|refine qp (a7l _ la) ?_|refine qp (au2 _ _ la) ?_|refine zy ?_);conv=>whnf)
  all_goals (first|(exfalso;simp_all;done)|exact j5 ⟨rfl,rfl,trivial⟩)
end
section
open St1 St2 St3 St4 St5 St6
open Go.RowKit
set_option maxRecDepth 100000
theorem a5j {a:Int} (j:Nat) (hj:j≤62):IntKind.wrap .i64 (BitVec.ofInt (IntKind.bits .i64) a &&& BitVec.ofInt (IntKind.bits .i64) ((2 ^ j - 1:Nat):Int)).toNat=a % ((2 ^ j:Nat):Int):=by
 rw [ar5 rfl a j hj]
 have hp:(2:Nat) ^ j≤2 ^ 62:=Nat.pow_le_pow_right (by decide) hj
 have h0:0<(2:Nat) ^ j:=Nat.pow_pos (by decide)
 have h1:0≤a % ((2 ^ j:Nat):Int):=Int.emod_nonneg _ (by omega)
 have h2:a % ((2 ^ j:Nat):Int)<((2 ^ j:Nat):Int):=Int.emod_lt_of_pos _ (by omega)
 rw [Int.toNat_of_nonneg h1]
 exact (show D9 .i64 _ _ from a3y (by omega) (by omega)).symm
structure ad1 (m n:Int):Prop where
 ok:∀a:Int,R5 .and .i64 a m (a % n)
theorem a4j:ad1 1048575 1048576:=⟨fun a=>(a5j (a:=a) 20 (by decide)).symm⟩
theorem a8k:ad1 1 2:=⟨fun a=>(a5j (a:=a) 1 (by decide)).symm⟩
theorem a8R (a:Int):aG0 .i64 a 20 (a / 1048576):=by
 show a / 1048576=a.fdiv 1048576
 exact (Int.fdiv_eq_ediv_of_nonneg _ (by decide)).symm
theorem H8 {l:List Int} {i:Nat} {n:Int} {v:Int} (h:0+n.toNat=i):(toC (l.map g9)).set (0+n.toNat) [C.t (ti v)]=toC ((l.set i v).map g9):=by
 rw [h];simp [toC,g9,List.map_set]
theorem J3 {l:List Int} {n:Int} {i:Nat} (h:n.toNat=i) (hi:i<l.length):l[0+n.toNat]? =some (dat l i):=by rw [Nat.zero_add,h];exact s6 hi
theorem b3v (a b:List Int) (ha:Okd a) (hb:Okd b) (la:a.length≤400000) (lb:b.length≤400000) (hab:b.length≤a.length):
 b9 Tryz.prog 215 [g6 a,g6 b] [] (g6 (dg (val a+val b).toNat)) []:=by
 have l1:(a.map g9).length=a.length:=by simp
 have l2:(b.map g9).length=b.length:=by simp
 (refine a8 a7 Tryz.func215 rfl (by decide) ?_;(conv=>whnf);repeat (refine zy ?_;conv=>whnf))
 repeat' first|(refine zd ?_ ?_<;>intro h<;>first|exact zc h|(exfalso;omega)|conv=>whnf)|((first|refine zz ?_|refine a3n (by omega) (by omega) (by omega) (by decide) ?_|refine zy ?_);conv=>whnf)
 refine m9 a7 (σ:=Nat × List Int × Int) (fun|(k,out,c)=>([g6 a,g6 b,J,J,J,X2 0 out,a9 .i64 c,J,J,J,J,J,J,J,J,J,J,J,J,J,g6 a,a9 .i64 a.length,a9 .i64 k,J,J,J,J,J,J,J,J,J,J,J,J,J,J,J,J,J,J,J,J,J,J,J,J,J,J,J,J,J,J,J,J],[x8 out])) (fun x=>a64 a b x.1 x.2.1 x.2.2) (fun x=>a.length - x.1) (0,List.replicate (a.length+1) 0,0) [some 0]
  (a64.init _ _) ⟨rfl,rfl,⟨b8 rfl rfl rfl ?_ rfl,trivial⟩,⟨j0 rfl,j0 rfl,j9 rfl (by simp),rfl,j0 rfl,c9 (by simp),rfl,trivial⟩⟩ ?_
 ·show List.replicate _ _=_
  simp [toC,g9,E0]
 rintro ⟨k,out,c⟩ hI
 have hI:a64 a b k out c:=hI
 have hlen:=hI.len
 have hle:=hI.le
 have hc0:=hI.c0
 have hc1:=hI.c1
 conv=>whnf
 have hda:=ha.dat k
 have hdb:=hb.dat k
 repeat' first|(refine zd ?_ ?_<;>intro h<;>first|exact zc h|(exfalso;omega)|conv=>whnf)|((first|refine zz ?_|refine d7 (s6 (by omega)) ?_|refine X7 (by omega) (by show _<((out.length:Nat):Int);omega) ?_|refine o6 (J3 rfl (by omega)) ?_|refine ⟨_,ad1.ok (by first|exact a4j|exact a8k) _,?_⟩|refine ⟨by decide,_,a8R _,?_⟩|refine zy ?_);conv=>whnf)
 ·refine ⟨[some 0],(k+1,out.set k ((c+dat a k+dat b k) % 1048576),(c+dat a k+dat b k) / 1048576),⟨rfl,rfl,⟨b8 rfl rfl rfl (H8 (by omega)) rfl,trivial⟩,⟨rfl,rfl,j9 rfl (by simp),rfl,rfl,rfl,c9 (by omega),trivial⟩⟩,hI.step ha hb (by omega),?_⟩
  show a.length - (k+1)<a.length - k
  omega
 ·have e:dat b k=0:=L9 (by omega)
  have hst:=hI.step ha hb (by omega)
  rw [e,Int.add_zero] at hst
  refine ⟨[some 0],(k+1,out.set k ((c+dat a k) % 1048576),(c+dat a k) / 1048576),⟨rfl,rfl,⟨b8 rfl rfl rfl (H8 (by omega)) rfl,trivial⟩,⟨rfl,rfl,j9 rfl (by simp),rfl,rfl,rfl,c9 (by omega),trivial⟩⟩,hst,?_⟩
  show a.length - (k+1)<a.length - k
  omega
 ·have hk:k=a.length:=by omega
  subst hk
  have hf:=hI.fin (by omega)
  have t:=a2j (out.set a.length c) (by simp;omega)
  rw [hf] at t
  refine .inr ⟨_,_,t4 [0] t ⟨a09 (t8 (by simp) rfl (by intro h;cases h) rfl (H8 (by omega)) (by simp)),trivial⟩ rfl,?_⟩
  conv=>whnf
  exact a8T (by rw [Int.add_comm])
theorem b4c (a b:List Int) (ha:Okd a) (hb:Okd b) (la:a.length≤400000) (lb:b.length≤400000) (hab:a.length<b.length):
 b9 Tryz.prog 215 [g6 a,g6 b] [] (g6 (dg (val a+val b).toNat)) []:=by
 have l1:(a.map g9).length=a.length:=by simp
 have l2:(b.map g9).length=b.length:=by simp
 (refine a8 a7 Tryz.func215 rfl (by decide) ?_;(conv=>whnf);repeat (refine zy ?_;conv=>whnf))
 repeat' first|(refine zd ?_ ?_<;>intro h<;>first|exact zc h|(exfalso;omega)|conv=>whnf)|((first|refine zz ?_|refine a3n (by omega) (by omega) (by omega) (by decide) ?_|refine zy ?_);conv=>whnf)
 refine m9 a7 (σ:=Nat × List Int × Int) (fun|(k,out,c)=>([g6 b,g6 a,J,J,J,X2 0 out,a9 .i64 c,J,J,J,J,J,J,J,J,J,J,J,J,J,g6 b,a9 .i64 b.length,a9 .i64 k,J,J,J,J,J,J,J,J,J,J,J,J,J,J,J,J,J,J,J,J,J,J,J,J,J,J,J,J,J,J,J,J],[x8 out])) (fun x=>a64 b a x.1 x.2.1 x.2.2) (fun x=>b.length - x.1) (0,List.replicate (b.length+1) 0,0) [some 0]
  (a64.init _ _) ⟨rfl,rfl,⟨b8 rfl rfl rfl ?_ rfl,trivial⟩,⟨j0 rfl,j0 rfl,j9 rfl (by simp),rfl,j0 rfl,c9 (by simp),rfl,trivial⟩⟩ ?_
 ·show List.replicate _ _=_
  simp [toC,g9,E0]
 rintro ⟨k,out,c⟩ hI
 have hI:a64 b a k out c:=hI
 have hlen:=hI.len
 have hle:=hI.le
 have hc0:=hI.c0
 have hc1:=hI.c1
 conv=>whnf
 have hda:=hb.dat k
 have hdb:=ha.dat k
 repeat' first|(refine zd ?_ ?_<;>intro h<;>first|exact zc h|(exfalso;omega)|conv=>whnf)|((first|refine zz ?_|refine d7 (s6 (by omega)) ?_|refine X7 (by omega) (by show _<((out.length:Nat):Int);omega) ?_|refine o6 (J3 rfl (by omega)) ?_|refine ⟨_,ad1.ok (by first|exact a4j|exact a8k) _,?_⟩|refine ⟨by decide,_,a8R _,?_⟩|refine zy ?_);conv=>whnf)
 ·refine ⟨[some 0],(k+1,out.set k ((c+dat b k+dat a k) % 1048576),(c+dat b k+dat a k) / 1048576),⟨rfl,rfl,⟨b8 rfl rfl rfl (H8 (by omega)) rfl,trivial⟩,⟨rfl,rfl,j9 rfl (by simp),rfl,rfl,rfl,c9 (by omega),trivial⟩⟩,hI.step hb ha (by omega),?_⟩
  show b.length - (k+1)<b.length - k
  omega
 ·have e:dat a k=0:=L9 (by omega)
  have hst:=hI.step hb ha (by omega)
  rw [e,Int.add_zero] at hst
  refine ⟨[some 0],(k+1,out.set k ((c+dat b k) % 1048576),(c+dat b k) / 1048576),⟨rfl,rfl,⟨b8 rfl rfl rfl (H8 (by omega)) rfl,trivial⟩,⟨rfl,rfl,j9 rfl (by simp),rfl,rfl,rfl,c9 (by omega),trivial⟩⟩,hst,?_⟩
  show b.length - (k+1)<b.length - k
  omega
 ·have hk:k=b.length:=by omega
  subst hk
  have hf:=hI.fin (by omega)
  have t:=a2j (out.set b.length c) (by simp;omega)
  rw [hf] at t
  refine .inr ⟨_,_,t4 [0] t ⟨a09 (t8 (by simp) rfl (by intro h;cases h) rfl (H8 (by omega)) (by simp)),trivial⟩ rfl,?_⟩
  conv=>whnf
  exact a8T (by rw [Int.add_comm])
theorem b5s (a b:List Int) (ha:Okd a) (hb:Okd b) (la:a.length≤400000) (lb:b.length≤400000):
 b9 Tryz.prog 215 [g6 a,g6 b] [] (g6 (dg (val a+val b).toNat)) []:=by
 rcases Nat.lt_or_ge a.length b.length with h|h
 ·exact b4c a b ha hb la lb h
 ·exact b3v a b ha hb la lb h
end
section
open St1 St2 St3 St4 St5 St6
open Go.RowKit
set_option maxRecDepth 100000
theorem b81 (a b:List Int) (ha:Okd a) (hb:Okd b) (la:a.length≤400000) (lb:b.length≤a.length) (hv:val b≤val a):
 b9 Tryz.prog 216 [g6 a,g6 b] [] (g6 (dg (val a - val b).toNat)) []:=by
 have l1:(a.map g9).length=a.length:=by simp
 have l2:(b.map g9).length=b.length:=by simp
 (refine a8 a7 Tryz.func216 rfl (by decide) ?_;(conv=>whnf);repeat (refine zy ?_;conv=>whnf))
 repeat' first|(refine zd ?_ ?_<;>intro h<;>first|exact zc h|(exfalso;omega)|conv=>whnf)|((first|refine zz ?_|refine zy ?_);conv=>whnf)
 refine .inr ⟨_,_,a9U (aT4 a (by omega)) rfl rfl rfl rfl,?_⟩
 conv=>whnf
 repeat' first|(refine zd ?_ ?_<;>intro h<;>first|exact zc h|(exfalso;omega)|conv=>whnf)|((first|refine zz ?_|refine zy ?_);conv=>whnf)
 refine m9 a7 (σ:=Nat × List Int × Int) (fun|(k,out,c)=>([J,g6 b,J,J,J,X2 0 out,a9 .i64 c,J,J,J,J,J,a9 .i64 a.length,a9 .i64 k,J,J,J,J,J,J,J,J,J,J,J,J,J,J,J,J,J,J,J,J,J,J,J,J,J,J,J,J,J],[x8 out])) (fun x=>a91 a b x.1 x.2.1 x.2.2) (fun x=>a.length - x.1) (0,a,0) [some 0]
  (a91.init ha) ⟨rfl,rfl,⟨b8 rfl rfl rfl rfl rfl,trivial⟩,⟨j0 rfl,j9 rfl rfl,rfl,c9 (by simp),rfl,trivial⟩⟩ ?_
 rintro ⟨k,out,c⟩ hI
 have hI:a91 a b k out c:=hI
 have hlen:=hI.len
 have hle:=hI.le
 have hc0:=hI.c0
 have hc1:=hI.c1
 conv=>whnf
 have hda:=hI.ok.dat k
 have hdb:=hb.dat k
 repeat' first|(refine zd ?_ ?_<;>intro h<;>first|exact zc h|(exfalso;omega)|conv=>whnf)|((first|refine zz ?_|refine d7 (s6 (by omega)) ?_|refine X7 (by omega) (by show _<((out.length:Nat):Int);omega) ?_|refine o6 (J3 (i:=k) rfl (by omega)) ?_|refine ⟨_,ad1.ok (by first|exact a4j|exact a8k) _,?_⟩|refine ⟨by decide,_,a8R _,?_⟩|refine zy ?_);conv=>whnf)
 ·refine ⟨[some 0],(k+1,out.set k ((dat out k - c - dat b k) % 1048576),(dat out k - c - dat b k) / 1048576 % 2),⟨rfl,rfl,⟨b8 rfl rfl rfl (H8 (by omega)) rfl,trivial⟩,⟨rfl,j9 rfl (by simp),rfl,rfl,c9 (by omega),trivial⟩⟩,hI.step ha hb (by omega),?_⟩
  show a.length - (k+1)<a.length - k
  omega
 ·have e:dat b k=0:=L9 (by omega)
  have hst:=hI.step ha hb (by omega)
  rw [e,Int.sub_zero] at hst
  refine ⟨[some 0],(k+1,out.set k ((dat out k - c) % 1048576),(dat out k - c) / 1048576 % 2),⟨rfl,rfl,⟨b8 rfl rfl rfl (H8 (by omega)) rfl,trivial⟩,⟨rfl,j9 rfl (by simp),rfl,rfl,c9 (by omega),trivial⟩⟩,hst,?_⟩
  show a.length - (k+1)<a.length - k
  omega
 ·have hk:k=a.length:=by omega
  subst hk
  have hf:=hI.fin (by omega) hv
  have t:=a2j out (by omega)
  rw [hf] at t
  refine .inr ⟨_,_,t4 [0] t ⟨a09 (t8 (by simp) rfl (by intro h;cases h) rfl rfl (by simp)),trivial⟩ rfl,?_⟩
  conv=>whnf
  exact a8T rfl
set_option maxHeartbeats 1000000 in
theorem b36 (a b:List Int) (ha:Okd a) (hb:Okd b) (la:a.length≤400000) (lb:b.length≤400000):
 b9 Tryz.prog 266 [g6 a,g6 b] [] (g6 (dg (val a*val b).toNat)) []:=by
 have l1:(a.map g9).length=a.length:=by simp
 have l2:(b.map g9).length=b.length:=by simp
 (refine a8 a7 Tryz.func266 rfl (by decide) ?_;(conv=>whnf);repeat (refine zy ?_;conv=>whnf))
 repeat' first|(refine zd ?_ ?_<;>intro h<;>first|exact zc h|(exfalso;omega)|conv=>whnf)|((first|refine zz ?_|refine a3n (by omega) (by omega) (by omega) (by decide) ?_|refine zy ?_);conv=>whnf)
 refine m9 a7 (σ:=Nat × List Int) (fun|(i,out)=>([J,g6 b,J,J,J,X2 0 out,J,J,J,J,J,J,J,J,J,J,J,J,g6 a,a9 .i64 a.length,a9 .i64 i,J,J,J,J,J,J,J,J,J,J,J,J,J,J,J,J,J,J,J,J,J,J,J,J,J,J,J,J,J,J,J,J,J,J,J,J,J,J,J,J,J,J,J,J,J,J],[x8 out])) (fun x=>a2B a b x.1 x.2) (fun x=>a.length - x.1) (0,List.replicate (a.length+b.length) 0) [some 0]
  (a2B.init a b) ⟨rfl,rfl,⟨b8 rfl rfl rfl ?_ rfl,trivial⟩,⟨j0 rfl,j9 rfl (by simp;omega),j0 rfl,c9 (by simp),rfl,trivial⟩⟩ ?_
 ·show List.replicate _ _=_
  rw [show ((((a.map g9).length:Nat):Int)+((b.map g9).length:Nat)).toNat=a.length+b.length by omega]
  simp [toC,g9,E0]
 rintro ⟨i,out⟩ hI
 have hI:a2B a b i out:=hI
 have hlen:=hI.len
 have hle:=hI.le
 conv=>whnf
 repeat' first|(refine zd ?_ ?_<;>intro h<;>first|exact zc h|(exfalso;omega)|conv=>whnf)|((first|refine zz ?_|refine d7 (s6 (by omega)) ?_|refine zy ?_);conv=>whnf)
 ·have hi:i<a.length:=by omega
  refine m9 a7 (σ:=Nat × List Int × Int) (fun|(k,out,c)=>([J,g6 b,J,J,J,X2 0 out,a9 .i64 i,a9 .i64 (dat a i),a9 .i64 c,J,J,J,J,J,J,J,J,J,g6 a,a9 .i64 a.length,a9 .i64 i,J,J,J,J,g6 b,a9 .i64 b.length,a9 .i64 k,J,J,J,J,J,J,J,J,J,J,J,J,J,J,J,J,J,J,J,J,J,J,J,J,J,J,J,J,J,J,J,J,J,J,J,J,J,J,J],[x8 out])) (fun x=>a86 a b i x.1 x.2.1 x.2.2) (fun x=>b.length - x.1) (0,out,0) [some 0]
   hI.start ⟨rfl,rfl,⟨b8 rfl rfl rfl rfl rfl,trivial⟩,⟨j0 rfl,j9 rfl rfl,rfl,rfl,rfl,j0 rfl,rfl,rfl,j0 rfl,c9 (by simp),rfl,trivial⟩⟩ ?_
  rintro ⟨k,out,c⟩ hK
  have hK:a86 a b i k out c:=hK
  have hlen:=hK.len
  have hle:=hK.le
  have hc0:=hK.c0
  have hc1:=hK.c1
  conv=>whnf
  have hdo:=hK.ok.dat (i+k)
  have hm:=a2s (ha.dat i) (hb.dat k)
  have e1:((i:Int)+k).toNat=i+k:=by omega
  have e2:((i:Int)+b.length).toNat=i+b.length:=by omega
  have e3:((i:Int)+((b.map g9).length:Nat)).toNat=i+b.length:=by omega
  have hz:=hK.zero (i+b.length) (Nat.le_refl _)
  repeat' first|(refine zd ?_ ?_<;>intro h<;>first|exact zc h|(exfalso;omega)|conv=>whnf)|((first|refine zz ?_|refine d7 (s6 (by omega)) ?_|refine X7 (by omega) (by show _<((out.length:Nat):Int);omega) ?_|refine o6 (J3 e1 (by omega)) ?_|refine o6 (J3 e3 (by omega)) ?_|refine ⟨_,ad1.ok (by first|exact a4j|exact a8k) _,?_⟩|refine ⟨by decide,_,a8R _,?_⟩|refine zy ?_);conv=>whnf)
  ·refine ⟨[some 0],(k+1,out.set (i+k) ((dat out (i+k)+dat a i*dat b k+c) % 1048576),(dat out (i+k)+dat a i*dat b k+c) / 1048576),⟨rfl,rfl,⟨b8 rfl rfl rfl (H8 (by omega)) rfl,trivial⟩,⟨rfl,j9 rfl (by simp),rfl,rfl,rfl,rfl,rfl,rfl,rfl,rfl,c9 (by omega),trivial⟩⟩,hK.step ha hb hi (by omega),?_⟩
   show b.length - (k+1)<b.length - k
   omega
  ·have hk:k=b.length:=by omega
   subst hk
   refine ⟨[some 0],(i+1,out.set (i+b.length) (dat out (i+b.length)+c)),⟨rfl,rfl,⟨b8 rfl rfl rfl (H8 (by omega)) rfl,trivial⟩,⟨rfl,j9 rfl (by simp),rfl,rfl,c9 (by omega),trivial⟩⟩,hK.done ha hb hi,?_⟩
   show a.length - (i+1)<a.length - i
   omega
 ·have hi:i=a.length:=by omega
  subst hi
  have hf:=hI.fin
  have t:=a2j out (by omega)
  rw [hf] at t
  refine .inr ⟨_,_,t4 [0] t ⟨a09 (t8 (by simp) rfl (by intro h;cases h) rfl rfl (by simp)),trivial⟩ rfl,?_⟩
  conv=>whnf
  exact a8T rfl
set_option maxHeartbeats 1000000 in
theorem b44 (a b:List Int) (ha:Okd a) (hb:Okd b) (la:a.length≤400000) (lb:b.length≤400000):
 b9 Tryz.prog 266 [g6 a,g6 b] [] (.c (.own 0 0 (dg (val a*val b).toNat).length true)) [x8 (V3 (a.length+b.length) (dg (val a*val b).toNat))]:=by
 have l1:(a.map g9).length=a.length:=by simp
 have l2:(b.map g9).length=b.length:=by simp
 (refine a8 a7 Tryz.func266 rfl (by decide) ?_;(conv=>whnf);repeat (refine zy ?_;conv=>whnf))
 repeat' first|(refine zd ?_ ?_<;>intro h<;>first|exact zc h|(exfalso;omega)|conv=>whnf)|((first|refine zz ?_|refine a3n (by omega) (by omega) (by omega) (by decide) ?_|refine zy ?_);conv=>whnf)
 refine m9 a7 (σ:=Nat × List Int) (fun|(i,out)=>([J,g6 b,J,J,J,X2 0 out,J,J,J,J,J,J,J,J,J,J,J,J,g6 a,a9 .i64 a.length,a9 .i64 i,J,J,J,J,J,J,J,J,J,J,J,J,J,J,J,J,J,J,J,J,J,J,J,J,J,J,J,J,J,J,J,J,J,J,J,J,J,J,J,J,J,J,J,J,J,J],[x8 out])) (fun x=>a2B a b x.1 x.2) (fun x=>a.length - x.1) (0,List.replicate (a.length+b.length) 0) [some 0]
  (a2B.init a b) ⟨rfl,rfl,⟨b8 rfl rfl rfl ?_ rfl,trivial⟩,⟨j0 rfl,j9 rfl (by simp;omega),j0 rfl,c9 (by simp),rfl,trivial⟩⟩ ?_
 ·show List.replicate _ _=_
  rw [show ((((a.map g9).length:Nat):Int)+((b.map g9).length:Nat)).toNat=a.length+b.length by omega]
  simp [toC,g9,E0]
 rintro ⟨i,out⟩ hI
 have hI:a2B a b i out:=hI
 have hlen:=hI.len
 have hle:=hI.le
 conv=>whnf
 repeat' first|(refine zd ?_ ?_<;>intro h<;>first|exact zc h|(exfalso;omega)|conv=>whnf)|((first|refine zz ?_|refine d7 (s6 (by omega)) ?_|refine zy ?_);conv=>whnf)
 ·have hi:i<a.length:=by omega
  refine m9 a7 (σ:=Nat × List Int × Int) (fun|(k,out,c)=>([J,g6 b,J,J,J,X2 0 out,a9 .i64 i,a9 .i64 (dat a i),a9 .i64 c,J,J,J,J,J,J,J,J,J,g6 a,a9 .i64 a.length,a9 .i64 i,J,J,J,J,g6 b,a9 .i64 b.length,a9 .i64 k,J,J,J,J,J,J,J,J,J,J,J,J,J,J,J,J,J,J,J,J,J,J,J,J,J,J,J,J,J,J,J,J,J,J,J,J,J,J,J],[x8 out])) (fun x=>a86 a b i x.1 x.2.1 x.2.2) (fun x=>b.length - x.1) (0,out,0) [some 0]
   hI.start ⟨rfl,rfl,⟨b8 rfl rfl rfl rfl rfl,trivial⟩,⟨j0 rfl,j9 rfl rfl,rfl,rfl,rfl,j0 rfl,rfl,rfl,j0 rfl,c9 (by simp),rfl,trivial⟩⟩ ?_
  rintro ⟨k,out,c⟩ hK
  have hK:a86 a b i k out c:=hK
  have hlen:=hK.len
  have hle:=hK.le
  have hc0:=hK.c0
  have hc1:=hK.c1
  conv=>whnf
  have hdo:=hK.ok.dat (i+k)
  have hm:=a2s (ha.dat i) (hb.dat k)
  have e1:((i:Int)+k).toNat=i+k:=by omega
  have e2:((i:Int)+b.length).toNat=i+b.length:=by omega
  have e3:((i:Int)+((b.map g9).length:Nat)).toNat=i+b.length:=by omega
  have hz:=hK.zero (i+b.length) (Nat.le_refl _)
  repeat' first|(refine zd ?_ ?_<;>intro h<;>first|exact zc h|(exfalso;omega)|conv=>whnf)|((first|refine zz ?_|refine d7 (s6 (by omega)) ?_|refine X7 (by omega) (by show _<((out.length:Nat):Int);omega) ?_|refine o6 (J3 e1 (by omega)) ?_|refine o6 (J3 e3 (by omega)) ?_|refine ⟨_,ad1.ok (by first|exact a4j|exact a8k) _,?_⟩|refine ⟨by decide,_,a8R _,?_⟩|refine zy ?_);conv=>whnf)
  ·refine ⟨[some 0],(k+1,out.set (i+k) ((dat out (i+k)+dat a i*dat b k+c) % 1048576),(dat out (i+k)+dat a i*dat b k+c) / 1048576),⟨rfl,rfl,⟨b8 rfl rfl rfl (H8 (by omega)) rfl,trivial⟩,⟨rfl,j9 rfl (by simp),rfl,rfl,rfl,rfl,rfl,rfl,rfl,rfl,c9 (by omega),trivial⟩⟩,hK.step ha hb hi (by omega),?_⟩
   show b.length - (k+1)<b.length - k
   omega
  ·have hk:k=b.length:=by omega
   subst hk
   refine ⟨[some 0],(i+1,out.set (i+b.length) (dat out (i+b.length)+c)),⟨rfl,rfl,⟨b8 rfl rfl rfl (H8 (by omega)) rfl,trivial⟩,⟨rfl,j9 rfl (by simp),rfl,rfl,c9 (by omega),trivial⟩⟩,hK.done ha hb hi,?_⟩
   show a.length - (i+1)<a.length - i
   omega
 ·have hi:i=a.length:=by omega
  subst hi
  have hf:=hI.fin
  have t:=b2E out (by omega)
  have hp:=a9u out
  rw [hf] at t hp
  refine .inr ⟨_,_,t,?_⟩
  conv=>whnf
  have hq:V3 (a.length+b.length) (dg (val a*val b).toNat)=out:=by unfold V3;rw [← hlen];exact hp
  rw [hq]
  exact ⟨⟨[some 0],rfl,rfl,⟨b8 rfl rfl rfl rfl rfl,trivial⟩,⟨rfl,rfl,rfl,fun h=>h⟩⟩⟩
end
section
open St1 St2 St3 St4 St5 St6
open Go.RowKit
set_option maxRecDepth 100000
theorem aW1 {r:Int} (h0:0≤r) (h1:r<4398046511104):D9 .i64 (r*2 ^ min (20:Int).toNat (IntKind.bits .i64)) (r*1048576):=by
 show D9 .i64 (r*1048576) (r*1048576)
 exact a3y (by omega) (by omega)
theorem b3R {k:IntKind} (hk:k.bits=64) (R X:Nat) (h1:R<4398046511104) (hx:X<1048576):(BitVec.ofInt k.bits ((R:Int)*1048576) ||| BitVec.ofInt k.bits (X:Int)).toNat=R*1048576+X:=by
 rw [hk,BitVec.toNat_or,BitVec.toNat_ofInt,BitVec.toNat_ofInt]
 have e1:(((R:Int)*1048576) % ((2 ^ 64:Nat):Int)).toNat=R <<< 20:=by
  rw [Nat.shiftLeft_eq];omega
 have e2:((X:Int) % ((2 ^ 64:Nat):Int)).toNat=X:=by omega
 rw [e1,e2,←Nat.shiftLeft_add_eq_or_of_lt (by omega),Nat.shiftLeft_eq]
theorem b4K {r x:Int} (h0:0≤r) (h1:r<4398046511104) (hx0:0≤x) (hx1:x<1048576):R5 .or .i64 (r*1048576) x (r*1048576+x):=by
 obtain ⟨R,rfl⟩:=Int.eq_ofNat_of_zero_le h0
 obtain ⟨X,rfl⟩:=Int.eq_ofNat_of_zero_le hx0
 unfold R5
 simp only
 rw [b3R rfl R X (by omega) (by omega)]
 have e:((R*1048576+X:Nat):Int)=(R:Int)*1048576+X:=by simp
 rw [e]
 exact (show D9 .i64 ((R:Int)*1048576+X) _ from a3y (by omega) (by omega))
theorem aU1 {a b:Int} (h0:0≤a) (h1:a≤9223372036854775807) (hb:0<b):D9 .i64 (a.tdiv b) (a / b):=by
 rw [Int.tdiv_eq_ediv_of_nonneg h0]
 have h2:0≤a / b:=Int.ediv_nonneg h0 (by omega)
 have h3:a / b≤a:=Int.ediv_le_self _ h0
 exact a3y (by omega) (by omega)
theorem aR3 {l:List Int} {n:Nat} (h:0<n) (hn:n≤l.length):l[0+((n:Int) - 1).toNat]? =some (dat l (n - 1)):=by rw [Nat.zero_add];exact a0B h hn
theorem aJ2 (a:List Int) (d:Int) (ha:Okd a) (la:a.length≤1000000) (hd:0<d) (hd2:d<1048576):
 b9 Tryz.prog 264 [g6 a,a9 .i64 d] [] (.tup [g6 (dg (val a / d).toNat),a9 .i64 (val a % d)]) []:=by
 have l1:(a.map g9).length=a.length:=by simp
 (refine a8 a7 Tryz.func264 rfl (by decide) ?_;(conv=>whnf);repeat (refine zy ?_;conv=>whnf))
 repeat' first|(refine zd ?_ ?_<;>intro h<;>first|exact zc h|(exfalso;omega)|conv=>whnf)|((first|refine zz ?_|refine a3n (by omega) (by omega) (by omega) (by decide) ?_|refine zy ?_);conv=>whnf)
 refine m9 a7 (σ:=Nat × List Int × Int) (fun|(j,out,r)=>([g6 a,a9 .i64 d,J,J,J,J,X2 0 out,a9 .i64 r,a9 .i64 ((j:Int) - 1),J,J,J,J,J,J,J,J,J,J,J,J,J,J,J,J,J,J,J,J,J,J,J,J,J,J,J,J,J],[x8 out])) (fun x=>X5 a d x.1 x.2.1 x.2.2) (fun x=>x.1) (a.length,List.replicate a.length 0,0) [some 0]
  (X5.init a hd) ⟨rfl,rfl,⟨b8 rfl rfl rfl ?_ rfl,trivial⟩,⟨j0 rfl,rfl,j9 rfl (by simp),rfl,c9 (by simp),trivial⟩⟩ ?_
 ·show List.replicate _ _=_
  simp [toC,g9,E0]
 rintro ⟨j,out,r⟩ hI
 have hI:X5 a d j out r:=hI
 have hlen:=hI.len
 have hle:=hI.le
 have hr0:=hI.r0
 have hr1:=hI.r1
 have hda:=ha.dat (j - 1)
 conv=>whnf
 repeat' first|(refine zd ?_ ?_<;>intro h<;>first|exact zc h|(exfalso;omega)|conv=>whnf)|((first|refine zz ?_|refine B5 (by omega) (a0B (by omega) hle) ?_|refine X7 (by omega) (by show _<((out.length:Nat):Int);omega) ?_|refine o6 (aR3 (by omega) (by omega)) ?_|refine ⟨by decide,_,aW1 (by omega) (by omega),?_⟩|refine ⟨_,b4K (by omega) (by omega) (by omega) (by omega),?_⟩|refine ⟨by omega,_,aU1 (by omega) (by omega) (by omega),?_⟩|refine aa3 (by omega) ?_|refine zy ?_);conv=>whnf)
 ·obtain ⟨j,rfl⟩:∃i,j=i+1:=⟨j - 1,by omega⟩
  simp only [Nat.add_sub_cancel] at *
  have hst:=hI.step ha hd
  rw [← Int.tmod_eq_emod_of_nonneg (by omega)] at hst
  refine ⟨[some 0],(j,out.set j ((r*1048576+dat a j) / d),(r*1048576+dat a j).tmod d),⟨rfl,rfl,⟨b8 rfl rfl rfl (H8 (by omega)) rfl,trivial⟩,⟨rfl,rfl,j9 rfl (by simp),rfl,c9 (by omega),trivial⟩⟩,hst,?_⟩
  show j<j+1
  omega
 ·have hj:j=0:=by omega
  subst hj
  obtain ⟨hf,hr⟩:=hI.fin ha hd
  have t:=a2j out (by omega)
  rw [hf] at t
  refine .inr ⟨_,_,t4 [0] t ⟨a09 (t8 (by simp) rfl (by intro h;cases h) rfl rfl (by simp)),trivial⟩ rfl,?_⟩
  conv=>whnf
  repeat' first|(refine zd ?_ ?_<;>intro h<;>first|exact zc h|(exfalso;omega)|conv=>whnf)|((first|refine zz ?_|refine zy ?_);conv=>whnf)
  exact j5 ⟨rfl,c9 hr,trivial⟩
end
section
open St1 St2 St3 St4 St5 St6
open Go.RowKit
set_option maxRecDepth 100000
theorem aI5 {pre out post:List Int} {k:Nat} (h:k<out.length):(pre++out++post)[pre.length+(k:Int).toNat]? =some (dat out k):=by
 rw [List.append_assoc,List.getElem?_append_right (by omega),show pre.length+(k:Int).toNat - pre.length=k by omega,List.getElem?_append_left h]
 exact s6 h
theorem a5A {pre out post:List Int} {k:Nat} {v:Int} (h:k<out.length):(toC ((pre++out++post).map g9)).set (pre.length+(k:Int).toNat) [C.t (ti v)]=toC ((pre++out.set k v++post).map g9):=by
 have e:(pre++out++post).set (pre.length+k) v=pre++out.set k v++post:=by
  rw [List.append_assoc,List.set_append_right _ _ (by omega),show pre.length+k - pre.length=k by omega,List.set_append_left _ _ h,List.append_assoc]
 rw [← e]
 show (toC ((pre++out++post).map g9)).set (pre.length+k) _=_
 simp [toC,g9,List.map_set]
def R3 (w v g:Int):Int:=if g*v≤w then g else g - 1
theorem aY3 (pre w post v:List Int) (g:Int) (hw:Okd w) (hv:Okd v) (lw:w.length≤1000000) (lv:v.length≤w.length) (hg:0≤g∧g<1048576) (hgv:g*val v≤val w+val v):
 b9 Tryz.prog 267 [.c (.own 0 pre.length w.length false),g6 v,a9 .i64 g] [x8 (pre++w++post)] (a9 .i64 (R3 (val w) (val v) g))
  [x8 (pre++V3 w.length (dg (val w - R3 (val w) (val v) g*val v).toNat)++post)]:=by
 have l1:(v.map g9).length=v.length:=by simp
 (refine a8 a7 Tryz.func267 rfl (by decide) ?_;(conv=>whnf);repeat (refine zy ?_;conv=>whnf))
 repeat' first|(refine zd ?_ ?_<;>intro h<;>first|exact zc h|(exfalso;omega)|conv=>whnf)|((first|refine zz ?_|refine zy ?_);conv=>whnf)
 refine m9 a7 (σ:=Nat × List Int × Int) (fun|(k,out,c)=>([S.c (C.own 0 pre.length w.length false),g6 v,a9 .i64 g,J,J,J,J,a9 .i64 c,J,J,J,J,J,a9 .i64 w.length,a9 .i64 k,J,J,J,J,J,J,J,J,J,J,J,J,J,J,J,J,J,J,J,J,J,J,J,J,J,J,J,J,J,J,J,J,J,J,J,J,J,J,J,J,J,J,J,J,J,J,J,J,J,J,J,J,J,J,J,J,J,J,J,J,J,J,J],[x8 (pre++out++post)])) (fun x=>a74 w v g x.1 x.2.1 x.2.2) (fun x=>w.length - x.1) (0,w,0) [some 0]
  (a74.init g hw) ⟨rfl,rfl,⟨b8 rfl rfl rfl rfl rfl,trivial⟩,⟨⟨rfl,rfl,rfl,fun h=>h⟩,j0 rfl,rfl,rfl,rfl,rfl,trivial⟩⟩ ?_
 rintro ⟨k,out,c⟩ hI
 have hI:a74 w v g k out c:=hI
 have hlen:=hI.len
 have hle:=hI.le
 have hc0:=hI.c0
 have hc1:=hI.c1
 have hdo:=hI.ok.dat k
 have hm:=a2s hg (hv.dat k)
 conv=>whnf
 repeat' first|(refine zd ?_ ?_<;>intro h<;>first|exact zc h|(exfalso;omega)|conv=>whnf)|((first|refine zz ?_|refine d7 (s6 (by omega)) ?_|refine o6 (aI5 (by omega)) ?_|refine ⟨_,ad1.ok (by first|exact a4j|exact a8k) _,?_⟩|refine ⟨by decide,_,a8R _,?_⟩|refine zy ?_);conv=>whnf)
 ·have hst:=hI.step hv hg (by omega)
  refine ⟨[some 0],(k+1,out.set k ((dat out k - c - g*dat v k) % 1048576),-((dat out k - c - g*dat v k) / 1048576)),⟨rfl,rfl,⟨b8 rfl rfl rfl (a5A (by omega)) rfl,trivial⟩,⟨⟨rfl,rfl,rfl,fun h=>h⟩,rfl,rfl,c9 (Int.zero_sub _),rfl,c9 (by omega),trivial⟩⟩,hst,?_⟩
  show w.length - (k+1)<w.length - k
  omega
 ·have hst:=hI.step hv hg (by omega)
  rw [L9 (l:=v) (i:=k) (by omega),Int.mul_zero,Int.sub_zero] at hst
  refine ⟨[some 0],(k+1,out.set k ((dat out k - c) % 1048576),-((dat out k - c) / 1048576)),⟨rfl,rfl,⟨b8 rfl rfl rfl (a5A (by omega)) rfl,trivial⟩,⟨⟨rfl,rfl,rfl,fun h=>h⟩,rfl,rfl,c9 (Int.zero_sub _),rfl,c9 (by omega),trivial⟩⟩,hst,?_⟩
  show w.length - (k+1)<w.length - k
  omega
 ·have hk:k=w.length:=by omega
  subst hk
  have hc:c=0:=by assumption
  obtain ⟨h1,h2⟩:=hI.zero lv hw hv hg.1
  have hq:R3 (val w) (val v) g=g:=by unfold R3;rw [if_pos (h1.1 hc)]
  rw [hq,←h2 hc,←aH8 hI.ok hlen]
  exact ⟨⟨[some 0],rfl,rfl,⟨b8 rfl rfl rfl rfl rfl,trivial⟩,rfl⟩⟩
 ·have hk:k=w.length:=by omega
  subst hk
  have hc:¬c=0:=by assumption
  obtain ⟨h1,h2⟩:=hI.zero lv hw hv hg.1
  have hlt:¬g*val v≤val w:=fun h=>hc (h1.2 h)
  have hq:R3 (val w) (val v) g=g - 1:=by unfold R3;rw [if_neg hlt]
  have hvl:=R6 hv
  have hpw:=a08 lv
  rw [hq]
  refine m9 a7 (σ:=Nat × List Int × Int) (fun|(k,o,c)=>([S.c (C.own 0 pre.length w.length false),g6 v,a9 .i64 g,J,J,J,J,J,J,J,a9 .i64 c,J,J,J,J,J,J,J,J,J,J,J,J,J,J,J,J,J,J,J,J,J,J,J,J,J,J,J,J,J,J,J,J,J,J,J,J,J,a9 .i64 w.length,a9 .i64 k,J,J,J,J,J,J,J,J,J,J,J,J,J,J,J,J,J,J,J,J,J,J,J,J,J,J,J,J],[x8 (pre++o++post)])) (fun x=>a4S out v x.1 x.2.1 x.2.2) (fun x=>w.length - x.1) (0,out,0) [some 0]
   (a4S.init hI.ok) ⟨rfl,rfl,⟨b8 rfl rfl rfl rfl rfl,trivial⟩,⟨⟨rfl,rfl,rfl,fun h=>h⟩,j0 rfl,rfl,rfl,rfl,rfl,trivial⟩⟩ ?_
  rintro ⟨k,o,c'⟩ hB
  have hB:a4S out v k o c':=hB
  have hlen2:=hB.len
  have hle2:=hB.le
  have hb0:=hB.c0
  have hb1:=hB.c1
  have hdo:=hB.ok.dat k
  have hdv:=hv.dat k
  conv=>whnf
  repeat' first|(refine zd ?_ ?_<;>intro h<;>first|exact zc h|(exfalso;omega)|conv=>whnf)|((first|refine zz ?_|refine d7 (s6 (by omega)) ?_|refine o6 (aI5 (by omega)) ?_|refine ⟨_,ad1.ok (by first|exact a4j|exact a8k) _,?_⟩|refine ⟨by decide,_,a8R _,?_⟩|refine zy ?_);conv=>whnf)
  ·have hst:=hB.step hv (by omega)
   refine ⟨[some 0],(k+1,o.set k ((c'+dat o k+dat v k) % 1048576),(c'+dat o k+dat v k) / 1048576),⟨rfl,rfl,⟨b8 rfl rfl rfl (a5A (by omega)) rfl,trivial⟩,⟨⟨rfl,rfl,rfl,fun h=>h⟩,rfl,rfl,rfl,rfl,c9 (by omega),trivial⟩⟩,hst,?_⟩
   show w.length - (k+1)<w.length - k
   omega
  ·have hst:=hB.step hv (by omega)
   rw [L9 (l:=v) (i:=k) (by omega),Int.add_zero] at hst
   refine ⟨[some 0],(k+1,o.set k ((c'+dat o k) % 1048576),(c'+dat o k) / 1048576),⟨rfl,rfl,⟨b8 rfl rfl rfl (a5A (by omega)) rfl,trivial⟩,⟨⟨rfl,rfl,rfl,fun h=>h⟩,rfl,rfl,rfl,rfl,c9 (by omega),trivial⟩⟩,hst,?_⟩
   show w.length - (k+1)<w.length - k
   omega
  ·have hk:k=w.length:=by omega
   subst hk
   have e:=hI.back hB lv (by omega) (by omega)
   have e2:val w - (g - 1)*val v=val w - g*val v+val v:=by rw [Int.sub_mul];omega
   rw [e2,←e,←aH8 hB.ok (by omega)]
   exact ⟨⟨[some 0],rfl,rfl,⟨b8 rfl rfl rfl rfl rfl,trivial⟩,rfl⟩⟩
end
section
open St1 St2 St3 St4 St5 St6
open Go.RowKit
set_option maxRecDepth 100000
abbrev aA8 (m n:Nat):S:=.tup [g6 (dg (m / n)),g6 (dg (m % n))]
theorem b47 (m n:Nat) (hn:0<n) (h:m<n) (lm:(dg m).length≤400000) (ln:(dg n).length≤400000):
 b9 Tryz.prog 208 [g6 (dg m),g6 (dg n)] [] (aA8 m n) []:=by
 have c:=a1E (dg m) (dg n) (a0p m) (a0p n) (by omega) (by omega)
 rw [m6,m6,a25 (by omega)] at c
 have e1:m / n=0:=Nat.div_eq_of_lt h
 have e2:m % n=m:=Nat.mod_eq_of_lt h
 unfold aA8
 rw [e1,e2,Q8]
 (refine a8 a7 Tryz.func208 rfl (by decide) ?_;(conv=>whnf);repeat (refine zy ?_;conv=>whnf))
 repeat' first|(refine zd ?_ ?_<;>intro h<;>first|exact zc h|(exfalso;omega)|conv=>whnf)|((first|refine zz ?_|refine qp c ?_|refine qp (a7l _ (by omega)) ?_|refine zy ?_);conv=>whnf)
 exact j5 ⟨rfl,rfl,trivial⟩
theorem b4a (m n:Nat) (hn:0<n) (h:n≤m) (hl:(dg n).length=1) (lm:(dg m).length≤400000):
 b9 Tryz.prog 208 [g6 (dg m),g6 (dg n)] [] (aA8 m n) []:=by
 have l2:((dg n).map g9).length=(dg n).length:=by simp
 have c:=a1E (dg m) (dg n) (a0p m) (a0p n) (by omega) (by omega)
 rw [m6,m6] at c
 have hc:0≤J2 m n:=by unfold J2;split<;>(try split)<;>omega
 have hn2:=L7 n
 rw [hl] at hn2
 have hn3:(n:Int)<1048576:=by simpa [pw] using hn2
 have hd:dg n=[(n:Int)]:=by
  rw [a4z hn,show n / 1048576=0 by omega,show n % 1048576=n by omega];rfl
 have sh:=aJ2 (dg m) n (p4 m) (by omega) (by omega) hn3
 rw [m6] at sh
 have e1:((m:Int) / n).toNat=m / n:=by rw [← Int.natCast_ediv];rfl
 have e2:(m:Int) % n=((m % n:Nat):Int):=by simp
 rw [e1,e2] at sh
 have hr:m % n<n:=Nat.mod_lt _ hn
 have t:=a2j [((m % n:Nat):Int)] (by simp)
 rw [G9 (by intro x hx;simp at hx;omega)] at t
 have e3:(val [((m % n:Nat):Int)]).toNat=m % n:=by simp only [val];omega
 rw [e3] at t
 (refine a8 a7 Tryz.func208 rfl (by decide) ?_;(conv=>whnf);repeat (refine zy ?_;conv=>whnf))
 repeat' first|(refine zd ?_ ?_<;>intro h<;>first|exact zc h|(exfalso;omega)|conv=>whnf)|((first|refine zz ?_|refine qp c ?_|refine qp sh ?_|refine qp hd ?_|refine B5 (x:=(n:Int)) (by omega) (by rw [hd];rfl) ?_|refine .inl ⟨_,_,a0N t ⟨a09 (ai0 rfl),trivial⟩ rfl,?_⟩|refine zy ?_);conv=>whnf)
 all_goals (first|(exfalso;omega)|exact j5 ⟨rfl,rfl,trivial⟩)
end
section
open St1 St2 St3 St4 St5 St6
theorem b4r {n k:Nat} {top:Int} (hn:0<n) (ht:dat (dg n) ((dg n).length - 1)=top) (hk:k≤19) (h1:top*2 ^ k<1048576) (h2:¬top*2 ^ k<524288):
 (dg (n*2 ^ k)).length=(dg n).length∧524288≤dat (dg (n*2 ^ k)) ((dg n).length - 1):=by
 have hl:(dg n).length≠0:=by rw [Ne,List.length_eq_zero_iff,M3];omega
 obtain ⟨l,hl'⟩:∃l,(dg n).length=l+1:=⟨(dg n).length - 1,by omega⟩
 rw [hl',Nat.add_sub_cancel] at ht ⊢
 have e1:=o8 (dg n) l
 rw [lg4 (by omega),m6,ht] at e1
 have a1:=s8 ((p4 n).take l)
 have a2:=R6 ((p4 n).take l)
 rw [List.length_take,Nat.min_eq_left (by omega)] at a2
 have t0:=(p4 n).dat l
 rw [ht] at t0
 obtain ⟨T,rfl⟩:=Int.eq_ofNat_of_zero_le t0.1
 have hp:(0:Int)<2 ^ k:=Int.pow_pos (by decide)
 have hpp:=N0 l
 have e2:(2:Int) ^ k*2 ^ (20 - k)=1048576:=by rw [← Int.pow_add,show k+(20 - k)=20 by omega];rfl
 have h3:(T:Int)<2 ^ (20 - k):=by
  refine Int.lt_of_mul_lt_mul_left (a:=(2:Int) ^ k) ?_ (Int.le_of_lt hp)
  rw [e2,Int.mul_comm];exact h1
 have h4:((T:Int)+1)*2 ^ k≤1048576:=by
  have:=Int.mul_le_mul_of_nonneg_left (a:=(T:Int)+1) (b:=2 ^ (20 - k)) (c:=2 ^ k) (by omega) (Int.le_of_lt hp)
  rw [e2,Int.mul_comm] at this;exact this
 have hV:(((n*2 ^ k:Nat)):Int)=n*2 ^ k:=by simp
 have h5:((n*2 ^ k:Nat):Int)<pw (l+1):=by
  rw [hV,C8]
  have b1:(n:Int)+1≤pw l*(T+1):=by rw [Int.mul_add];omega
  have b2:=Int.mul_le_mul_of_nonneg_right (c:=(2:Int) ^ k) b1 (Int.le_of_lt hp)
  have b3:=Int.mul_le_mul_of_nonneg_left (c:=pw l) h4 (Int.le_of_lt hpp)
  rw [← Int.mul_assoc] at b3
  rw [Int.add_mul] at b2
  omega
 have h6:pw l*524288≤((n*2 ^ k:Nat):Int):=by
  rw [hV]
  have b1:pw l*T≤(n:Int):=by omega
  have b2:=Int.mul_le_mul_of_nonneg_right (c:=(2:Int) ^ k) b1 (Int.le_of_lt hp)
  have b3:=Int.mul_le_mul_of_nonneg_left (a:=524288) (b:=(T:Int)*2 ^ k) (c:=pw l) (by omega) (Int.le_of_lt hpp)
  rw [← Int.mul_assoc] at b3
  omega
 have h7:(dg (n*2 ^ k)).length=l+1:=by
  have c1:=J8 h5
  rcases Nat.lt_or_ge (dg (n*2 ^ k)).length (l+1) with c2|c2
  ·have c3:=L7 (n*2 ^ k)
   have c4:=a08 (show (dg (n*2 ^ k)).length≤l by omega)
   omega
  ·omega
 refine ⟨h7,?_⟩
 have f1:=o8 (dg (n*2 ^ k)) l
 rw [lg4 (by omega),m6] at f1
 have f2:=R6 ((p4 (n*2 ^ k)).take l)
 rw [List.length_take,Nat.min_eq_left (by omega)] at f2
 rcases Int.lt_or_le (dat (dg (n*2 ^ k)) l) 524288 with c|c
 ·exfalso
  have:=Int.mul_le_mul_of_nonneg_left (a:=dat (dg (n*2 ^ k)) l+1) (b:=524288) (c:=pw l) (by omega) (Int.le_of_lt hpp)
  rw [Int.mul_add] at this
  omega
 ·exact c
end
section
open St1 St2 St3 St4 St5 St6
open Go.RowKit
set_option maxRecDepth 100000
theorem aU3 {a a' b b':Nat} {x y:S} (h1:a=a') (h2:b=b'):[S.c (.own 0 a b false),x,y]=[S.c (.own 0 a' b' false),x,y]:=by rw [h1,h2]
theorem aE4 {V W v1 top g r:Int} (hG:S8 V W v1 top g r) (hV:0<V) (hW:0≤W) (h1:g<1048576) (h2:g*V≤W+V):
 0≤R3 W V g∧R3 W V g<1048576∧0≤W - R3 W V g*V∧W - R3 W V g*V<V:=by
 have h3:=hG.hi
 have h4:=hG.g0
 rw [Int.add_mul,Int.one_mul] at h3
 unfold R3
 by_cases hc:g*V≤W
 ·rw [if_pos hc];omega
 ·rw [if_neg hc,Int.sub_mul,Int.one_mul]
  have:g≠0:=by rintro rfl;simp at hc;omega
  omega
set_option maxHeartbeats 4000000 in
theorem b3s (m n:Nat) (hn:0<n) (hmn:n≤m) (hl:2≤(dg n).length) (lm:(dg m).length≤300000) (ln:(dg n).length≤300000):
 b9 Tryz.prog 208 [g6 (dg m),g6 (dg n)] [] (aA8 m n) []:=by
 have l1:((dg m).map g9).length=(dg m).length:=by simp
 have l2:((dg n).map g9).length=(dg n).length:=by simp
 have c:=a1E (dg m) (dg n) (a0p m) (a0p n) (by omega) (by omega)
 rw [m6,m6] at c
 have hc:0≤J2 m n:=by unfold J2;split<;>(try split)<;>omega
 have ht0:=(p4 n).dat ((dg n).length - 1)
 have ht1:dat (dg n) ((dg n).length - 1)≠0:=(a0p n).2 _ (s6 (by omega))
 generalize htop:dat (dg n) ((dg n).length - 1)=top at ht0 ht1
 (refine a8 a7 Tryz.func208 rfl (by decide) ?_;(conv=>whnf);repeat (refine zy ?_;conv=>whnf))
 repeat' first|(refine zd ?_ ?_<;>intro h<;>first|exact zc h|(exfalso;omega)|conv=>whnf)|((first|refine zz ?_|refine qp c ?_|refine zy ?_);conv=>whnf)
 refine m9 a7 (σ:=Nat) (fun k=>([g6 (dg m),g6 (dg n),J,J,J,J,J,J,a9 .i64 (2 ^ k),J,J,J,J,J,J,J,J,J,J,J,J,J,J,J,J,J,J,J,J,J,J,J,J,J,J,J,J,J,J,J,J,J,J,J,J,J,J,J,J,J,J,J,J,J,J,J,J,J,J,J,J,J,J,J,J,J,J,J,J,J,J,J,J,J,J,J,J,J,J,J,J,J,J,J,J,J,J,J,J,J,J,J,J,J,J,J,J,J,J,J,J,J,J,J,J,J,J,J,J,J,J,J,J,J,J,J,J,J,J,J,J,J,J,J,J,J,J,J,J,J,J,J,J,J,J,J,J,J,J,J,J,J,J,J,J,J,J,J,J,J,J,J,J,J,J,J,J,J,J,J,J,J,J,J,J,J,J,J,J,J],[])) (fun k=>k≤19∧top*2 ^ k<1048576) (fun k=>20 - k) 0 []
  ⟨by omega,by omega⟩ ⟨rfl,rfl,trivial,⟨j0 rfl,j0 rfl,rfl,trivial⟩⟩ ?_
 rintro k ⟨hk1,hk2⟩
 have hk1:k≤19:=hk1
 have hk2:top*2 ^ k<1048576:=hk2
 have hp0:(0:Int)<2 ^ k:=Int.pow_pos (by decide)
 have hpt:0<top*2 ^ k:=Int.mul_pos (by omega) hp0
 have hpk:(2:Int) ^ k≤524288:=by
  have:=Nat.pow_le_pow_right (n:=2) (by decide) hk1
  have e:((2 ^ k:Nat):Int)=2 ^ k:=by simp
  omega
 have hgl:(dg n)[(((((dg n).map g9).length:Nat):Int) - 1).toNat]? =some top:=by rw [l2,←htop];exact a4V (by omega)
 conv=>whnf
 repeat' first|(refine zd ?_ ?_<;>intro h<;>first|exact zc h|(exfalso;omega)|conv=>whnf)|((first|refine zz ?_|refine B5 (by omega) hgl ?_|refine zy ?_);conv=>whnf)
 ·have hlt:top*2 ^ k<524288:=by omega
  refine ⟨[],k+1,⟨rfl,rfl,trivial,⟨rfl,rfl,c9 (Int.pow_succ _ _).symm,trivial⟩⟩,⟨?_,?_⟩,?_⟩
  ·rcases Nat.lt_or_ge k 19 with h1|h1
   ·exact h1
   ·have:k=19:=by omega
    subst this
    omega
  ·rw [Int.pow_succ,←Int.mul_assoc];omega
  ·show 20 - (k+1)<20 - k
   omega
 ·have hsh:Okd [(2:Int) ^ k]:=by intro x hx;simp at hx;omega
  have mu:=b44 (dg m) [2 ^ k] (p4 m) hsh (by omega) (by simp)
  have mv:=b36 (dg n) [2 ^ k] (p4 n) hsh (by omega) (by simp)
  have ev:val [(2:Int) ^ k]=2 ^ k:=by simp [val]
  rw [ev,m6] at mu mv
  generalize hU:((m:Int)*2 ^ k).toNat=U at mu
  generalize hV:((n:Int)*2 ^ k).toNat=V at mv
  refine .inr ⟨_,_,a9U (aD7 mu ⟨ai6,a09 (ai0 rfl),trivial⟩) rfl rfl rfl rfl,?_⟩
  conv=>whnf
  have hVe:V=n*2 ^ k:=by
   have e:((n:Int)*2 ^ k)=((n*2 ^ k:Nat):Int):=by simp
   rw [← hV,e];exact Int.toNat_natCast _
  have hUe:U=m*2 ^ k:=by
   have e:((m:Int)*2 ^ k)=((m*2 ^ k:Nat):Int):=by simp
   rw [← hU,e];exact Int.toNat_natCast _
  obtain ⟨lV,hvt⟩:=b4r hn htop hk1 hk2 h
  rw [← hVe] at lV hvt
  have hp1:0<2 ^ k:=Nat.pow_pos (by decide)
  have lU3:(dg m).length≤(dg U).length:=n7 (by rw [hUe];exact Nat.le_mul_of_pos_right m hp1)
  have lU2:(dg U).length≤(dg m).length+1:=J8 (by
   have h1:=L7 m
   rw [C8,hUe]
   have h2:=Int.mul_le_mul_of_nonneg_left (a:=2 ^ k) (b:=1048576) (c:=(m:Int)+1) (by omega) (by omega)
   have h3:(((m*2 ^ k:Nat)):Int)=m*2 ^ k:=by simp
   rw [Int.add_mul] at h2
   omega)
  have lU1:(V3 ((dg m).length+[(2:Int) ^ k].length) (dg U)).length≤300001:=by rw [a9q (by simpa using lU2)];simp;omega
  have l3:((dg V).map g9).length=(dg V).length:=by simp
  have lmn:(dg n).length≤(dg m).length:=n7 hmn
  have l4:(toC [[T.atm (Value.int .i64 0)]]).length=1:=rfl
  repeat' first|(refine zd ?_ ?_<;>intro h<;>first|exact zc h|(exfalso;omega)|conv=>whnf)|((first|refine zz ?_|refine qp (toC,V3) ?_|refine qp toC ?_|refine t9 (by simp [toC,V3]) (by simp [toC];omega) ?_|refine .inl ⟨_,_,a0N mv ⟨ai6,a09 (ai0 rfl),trivial⟩ rfl,?_⟩|refine a3n (by omega) (by omega) (by omega) (by decide) ?_|refine zy ?_);conv=>whnf)
  have hV0:0<V:=by rw [hVe];exact Nat.mul_pos hn hp1
  refine m9 a7 (σ:=Nat × List Int × List Int) (fun|(j,u,q)=>([J,J,J,J,J,J,J,J,a9 .i64 (2 ^ k),X2 0 u,g6 (dg V),a9 .i64 (dg V).length,X2 1 q,a9 .i64 ((j:Int) - 1),J,J,J,J,J,J,J,J,J,J,J,J,J,J,J,J,J,J,J,J,J,J,J,J,J,J,J,J,J,J,J,J,J,J,J,J,J,J,J,J,J,J,J,J,J,J,J,J,J,J,J,J,J,J,J,J,J,J,J,J,J,J,J,J,J,J,J,J,J,J,J,J,J,J,J,J,J,J,J,J,J,J,J,J,J,J,J,J,J,J,J,J,J,J,J,J,J,J,J,J,J,J,J,J,J,J,J,J,J,J,J,J,J,J,J,J,J,J,J,J,J,J,J,J,J,J,J,J,J,J,J,J,J,J,J,J,J,J,J,J,J,J,J,J,J,J,J,J,J,J,J,J,J,J,J,J],[x8 u,x8 q])) (fun x=>a6W U V ((dg U).length+1) (dg V).length x.1 x.2.1 x.2.2) (fun x=>x.1)
   ((dg U).length+1 - (dg V).length,dg U++[0],List.replicate ((dg U).length+1 - (dg V).length) 0) [some 1,some 2]
   (a6W.init hV0 (by omega)) ⟨rfl,rfl,⟨b8 rfl rfl rfl ?_ rfl,b8 rfl rfl rfl ?_ rfl,trivial⟩,⟨rfl,j9 rfl ?_,j0 rfl,c9 (by omega),j9 rfl ?_,c9 ?_,trivial⟩⟩ ?_
  ·simp [toC,C5,V3,List.map_append,List.take_append,g9]
  ·show List.replicate _ _=_
   simp [toC,g9,E0]
  ·simp [toC]
  ·simp [toC]
  ·simp [toC]
  rintro ⟨j,u,q⟩ hD
  have hD:a6W U V ((dg U).length+1) (dg V).length j u q:=hD
  have hlu:=hD.lu
  have hlq:=hD.lq
  have hle:=hD.le
  have hdt:0<j→dat u (j - 1+(dg V).length)=dat u (j - 1+(dg V).length):=fun _=>rfl
  have gu0:0<j→u[0+(((j:Int) - 1)+(dg V).length).toNat]? =some (dat u (j - 1+(dg V).length)):=fun h=>J3 (by omega) (by omega)
  have gu1:0<j→u[0+(((j:Int) - 1)+(dg V).length - 1).toNat]? =some (dat u (j - 1+(dg V).length - 1)):=fun h=>J3 (by omega) (by omega)
  have d0:=hD.oku.dat (j - 1+(dg V).length)
  have d1:=hD.oku.dat (j - 1+(dg V).length - 1)
  have dv:=(p4 V).dat ((dg V).length - 1)
  have hvt2:524288≤dat (dg V) ((dg V).length - 1):=by rw [lV];exact hvt
  conv=>whnf
  repeat' first|(refine zd ?_ ?_<;>intro h<;>first|exact zc h|(exfalso;omega)|conv=>whnf)|((first|refine zz ?_|refine X7 (by omega) (by show _<((u.length:Nat):Int);omega) ?_|refine o6 (gu0 (by omega)) ?_|refine o6 (gu1 (by omega)) ?_|refine ⟨by decide,_,aW1 (by omega) (by omega),?_⟩|refine ⟨_,b4K (by omega) (by omega) (by omega) (by omega),?_⟩|refine B5 (by omega) (a4V (by omega)) ?_|refine ⟨by omega,_,aU1 (by omega) (by omega) (by omega),?_⟩|refine aa3 (by omega) ?_|refine zy ?_);conv=>whnf)
  ·have hj:0<j:=by omega
   obtain ⟨i,rfl⟩:∃i,j=i+1:=⟨j - 1,by omega⟩
   simp only [Nat.add_sub_cancel] at *
   obtain ⟨L,hL⟩:∃L,(dg V).length=L+2:=⟨(dg V).length - 2,by omega⟩
   obtain ⟨w3,w2,w0,wv,wz,wlt⟩:=hD.window rfl
   generalize hw:(u.drop i).take ((dg V).length+1)=w at w3 w2 wv wlt
   have hwo:Okd w:=by rw [← hw];exact (hD.oku.drop i).take _
   have dw:∀t,t≤(dg V).length→dat w t=dat u (i+t):=fun t ht=>by
    rw [← hw];unfold dat
    rw [lg3,List.getElem?_take,if_pos (by omega),List.getElem?_drop,←lg3]
   have win:=Win.of (p4 V) hwo hL (by omega) (by rw [hL] at hvt2;exact hvt2) (by rw [m6];exact wlt)
   rw [dw (L+2) (by omega),dw (L+1) (by omega),dw L (by omega),m6] at win
   have eL1:(dg V).length - 1=L+1:=by omega
   have eu0:i+(L+2)=i+(dg V).length:=by omega
   have eu1:i+(L+1)=i+(dg V).length - 1:=by omega
   rw [eu0,eu1] at win
   generalize ht:dat u (i+(dg V).length)*1048576+dat u (i+(dg V).length - 1)=top2 at win
   have win':=win
   have ht0:=win.t0
   refine m9 a7 (σ:=Int × Int) (fun|(g,r)=>([J,J,J,J,J,J,J,J,a9 .i64 (2 ^ k),X2 0 u,g6 (dg V),a9 .i64 (dg V).length,X2 1 q,a9 .i64 i,J,a9 .i64 g,a9 .i64 r,J,J,J,J,J,J,J,J,J,J,J,J,J,J,J,J,J,J,J,J,J,J,J,J,J,J,J,J,J,J,J,J,J,J,J,J,J,J,J,J,J,J,J,J,J,J,J,J,J,J,J,J,J,J,J,J,J,J,J,J,J,J,J,J,J,J,J,J,J,J,J,J,J,J,J,J,J,J,J,J,J,J,J,J,J,J,J,J,J,J,J,J,J,J,J,J,J,J,J,J,J,J,J,J,J,J,J,J,J,J,J,J,J,J,J,J,J,J,J,J,J,J,J,J,J,J,J,J,J,J,J,J,J,J,J,J,J,J,J,J,J,J,J,J,J,J,J,J,J,J,J,J,J],[x8 u,x8 q])) (fun x=>S8 V (val w) (dat (dg V) (L+1)) top2 x.1 x.2) (fun x=>x.1.toNat)
    (top2 / dat (dg V) (L+1),top2 % dat (dg V) (L+1)) [some 0,some 1]
    (S8.init win) ⟨rfl,rfl,⟨b8 rfl rfl rfl rfl rfl,b8 rfl rfl rfl rfl rfl,trivial⟩,⟨rfl,j9 rfl rfl,j0 rfl,rfl,j9 rfl rfl,c9 (by omega),c9 ?_,c9 ?_,trivial⟩⟩ ?_
   ·rw [eL1]
   ·rw [eL1,Int.tmod_eq_emod_of_nonneg ht0]
   rintro ⟨g,r⟩ hG
   have hG:S8 V (val w) (dat (dg V) (L+1)) top2 g r:=hG
   have hg0:=hG.g0
   have hgu:=hG.gu
   have hr0:=hG.r0
   have hru:=hG.ru
   have dv2:=(p4 V).dat L
   have dv1:=(p4 V).dat (L+1)
   have du2:=hD.oku.dat (i+L)
   have hgm:0≤g*dat (dg V) L∧g*dat (dg V) L≤2097152*1048576:=⟨Int.mul_nonneg hg0 dv2.1,Int.mul_le_mul hgu (by omega) dv2.1 (by omega)⟩
   have gv2:(dg V)[((((dg V).length:Nat):Int) - 2).toNat]? =some (dat (dg V) L):=by rw [show ((((dg V).length:Nat):Int) - 2).toNat=L by omega];exact s6 (by omega)
   have gv1:(dg V)[((((dg V).length:Nat):Int) - 1).toNat]? =some (dat (dg V) (L+1)):=by rw [show ((((dg V).length:Nat):Int) - 1).toNat=L+1 by omega];exact s6 (by omega)
   have gu2:u[0+((i:Int)+((dg V).length:Nat) - 2).toNat]? =some (dat u (i+L)):=J3 (by omega) (by omega)
   conv=>whnf
   repeat' first|(refine zd ?_ ?_<;>intro h<;>first|exact zc h|(exfalso;omega)|conv=>whnf)|((first|refine zz ?_|refine X7 (by omega) (by show _<((u.length:Nat):Int);omega) ?_|refine B5 (by omega) gv2 ?_|refine B5 (by omega) gv1 ?_|refine o6 gu2 ?_|refine ⟨by decide,_,aW1 (by omega) (by omega),?_⟩|refine ⟨_,b4K (by omega) (by omega) (by omega) (by omega),?_⟩|refine a0D (by omega) (by omega) (by show _≤((u.length:Nat):Int);omega) ?_|refine zy ?_);conv=>whnf)
   ·have hgc:1048576≤g:=by omega
    have hst:=S8.step win hG (.inl hgc) (s8 hwo)
    exact ⟨[some 0,some 1],(g - 1,r+dat (dg V) (L+1)),⟨rfl,rfl,⟨b8 rfl rfl rfl rfl rfl,b8 rfl rfl rfl rfl rfl,trivial⟩,⟨rfl,j9 rfl rfl,rfl,rfl,j9 rfl rfl,rfl,rfl,rfl,trivial⟩⟩,hst,by have:=hst.g0;show (g - 1).toNat<g.toNat;omega⟩
   ·have hgc:r<1048576∧r*1048576+dat u (i+L)<g*dat (dg V) L:=by omega
    have hst:=S8.step win hG (.inr hgc) (s8 hwo)
    exact ⟨[some 0,some 1],(g - 1,r+dat (dg V) (L+1)),⟨rfl,rfl,⟨b8 rfl rfl rfl rfl rfl,b8 rfl rfl rfl rfl rfl,trivial⟩,⟨rfl,j9 rfl rfl,rfl,rfl,j9 rfl rfl,rfl,rfl,rfl,trivial⟩⟩,hst,by have:=hst.g0;show (g - 1).toNat<g.toNat;omega⟩
   all_goals
    have hgc:¬(1048576≤g∨(r<1048576∧r*1048576+dat u (i+L)<g*dat (dg V) L)):=by omega
    obtain ⟨hg1,hgV⟩:=S8.fin win hG hgc (by
     have h1:=win.Vl
     have h3:=win.v1l
     have h2:=Int.mul_le_mul_of_nonneg_left (a:=1048576) (b:=dat (dg V) (L+1)*1048576+dat (dg V) L) (by omega) (Int.le_of_lt win.P0)
     omega)
    have st:=aY3 (u.take i) w (u.drop (i+((dg V).length+1))) (dg V) g hwo (p4 V) (by omega) (by omega) ⟨hg0,hg1⟩ (by rw [m6];exact hgV)
    rw [m6] at st
    obtain ⟨q0,q1,q2,q3⟩:=aE4 hG (by omega) (s8 hwo) hg1 hgV
    have hds:=hD.step rfl hV0 ⟨q0,q1⟩ (by rw [hw];exact q2) (by rw [hw];exact q3)
    rw [hw] at hds
    generalize R3 (val w) V g=Q at st q0 q1 q2 q3 hds
    rw [← w3,w2] at st
    generalize hu':u.take i++V3 ((dg V).length+1) (dg (val w - Q*V).toNat)++u.drop (i+((dg V).length+1))=u' at st hds
    refine .inr ⟨_,_,N9 (H':=[x8 u',x8 q]) [0] st (aU3 (by rw [w0];omega) (by omega)) rfl rfl (by decide) ?_ (by simp) (by simp) rfl rfl rfl ?_ ?_,?_⟩
    ·intro i k hk
     match i,hk with
     |0,hk=>
      injection hk with hk
      subst hk
      exact ⟨rfl,rfl,a27 _,_,rfl,C0 rfl⟩
    ·intro i k hk
     match i,hk with
     |0,hk=>
      injection hk with hk
      subst hk
      exact ⟨_,rfl,C0 rfl⟩
    ·intro j hj hn
     match j,hj with
     |0,_=>simp at hn
     |1,_=>rfl
    conv=>whnf
    have hlu':=hds.lu
    refine zz ?_
    conv=>whnf
    repeat' first|(refine zd ?_ ?_<;>intro h<;>first|exact zc h|(exfalso;omega)|conv=>whnf)|((first|refine zz ?_|refine o6 (J3 rfl (by omega)) ?_|refine zy ?_);conv=>whnf)
    exact ⟨[some 0,some 1],(i,u',q.set i Q),⟨rfl,rfl,⟨b8 rfl rfl rfl rfl rfl,b8 rfl rfl rfl (H8 (i:=i) (n:=(i:Int)) (by simp)) rfl,trivial⟩,⟨rfl,j9 rfl (hlu.trans hlu'.symm),rfl,rfl,j9 rfl (by simp),rfl,trivial⟩⟩,hds,by show i<i+1;omega⟩
  ·have hj:j=0:=by omega
   subst hj
   obtain ⟨fq,fu⟩:=hD.fin hV0
   have tu:=a2j u (by omega)
   rw [G9 hD.oku,fu,Int.toNat_natCast] at tu
   have tq:=a2j q (by omega)
   rw [G9 hD.okq,fq,Int.toNat_natCast] at tq
   have lUV:(dg (U % V)).length≤(dg U).length:=n7 (Nat.mod_le _ _)
   have sh:=aJ2 (dg (U % V)) (2 ^ k) (p4 _) (by omega) (by omega) (by omega)
   have e1:U % V / 2 ^ k=m % n:=by rw [hUe,hVe,Nat.mul_mod_mul_right,Nat.mul_div_cancel _ hp1]
   have e2:U / V=m / n:=by rw [hUe,hVe,Nat.mul_div_mul_right _ _ hp1]
   have e3:((U % V:Nat):Int) / 2 ^ k=((m % n:Nat):Int):=by rw [← e1];simp
   rw [m6,e3,Int.toNat_natCast] at sh
   rw [e2] at tq
   refine .inr ⟨_,_,t4 [0] tu ⟨a09 (t8 (by simp) rfl (by intro h;cases h) rfl rfl (by simp)),trivial⟩ rfl,?_⟩
   conv=>whnf
   repeat' first|(refine zd ?_ ?_<;>intro h<;>first|exact zc h|(exfalso;omega)|conv=>whnf)|((first|refine zz ?_|refine qp sh ?_|refine zy ?_);conv=>whnf)
   refine .inr ⟨_,_,t4 [1] tq ⟨a09 (t8 (by simp) rfl (by intro h;cases h) rfl rfl (by simp)),trivial⟩ rfl,?_⟩
   conv=>whnf
   exact j5 ⟨rfl,rfl,trivial⟩
theorem b3c (m n:Nat) (hn:0<n) (lm:(dg m).length≤300000) (ln:(dg n).length≤300000):
 b9 Tryz.prog 208 [g6 (dg m),g6 (dg n)] [] (aA8 m n) []:=by
 rcases Nat.lt_or_ge m n with h|h
 ·exact b47 m n hn h (by omega) (by omega)
 ·have h1:(dg n).length≠0:=by rw [Ne,List.length_eq_zero_iff,M3];omega
  by_cases hl:(dg n).length=1
  ·exact b4a m n hn h hl (by omega)
  ·exact b3s m n hn h (by omega) lm ln
end
end Go.Proofs.YtdbogogfeffjlaaGreat
