/- Part 5. -/
import Derived.Test.YtikokmdpigploaaGreatSk4
namespace Go.Proofs.YtikokmdpigploaaGreat
set_option linter.all false
section
set_option maxRecDepth 100000
abbrev vS:Value:=.slice none 0 0
abbrev vI:Value:=.int .i64 0
abbrev tF:Option TD:=some ⟨.bas,false,1,8,[.nilFunc]⟩
abbrev tS (n:Nat):Option TD:=some ⟨.slice n,false,1,24,[vS]⟩
def bv1:List (Option TD):=[none,tF,some ⟨.int .i64,false,1,8,[vI]⟩,some ⟨.int .i64,false,1,8,[vI]⟩,some ⟨.bool,false,1,1,[.bool false]⟩,some ⟨.int .u8,false,1,1,[.int .u8 0]⟩,some ⟨.int .u8,false,1,1,[.int .u8 0]⟩,some ⟨.struct [(0,1,false),(1,1,false),(2,1,false),(3,1,false)],true,4,24,[vI,vI,.bool false,.int .u8 0]⟩,some ⟨.struct [(0,1,false),(1,1,false),(2,1,false),(3,1,false)],true,4,24,[vI,vI,.bool false,.int .u8 0]⟩,none,none,none,some ⟨.int .u64,false,1,8,[.int .u64 0]⟩,none,none,some ⟨.bas,false,1,8,[.pointer none]⟩,some ⟨.bas,false,1,8,[.pointer none]⟩,some ⟨.bas,false,1,8,[.pointer none]⟩,some ⟨.struct [(0,1,false)],true,1,8,[.pointer none]⟩,some ⟨.struct [(0,1,false)],true,1,8,[.pointer none]⟩,none,some ⟨.int .i32,false,1,4,[.int .i32 0]⟩,tS 160,tS 149,tS 255,tS 264,tS 266,some ⟨.struct [(0,1,false),(1,1,false),(2,1,false),(3,1,false),(4,1,false),(5,1,false),(6,1,false),(7,1,false)],true,8,144,[vI,vI,vI,vS,vS,vS,vS,vS]⟩,some ⟨.struct [(0,1,false),(1,1,false),(2,1,false),(3,1,false),(4,1,false),(5,1,false),(6,1,false),(7,1,false)],true,8,144,[vI,vI,vI,vS,vS,vS,vS,vS]⟩,tS 43,tS 45,some ⟨.struct [(0,8,false),(8,1,false),(9,1,false)],true,10,192,[vI,vI,vI,vS,vS,vS,vS,vS,vS,vS]⟩,some ⟨.struct [(0,8,false),(8,1,false),(9,1,false)],true,10,192,[vI,vI,vI,vS,vS,vS,vS,vS,vS,vS]⟩,tS 3,tF,tF,tS 33,some ⟨.int .i64,false,1,8,[vI]⟩,none,tF,tF,tF,some ⟨.struct [(0,1,false),(1,1,false),(2,1,false)],true,3,24,[vI,vI,vI]⟩,some ⟨.struct [(0,1,false),(1,1,false),(2,1,false)],true,3,24,[vI,vI,vI]⟩,some ⟨.struct [(0,1,false),(1,1,false)],true,2,16,[vI,vI]⟩,some ⟨.struct [(0,1,false),(1,1,false)],true,2,16,[vI,vI]⟩,tF,tF,tF,tS 86,some ⟨.struct [(0,1,false),(1,1,false),(2,1,false),(3,1,false),(4,1,false)],true,5,88,[vI,vI,vS,vS,vS]⟩,some ⟨.struct [(0,1,false),(1,1,false),(2,1,false),(3,1,false),(4,1,false)],true,5,88,[vI,vI,vS,vS,vS]⟩,tF,tS 51,none,tF,none,tF,tF,tS 109,tF,tF,tF,none,tF,none,tF,tF,tS 133,some ⟨.struct [(0,1,false),(1,1,false)],true,2,32,[vI,vS]⟩,some ⟨.struct [(0,1,false),(1,1,false)],true,2,32,[vI,vS]⟩,none,tF,none,tF,tF,tF,tF,tF,tF,tF,tF,tF,some ⟨.struct [(0,1,false),(1,1,false)],true,2,32,[vI,vS]⟩,some ⟨.struct [(0,1,false),(1,1,false)],true,2,32,[vI,vS]⟩,some ⟨.struct [(0,2,false),(2,2,false)],true,4,64,[vI,vS,vI,vS]⟩,some ⟨.struct [(0,2,false),(2,2,false)],true,4,64,[vI,vS,vI,vS]⟩,tF,tF,tF,tF,tF,tF,tS 4,tF,tF,tF,tF,tF,tF,tF,tF,tF,tF,none,tF,tF,tF,some ⟨.struct [(0,1,false),(1,4,false)],true,5,72,[vI,vI,vS,vI,vS]⟩,some ⟨.struct [(0,1,false),(1,4,false)],true,5,72,[vI,vI,vS,vI,vS]⟩,tF,tF,tF,tF,tF,none,tF,tF,tS 32,tF,tF,none,tF,tS 49,none,tF,tF,tF,tF,tF,tF,tF,some ⟨.struct [(0,1,false),(1,1,false),(2,4,false)],true,6,96,[vS,vI,vI,vS,vI,vS]⟩,some ⟨.struct [(0,1,false),(1,1,false),(2,4,false)],true,6,96,[vS,vI,vI,vS,vI,vS]⟩,tS 137,tF,some ⟨.struct [(0,1,false),(1,1,false),(2,1,false)],true,3,56,[vI,vS,vS]⟩,some ⟨.struct [(0,1,false),(1,1,false),(2,1,false)],true,3,56,[vI,vS,vS]⟩,none,tF,tF,tF,tF,tF,tS 147,tF,some ⟨.struct [(0,4,false),(4,1,false),(5,1,false),(6,1,false)],true,7,104,[vI,vS,vI,vS,.bool false,vS,vI]⟩,some ⟨.struct [(0,4,false),(4,1,false),(5,1,false),(6,1,false)],true,7,104,[vI,vS,vI,vS,.bool false,vS,vI]⟩,some ⟨.struct [(0,1,false),(1,1,false),(2,1,false),(3,1,false),(4,1,false),(5,1,false)],true,6,48,[vI,vI,vI,vI,vI,.bool false]⟩,some ⟨.struct [(0,1,false),(1,1,false),(2,1,false),(3,1,false),(4,1,false),(5,1,false)],true,6,48,[vI,vI,vI,vI,vI,.bool false]⟩,tF,none,tF,tF,tF,tF,tF,tF,tF,some ⟨.struct [(0,1,false),(1,1,false),(2,1,false)],true,3,24,[vI,vI,vI]⟩,some ⟨.struct [(0,1,false),(1,1,false),(2,1,false)],true,3,24,[vI,vI,vI]⟩,tF,tF,tF,tF,tF,tF,tF,tF,tF,none,tF,tF,some ⟨.struct [(0,1,false),(1,4,false),(5,1,false),(6,1,false),(7,1,false)],true,8,144,[vI,vI,vS,vI,vS,vS,vS,vS]⟩,some ⟨.struct [(0,1,false),(1,4,false),(5,1,false),(6,1,false),(7,1,false)],true,8,144,[vI,vI,vS,vI,vS,vS,vS,vS]⟩,none,tF,tF,tF,tF,tF,tF,tF,tF,tF,none,tF,tF,tF,tF,tF,tF,tF,tF,none,tF,tF,tF,tF,tS 59,tF,none,tF,tF,tF,tF,none,tF,tF,tF,tF,tF,tF,some ⟨.int .u64,false,1,8,[.int .u64 0]⟩,some ⟨.int .u64,false,1,8,[.int .u64 0]⟩,tF,tF,tF,tF,tF,tF,tF,tF,tF,tF,tF,some ⟨.bas,false,1,8,[.pointer none]⟩,tF,none,tF,tF,tF,tF,some ⟨.bas,false,1,8,[.pointer none]⟩,tF,tF,tF,tF,tF,tF,tF,tF,tF,tF,tF,tF,tF,none,tF,none,tF,tF,tF,tF,some ⟨.struct [(0,1,false),(1,1,false),(2,1,false),(3,1,false),(4,1,false),(5,1,false)],true,6,48,[vI,vI,vI,vI,vI,vI]⟩,some ⟨.struct [(0,1,false),(1,1,false),(2,1,false),(3,1,false),(4,1,false),(5,1,false)],true,6,48,[vI,vI,vI,vI,vI,vI]⟩,tF,tF,none,tF,some ⟨.arr 2 3,true,2,16,[vI,vI]⟩,tS 260,tF,some ⟨.struct [(0,1,false),(1,1,false)],true,2,16,[vI,vI]⟩,some ⟨.struct [(0,1,false),(1,1,false)],true,2,16,[vI,vI]⟩,some ⟨.struct [(0,1,false),(1,1,false),(2,1,false),(3,1,false)],true,4,32,[vI,vI,vI,vI]⟩,some ⟨.struct [(0,1,false),(1,1,false),(2,1,false),(3,1,false)],true,4,32,[vI,vI,vI,vI]⟩,none,tF,tF,tF,tS 84,tS 271,some ⟨.struct [(0,1,false),(1,1,false),(2,1,false),(3,2,false),(5,1,false),(6,1,false),(7,1,false),(8,1,false),(9,1,false),(10,2,false)],true,12,256,[vS,vS,vS,vI,vS,vS,vS,vS,vS,vS,vI,vS]⟩,some ⟨.struct [(0,1,false),(1,1,false),(2,1,false),(3,2,false),(5,1,false),(6,1,false),(7,1,false),(8,1,false),(9,1,false),(10,2,false)],true,12,256,[vS,vS,vS,vI,vS,vS,vS,vS,vS,vS,vI,vS]⟩,tF,tF,tF,tF,tF,tF,tF,tS 288,tS 306,some ⟨.struct [(0,1,false),(1,1,false),(2,1,false),(3,1,false),(4,1,false),(5,1,false)],true,6,128,[vI,vS,vS,vS,vS,vS]⟩,some ⟨.struct [(0,1,false),(1,1,false),(2,1,false),(3,1,false),(4,1,false),(5,1,false)],true,6,128,[vI,vS,vS,vS,vS,vS]⟩,tF,some ⟨.struct [(0,4,false),(4,1,false)],true,5,88,[vI,vS,vI,vS,vS]⟩,some ⟨.struct [(0,4,false),(4,1,false)],true,5,88,[vI,vS,vI,vS,vS]⟩,tF,none,tF,tF,tF,tF,tF,tF,some ⟨.int .u32,false,1,4,[.int .u32 0]⟩,none,tF,none,tF,tF,tF,tF,some ⟨.struct [(0,1,false),(1,1,false)],true,2,16,[vI,.bool false]⟩,some ⟨.struct [(0,1,false),(1,1,false)],true,2,16,[vI,.bool false]⟩,some ⟨.bas,false,1,8,[.pointer none]⟩,tF,tF,tF,tF,none,none,some ⟨.arr 0 16,true,0,0,[]⟩,some ⟨.struct [(0,0,false)],true,0,0,[]⟩,some ⟨.struct [(0,0,false)],true,0,0,[]⟩,some ⟨.int .u8,false,1,1,[.int .u8 0]⟩,some ⟨.int .u8,false,1,1,[.int .u8 0]⟩,tF,some ⟨.bas,false,1,8,[.pointer none]⟩,some ⟨.int .i32,false,1,4,[.int .i32 0]⟩,some ⟨.int .i32,false,1,4,[.int .i32 0]⟩,some ⟨.struct [(0,1,false),(1,1,false),(2,1,false),(3,1,false),(4,1,false),(5,1,false),(6,1,false),(7,1,false),(8,1,false),(9,1,false),(10,1,false)],true,11,48,[.int .u64 0,.int .u64 0,.int .u32 0,.int .u8 0,.int .u8 0,.int .u8 0,.int .u8 0,.nilFunc,.pointer none,.int .i32 0,.int .i32 0]⟩,some ⟨.struct [(0,1,false),(1,1,false),(2,1,false),(3,1,false),(4,1,false),(5,1,false),(6,1,false),(7,1,false),(8,1,false),(9,1,false),(10,1,false)],true,11,48,[.int .u64 0,.int .u64 0,.int .u32 0,.int .u8 0,.int .u8 0,.int .u8 0,.int .u8 0,.nilFunc,.pointer none,.int .i32 0,.int .i32 0]⟩,none]
def tab:Tab:=fun t=>bv1.getD t none
def tq {P:Program} {t:TypeId} {d:TD} (h1:be8 P t=some d.k:=by kernel_rfl) (h2:d.agg=br7 d.k:=by rfl) (h3:(P.info? t).map (fun i=>(i.zero.map (·.cells.toList),i.size,i.bytes))=some (some d.zero,d.size,d.bytes):=by kernel_rfl) (h4:d.zero.all (·.oneCell')=true:=by rfl) (h5:d.zero.length=d.size:=by rfl):aD7 P t d:=bq2 h1 h2 h3 h4 h5
theorem zr {p:Prop} (h:p:=by kernel_rfl):p:=h
def d7:D2 Tryz.prog tab:=b7m (l:=bv1) zr ⟨tq,tq,tq,tq,tq,tq,tq,tq,tq,tq,tq,tq,tq,tq,tq,tq,tq,tq,tq,tq,tq,tq,tq,tq,tq,tq,tq,tq,tq,tq,tq,tq,tq,tq,tq,tq,tq,tq,tq,tq,tq,tq,tq,tq,tq,tq,tq,tq,tq,tq,tq,tq,tq,tq,tq,tq,tq,tq,tq,tq,tq,tq,tq,tq,tq,tq,tq,tq,tq,tq,tq,tq,tq,tq,tq,tq,tq,tq,tq,tq,tq,tq,tq,tq,tq,tq,tq,tq,tq,tq,tq,tq,tq,tq,tq,tq,tq,tq,tq,tq,tq,tq,tq,tq,tq,tq,tq,tq,tq,tq,tq,tq,tq,tq,tq,tq,tq,tq,tq,tq,tq,tq,tq,tq,tq,tq,tq,tq,tq,tq,tq,tq,tq,tq,tq,tq,tq,tq,tq,tq,tq,tq,tq,tq,tq,tq,tq,tq,tq,tq,tq,tq,tq,tq,tq,tq,tq,tq,tq,tq,tq,tq,tq,tq,tq,tq,tq,tq,tq,tq,tq,tq,tq,tq,tq,tq,tq,tq,tq,tq,tq,tq,tq,tq,tq,tq,tq,tq,tq,tq,tq,tq,tq,tq,tq,tq,tq,tq,tq,tq,tq,tq,tq,tq,tq,tq,tq,tq,tq,tq,tq,tq,tq,tq,tq,tq,tq,tq,tq,tq,tq,tq,tq,tq,tq,tq,tq,tq,tq,tq,tq,tq,tq,tq,tq,tq,tq,tq,tq,tq,tq,tq,tq,tq,tq,tq,tq,tq,tq,tq,tq,tq,tq,tq,tq,tq,tq,tq,tq,tq,tq,tq,tq,tq,tq,tq,tq,tq,tq,tq,tq,tq,tq,tq,tq,tq,tq,tq,tq,tq,tq,tq,tq,tq,tq,tq,tq,tq,tq,trivial⟩
end
section
open Go.RowKit
structure X4 where
 kind:Int
 hh:Int
 mat:Int
structure A8 where
 day:Int
 src:Int
 dst:Int
 scale:Int
 reading:Int
 all:Bool
structure L8 where
 scale:Int
 since:Int
 till:Int
 grams:Int
 permille:Int
 drift:Int
structure E9 where
 scale:Int
 since:Int
structure a1o where
 move:Int
 mat:Int
 least:Int
 most:Int
structure Ev where
 mats:Int
 hhs:Int
 scs:Int
 places:List X4
 moves:List A8
 certs:List L8
 recalls:List E9
 purities:List a1o
section
variable {α:Type} {k:Nat} {f:α->List Value} {w w':World} {A:Option Addr} {n:Nat} {xs:List α}
end
section
variable {w w':World} {m h s:Int} {A1 A2 A3 A4 A5:Option Addr} {n1 n2 n3 n4 n5:Nat} {e:Ev}
end
end
section
def idx (a b:Int):Bool:=decide (0<=a) && decide (a<b)
def btw (n lo hi:Int):Bool:=decide (lo<=n) && decide (n<=hi)
def b2j (a b:Int):btw a 0 (b - 1)=idx a b:=by
 unfold btw idx;have:decide (a<=b - 1)=decide (a<b):=zo;rw [this]
def b22 {a b:Int}:idx a b=true↔0<=a∧a<b:=by simp [idx]
def W8 {a b c:Int}:btw a b c=true↔b<=a∧a<=c:=by simp [btw]
def a2y (e:Ev):Bool:=
 decide (6<e.mats) || decide (100<e.hhs) || decide (30<e.scs) || decide (100<e.places.length) || decide (200<e.moves.length) ||
  decide (100<e.certs.length) || decide (30<e.recalls.length) || decide (200<e.purities.length)
def Y9 (e:Ev) (p:X4):Bool:=
 idx p.kind 7 && (if p.kind=0 then idx p.hh e.hhs && idx p.mat e.mats else decide (p.hh=-1) && decide (p.mat=-1))
def K4 (e:Ev) (i:Int):Int:=((e.places[i.toNat]?).map (·.kind)).getD (-1)
def R5 (e:Ev) (m:A8):Bool:=
 idx m.src e.places.length && idx m.dst e.places.length && decide (m.src≠m.dst) && decide (K4 e m.src≠5) && decide (K4 e m.src≠6) &&
  !(decide (K4 e m.src=0) && m.all) && decide (K4 e m.dst≠0) && (if m.scale=-1 then decide (m.reading=0) else idx m.scale e.scs && btw m.reading 0 1099511627776)
def a40 (e:Ev) (c:L8):Bool:=
 decide (0<=c.since) && decide (c.since<=c.till) && decide (c.till<=100000) && idx c.scale e.scs && btw c.grams 0 1099511627776 && btw c.permille 0 1000 && btw c.drift 0 10000000
def a0k (e:Ev) (r:E9):Bool:=idx r.scale e.scs && btw r.since 0 100000
def a0f (e:Ev) (p:a1o):Bool:=
 idx p.move e.moves.length && idx p.mat e.mats && decide (0<=p.least) && decide (p.least<=p.most) && decide (p.most<=1000)
def Z7 (e:Ev):Bool:=e.certs.all (a40 e) && e.recalls.all (a0k e) && e.purities.all (a0f e)
def z7 (e:Ev):Int->List A8->Int
 |_,[]=>0
 |last,m::r=>if m.day<last∨100000<m.day then 17 else if R5 e m then z7 e m.day r else 1
def E6 (e:Ev):Int:=
 if a2y e then 6 else if e.mats<1∨e.hhs<0∨e.scs<0∨e.places.all (Y9 e)=false then 1
 else if z7 e 0 e.moves≠0 then z7 e 0 e.moves else if Z7 e then 0 else 1
def aC3 {e:Ev} {i:Nat} {p:X4} (h:e.places[i]? =some p):K4 e (i:Int)=p.kind:=by
 simp [K4,h]
def at8 {e:Ev} {l:List A8}:∀{last:Int},z7 e last l=0->∀m ∈ l,R5 e m=true:=by
 induction l with
 |nil=>intro last _ m hm;cases hm
 |cons m r ih=>
  intro last h x hx;unfold z7 at h;split at h
  ·simp at h
  ·split at h
   ·rename_i hmk;rcases lbz.1 hx with rfl|hx
    ·exact hmk
    ·exact ih h x hx
   ·simp at h
def a7d {e:Ev} (h:E6 e=0):a2y e=false∧1<=e.mats∧0<=e.hhs∧0<=e.scs∧e.places.all (Y9 e)=true∧z7 e 0 e.moves=0∧Z7 e=true:=by
 unfold E6 at h;by_cases h1:a2y e=true
 ·rw [if_pos h1] at h;simp at h
 rw [if_neg h1] at h;by_cases h2:e.mats<1∨e.hhs<0∨e.scs<0∨e.places.all (Y9 e)=false
 ·rw [if_pos h2] at h;simp at h
 rw [if_neg h2] at h;by_cases h3:z7 e 0 e.moves≠0
 ·rw [if_pos h3] at h;exact absurd h h3
 rw [if_neg h3] at h;by_cases h4:Z7 e=true
 ·refine ⟨by simpa using h1,om,om,om,?_,by simpa using h3,h4⟩;rw [← Bool.not_eq_false];exact fun hq=>h2 (.inr (.inr (.inr hq)))
 ·rw [if_neg h4] at h;simp at h
def V9 {e:Ev} (h:E6 e=0) {m:A8} (hm:m ∈ e.moves):R5 e m=true:=at8 (a7d h).2.2.2.2.2.1 m hm
def a1T {e:Ev} {m:A8} (h:R5 e m=true):0<=m.src∧m.src<e.places.length:=by
 simp [R5] at h;exact b22.1 h.1.1.1.1.1.1.1
def w5 {α:Type} (p:Nat->α->Bool):Nat->List α->LI
 |_,[]=>[]
 |k,m::r=>if p k m then (k:Int)::w5 p (k+1) r else w5 p (k+1) r
def R3 {α:Type} (p:Nat->α->Bool) (l:List α) (k:Nat):LI:=w5 p 0 (l.take k)
def ab0 {α:Type} (p:Nat->α->Bool) (a b:List α):∀k,w5 p k (a++b)=w5 p k a++w5 p (k+a.length) b:=by
 induction a with
 |nil=>intro k;simp [w5]
 |cons m r ih=>
  intro k;simp only [List.cons_append,w5,ih,lbu];rw [show k+1+r.length=k+(r.length+1) from by omega];split<;>simp
def a9A {α:Type} (p:Nat->α->Bool) {l:List α} {k:Nat} {x:α} (h:l[k]? =some x):R3 p l (k+1)=R3 p l k++(if p k x then [(k:Int)] else []):=by
 obtain ⟨hk,hx⟩:=lbe.1 h;unfold R3;rw [aE2 hk,ab0,hx];have:(l.take k).length=k:=zo;rw [this];simp only [w5,P9]
def a4t {α:Type} (p:Nat->α->Bool) {l:List α} {k:Nat} {x:α} (h:l[k]? =some x) (hp:p k x=true):R3 p l (k+1)=R3 p l k++[(k:Int)]:=by
 rw [a9A p h,if_pos hp]
def a1K {α:Type} (p:Nat->α->Bool) {l:List α} {k:Nat} {x:α} (h:l[k]? =some x) (hp:p k x=false):R3 p l (k+1)=R3 p l k:=by
 rw [a9A p h,if_neg (by simp [hp])];simp
def ak0 {α:Type} (p:Nat->α->Bool) {l:List α} {k:Nat} (h:l.length<=k):R3 p l k=w5 p 0 l:=by
 unfold R3;rw [lbn h]
def ai7 {α:Type} {p q:Nat->α->Bool} (l:List α) (N:Nat) (h:∀k m,k<N->p k m=q k m):∀k,k+l.length<=N->w5 p k l=w5 q k l:=by
 induction l with
 |nil=>intro k _;rfl
 |cons m r ih=>
  intro k hk;simp only [lbu] at hk;simp only [w5,h k m om,ih (k+1) om]
def ab4 {α:Type} (p:Nat->α->Bool) (l:List α):∀k,(w5 p k l).length<=l.length:=by
 induction l with
 |nil=>intro k;simp [w5]
 |cons m r ih=>
  intro k;have:=ih (k+1);simp only [w5];split<;>simp<;>omega
def a6G {α:Type} (p:Nat->α->Bool) (l:List α) (k:Nat):(R3 p l k).length<=k:=by
 have:=ab4 p (l.take k) 0;have h2:(l.take k).length<=k:=List.length_take_le _ _;unfold R3;omega
def a4E (e:Ev) (hh mat lo hi:Int) (m:A8):Bool:=
 match e.places[m.src.toNat]? with
 |some p=>decide (p.kind=0) && decide (p.hh=hh) && (decide (mat=-1) || decide (p.mat=mat)) && btw m.day lo hi
 |none=>false
def E7 (e:Ev) (hh mat lo hi:Int):LI:=if E6 e=0 then w5 (fun _ m=>a4E e hh mat lo hi m) 0 e.moves else []
end
section
structure Ev.Sized (e:Ev):Prop where
 s1:e.places.length<=1000000
 s2:e.moves.length<=1000000
 s3:e.certs.length<=1000000
 s4:e.recalls.length<=1000000
 s5:e.purities.length<=1000000
end
section
open Go.RowKit
abbrev ti (n:Int):T:=.atm (.int .i64 n)
abbrev tb (b:Bool):T:=.atm (.bool b)
def X4.row (p:X4):List T:=[ti p.kind,ti p.hh,ti p.mat]
def A8.row (m:A8):List T:=[ti m.day,ti m.src,ti m.dst,ti m.scale,ti m.reading,tb m.all]
def L8.row (c:L8):List T:=[ti c.scale,ti c.since,ti c.till,ti c.grams,ti c.permille,ti c.drift]
def E9.row (r:E9):List T:=[ti r.scale,ti r.since]
def a1o.row (p:a1o):List T:=[ti p.move,ti p.mat,ti p.least,ti p.most]
def k6 (n:Int):List T:=[ti n]
abbrev a6y (l:List X4):T:=.sl 3 .any (l.map X4.row)
abbrev a4m (l:List A8):T:=.sl 6 .any (l.map A8.row)
abbrev a0G (l:List L8):T:=.sl 6 .any (l.map L8.row)
abbrev N6 (l:List E9):T:=.sl 2 .any (l.map E9.row)
abbrev a1N (l:List a1o):T:=.sl 4 .any (l.map a1o.row)
abbrev x6 (l:LI):T:=.sl 1 .any (l.map k6)
def evC (e:Ev):List C:=[.t (ti e.mats),.t (ti e.hhs),.t (ti e.scs),.t (a6y e.places),.t (a4m e.moves),.t (a0G e.certs),.t (N6 e.recalls),.t (a1N e.purities)]
def evT (e:Ev):List T:=[ti e.mats,ti e.hhs,ti e.scs,a6y e.places,a4m e.moves,a0G e.certs,N6 e.recalls,a1N e.purities]
abbrev evS (e:Ev):S:=.agg (evC e)
abbrev k9 (l:LI):S:=.c (.t (x6 l))
def X4.cs (p:X4):List C:=p.row.map .t
def A8.cs (m:A8):List C:=m.row.map .t
abbrev b3f (m:A8):S:=.agg m.cs
abbrev evB (e:Ev):Blk:=D4 28 8 [evC e] true
def d9 {a b:Bool} {H1:Hp} (h:a=b):Fin 0 (i9 a) H1 (i9 b) []:=m9 (by subst h;exact rfl)
def n8 {a b:Int} {k:IntKind} {H1:Hp} (h:a=b):Fin 0 (c9 k a) H1 (c9 k b) []:=m9 (by subst h;exact rfl)
def l9 {x y:T} {ρ:List (Option Nat)} {H:Hp} (h:x=y):a6E ρ H (.c (.t x)) (.c (.t y)):=ad9 h
def e7 {a b:Int} {k:IntKind} {ρ:List (Option Nat)} {H:Hp} (h:a=b):a6E ρ H (c9 k a) (c9 k b):=by subst h;exact rfl
def A7 (e:Ev):I5 [evC e]:=by simp [I5,evC,C.isT]
def bv2 {H:Hp} {p:Nat->Prop} (e:Ev):VS H p (evS e) (evS e):=br9 (evT e)
end
section
def bw1 (xs ys:LI) (k:Nat):Prop:=xs.take k=ys.take k
end
section
open Go.RowKit
set_option maxRecDepth 100000
abbrev x9 (l:LI):Blk:={ mode:=.live,elem:=3,size:=1,rows:=toC (l.map k6),box:=false }
abbrev a0K (id:Nat) (l:LI):S:=.c (.own id 0 l.length true)
def s8 {α:Type} {xs:List α} {f:α->List T} {n:Int} {x:α} {lo:Nat} {K:List C->Prop} (hx:xs[lo+n.toNat]? =some x) (h:K ((f x).map C.t)):∃row,(toC (xs.map f))[lo+n.toNat]? =some row∧K row:=
 ⟨(f x).map C.t,by simp [toC,hx],h⟩
def a1g {a b:Int} {n:Nat} {K:Prop} (h0:0<=a) (h1:a<=b) (h2:b<=1000000) (hn:n<=1000) (k:K):(0<=a∧a<=b∧b*((n:Int)+1)<=140737488355328)∧K:=by
 refine ⟨⟨h0,h1,?_⟩,k⟩;have:b*((n:Int)+1)<=1000000*1001:=a4y h2 om om om;omega
def b8r {α:Type} {f:α->List T} {xs:List α} {x:α}:(toC (xs.map f)).take xs.length++toC [f x]=toC ((xs++[x]).map f):=by
 rw [lbn zt];simp [toC]
def ao0 {x:Int} (h1:0<=x) (h2:x<18446744073709551616):IntKind.wrap .u64 x=x:=by
 simp only [IntKind.wrap,IntKind.bits,IntKind.signed];simp;omega
def aT9 {k:IntKind} (hk:k.bits=64) (a:Int) (j:Nat) (hj:j<=62):(BitVec.ofInt k.bits a &&& BitVec.ofInt k.bits ((2 ^ j - 1:Nat):Int)).toNat=(a % ((2 ^ j:Nat):Int)).toNat:=by
 rw [hk];rw [BitVec.toNat_and,BitVec.toNat_ofInt,BitVec.toNat_ofInt];have hp:(2:Nat) ^ j<=2 ^ 62:=ak6 de hj;have h0:0<(2:Nat) ^ j:=Nat.pow_pos de;have e1:((((2 ^ j - 1:Nat):Int)) % ((2 ^ 64:Nat):Int)).toNat=2 ^ j - 1:=by
  rw [am0 om om];simp
 rw [e1,Nat.and_two_pow_sub_one_eq_mod];have hd:(2:Nat) ^ 64=2 ^ j*2 ^ (64 - j):=by rw [← Nat.pow_add];congr 1;omega
 have h2:0<=a % ((2 ^ 64:Nat):Int):=aj5 _ de;have e2:((a % ((2 ^ 64:Nat):Int)).toNat % 2 ^ j:Nat)=((a % ((2 ^ 64:Nat):Int)) % ((2 ^ j:Nat):Int)).toNat:=by
  rw [Int.toNat_emod h2 om];rfl
 rw [e2]
 congr 1
 refine Int.emod_emod_of_dvd _ ?_;exact ⟨((2 ^ (64 - j):Nat):Int),by exact_mod_cast hd⟩
def aJ2 {a:Int} (j:Nat) (hj:j<=62):IntKind.wrap .u64 (BitVec.ofInt (IntKind.bits .u64) a &&& BitVec.ofInt (IntKind.bits .u64) ((2 ^ j - 1:Nat):Int)).toNat=a % ((2 ^ j:Nat):Int):=by
 rw [aT9 rfl a j hj];have hp:(2:Nat) ^ j<=2 ^ 62:=ak6 de hj;have h0:0<(2:Nat) ^ j:=Nat.pow_pos de;have h1:0<=a % ((2 ^ j:Nat):Int):=aj5 _ om;have h2:a % ((2 ^ j:Nat):Int)<((2 ^ j:Nat):Int):=aJ0 _ om;rw [lbY h1,ao0 h1 om]
def aU8 {x:Int} (h1:0<=x) (h2:x<18446744073709551616):J2 .u64 x x:=by unfold J2;exact (ao0 h1 h2).symm
def a35 {α:Type} {l:List α} {f:α->Bool} {k:Nat} {x:α} (h:l[k]? =some x):(l.take (k+1)).any f=((l.take k).any f || f x):=by
 rw [lbF,h];simp
def t5 {α:Type} {l:List α} {f:α->Bool} {k:Nat} {x:α} (h:l[k]? =some x):(l.take (k+1)).all f=((l.take k).all f && f x):=by
 rw [lbF,h];simp
def a7a {α:Type} {l:List α} {f:α->Bool} {k:Nat} {x:α} (h:l[k]? =some x) (hf:f x=true):l.any f=true:=List.any_eq_true.2 ⟨x,lbm h,hf⟩
def x7 {α:Type} {l:List α} {f:α->Bool} {k:Nat} {x:α} (h:l[k]? =some x) (hf:f x=false):l.all f=false:=by
 rw [← lbP,lbv];intro h';rw [h' x (lbm h)] at hf;cases hf
def ao9 {x y:T} {H1:Hp} (h:x=y):Fin 0 (.c (.t x)) H1 (.c (.t y)) []:=by subst h;exact m9 (show a95 [] H1 _ _ from l9 (ρ:=[]) (H:=H1) rfl)
def bg5 {n:Nat} {k:SK} {a b:List (List T)} {H1:Hp} (h:a=b) (hk:k=.any):Fin 0 (.c (.t (.sl n k a))) H1 (.c (.t (.sl n .any b))) []:=by subst h hk;exact m9 (show a95 [] H1 _ _ from l9 (ρ:=[]) (H:=H1) rfl)
def aB9 {P:Program} {g:FuncId} {args:List S} {H H':Hp} {r:S} (i:Nat) {n:Nat} (hi:args[i]? =some (.c (.t (.sl n .any [])))) (h1:d6 P g (args.set i (.c (.t (.sl n .nul [])))) H r H')
 (h2:d6 P g (args.set i (.c (.t (.sl n .non [])))) H r H'):d6 P g args H r H':=by
 refine ⟨h1.1,fun w ι M vals hl hr hH hM hF=>?_⟩;have hv:=(hr i _ hi).inv_t;have hil:=(lbe.1 hi).1;have key:∀k:SK,RT w M (.sl n k []) (vals.getD i undef)->∀j s,(args.set i (.c (.t (.sl n k []))))[j]? =some s->RS w ι M s (vals.getD j undef):=fun k hk j s hj=>by
  by_cases hji:i=j
  ·subst hji;rw [List.getElem?_set_self hil] at hj;injection hj with hj;subst hj;exact .c (.t hk)
  ·rw [List.getElem?_set_ne hji] at hj;exact hr j s hj
 generalize hu:vals.getD i undef=u at hv;cases hv with
 |@sl _ _ _ b off cap A f hrow hcap hmax hk hn hA hc hr' hx=>
  cases A with
  |none=>exact h1.2 w ι M vals (by simpa using hl) (key .nul (by rw [hu];exact .sl (b:=b) (off:=off) f hrow hcap hmax zi zi zq hc hr' ⟨(fun _=>rz),(fun h=>nomatch h)⟩)) hH hM hF
  |some a=>exact h2.2 w ι M vals (by simpa using hl) (key .non (by rw [hu];exact .sl (b:=b) (off:=off) f hrow hcap hmax zi zi zq hc hr' ⟨(fun h=>nomatch h),(fun _ h=>nomatch h)⟩)) hH hM hF
def aw3 {P:Program} {g:FuncId} {args:List S} {H:Hp} {n:Nat} {b:Blk} {rows:List (List T)} (h:d6 P g args [] (.c (.own 0 0 n true)) [b]) (hargs:args=args.map (a53 [])) (hok:args.all (okS 0)=true)
 (hm:b.mode=.live) (hb:b.rows=toC rows):d6 P g args H (.c (.own H.length 0 n true)) (H++[b]):=by
 refine Q8 [] h hargs hok rfl aN7 zq (by intro k hk;simp at hk;subst hk;rw [hm];simp) zq rfl ?_ zq ?_ ?_
 ·simp [a53,X8,a3D]
 ·intro i k hk
  match i,hk with
  |0,hk=>
   simp at hk;subst hk;exact ⟨b,by simp [a3D],z4 hb⟩
 ·intro j hj _;rw [lbb hj]
def b1M {P:Program} {g:FuncId} {args args':List S} {r:S} {H':Hp} (h:d6 P g args' [] r H') (ha:a6Q [] (fun _=>False) args args'):d6 P g args [] r H':=by
 refine ⟨h.1,fun w ι M vals hl hv hH hM hf=>?_⟩;obtain ⟨hlen,hget⟩:=a6Q.get ha;exact h.2 w ι M vals om (fun j s hj=>by
  obtain ⟨x,hx,hs⟩:=hget j s hj;exact hs.rs hH (fun _ h=>h) (fun _ _ _ _ _ h _ _ _ _=>h.elim) (hv j x hx)) hH hM hf
end
section
open Go.RowKit
theorem St1.zd {p:Prop} [Decidable p] {k:S->Prop} (a:p->k (i9 true)) (b:¬p->k (i9 false)):as5 p k:=as5.mk a b
theorem St2.zd {b:Bool} {k:S->Prop} (a:b=true->k (i9 true)) (c:b=false->k (i9 false)):a2F b k:=a2F.mk a c
theorem St1.zz {x:Int} {K:Int->Prop} (k:K x) (h1:-9223372036854775808<=x:=by omega) (h2:x<=9223372036854775807:=by omega):∃n,J2 .i64 x n∧K n:=⟨_,a2O h1 h2,k⟩
theorem St2.zz {n m:Int} {K:Prop} (k:K) (h0:0<=n:=by omega) (h1:n<m:=by omega):(0<=n∧n<m)∧K:=⟨⟨h0,h1⟩,k⟩
theorem St3.zz {ops:List Oper} {K:List Oper->Prop} (k:K ops) (h:a9S ops=true:=by decide +kernel):b48 ops K:=b5y h k
theorem St4.zz {P:Program} {τ:Tab} {env:Env} {H':Hp} {ops:List Oper} {i:Nat} {K:Prop} (k:K) (h:K0 ops i=true:=by decide +kernel) (h2:a07 ops i=[]:=by decide +kernel):K0 ops i=true∧∃L,a07 ops i=L∧a2z P τ ops env H' K L:=b7w h h2 k
theorem St5.zz {s:S} {B:List Blk} {s':S} {K:Prop} (k:K) (h1:B=[]:=by exact rfl) (h2:s=s':=by exact rfl):(B=[]∧s=s')∧K:=b1Y h1 h2 k
theorem St6.zz {α:Type} {xs:List α} {a b:Nat} {K:Prop} (k:K) (h:a=b:=by exact rfl):(xs.length=0∨a=b)∧K:=b64 h k
def bl0 {P:Program} {τ:Tab} {env:Env} {H':Hp} {ops:List Oper} {i:Nat} {K:Prop} (L:List Nat) (k:a2z P τ ops env H' K L) (h:K0 ops i=true:=by decide +kernel) (h2:a07 ops i=L:=by decide +kernel):K0 ops i=true∧∃L,a07 ops i=L∧a2z P τ ops env H' K L:=b4G L h h2 k
theorem qp {P:Program} {g:FuncId} {args:List S} {H:Hp} {r:S} {K:S->List Blk->Prop} {Q:Prop} (c:d6 P g args [] r []) (k:K r []) (h1:args.all S.isT=true:=by exact rfl) (h2:r.isT=true:=by exact rfl):(∃ r B,X3 P g args H r B∧K r B)∨Q:=.inl ⟨_,_,L2 c h1 h2,k⟩
def ac {f:FuncId} {fn:Func} {c:Code} {args:List S} {H:Hp} {s:S} {H':Hp} (hf:Go.Proofs.Tryz.prog.funcs[f]? =some fn) (h:a4U Go.Proofs.Tryz.prog tab H.length c (args++List.replicate (fn.ntmps - args.length) .junk) H fun x env' H1=>match x with
 |.exit _=>False
 | _ => a8j tab fn env' H1 fun r => Fin H.length r H1 s H') (hb : fn.body = some c := by exact rfl) (hn : fn.name ≠ "runtime.NumGoroutine" := by decide) : d6 Go.Proofs.Tryz.prog f args H s H' := b5Z d7 hf hb hn h
def Jn (n:Nat):Env:=List.replicate n J
theorem St1.zy {a b c:Prop} (h:a):a4M a b c:=a4M.data h
theorem St2.zy {a b:Prop} (h:b):ap7 a b:=ap7.own h
def b0x {a b:Prop} (h:a):ap7 a b:=ap7.data h
theorem St7.zz {k:S->Prop} (h:k (i9 true)):a2F true k:=⟨fun _=>h,fun e=>(by cases e)⟩
theorem St8.zz {k:S->Prop} (h:k (i9 false)):a2F false k:=⟨fun e=>(by cases e),fun _=>h⟩
def lg0 {α:Type} {l:List α} {i:Nat} (h:i<l.length):l[i]? =some l[i]:=lbf h
def lg1 {α:Type} {l:List α} {i:Nat} {a:α} (h:l[i]? =some a):∃h:i<l.length,l[i]=a:=lbe.1 h
def lg2 {α:Type} {l:List α} {i:Nat} {a:α} (h:l[i]? =some a):a ∈ l:=lbm h
def lg3 {α:Type} (l:List α) (i:Nat) (a:α):l.getD i a=l[i]?.getD a:=lbl
def lg4 {α:Type} {l:List α} {i:Nat} (h:l.length<=i):l.take i=l:=lbn h
def lg5 {α:Type} {a:α} {l:List α}:a ∈ a::l:=a0P ..
theorem St1.zx {x:Int} {K:Int->Prop} (k:K x) (h1:-9223372036854775808<=x:=by omega) (h2:x<=9223372036854775807:=by omega):∃n,J2 .i64 x n∧K n:=⟨_,a2O h1 h2,k⟩
theorem St2.zx {n m:Int} {K:Prop} (k:K) (h0:0<=n:=by omega) (h1:n<m:=by omega):(0<=n∧n<m)∧K:=⟨⟨h0,h1⟩,k⟩
theorem St3.zx {ops:List Oper} {K:List Oper->Prop} (k:K ops) (h:a9S ops=true:=by decide +kernel):b48 ops K:=b5y h k
theorem St4.zx {P:Program} {τ:Tab} {env:Env} {H':Hp} {ops:List Oper} {i:Nat} {K:Prop} (k:K) (h:K0 ops i=true:=by decide +kernel) (h2:a07 ops i=[]:=by decide +kernel):K0 ops i=true∧∃L,a07 ops i=L∧a2z P τ ops env H' K L:=b7w h h2 k
theorem St5.zx {s:S} {B:List Blk} {s':S} {K:Prop} (k:K) (h1:B=[]:=by exact rfl) (h2:s=s':=by exact rfl):(B=[]∧s=s')∧K:=b1Y h1 h2 k
theorem St6.zx {α:Type} {xs:List α} {a b:Nat} {K:Prop} (k:K) (h:a=b:=by exact rfl):(xs.length=0∨a=b)∧K:=b64 h k
theorem St7.zx {k:S->Prop} (h:k (i9 true)):a2F true k:=⟨fun _=>h,fun e=>(by cases e)⟩
theorem St8.zx {k:S->Prop} (h:k (i9 false)):a2F false k:=⟨fun e=>(by cases e),fun _=>h⟩
theorem StA.zx {a b c:Prop} (h:a):a4M a b c:=a4M.data h
theorem StB.zx {a b:Prop} (h:b):ap7 a b:=ap7.own h
theorem StC.zx {P:Program} {g:FuncId} {args:List S} {H:Hp} {r:S} {K:S->List Blk->Prop} {Q:Prop} (k:K r []) (c:d6 P g args [] r []:=by assumption) (h1:args.all S.isT=true:=by exact rfl) (h2:r.isT=true:=by exact rfl):(∃ r B,X3 P g args H r B∧K r B)∨Q:=qp c k h1 h2
class ZD (p:Prop) (a b:outParam Prop):Prop where
 ou:a->b->p
instance {p:Prop} [Decidable p] {k:S->Prop}:ZD (as5 p k) (p->k (i9 true)) (¬p->k (i9 false)):=⟨as5.mk⟩
instance {b:Bool} {k:S->Prop}:ZD (a2F b k) (b=true->k (i9 true)) (b=false->k (i9 false)):=⟨a2F.mk⟩
theorem zD {p a b:Prop} [i:ZD p a b] (h:a) (g:b):p:=i.ou h g
abbrev ec:=d6 Go.Proofs.Tryz.prog
abbrev tT:Nat->Prop:=fun _=>True
abbrev eI:=c9 .i64
abbrev sP (i j k:Nat):S:=S.c (C.ptr i j k)
end
open St1 St2 St3 St4 St5 St6 St7 St8 StA StB StC
def a4J (i n:Int):ec 266 [eI i,eI n] [] (i9 (idx i n)) []:=by
 refine ac Tryz.func266 ?_;conv=>whnf
 repeat' (first|refine zx ?_|apply zD<;>intro<;>try omega)<;>conv=>whnf
 all_goals (refine d9 ?_;simp only [idx];simp;omega)
def a3v (n lo hi:Int):ec 146 [eI n,eI lo,eI hi] [] (i9 (btw n lo hi)) []:=by
 refine ac Tryz.func146 ?_;conv=>whnf
 repeat' (first|refine zx ?_|apply zD<;>intro<;>try omega)<;>conv=>whnf
 all_goals (refine d9 ?_;simp only [btw];simp;omega)
def b2P (p:Int × Int):List T:=[ti p.1,ti p.2]
def aw5 (e:Ev):List (Int × Int):=[(e.mats,6),(e.hhs,100),(e.scs,30),(e.places.length,100),(e.moves.length,200),(e.certs.length,100),(e.recalls.length,30),(e.purities.length,200)]
def av8 (e:Ev):a2y e=(aw5 e).any fun p=>decide (p.2<p.1):=by
 rw [a7m];simp [a2y,aw5];omega
set_option maxRecDepth 100000 in
def bj5 (e:Ev) (hs:e.Sized):d6 Tryz.prog 192 [evS e] [] (i9 (a2y e)) []:=by
 (refine ac Tryz.func192 ?_;(conv=>whnf);repeat (refine zy ?_;conv=>whnf))
 have hl:(aw5 e).length=8:=rfl
 refine j3 d7 (fun k=>(Jn 34++[S.c (C.t (T.sl 2 .full ((aw5 e).map b2P))),c9 .i64 8,c9 .i64 k]++Jn 9,[])) 8 (fun k=>((aw5 e).take k).any (fun p=>decide (p.2<p.1))=false) [] rfl
  ⟨rfl,rfl,trivial,⟨l9 (by simp [aw5,b2P]),rfl,rfl,trivial⟩⟩ ?_
 intro k hk hI
 conv=>whnf
 repeat' (first|refine zx ?_|refine zd ?_ ?_<;>intro h<;>try omega|fail)<;>conv=>whnf
 ·have hlt:k<8:=by omega
  refine i6 (lbf (hl ▸ hlt)) ?_
  conv=>whnf
  repeat' (first|refine zx ?_|refine zd ?_ ?_<;>intro h<;>try omega|fail)<;>conv=>whnf
  ·refine d9 ?_
   rw [av8,a7a (lbf (hl ▸ hlt))]
   simpa using ‹_ > _›
  ·refine ⟨hlt,?_,[],rfl,rfl,trivial,⟨rfl,rfl,rfl,trivial⟩⟩
   rw [a35 (lbf (hl ▸ hlt)),hI]
   have h:=‹¬ _ > _›
   simp;omega
 ·refine d9 ?_
  rw [av8,←hI,lbn om]
open St1 St2 St3 St4 St5 St6 St7 St8 StA StB StC
set_option maxRecDepth 100000
def b4C (e:Ev) (hs:e.Sized):d6 Tryz.prog 193 [evS e] [] (i9 (e.places.all (Y9 e))) []:=by
 have l1:=hs.s1
 have l2:(e.places.map X4.row).length=e.places.length:=zq
 (refine ac Tryz.func193 ?_;(conv=>whnf);repeat (refine zy ?_;conv=>whnf))
 refine j3 d7 (fun k=>([J,S.c (C.ptr 0 0 0),J,J,J,J,S.c (C.t (a6y e.places)),c9 .i64 e.places.length,c9 .i64 k]++Jn 36,[evB e])) e.places.length (fun k=>(e.places.take k).all (Y9 e)=true) [some 0] rfl
  ⟨rfl,rfl,⟨⟨rfl,rfl,rfl,.inl ⟨rfl,A7 e⟩⟩,trivial⟩,⟨⟨rfl,rfl,rfl⟩,l9 rfl,e7 zq,e7 rfl,trivial⟩⟩ ?_
 intro k hk hI
 conv=>whnf
 repeat' (first|refine zx ?_|refine zd ?_ ?_<;>intro h<;>try omega|fail)<;>conv=>whnf
 ·have hlt:k<e.places.length:=by omega
  obtain ⟨x,hx⟩:∃x,e.places[k]? =some x:=⟨_,lbf hlt⟩
  refine i6 hx ?_
  conv=>whnf
  repeat' (first|refine zx ?_|refine qp (a4J _ _) ?_|refine zd ?_ ?_<;>intro h<;>try omega|fail)<;>conv=>whnf
  all_goals first
   |(refine ⟨hlt,?_,[some 0],rfl,rfl,⟨⟨rfl,rfl,rfl,.inl ⟨rfl,A7 e⟩⟩,trivial⟩,⟨⟨rfl,rfl,rfl⟩,rfl,rfl,rfl,trivial⟩⟩;rw [t5 hx,hI];simp_all [Y9];done)
   |(refine d9 ?_;rw [x7 hx];simp_all [Y9];done)
 ·refine d9 ?_
  rw [← hI,lbn om]
def a6r {e:Ev} {i:Int} (h:idx i e.places.length=true):0<=i∧∃x,e.places[i.toNat]? =some x∧K4 e i=x.kind:=by
 have h':=b22.1 h;have hlt:i.toNat<e.places.length:=om;refine ⟨h'.1,_,lbf hlt,?_⟩;unfold K4;rw [lbf hlt];rfl
def be1 (e:Ev) (m:A8) (hs:e.Sized):ec 194 [evS e,b3f m] [] (i9 (R5 e m)) []:=by
 have l1:=hs.s1;have l2:(e.places.map X4.row).length=e.places.length:=zq;by_cases h1:idx m.src e.places.length=true
 ·obtain ⟨hs0,x,hx,kx⟩:=a6r h1;by_cases h2:idx m.dst e.places.length=true
  ·obtain ⟨hd0,y,hy,ky⟩:=a6r h2;refine ac Tryz.func194 ?_;conv=>whnf
   rw [← l2] at h1 h2
   repeat' (first|refine zx ?_|refine qp (a4J _ _) ?_|refine qp (a3v _ _ _) ?_|refine G7 hs0 hx ?_|refine G7 hd0 hy ?_|apply zD<;>intro<;>try omega)<;>conv=>whnf
   all_goals (refine d9 ?_;simp_all [R5];done)
  ·refine ac Tryz.func194 ?_;conv=>whnf
   rw [← l2] at h1 h2
   repeat' (first|refine zx ?_|refine qp (a4J _ _) ?_|apply zD<;>intro<;>try omega)<;>conv=>whnf
   all_goals first|(exfalso;simp_all;done)|(refine d9 ?_;simp_all [R5];done)
 ·refine ac Tryz.func194 ?_;conv=>whnf
  rw [← l2] at h1
  repeat' (first|refine zx ?_|refine qp (a4J _ _) ?_|apply zD<;>intro<;>try omega)<;>conv=>whnf
  all_goals first|(exfalso;simp_all;done)|(refine d9 ?_;simp_all [R5];done)
def bm8 (e:Ev) (hs:e.Sized):d6 Tryz.prog 195 [evS e] [] (i9 (Z7 e)) []:=by
 have l1:=hs.s3
 have l2:(e.certs.map L8.row).length=e.certs.length:=zq
 have l3:=hs.s4
 have l4:(e.recalls.map E9.row).length=e.recalls.length:=zq
 have l5:=hs.s5
 have l6:(e.purities.map a1o.row).length=e.purities.length:=zq
 have l7:=hs.s2
 have l8:(e.moves.map A8.row).length=e.moves.length:=zq
 (refine ac Tryz.func195 ?_;(conv=>whnf);repeat (refine zy ?_;conv=>whnf))
 refine j3 d7 (fun k=>([J,S.c (C.ptr 0 0 0),J,J,J,J,J,J,J,J,J,S.c (C.t (a0G e.certs)),c9 .i64 e.certs.length,c9 .i64 k]++Jn 107,[evB e])) e.certs.length (fun k=>(e.certs.take k).all (a40 e)=true) [some 0] rfl
  ⟨rfl,rfl,⟨⟨rfl,rfl,rfl,.inl ⟨rfl,A7 e⟩⟩,trivial⟩,⟨⟨rfl,rfl,rfl⟩,l9 rfl,e7 zq,e7 rfl,trivial⟩⟩ ?_
 intro k hk hI
 conv=>whnf
 repeat' (first|refine zx ?_|refine zd ?_ ?_<;>intro h<;>try omega|fail)<;>conv=>whnf
 ·have hlt:k<e.certs.length:=by omega
  obtain ⟨x,hx⟩:∃x,e.certs[k]? =some x:=⟨_,lbf hlt⟩
  refine i6 hx ?_
  conv=>whnf
  repeat' (first|refine zx ?_|refine qp (a4J _ _) ?_|refine qp (a3v _ _ _) ?_|refine zd ?_ ?_<;>intro h<;>try omega|fail)<;>conv=>whnf
  all_goals first
   |(refine ⟨hlt,?_,[some 0],rfl,rfl,⟨⟨rfl,rfl,rfl,.inl ⟨rfl,A7 e⟩⟩,trivial⟩,⟨⟨rfl,rfl,rfl⟩,rfl,rfl,rfl,trivial⟩⟩;rw [t5 hx,hI];simp_all [a40];done)
   |(refine d9 ?_;rw [Z7,x7 hx];rfl;simp_all [a40];(try omega);done)
 ·have hc:e.certs.all (a40 e)=true:=by rw [← hI,lbn om]
  clear hI h hk
  refine j3 d7 (fun k=>([J,S.c (C.ptr 0 0 0)]++Jn 60++[S.c (C.t (N6 e.recalls)),c9 .i64 e.recalls.length,c9 .i64 k]++Jn 56,[evB e])) e.recalls.length (fun k=>(e.recalls.take k).all (a0k e)=true) [some 0] rfl
   ⟨rfl,rfl,⟨⟨rfl,rfl,rfl,.inl ⟨rfl,A7 e⟩⟩,trivial⟩,⟨⟨rfl,rfl,rfl⟩,l9 rfl,e7 zq,e7 rfl,trivial⟩⟩ ?_
  intro k hk hI
  conv=>whnf
  repeat' (first|refine zx ?_|refine zd ?_ ?_<;>intro h<;>try omega|fail)<;>conv=>whnf
  ·have hlt:k<e.recalls.length:=by omega
   obtain ⟨x,hx⟩:∃x,e.recalls[k]? =some x:=⟨_,lbf hlt⟩
   refine i6 hx ?_
   conv=>whnf
   repeat' (first|refine zx ?_|refine qp (a4J _ _) ?_|refine qp (a3v _ _ _) ?_|refine zd ?_ ?_<;>intro h<;>try omega|fail)<;>conv=>whnf
   all_goals first
    |(refine ⟨hlt,?_,[some 0],rfl,rfl,⟨⟨rfl,rfl,rfl,.inl ⟨rfl,A7 e⟩⟩,trivial⟩,⟨⟨rfl,rfl,rfl⟩,rfl,rfl,rfl,trivial⟩⟩;rw [t5 hx,hI];simp_all [a0k];done)
    |(refine d9 ?_;rw [Z7,hc,x7 hx];rfl;simp_all [a0k];done)
  ·have hr:e.recalls.all (a0k e)=true:=by rw [← hI,lbn om]
   clear hI h hk
   refine j3 d7 (fun k=>([J,S.c (C.ptr 0 0 0)]++Jn 80++[S.c (C.t (a1N e.purities)),c9 .i64 e.purities.length,c9 .i64 k]++Jn 36,[evB e])) e.purities.length (fun k=>(e.purities.take k).all (a0f e)=true) [some 0] rfl
    ⟨rfl,rfl,⟨⟨rfl,rfl,rfl,.inl ⟨rfl,A7 e⟩⟩,trivial⟩,⟨⟨rfl,rfl,rfl⟩,l9 rfl,e7 zq,e7 rfl,trivial⟩⟩ ?_
   intro k hk hI
   conv=>whnf
   repeat' (first|refine zx ?_|refine zd ?_ ?_<;>intro h<;>try omega|fail)<;>conv=>whnf
   ·have hlt:k<e.purities.length:=by omega
    obtain ⟨x,hx⟩:∃x,e.purities[k]? =some x:=⟨_,lbf hlt⟩
    refine i6 hx ?_
    conv=>whnf
    repeat' (first|refine zx ?_|refine qp (a4J _ _) ?_|refine qp (a3v _ _ _) ?_|refine zd ?_ ?_<;>intro h<;>try omega|fail)<;>conv=>whnf
    all_goals first
     |(refine ⟨hlt,?_,[some 0],rfl,rfl,⟨⟨rfl,rfl,rfl,.inl ⟨rfl,A7 e⟩⟩,trivial⟩,⟨⟨rfl,rfl,rfl⟩,rfl,rfl,rfl,trivial⟩⟩;rw [t5 hx,hI];simp_all [a0f];done)
     |(refine d9 ?_;rw [Z7,hc,hr,x7 hx];rfl;simp_all [a0f];(try omega);done)
   ·have hp:e.purities.all (a0f e)=true:=by rw [← hI,lbn om]
    refine d9 ?_
    rw [Z7,hc,hr,hp];rfl
open St1 St2 St3 St4 St5 St6 St7 St8 StA StB StC
set_option maxRecDepth 100000
def a3i (e:Ev):Nat->Int
 |0=>0
 |k+1=>((e.moves[k]?).map (·.day)).getD 0
def a1S {e:Ev} {k:Nat} {m:A8} (h:e.moves[k]? =some m):a3i e (k+1)=m.day:=by simp [a3i,h]
def a14 {α:Type} {l:List α} {k:Nat} {x:α} (h:l[k]? =some x):l.drop k=x::l.drop (k+1):=by
 obtain ⟨h1,h2⟩:=lbe.1 h;rw [a9t h1,h2]
def b2T (e:Ev) (hs:e.Sized):d6 Tryz.prog 123 [evS e] [] (c9 .i64 (E6 e)) []:=by
 have l7:=hs.s2
 have l8:(e.moves.map A8.row).length=e.moves.length:=zq
 (refine ac Tryz.func123 ?_;(conv=>whnf);repeat (refine zy ?_;conv=>whnf))
 repeat' (first|refine zx ?_|refine qp (bj5 _ hs) ?_|refine qp (b4C _ hs) ?_|refine zd ?_ ?_<;>intro h<;>try omega|fail)<;>conv=>whnf
 case refine_2.refine_2.refine_2.refine_2.refine_1 hf h1 h2 h3=>
  have h4:=h
  clear h
  have hpre:¬(e.mats<1∨e.hhs<0∨e.scs<0∨e.places.all (Y9 e)=false):=by
   rintro (h|h|h|h)
   ·omega
   ·omega
   ·omega
   ·rw [h4] at h;cases h
  have hck:E6 e=if z7 e 0 e.moves≠0 then z7 e 0 e.moves else if Z7 e then 0 else 1:=by
   unfold E6;rw [if_neg (by simp [hf]),if_neg hpre]
  refine j3 d7 (fun k=>([J,S.c (C.ptr 0 0 0),J,c9 .i64 (a3i e k)]++Jn 25++[S.c (C.t (a4m e.moves)),c9 .i64 e.moves.length,c9 .i64 k]++Jn 22,[evB e])) e.moves.length (fun k=>z7 e 0 e.moves=z7 e (a3i e k) (e.moves.drop k)) [some 0] rfl
   ⟨rfl,rfl,⟨⟨rfl,rfl,rfl,.inl ⟨rfl,A7 e⟩⟩,trivial⟩,⟨⟨rfl,rfl,rfl⟩,e7 rfl,l9 rfl,e7 zq,e7 rfl,trivial⟩⟩ ?_
  intro k hk hI
  conv=>whnf
  repeat' (first|refine zx ?_|refine zd ?_ ?_<;>intro h<;>try omega|fail)<;>conv=>whnf
  ·have hlt:k<e.moves.length:=by omega
   obtain ⟨x,hx⟩:∃x,e.moves[k]? =some x:=⟨_,lbf hlt⟩
   rw [a14 hx,z7] at hI
   refine i6 hx ?_
   conv=>whnf
   repeat' (first|refine zx ?_|refine qp (be1 _ x hs) ?_|refine zd ?_ ?_<;>intro h<;>try omega|fail)<;>conv=>whnf
   all_goals first
    |(refine ⟨hlt,?_,[some 0],rfl,rfl,⟨⟨rfl,rfl,rfl,.inl ⟨rfl,A7 e⟩⟩,trivial⟩,⟨⟨rfl,rfl,rfl⟩,?_,rfl,rfl,rfl,trivial⟩⟩
      ·rw [a1S hx,hI,if_neg om,if_pos (by assumption)]
      ·rw [a1S hx];exact rfl)
    |(have e1:z7 e 0 e.moves=17:=by rw [hI,if_pos om]
      refine n8 ?_;rw [hck,e1];rfl)
    |(have e1:z7 e 0 e.moves=1:=by rw [hI,if_neg om,if_neg (by simp_all)]
      refine n8 ?_;rw [hck,e1];rfl)
  ·rw [List.drop_eq_nil_of_le om,z7] at hI
   repeat' (first|refine zx ?_|refine qp (bm8 _ hs) ?_|refine zd ?_ ?_<;>intro h<;>try omega|fail)<;>conv=>whnf
   all_goals (refine n8 ?_;rw [hck,hI];simp_all)
 all_goals (refine n8 ?_;unfold E6;simp_all;try omega)
open St1 St2 St3 St4 St5 St6 St7 St8 StA StB StC
def val:LI->Int
 |[]=>0
 |d::r=>d+1048576*val r
def Okd (l:LI):Prop:=∀d ∈ l,0<=d∧d<1048576
def dgF:Nat->Nat->LI
 |0,_=>[]
 |f+1,n=>if n=0 then [] else ((n % 1048576:Nat):Int)::dgF f (n / 1048576)
def dg (n:Nat):LI:=dgF n n
def pw (i:Nat):Int:=1048576 ^ i
def aE1:pw 0=1:=rfl
def I4 (i:Nat):pw (i+1)=pw i*1048576:=Int.pow_succ ..
def K3 (i:Nat):0<pw i:=Int.pow_pos de
def a5d (i j:Nat):pw (i+j)=pw i*pw j:=Int.pow_add ..
def a0p {i j:Nat} (h:i<=j):pw i<=pw j:=by
 obtain ⟨k,rfl⟩:=Nat.exists_eq_add_of_le h;rw [a5d];have h1:=K3 i;have h2:=K3 k;have:=lbV (a:=1) (b:=pw k) (c:=pw i) om om;omega
def Okd.nil:Okd []:=fun _ h=>nomatch h
def Okd.cons {d:Int} {l:LI} (h1:0<=d∧d<1048576) (h2:Okd l):Okd (d::l):=by
 intro x hx;rcases lbz.1 hx with rfl|hx
 ·exact h1
 ·exact h2 x hx
def Okd.head {d:Int} {l:LI} (h:Okd (d::l)):0<=d∧d<1048576:=h d zq
def Okd.tail {d:Int} {l:LI} (h:Okd (d::l)):Okd l:=fun x hx=>h x (by simp [hx])
def Okd.take {l:LI} (h:Okd l) (n:Nat):Okd (l.take n):=fun x hx=>h x (ag2 hx)
def Okd.drop {l:LI} (h:Okd l) (n:Nat):Okd (l.drop n):=fun x hx=>h x (aT6 hx)
def Okd.append {a b:LI} (h:Okd a) (h2:Okd b):Okd (a++b):=fun x hx=>by
 rcases lby.1 hx with hx|hx
 ·exact h x hx
 ·exact h2 x hx
def Okd.set {l:LI} (h:Okd l) {i:Nat} {x:Int} (hx:0<=x∧x<1048576):Okd (l.set i x):=fun y hy=>by
 rcases b6t hy with hy|rfl
 ·exact h y hy
 ·exact hx
def Okd.get {l:LI} (h:Okd l) {i:Nat} {x:Int} (hx:l[i]? =some x):0<=x∧x<1048576:=h x (lbm hx)
def Okd.zeros (n:Nat):Okd (List.replicate n 0):=fun x hx=>by rw [List.eq_of_mem_replicate hx];decide
def v7 {l:LI} (h:Okd l):0<=val l:=by
 induction l with
 |nil=>simp [val]
 |cons d l ih=>have:=ih h.tail;have:=h.head;simp only [val];omega
def V6 {l:LI} (h:Okd l):val l<pw l.length:=by
 induction l with
 |nil=>simp [val,pw]
 |cons d l ih=>
  have:=ih h.tail;have:=h.head;simp only [val,lbu,I4];omega
def K9 (a b:LI):val (a++b)=val a+pw a.length*val b:=by
 induction a with
 |nil=>simp [val,pw]
 |cons d a ih=>simp only [List.cons_append,val,ih,lbu,I4];grind
def a6i (n:Nat):val (List.replicate n 0)=0:=by
 induction n with
 |zero=>rfl
 |succ n ih=>simp [aF9,val,ih]
def a3d (l:LI) (i:Nat) (h:i<=l.length):val l=val (l.take i)+pw i*val (l.drop i):=by
 have:=K9 (l.take i) (l.drop i);rw [lb6] at this;rw [this];rw [lbs,a2r h]
def a6I {l:LI} {i:Nat} {x:Int} (h:l[i]? =some x):val (l.take (i+1))=val (l.take i)+pw i*x:=by
 have hi:i<l.length:=by
  rcases F6 i l.length with h1|h1
  ·exact h1
  ·rw [lbd h1] at h;cases h
 rw [lbF,h,K9,lbs,a2r om];simp [val]
def a2R {l:LI} {i:Nat} {x:Int} (h:l[i]? =some x):val (l.drop i)=x+1048576*val (l.drop (i+1)):=by
 have hi:i<l.length:=by
  rcases F6 i l.length with h1|h1
  ·exact h1
  ·rw [lbd h1] at h;cases h
 rw [a9t hi];rw [lbf hi] at h;injection h with h;rw [h];rfl
def b7F {l:LI} {i:Nat} {x y:Int} (h:l[i]? =some y):val (l.set i x)=val l+pw i*(x - y):=by
 induction l generalizing i with
 |nil=>simp at h
 |cons d l ih=>
  cases i with
  |zero=>
   simp only [List.getElem?_cons_zero,lb4] at h;subst h;simp [val,pw];omega
  |succ i=>
   simp only [List.getElem?_cons_succ] at h;simp only [List.set_cons_succ,val,ih h,I4];grind
def b5v (f n:Nat) (h:n<=f):dgF f n=dg n:=by
 unfold dg;induction f using Nat.strongRecOn generalizing n with
 |ind f ih=>
  cases f with
  |zero=>cases Nat.le_zero.1 h;rfl
  |succ f=>
   cases n with
   |zero=>rfl
   |succ n=>
    simp only [dgF,Nat.succ_ne_zero,if_false];rw [ih f om _ om,ih n om _ om]
def Z2:dg 0=[]:=rfl
def a7x {n:Nat} (h:0<n):dg n=((n % 1048576:Nat):Int)::dg (n / 1048576):=by
 obtain ⟨m,rfl⟩:∃m,n=m+1:=⟨n - 1,om⟩;show dgF (m+1) (m+1)=_;simp only [dgF,Nat.succ_ne_zero,if_false];rw [b5v _ _ om]
def b0H {P:Nat->Prop} (h0:P 0) (h:∀n,0<n->P (n / 1048576)->P n) (n:Nat):P n:=by
 induction n using Nat.strongRecOn with
 |ind n ih=>
  rcases a4R n with rfl|hn
  ·exact h0
  ·exact h n hn (ih _ om)
def s6 (n:Nat):val (dg n)=n:=by
 induction n using b0H with
 |h0=>rfl
 |h n hn ih=>rw [a7x hn,val,ih];omega
def v6 (n:Nat):Okd (dg n):=by
 induction n using b0H with
 |h0=>exact .nil
 |h n hn ih=>rw [a7x hn];exact .cons om ih
def K8 {n:Nat}:dg n=[]↔n=0:=by
 constructor
 ·intro h;have:=s6 n;rw [h] at this;simp only [val] at this;omega
 ·rintro rfl;rfl
def J6:LI->LI
 |[]=>[]
 |d::r=>if J6 r=[]∧d=0 then [] else d::J6 r
def N2 {l:LI} (h:Okd l):J6 l=dg (val l).toNat:=by
 induction l with
 |nil=>rfl
 |cons d l ih=>
  have h0:=v7 h.tail;have h1:=h.head;have hv:(val (d::l)).toNat=d.toNat+1048576*(val l).toNat:=by simp only [val];omega
  rw [J6,ih h.tail,hv];split
  ·rename_i hc;have:=K8.1 hc.1;rw [this,hc.2];rfl
  ·rename_i hc;rw [a7x (n:=d.toNat+1048576*(val l).toNat)]
   ·congr 1
    ·omega
    ·congr 1;omega
   ·rcases a4R (val l).toNat with h2|h2
    ·have:d≠0:=fun h3=>hc ⟨by rw [h2];rfl,h3⟩
     omega
    ·omega
def a4j {l:LI} {n:Nat} (h1:∀j x,n<=j->l[j]? =some x->x=0) (h2:∀x,0<n->l[n-1]? =some x->x≠0) (hn:n<=l.length):l.take n=J6 l:=by
 induction l generalizing n with
 |nil=>simp [J6]
 |cons d l ih=>
  cases n with
  |zero=>
   have ht:J6 l=[]:=by
    rw [← ih (n:=0) (fun j x _ hx=>h1 (j+1) x om (by simpa using hx)) (fun x h=>absurd h om) om];rfl
   have hd:d=0:=h1 0 d om zq;simp [J6,ht,hd]
  |succ n=>
   have ht:J6 l=l.take n:=by
    refine (ih (n:=n) (fun j x hj hx=>h1 (j+1) x om (by simpa using hx)) (fun x h hx=>h2 x om ?_) (by simpa using hn)).symm;obtain ⟨m,rfl⟩:∃m,n=m+1:=⟨n - 1,om⟩;simpa using hx
   rw [J6,ht,List.take_succ_cons,if_neg];rintro ⟨h3,h4⟩;have hn0:n=0:=by
    rcases a4R n with h5|h5
    ·exact h5
    ·have:=congrArg List.length h3;simp only [lbs,a9Y,lbu] at this hn;omega
   subst hn0;exact h2 d om zq h4
def M8 {n k:Nat} (h:(n:Int)<pw k):(dg n).length<=k:=by
 induction k generalizing n with
 |zero=>have:n=0:=by simp [pw] at h;omega
        subst this;simp [Z2]
 |succ k ih=>
  rcases a4R n with rfl|hn
  ·simp [Z2]
  ·rw [a7x hn];rw [I4] at h;have:=ih (n:=n / 1048576) om;simp;omega
def af1 {n:Nat} (h:0<n):pw ((dg n).length - 1)<=n:=by
 induction n using b0H with
 |h0=>omega
 |h n hn ih=>
  rw [a7x hn];rcases a4R (n / 1048576) with h1|h1
  ·rw [h1,Z2];simp [pw];omega
  ·have h2:=ih h1;have:(dg (n / 1048576)).length≠0:=by rw [Ne,a27,K8];omega
   obtain ⟨m,hm⟩:∃m,(dg (n / 1048576)).length=m+1:=⟨(dg (n / 1048576)).length - 1,om⟩;rw [hm] at h2;rw [lbu,hm];simp only [aJ3] at h2 ⊢;rw [I4];omega
def P6 (n:Nat):(n:Int)<pw (dg n).length:=by
 have:=V6 (v6 n);rw [s6] at this;exact this
def q9 {m n:Nat} (h:m<=n):(dg m).length<=(dg n).length:=M8 (by have:=P6 n;omega)
def aD6 {m n:Nat} (h:(dg m).length<(dg n).length):m<n:=by
 rcases F6 m n with h1|h1
 ·exact h1
 ·have:=q9 h1;omega
def Can (l:LI):Prop:=Okd l∧∀x,l[l.length - 1]? =some x->x≠0
def b1I {l:LI} (h:Can l):l=dg (val l).toNat:=by
 rw [← N2 h.1];have:=a4j (l:=l) (n:=l.length) (fun j x hj hx=>by rw [lbd hj] at hx;cases hx) (fun x _ hx=>h.2 x hx) (lbQ _);rw [X7] at this;exact this
def U2 (n:Nat):Can (dg n):=by
 refine ⟨v6 n,fun x hx h0=>?_⟩;subst h0;have hl:0<(dg n).length:=by
  rcases a4R (dg n).length with h|h
  ·rw [a27.1 h] at hx;simp at hx
  ·exact h
 have hp:0<n:=by
  rcases a4R n with rfl|h
  ·simp [Z2] at hl
  ·exact h
 have h1:=af1 hp;have h2:=a6I hx;rw [show (dg n).length - 1+1=(dg n).length by omega,X7,s6] at h2;have h3:=V6 ((v6 n).take ((dg n).length - 1));rw [lbs,a2r om] at h3;omega
def a9z {a b:LI} (ha:Okd a) (hb:Okd b) (hl:a.length=b.length) {i:Nat} {x y:Int} (hx:a[i]? =some x) (hy:b[i]? =some y)
 (hd:a.drop (i+1)=b.drop (i+1)) (h:x<y):val a<val b:=by
 have hi:i<a.length:=by
  rcases F6 i a.length with h1|h1
  ·exact h1
  ·rw [lbd h1] at hx;cases hx
 have e1:=a3d a i om;have e2:=a3d b i om;rw [a2R hx] at e1;rw [a2R hy] at e2;rw [hd] at e1;have h1:=V6 (ha.take i);rw [lbs,a2r om] at h1;have h2:=v7 (hb.take i);have h3:=K3 i;have h4:pw i*(x+1048576*val (b.drop (i+1)))+pw i<=pw i*(y+1048576*val (b.drop (i+1))):=by
  have:=lbV (a:=x+1048576*val (b.drop (i+1))+1) (b:=y+1048576*val (b.drop (i+1))) (c:=pw i) om om;rw [ah9 (pw i) _ 1] at this;omega
 omega
def dat (l:LI) (i:Nat):Int:=l.getD i 0
def a1X {l:LI} {i:Nat} {x:Int} (h:l[i]? =some x):dat l i=x:=by unfold dat;rw [lbl,h];rfl
def S5 {l:LI} {i:Nat} (h:l.length<=i):dat l i=0:=by unfold dat;rw [lbl,lbd h];rfl
def Okd.dat {l:LI} (h:Okd l) (i:Nat):0<=dat l i∧dat l i<1048576:=by
 rcases F6 i l.length with h1|h1
 ·rw [a1X (lbf h1)];exact h _ (lbD h1)
 ·rw [S5 h1];decide
def u6 (l:LI) (i:Nat):val (l.take (i+1))=val (l.take i)+pw i*dat l i:=by
 rcases F6 i l.length with h1|h1
 ·rw [a1X (lbf h1)];exact a6I (lbf h1)
 ·rw [S5 h1,lbn om,lbn om];simp
def a6c (n:Int):0<=n % 1048576∧n % 1048576<1048576:=by omega
structure a8X (a b:LI) (i:Nat) (out:LI) (c:Int):Prop where
 len:out.length=a.length+1
 ok:Okd out
 le:i<=a.length
 zero:∀j,i<=j->dat out j=0
 c0:0<=c
 c1:c<=1
 eq:val out+pw i*c=val (a.take i)+val (b.take i)
def a8X.init (a b:LI):a8X a b 0 (List.replicate (a.length+1) 0) 0:=
 ⟨zq,.zeros _,H8 _,fun j _=>by unfold dat;rw [lbl,lbk];split<;>rfl,de,de,by rw [a6i];simp [val]⟩
def a6j {l:LI} {i j:Nat} {x:Int} (h:i≠j):dat (l.set i x) j=dat l j:=by
 unfold dat;rw [lbl,lbl,List.getElem?_set_ne h]
def a2j {l:LI} {i:Nat} {x:Int} (hi:i<l.length):val (l.set i x)=val l+pw i*(x - dat l i):=by
 rw [a1X (lbf hi)];exact b7F (lbf hi)
def a8X.step {a b out:LI} {i:Nat} {c:Int} (h:a8X a b i out c) (ha:Okd a) (hb:Okd b) (hi:i<a.length):
 a8X a b (i+1) (out.set i ((c+dat a i+dat b i) % 1048576)) ((c+dat a i+dat b i) / 1048576):=by
 have h1:=ha.dat i;have h2:=hb.dat i;have h3:=h.c0;have h4:=h.c1;have hl:=h.len;refine ⟨by simp [hl],h.ok.set (a6c _),hi,fun j hj=>?_,om,om,?_⟩
 ·rw [a6j om];exact h.zero j om
 ·rw [a2j om,h.zero i (lbQ _),u6,u6,I4];have h5:=h.eq;have h6:(c+dat a i+dat b i) % 1048576=c+dat a i+dat b i - 1048576*((c+dat a i+dat b i) / 1048576):=om;rw [h6];grind
def a8X.fin {a b out:LI} {c:Int} (h:a8X a b a.length out c) (hl:b.length<=a.length):J6 (out.set a.length c)=dg (val a+val b).toNat:=by
 have h1:=h.c0;have h2:=h.c1;have h3:=h.eq;have hl:=h.len;rw [N2 (h.ok.set om),a2j om,h.zero _ (lbQ _)];rw [X7,lbn om] at h3
 congr 2
 grind
structure as6 (a b:LI) (i:Nat) (out:LI) (c:Int):Prop where
 len:out.length=a.length
 ok:Okd out
 le:i<=a.length
 rest:∀j,i<=j->dat out j=dat a j
 c0:0<=c
 c1:c<=1
 eq:val out - pw i*c=val a - val (b.take i)
def as6.init {a b:LI} (ha:Okd a):as6 a b 0 a 0:=⟨rfl,ha,H8 _,fun _ _=>rfl,de,de,by simp [val]⟩
def as6.step {a b out:LI} {i:Nat} {c:Int} (h:as6 a b i out c) (ha:Okd a) (hb:Okd b) (hi:i<a.length):
 as6 a b (i+1) (out.set i ((dat out i - c - dat b i) % 1048576)) ((dat out i - c - dat b i) / 1048576 % 2):=by
 have h1:=h.ok.dat i;have h2:=hb.dat i;have h3:=h.c0;have h4:=h.c1;have hl:=h.len;refine ⟨by simp [hl],h.ok.set (a6c _),hi,fun j hj=>?_,om,om,?_⟩
 ·rw [a6j om];exact h.rest j om
 ·rw [a2j om,u6,I4];have h5:=h.eq;have h6:(dat out i - c - dat b i) % 1048576=dat out i - c - dat b i+1048576*((dat out i - c - dat b i) / 1048576 % 2):=om;rw [h6];grind
def as6.fin {a b out:LI} {c:Int} (h:as6 a b a.length out c) (hl:b.length<=a.length) (hv:val b<=val a):J6 out=dg (val a - val b).toNat:=by
 have h1:=h.c0;have h2:=h.c1;have h3:=h.eq;have hlen:=h.len;rw [lbn om] at h3;have h4:=V6 h.ok;rw [hlen] at h4;rw [N2 h.ok];rcases a5w 0 c with h5|h5
 ·have:c=1:=by omega
  subst this;omega
 ·have:c=0:=by omega
  subst this
  congr 2;omega
structure aj9 (a b:LI) (i k:Nat) (out:LI) (c:Int):Prop where
 len:out.length=a.length+b.length
 ok:Okd out
 le:k<=b.length
 zero:∀j,i+b.length<=j->dat out j=0
 c0:0<=c
 c1:c<1048576
 eq:val out+pw (i+k)*c=val (a.take i)*val b+pw i*dat a i*val (b.take k)
structure a4Z (a b:LI) (i:Nat) (out:LI):Prop where
 len:out.length=a.length+b.length
 ok:Okd out
 le:i<=a.length
 zero:∀j,i+b.length<=j->dat out j=0
 eq:val out=val (a.take i)*val b
def a4Z.init (a b:LI):a4Z a b 0 (List.replicate (a.length+b.length) 0):=
 ⟨zq,.zeros _,H8 _,fun j _=>by unfold dat;rw [lbl,lbk];split<;>rfl,by rw [a6i];simp [val]⟩
def a4Z.start {a b out:LI} {i:Nat} (h:a4Z a b i out):aj9 a b i 0 out 0:=
 ⟨h.len,h.ok,H8 _,h.zero,de,de,by rw [h.eq];simp [val]⟩
def a44 {x y:Int} (hx:0<=x∧x<1048576) (hy:0<=y∧y<1048576):0<=x*y∧x*y<=1048575*1048575:=
 ⟨lbZ hx.1 hy.1,a4y om om hy.1 de⟩
def aj9.step {a b out:LI} {i k:Nat} {c:Int} (h:aj9 a b i k out c) (ha:Okd a) (hb:Okd b) (hi:i<a.length) (hk:k<b.length):
 aj9 a b i (k+1) (out.set (i+k) ((dat out (i+k)+dat a i*dat b k+c) % 1048576)) ((dat out (i+k)+dat a i*dat b k+c) / 1048576):=by
 have h1:=h.ok.dat (i+k);have h2:=a44 (ha.dat i) (hb.dat k);have h3:=h.c0;have h4:=h.c1;have hl:=h.len;refine ⟨by simp [hl],h.ok.set (a6c _),hk,fun j hj=>?_,om,om,?_⟩
 ·rw [a6j om];exact h.zero j om
 ·rw [a2j om,u6,show i+(k+1)=i+k+1 by omega,I4];have h5:=h.eq;have h6:(dat out (i+k)+dat a i*dat b k+c) % 1048576=dat out (i+k)+dat a i*dat b k+c - 1048576*((dat out (i+k)+dat a i*dat b k+c) / 1048576):=om;rw [h6];have h7:=a5d i k;grind
def aj9.done {a b out:LI} {i:Nat} {c:Int} (h:aj9 a b i b.length out c) (ha:Okd a) (hb:Okd b) (hi:i<a.length):
 a4Z a b (i+1) (out.set (i+b.length) (dat out (i+b.length)+c)):=by
 have h3:=h.c0;have h4:=h.c1;have hl:=h.len;have h8:=h.zero _ (lbQ _);refine ⟨by simp [hl],h.ok.set om,hi,fun j hj=>?_,?_⟩
 ·rw [a6j om];exact h.zero j om
 ·rw [a2j om,u6];have h5:=h.eq;rw [X7] at h5;grind
def a4Z.fin {a b out:LI} (h:a4Z a b a.length out):J6 out=dg (val a*val b).toNat:=by
 rw [N2 h.ok,h.eq,X7]
structure a0Q (a:LI) (d:Int) (j:Nat) (out:LI) (r:Int):Prop where
 len:out.length=a.length
 ok:Okd out
 le:j<=a.length
 r0:0<=r
 r1:r<d
 eq:val (a.drop j)=d*val (out.drop j)+r
def a0Q.init (a:LI) {d:Int} (hd:0<d):a0Q a d a.length (List.replicate a.length 0) 0:=
 ⟨zq,.zeros _,lbQ _,de,hd,by simp [val]⟩
def a8c {l:LI} {i:Nat} (h:i<l.length):val (l.drop i)=dat l i+1048576*val (l.drop (i+1)):=by
 rw [a1X (lbf h)];exact a2R (lbf h)
def a7Y {l:LI} {i:Nat} {x:Int} (h:i<l.length):dat (l.set i x) i=x:=by
 unfold dat;rw [lbl,List.getElem?_set_self h];rfl
def a0Q.step {a out:LI} {d r:Int} {j:Nat} (h:a0Q a d (j+1) out r) (ha:Okd a) (hd:0<d):
 a0Q a d j (out.set j ((r*1048576+dat a j) / d)) ((r*1048576+dat a j) % d):=by
 have h1:=ha.dat j;have h3:=h.r0;have h4:=h.r1;have hl:=h.len;have hle:=h.le;have h6:0<=(r*1048576+dat a j) / d:=aq7 om om;have h7:(r*1048576+dat a j) / d<1048576:=by
  apply Int.ediv_lt_of_lt_mul hd;have:=lbV (a:=r+1) (b:=d) (c:=1048576) om om;omega
 refine ⟨by simp [hl],h.ok.set ⟨h6,h7⟩,om,aj5 _ om,aJ0 _ hd,?_⟩;rw [a8c om,a8c (l:=out.set j _) zo,a7Y om,List.drop_set_of_lt om,h.eq];have h8:=Int.emod_add_mul_ediv (r*1048576+dat a j) d;grind
def a0Q.fin {a out:LI} {d r:Int} (h:a0Q a d 0 out r) (ha:Okd a) (hd:0<d):J6 out=dg (val a / d).toNat∧r=val a % d:=by
 have h3:=h.r0;have h4:=h.r1;have h5:=h.eq;simp only [a9y] at h5;rw [N2 h.ok];have e1:val a / d=val out:=by rw [h5];rw [al1,Int.add_mul_ediv_left _ _ om,Int.ediv_eq_zero_of_lt h3 h4];omega
 have e2:val a % d=r:=by rw [h5,al1,Int.add_mul_emod_self_left,am0 h3 h4]
 exact ⟨by rw [e1],e2.symm⟩
structure aa8 (w v:LI) (g:Int) (i:Nat) (out:LI) (c:Int):Prop where
 len:out.length=w.length
 ok:Okd out
 le:i<=w.length
 rest:∀j,i<=j->dat out j=dat w j
 c0:0<=c
 c1:c<1048576
 eq:val out - pw i*c=val w - g*val (v.take i)
def aa8.init {w v:LI} (g:Int) (hw:Okd w):aa8 w v g 0 w 0:=⟨rfl,hw,H8 _,fun _ _=>rfl,de,de,by simp [val]⟩
def aa8.step {w v out:LI} {g:Int} {i:Nat} {c:Int} (h:aa8 w v g i out c) (hv:Okd v) (hg:0<=g∧g<1048576) (hi:i<w.length):
 aa8 w v g (i+1) (out.set i ((dat out i - c - g*dat v i) % 1048576)) (-((dat out i - c - g*dat v i) / 1048576)):=by
 have h1:=h.ok.dat i;have h2:=a44 hg (hv.dat i);have h3:=h.c0;have h4:=h.c1;have hl:=h.len;refine ⟨by simp [hl],h.ok.set (a6c _),hi,fun j hj=>?_,om,om,?_⟩
 ·rw [a6j om];exact h.rest j om
 ·rw [a2j om,u6,I4];have h5:=h.eq;have h6:(dat out i - c - g*dat v i) % 1048576=dat out i - c - g*dat v i - 1048576*((dat out i - c - g*dat v i) / 1048576):=om;rw [h6];grind
structure a7K (w v:LI) (i:Nat) (out:LI) (c:Int):Prop where
 len:out.length=w.length
 ok:Okd out
 le:i<=w.length
 rest:∀j,i<=j->dat out j=dat w j
 c0:0<=c
 c1:c<=1
 eq:val out+pw i*c=val w+val (v.take i)
def a7K.init {w v:LI} (hw:Okd w):a7K w v 0 w 0:=⟨rfl,hw,H8 _,fun _ _=>rfl,de,de,by simp [val]⟩
def a7K.step {w v out:LI} {i:Nat} {c:Int} (h:a7K w v i out c) (hv:Okd v) (hi:i<w.length):
 a7K w v (i+1) (out.set i ((c+dat out i+dat v i) % 1048576)) ((c+dat out i+dat v i) / 1048576):=by
 have h1:=h.ok.dat i;have h2:=hv.dat i;have h3:=h.c0;have h4:=h.c1;have hl:=h.len;refine ⟨by simp [hl],h.ok.set (a6c _),hi,fun j hj=>?_,om,om,?_⟩
 ·rw [a6j om];exact h.rest j om
 ·rw [a2j om,u6,I4];have h5:=h.eq;have h6:(c+dat out i+dat v i) % 1048576=c+dat out i+dat v i - 1048576*((c+dat out i+dat v i) / 1048576):=om;rw [h6];grind
def aa8.zero {w v out:LI} {g c:Int} (h:aa8 w v g w.length out c) (hl:v.length<=w.length) (hw:Okd w) (hv:Okd v) (hg:0<=g):
 (c=0↔g*val v<=val w)∧(c=0->val out=val w - g*val v):=by
 have h3:=h.c0;have h5:=h.eq;rw [lbn om] at h5;have h6:=V6 h.ok;have h7:=v7 h.ok;rw [h.len] at h6;have h8:=K3 w.length;have h9:0<c->pw w.length<=pw w.length*c:=fun hc=>by
  have:=lbV (a:=1) (b:=c) (c:=pw w.length) om om;omega
 constructor
 ·constructor
  ·rintro rfl;omega
  ·intro h10;rcases a5w 0 c with h11|h11
   ·have:=h9 h11;omega
   ·omega
 ·rintro rfl;omega
theorem zg {p:Prop} (h:p:=by grind):p:=h
def aa8.back {w v out out':LI} {g c c':Int} (h:aa8 w v g w.length out c) (h':a7K out v w.length out' c') (hl:v.length<=w.length)
 (h1:0<=val w - g*val v+val v) (h2:val w - g*val v+val v<pw w.length):val out'=val w - g*val v+val v:=by
 have h5:=h.eq;have h6:=h'.eq;rw [lbn om] at h5 h6;have h7:=V6 h'.ok;have h8:=v7 h'.ok;rw [h'.len,h.len] at h7;have h9:=K3 w.length;have e:val out'+pw w.length*(c' - c)=val w - g*val v+val v:=zg;rcases a3a (c' - c) 0 with hc|hc|hc
 ·have:=lbV (a:=c' - c) (b:=-1) (c:=pw w.length) om om;omega
 ·rw [hc] at e;omega
 ·have:=lbV (a:=1) (b:=c' - c) (c:=pw w.length) om om;omega
structure Win (P V W v1 v2 top u2:Int):Prop where
 P0:0<P
 v1l:524288<=v1
 v1u:v1<1048576
 v20:0<=v2
 v2u:v2<1048576
 u20:0<=u2
 u2u:u2<1048576
 t0:0<=top
 tu:top<1048576*1048576
 Vl:P*(v1*1048576+v2)<=V
 Vu:V<P*(v1*1048576+v2)+P
 Wl:P*(top*1048576+u2)<=W
 Wu:W<P*(top*1048576+u2)+P
 lt:W<V*1048576
def Win.V0 {P V W v1 v2 top u2:Int} (h:Win P V W v1 v2 top u2):0<V:=by
 have h1:=h.Vl;have h2:=h.P0;have h3:=h.v1l;have h4:=h.v20;have:=a9p h2 (b:=v1*1048576+v2) om;omega
structure a03 (V W v1 top g r:Int):Prop where
 g0:0<=g
 gu:g<=2097152
 r0:0<=r
 ru:r<2097152
 eq:g*v1+r=top
 hi:W<(g+1)*V
def a03.init {P V W v1 v2 top u2:Int} (h:Win P V W v1 v2 top u2):a03 V W v1 top (top / v1) (top % v1):=by
 have h1:=h.v1l;have h2:=h.v1u;have h3:=h.t0;have h4:=h.tu;have h5:=aj5 top (b:=v1) om;have h6:=aJ0 top (b:=v1) om;have h7:=Int.mul_ediv_add_emod top v1;have h8:0<=top / v1:=aq7 h3 om;have hq:top / v1*v1+top % v1=top:=by rw [a6T];exact h7
 refine ⟨h8,?_,h5,om,hq,?_⟩
 ·have h9:=lbV (a:=524288) (b:=v1) (c:=top / v1) h1 h8;omega
 ·have hW:=h.Wu;have hV:=h.Vl;have hP:=h.P0;have h20:=h.v20;have hu:=h.u2u;have e1:(top / v1+1)*(P*(v1*1048576+v2))<=(top / v1+1)*V:=lbV hV om;have e2:top*1048576+u2+1<=(top / v1+1)*(v1*1048576+v2):=by
   have:0<=(top / v1+1)*v2:=lbZ om h20;have e3:(top / v1+1)*v1≥top+1:=zg;grind
  have e4:=lbV (c:=P) e2 om;grind
def a03.dec {P V W v1 v2 top u2 g r:Int} (h:Win P V W v1 v2 top u2) (hg:a03 V W v1 top g r) (hc:1048576<=g∨(r<1048576∧r*1048576+u2<g*v2)):
 W<g*V:=by
 have hV0:=h.V0;rcases hc with hc|⟨hr,hc⟩
 ·have:=lbW (a:=1048576) (b:=g) (c:=V) hc om;have:=h.lt;omega
 ·have hW:=h.Wu;have e1:g*(P*(v1*1048576+v2))<=g*V:=lbV h.Vl hg.g0;have e2:top*1048576+u2+1<=g*(v1*1048576+v2):=by
   have:=hg.eq;grind
  have e4:=lbV (c:=P) e2 (Q7 h.P0);grind
def a03.small {P V W v1 v2 top u2 g r:Int} (h:Win P V W v1 v2 top u2) (hg:a03 V W v1 top g r) (hc:1048576<=g):r<1048576:=by
 have h1:=h.Wl;have h2:=h.lt;have h3:=h.Vu;have hP:=h.P0;have e1:P*(top*1048576+u2)<P*((v1*1048576+v2+1)*1048576):=zg;have e2:top*1048576+u2<(v1*1048576+v2+1)*1048576:=b1b e1 (Q7 hP);have h4:=h.u20;have h5:=hg.eq;have h6:=lbW (a:=1048576) (b:=g) (c:=v1) hc (by have:=h.v1l;omega);have h7:=h.v2u;omega
def a03.step {P V W v1 v2 top u2 g r:Int} (h:Win P V W v1 v2 top u2) (hg:a03 V W v1 top g r) (hc:1048576<=g∨(r<1048576∧r*1048576+u2<g*v2))
 (hW0:0<=W):a03 V W v1 top (g - 1) (r+v1):=by
 have h1:=a03.dec h hg hc;have hV0:=h.V0;have hg0:0<g:=by
  rcases a5w 0 g with h2|h2
  ·exact h2
  ·have:=hg.g0;have:g=0:=om;subst this;omega
 have h2:=hg.gu;have h3:=hg.r0;have h4:=h.v1l;have h5:=h.v1u;have h6:=hg.eq;have h7:r<1048576:=by
  rcases hc with hc|hc
  ·exact a03.small h hg hc
  ·exact hc.1
 exact ⟨om,om,om,om,by grind,by grind⟩
def a03.fin {P V W v1 v2 top u2 g r:Int} (h:Win P V W v1 v2 top u2) (hg:a03 V W v1 top g r) (hc:¬(1048576<=g∨(r<1048576∧r*1048576+u2<g*v2)))
 (hP:P*1048576<=V):g<1048576∧g*V<=W+V:=by
 have hg1:g<1048576:=om;refine ⟨hg1,?_⟩;have h0:=hg.g0;have h20:=h.v20;have h2u:=h.v2u;have hu0:=h.u20;have e1:g*v2<=r*1048576+u2:=by
  rcases a5w r 1048576 with hr|hr
  ·omega
  ·have:=a44 ⟨h0,hg1⟩ ⟨h20,h2u⟩;omega
 have e2:g*(v1*1048576+v2)<=top*1048576+u2:=by
  have:=hg.eq;grind
 have e3:=lbV (c:=P) e2 (Q7 h.P0);have e4:g*V<=g*(P*(v1*1048576+v2)+P):=lbV (Q7 h.Vu) h0;have e5:g*P<=1048576*P:=lbW (Q7 hg1) (Q7 h.P0);have hW:=h.Wl;grind
structure Bg where
 sg:Int
 dl:LI
def bz (z:Int):Bg:=⟨z.sign,dg z.natAbs⟩
def inD (d:Int):Bool:=decide (0<=d) && decide (d<=1048575)
def J0 (b:Bg):Bool:=b.dl.all inD && (if b.dl.length=0 then b.sg == 0 else (b.sg == 1 || b.sg == -1) && !(dat b.dl (b.dl.length - 1) == 0))
def bv (b:Bg):Int:=b.sg*val b.dl
def aD2 {l:LI}:l.all inD=true↔Okd l:=by
 simp only [lbv,inD,lbM,lbH];exact ⟨fun h d hd=>by have:=h d hd;omega,fun h d hd=>by have:=h d hd;omega⟩
def a4Q (z:Int):bv (bz z)=z:=by
 unfold bv bz;rw [s6];exact ar7 z
def b34 {b:Bg} (h:J0 b=true):b=bz (bv b):=by
 unfold J0 at h;rw [lbM,aD2] at h;obtain ⟨h1,h2⟩:=h;obtain ⟨sg,dl⟩:=b;simp only at h1 h2;have hv:=v7 h1;by_cases hl:dl.length=0
 ·rw [if_pos hl] at h2;have:dl=[]:=lbE hl;subst this;have:sg=0:=by simpa using h2
  subst this
  rfl
 ·rw [if_neg hl,lbM] at h2;have hc:Can dl:=⟨h1,fun x hx=>by rw [a1X hx] at h2;simpa using h2.2⟩;have h3:=b1I hc;have hp:0<val dl:=by
   rcases a5w 0 (val dl) with h4|h4
   ·exact h4
   ·have:val dl=0:=by omega
    rw [this] at h3;rw [h3] at hl;exact absurd rfl hl
  have hs:sg=1∨sg=-1:=by simpa using h2.1
  have ha:(sg*val dl).natAbs=(val dl).toNat:=by
   rcases hs with rfl|rfl<;>omega
  have hg:(sg*val dl).sign=sg:=by
   rcases hs with rfl|rfl
   ·rw [a1l];exact O5 hp
   ·exact a1n om
  unfold bz bv;simp only;rw [ha,hg,←h3]
def a0g (z:Int):J0 (bz z)=true:=by
 unfold J0;rw [lbM,aD2];refine ⟨v6 _,?_⟩;by_cases hl:(bz z).dl.length=0
 ·rw [if_pos hl];have h0:dg z.natAbs=[]:=lbE hl;have:z=0:=by have:=K8.1 h0;omega
  subst this;rfl
 ·rw [if_neg hl];have hz:z≠0:=by rintro rfl;exact hl rfl
  have hl0:(dg z.natAbs).length - 1<(dg z.natAbs).length:=by have:(dg z.natAbs).length≠0:=hl;omega
  have h1:=(U2 z.natAbs).2 _ (lbf hl0);have h2:dat (bz z).dl ((bz z).dl.length - 1)≠0:=by
   show dat (dg z.natAbs) ((dg z.natAbs).length - 1)≠0;rw [a1X (lbf hl0)];exact h1
  rw [lbM];refine ⟨?_,by simpa using h2⟩;show ((z.sign == 1) || (z.sign == -1))=true;rcases a3a z 0 with h|h|h
  ·rw [a1n h];rfl
  ·exact absurd h hz
  ·rw [O5 h];rfl
def a7N {z:Int}:(bz z).sg=z.sign:=rfl
structure Fr where
 p:Bg
 q:Bg
def fz (x:Rat):Fr:=⟨bz x.num,bz x.den⟩
def t7 (f:Fr):Bool:=J0 f.p && J0 f.q && (f.q.sg == 1) && (Int.gcd (bv f.p) (bv f.q) == 1)
def fv (f:Fr):Rat:=mkRat (bv f.p) (bv f.q).toNat
def ah4 (x:Rat):t7 (fz x)=true:=by
 unfold t7 fz;simp only [a0g,a4Q,C2,lbM];have hd:=x.den_pos;refine ⟨?_,?_⟩
 ·rw [a7N,O5 om];rfl
 ·have:=x.reduced;simp only [Int.gcd,aG9];rw [this];rfl
def bq1 {f:Fr} (h:t7 f=true):f=fz (fv f):=by
 unfold t7 at h;simp only [lbM,beq_iff_eq] at h;obtain ⟨⟨⟨h1,h2⟩,h3⟩,h4⟩:=h;have e1:=b34 h1;have e2:=b34 h2;rw [e2,a7N] at h3;have hq:0<bv f.q:=Int.sign_eq_one_iff_pos.1 h3;have hr:Nat.Coprime (bv f.p).natAbs (bv f.q).toNat:=by
  have:(bv f.q).natAbs=(bv f.q).toNat:=om;rw [← this];exact h4
 have e3:fv f=⟨bv f.p,(bv f.q).toNat,om,hr⟩:=(Rat.mk_eq_mkRat _ _ _ _).symm;rw [e3];unfold fz;simp only;rw [← e1,show (((bv f.q).toNat:Nat):Int)=bv f.q by omega,←e2]
def bs3 (x:Rat):fv (fz x)=x:=by
 unfold fv fz;simp only [a4Q,lbX];exact Rat.mkRat_self x
def a8T {p q g:Int} (hq:0<q) (hg:g=Int.gcd p q):fz (Rat.divInt p q)=⟨bz (p / g),bz (q / g)⟩:=by
 unfold fz;rw [Rat.num_divInt,Rat.den_divInt,if_neg om,O5 hq,a1l,Int.gcd_comm q p,←hg]
 congr 2
 rw [hg];have:((q.natAbs / Int.gcd p q:Nat):Int)=(q.natAbs:Int) / (Int.gcd p q:Int):=zq;rw [this,show (q.natAbs:Int)=q by omega]
structure ab3 (U V N L:Nat) (j:Nat) (u q:LI):Prop where
 lu:u.length=N
 oku:Okd u
 lq:q.length=N - L
 okq:Okd q
 le:j<=N - L
 eq:val (q.drop j)*pw j*V+val u=U
 lt:val u<V*pw j
def ab3.init {U V:Nat} (hV:0<V) (hl:(dg V).length<=(dg U).length+1):ab3 U V ((dg U).length+1) (dg V).length ((dg U).length+1 - (dg V).length) (dg U++[0]) (List.replicate ((dg U).length+1 - (dg V).length) 0):=by
 have h1:=af1 hV;have h2:=P6 U;have hv:val (dg U++[0])=U:=by rw [K9,s6];simp [val]
 have hL:(dg V).length≠0:=by rw [Ne,a27,K8];omega
 refine ⟨zq,(v6 U).append (by intro x hx;simp at hx;omega),zq,.zeros _,lbQ _,?_,?_⟩
 ·rw [lbo zq,hv];simp [val]
 ·rw [hv];have h3:=lbW (a:=pw ((dg V).length - 1)) (b:=V) (c:=pw ((dg U).length+1 - (dg V).length)) h1 (Q7 (K3 _));rw [← a5d,show (dg V).length - 1+((dg U).length+1 - (dg V).length)=(dg U).length by omega] at h3;omega
def ab3.window {U V N L j:Nat} {u q:LI} (h:ab3 U V N L (j+1) u q) (hL:(dg V).length=L):
 u=u.take j++(u.drop j).take (L+1)++u.drop (j+(L+1))∧((u.drop j).take (L+1)).length=L+1∧(u.take j).length=j∧
 val u=val (u.take j)+pw j*val ((u.drop j).take (L+1))∧val (u.drop (j+(L+1)))=0∧val ((u.drop j).take (L+1))<V*1048576:=by
 have h1:=h.lu;have h2:=h.le;have h3:=h.lt;have hp:=K3 j;have e0:(u.take j).length=j:=zo;have e1:u.drop j=(u.drop j).take (L+1)++u.drop (j+(L+1)):=by rw [← List.drop_drop,lb6]
 have e2:((u.drop j).take (L+1)).length=L+1:=zo;have e3:u=u.take j++(u.drop j).take (L+1)++u.drop (j+(L+1)):=by rw [lbC,←e1,lb6]
 have hv:=a3d u j om;have hw:=K9 ((u.drop j).take (L+1)) (u.drop (j+(L+1)));rw [← e1,e2] at hw;have h4:=v7 (h.oku.take j);have h5:=v7 ((h.oku.drop j).take (L+1));have h6:=v7 (h.oku.drop (j+(L+1)));have hVp:=P6 V;rw [hL] at hVp;have hz:val (u.drop (j+(L+1)))=0:=by
  rcases a5w 0 (val (u.drop (j+(L+1)))) with h7|h7
  ·exfalso;have a1:=lbV (a:=1) (b:=val (u.drop (j+(L+1)))) (c:=pw (L+1)) om (Q7 (K3 _));have a2:=lbV (a:=pw (L+1)) (b:=val (u.drop j)) (c:=pw j) om (Q7 hp);have a3:=lbW (a:=(V:Int)) (b:=pw L) (c:=pw (j+1)) (Q7 hVp) (Q7 (K3 _));have a4:pw j*pw (L+1)=pw L*pw (j+1):=by rw [← a5d,←a5d];congr 1;omega
   omega
  ·omega
 rw [hz,Int.mul_zero,a8Q] at hw;rw [hw] at hv;refine ⟨e3,e2,e0,hv,hz,?_⟩;have a5:pw j*val ((u.drop j).take (L+1))<pw j*(V*1048576):=by
  rw [I4] at h3;have:(V:Int)*(pw j*1048576)=pw j*(V*1048576):=zg;omega
 exact b1b a5 (Q7 hp)
def aA9 (l:LI):J6 l++List.replicate (l.length - (J6 l).length) 0=l:=by
 induction l with
 |nil=>rfl
 |cons d r ih=>
  rw [J6];split
  ·rename_i h;rw [h.1] at ih;rw [h.2];simp only [aO4,a9Y,Nat.sub_zero,lbu,aF9] at ih ⊢;rw [ih]
  ·simp only [List.cons_append,lbu,Nat.add_sub_add_right];rw [ih]
def a0B (n:Nat) (l:LI):LI:=l++List.replicate (n - l.length) 0
def b2o {l:LI} (h:Okd l) {n:Nat} (hn:l.length=n):l=a0B n (dg (val l).toNat):=by
 subst hn;have:=aA9 l;rw [N2 h] at this;exact this.symm
def b8L (n:Nat) (l:LI):val (a0B n l)=val l:=by unfold a0B;rw [K9,a6i];simp
def aB5 {n:Nat} {l:LI} (h:l.length<=n):(a0B n l).length=n:=by unfold a0B;simp;omega
def b5W {n:Nat} {l:LI} (h:Okd l):Okd (a0B n l):=h.append (.zeros _)
def Win.of {v w:LI} {L:Nat} (hv:Okd v) (hw:Okd w) (lv:v.length=L+2) (lw:w.length=L+3) (ht:524288<=dat v (L+1)) (hlt:val w<val v*1048576):
 Win (pw L) (val v) (val w) (dat v (L+1)) (dat v L) (dat w (L+2)*1048576+dat w (L+1)) (dat w L):=by
 have v1:=u6 v (L+1);have v2:=u6 v L;have w1:=u6 w (L+2);have w2:=u6 w (L+1);have w3:=u6 w L;rw [lbn om] at v1 w1;have a1:=v7 (hv.take L);have a2:=V6 (hv.take L);have a3:=v7 (hw.take L);have a4:=V6 (hw.take L);rw [lbs,a2r om] at a2 a4;have d1:=hv.dat (L+1);have d2:=hv.dat L;have d3:=hw.dat (L+2);have d4:=hw.dat (L+1);have d5:=hw.dat L;have p1:=I4 L;have p2:=I4 (L+1);have e1:val v=pw L*(dat v (L+1)*1048576+dat v L)+val (v.take L):=zg;have e2:val w=pw L*((dat w (L+2)*1048576+dat w (L+1))*1048576+dat w L)+val (w.take L):=zg;exact ⟨K3 L,ht,om,om,om,om,om,om,om,om,om,om,om,hlt⟩
def ab3.step {U V N L j:Nat} {u q:LI} (h:ab3 U V N L (j+1) u q) (hL:(dg V).length=L) (hV:0<V) {Q:Int} (hQ:0<=Q∧Q<1048576)
 (hr0:0<=val ((u.drop j).take (L+1)) - Q*V) (hr1:val ((u.drop j).take (L+1)) - Q*V<V):
 ab3 U V N L j (u.take j++a0B (L+1) (dg (val ((u.drop j).take (L+1)) - Q*V).toNat)++u.drop (j+(L+1))) (q.set j Q):=by
 obtain ⟨e3,e2,e0,hv,hz,hW⟩:=h.window hL;have h1:=h.lu;have h2:=h.le;have h3:=h.lq;have hVp:=P6 V;rw [hL] at hVp;have hmono:=a0p (Nat.le_succ L);have lp:(dg (val ((u.drop j).take (L+1)) - Q*V).toNat).length<=L+1:=M8 (by have:pw L<=pw (L+1):=hmono;omega);have hpl:=aB5 lp;have hvp:val (a0B (L+1) (dg (val ((u.drop j).take (L+1)) - Q*V).toNat))=val ((u.drop j).take (L+1)) - Q*V:=by
  rw [b8L,s6,lbY hr0]
 have hu':val (u.take j++a0B (L+1) (dg (val ((u.drop j).take (L+1)) - Q*V).toNat)++u.drop (j+(L+1)))=val (u.take j)+pw j*(val ((u.drop j).take (L+1)) - Q*V):=by
  rw [K9,hz,K9,hvp,e0];simp
 have hp:=K3 j;have hlt:=V6 (h.oku.take j);rw [e0] at hlt;refine ⟨?_,((h.oku.take j).append (b5W (v6 _))).append (h.oku.drop _),by simp [h3],h.okq.set hQ,om,?_,?_⟩
 ·simp only [lbq,hpl,e0,a4S];omega
 ·rw [hu',a8c zo,a7Y om,List.drop_set_of_lt om];have h4:=h.eq;rw [hv,I4] at h4;grind
 ·rw [hu'];have h5:=lbV (a:=val ((u.drop j).take (L+1)) - Q*V) (b:=(V:Int) - 1) (c:=pw j) om om;have h6:pw j*((V:Int) - 1)=V*pw j - pw j:=zg;omega
def ab3.fin {U V N L:Nat} {u q:LI} (h:ab3 U V N L 0 u q) (hV:0<V):val q=(U / V:Nat)∧val u=(U % V:Nat):=by
 have h1:=h.eq;have h2:=h.lt;simp only [a9y,aE1,am5] at h1 h2;have h3:=v7 h.oku;have h4:=v7 h.okq;obtain ⟨Q,hQ⟩:=a5p h4;obtain ⟨R,hR⟩:=a5p h3;rw [hQ,hR] at h1;rw [hR] at h2;have e:U=R+Q*V:=by
  have:((R+Q*V:Nat):Int)=(U:Int):=by rw [← h1];simp [al1]
  omega
 have hlt:R<V:=om;rw [hQ,hR,e,Nat.add_mul_div_right _ _ hV,Nat.div_eq_of_lt hlt,Nat.add_mul_mod_self_right,b2H hlt];simp
open St1 St2 St3 St4 St5 St6 St7 St8 StA StB StC
set_option maxRecDepth 100000
abbrev bgC (b:Bg):List C:=[.t (ti b.sg),.t (x6 b.dl)]
abbrev bgS (b:Bg):S:=.agg (bgC b)
abbrev bgB (b:Bg):Blk:={ mode:=.live,elem:=84,size:=2,rows:=[bgC b],box:=true }
def a5D (b:Bg):I5 [bgC b]:=by
 intro r hr c hc;simp at hr;subst hr;simp [bgC] at hc;rcases hc with rfl|rfl<;>rfl
def w7 {l:LI} {i:Nat} (h:i<l.length):l[i]? =some (dat l i):=by
 unfold dat;rw [lbl,lbf h];rfl
def a7B {l:LI} (h:0<l.length):l[((l.length:Int) - 1).toNat]? =some (dat l (l.length - 1)):=by
 rw [show ((l.length:Int) - 1).toNat=l.length - 1 by omega];exact w7 om
def a1W {l:LI} {n:Nat} (h:0<n) (hn:n<=l.length):l[((n:Int) - 1).toNat]? =some (dat l (n - 1)):=by
 rw [show ((n:Int) - 1).toNat=n - 1 by omega];exact w7 om
def a3B (b:Bg) (hl:b.dl.length<=1000000):ec 181 [bgS b] [] (i9 (J0 b)) []:=by
 have l2:(b.dl.map k6).length=b.dl.length:=zq;refine ac Tryz.func181 ?_;conv=>whnf
 repeat' (first|refine zx ?_|apply zD<;>intro<;>try omega)<;>conv=>whnf
 refine j3 d7 (fun k=>([J,sP 0 0 0,J,eI b.dl.length,J,J,J,J,J,J,k9 b.dl,eI b.dl.length,eI k]++Jn 32,[bgB b])) b.dl.length (fun k=>(b.dl.take k).all inD=true) [some 0] rfl
  ⟨rfl,rfl,⟨⟨rfl,rfl,rfl,.inl ⟨rfl,a5D b⟩⟩,trivial⟩,⟨rz,e7 zq,l9 rfl,e7 zq,e7 rfl,trivial⟩⟩ ?_
 intro k hk hI;conv=>whnf
 repeat' (first|refine zx ?_|refine i6 (w7 om) ?_|refine G7 om (a7B om) ?_|apply zD<;>intro<;>try omega)<;>conv=>whnf
 all_goals first
  |(have hlt:k<b.dl.length:=by omega
    refine ⟨hlt,?_,[some 0],rfl,rfl,⟨⟨rfl,rfl,rfl,.inl ⟨rfl,a5D b⟩⟩,trivial⟩,rz⟩;rw [t5 (w7 hlt),hI];simp [inD];omega)
  |(have hlt:k<b.dl.length:=by omega
    refine d9 ?_;unfold J0;rw [x7 (w7 hlt) (by simp [inD];omega)];rfl)
  |(have ha:b.dl.all inD=true:=by rw [← hI,lbn om]
    refine d9 ?_;unfold J0;rw [ha];simp_all;done)
def a4v (l:LI) (hl:l.length<=1000000):ec 265 [k9 l] [] (k9 (J6 l)) []:=by
 have l2:(l.map k6).length=l.length:=zq;refine ac Tryz.func265 ?_;conv=>whnf
 repeat' (first|refine zx ?_|apply zD<;>intro<;>try omega)<;>conv=>whnf
 refine p9 d7 (σ:=Nat) (fun n=>([k9 l,J,J,eI n]++Jn 17,[])) (fun n=>n<=l.length∧∀j x,n<=j->l[j]? =some x->x=0) (fun n=>n) l.length []
  ⟨lbQ _,fun j x hj hx=>by rw [lbd hj] at hx;cases hx⟩ ⟨rfl,rfl,trivial,⟨l9 rfl,e7 zq,trivial⟩⟩ ?_
 rintro n ⟨hn,hz⟩;have hn:n<=l.length:=hn;conv=>whnf
 repeat' (first|refine zx ?_|refine G7 om (a1W om hn) ?_|refine a2f om om om ?_|apply zD<;>intro<;>try omega)<;>conv=>whnf
 ·have h0:dat l (n - 1)=0:=by assumption
  have h1:0<n:=om;refine ⟨[],n - 1,⟨rfl,rfl,trivial,⟨rfl,e7 om,trivial⟩⟩,⟨om,fun j x hj hxj=>?_⟩,by show n - 1<n;omega⟩;by_cases hj2:j=n - 1
  ·subst hj2;rw [w7 om] at hxj;injection hxj with hx;rw [← hx];exact h0
  ·exact hz j x om hxj
 all_goals
  have e:l.take n=J6 l:=a4j hz (fun x h0 hx=>by
   first|omega|(rw [w7 om] at hx;injection hx with hx;rw [← hx];assumption)) hn
  refine bg5 ?_ rfl;rw [← e];simp [b2r]
open St1 St2 St3 St4 St5 St6 St7 St8 StA StB StC
set_option maxRecDepth 100000
def b9f (l:LI) (hl:l.length<=1000000):ec 265 [a0K 0 l] [x9 l] (.c (.own 0 0 (J6 l).length true)) [x9 l]:=by
 refine ac Tryz.func265 ?_;conv=>whnf
 repeat' (first|refine zx ?_|apply zD<;>intro h<;>try omega)<;>conv=>whnf
 refine p9 d7 (σ:=Nat) (fun n=>([a0K 0 l,J,J,eI n]++Jn 17,[x9 l])) (fun n=>n<=l.length∧∀j x,n<=j->l[j]? =some x->x=0) (fun n=>n) l.length [some 0]
  ⟨lbQ _,fun j x hj hx=>by rw [lbd hj] at hx;cases hx⟩ ⟨rfl,rfl,⟨e8 rfl rfl rfl rfl rfl,trivial⟩,⟨o8 rfl rfl,e7 rfl,trivial⟩⟩ ?_
 rintro n ⟨hn,hz⟩;have hn:n<=l.length:=hn;have hg:0<n->l[0+((n:Int) - 1).toNat]? =some (dat l (n - 1)):=fun h=>by rw [P9];exact a1W h hn
 conv=>whnf
 repeat' (first|refine zx ?_|refine s8 (hg om) ?_|refine a2f om om om ?_|apply zD<;>intro h<;>try omega)<;>conv=>whnf
 ·have h0:dat l (n - 1)=0:=by assumption
  have h1:0<n:=om;refine ⟨[some 0],n - 1,⟨rfl,rfl,⟨e8 rfl rfl rfl rfl rfl,trivial⟩,⟨o8 rfl rfl,e7 om,trivial⟩⟩,⟨om,fun j x hj hxj=>?_⟩,by show n - 1<n;omega⟩;by_cases hj2:j=n - 1
  ·subst hj2;rw [w7 om] at hxj;injection hxj with hx;rw [← hx];exact h0
  ·exact hz j x om hxj
 all_goals
  have e:l.take n=J6 l:=a4j hz (fun x h0 hx=>by
   first|omega|(rw [w7 om] at hx;injection hx with hx;rw [← hx];assumption)) hn
  have e2:(J6 l).length=n:=by rw [← e];simp;omega
  exact ⟨⟨[some 0],rfl,rfl,⟨e8 rfl rfl rfl rfl rfl,trivial⟩,⟨rfl,rfl,by rw [e2];omega,fun h=>h⟩⟩⟩
def aH6 {n:Nat} {K:Prop} (h:0<n) (k:K):0<n∧K:=⟨h,k⟩
def ad0 (l:LI) (hl:l.length<=1000000):ec 201 [k9 l] [] (k9 l) []:=by
 have l2:(l.map k6).length=l.length:=zq;cases l with
 |nil=>
  refine aB9 0 rfl ?_ ?_
  ·refine ac Tryz.func201 ?_;conv=>whnf
   repeat' (first|refine zx ?_|apply zD<;>intro h<;>try omega)<;>conv=>whnf
   exact m9 (show a95 [] _ _ _ from rfl)
  ·refine ac Tryz.func201 ?_;conv=>whnf
   repeat' (first|refine zx ?_|refine aH6 zq ?_|refine sl3_ok om om rfl om ?_|refine a2I rfl zt ?_|apply zD<;>intro h<;>try omega)<;>conv=>whnf
   exact L7 rfl zi rfl rfl zt
 |cons a r=>
  refine ac Tryz.func201 ?_;conv=>whnf
  repeat' (first|refine zx ?_|refine aH6 zq ?_|refine sl3_ok om om rfl om ?_|refine a2I rfl (by simp [toC] at *;omega) ?_|apply zD<;>intro h<;>try omega)<;>conv=>whnf
  exact L7 rfl zi rfl rfl zt
def b4B (l:LI) (hl:l.length<=1000000):ec 201 [k9 l] [] (a0K 0 l) [x9 l]:=by
 have l2:(l.map k6).length=l.length:=zq;cases l with
 |nil=>
  refine aB9 0 rfl ?_ ?_
  ·refine ac Tryz.func201 ?_;conv=>whnf
   repeat' (first|refine zx ?_|apply zD<;>intro h<;>try omega)<;>conv=>whnf
   exact ⟨⟨[none],rz⟩⟩
  ·refine ac Tryz.func201 ?_;conv=>whnf
   repeat' (first|refine zx ?_|refine aH6 zq ?_|refine sl3_ok om om rfl om ?_|refine a2I rfl zt ?_|apply zD<;>intro h<;>try omega)<;>conv=>whnf
   exact ⟨⟨[some 0],rfl,rfl,⟨e8 rfl rfl rfl rfl rfl,trivial⟩,⟨rfl,rfl,zt,fun h=>h⟩⟩⟩
 |cons a r=>
  refine ac Tryz.func201 ?_;conv=>whnf
  repeat' (first|refine zx ?_|refine aH6 zq ?_|refine sl3_ok om om rfl om ?_|refine a2I rfl (by simp [toC] at *;omega) ?_|apply zD<;>intro h<;>try omega)<;>conv=>whnf
  exact ⟨⟨[some 0],rfl,rfl,⟨e8 rfl rfl rfl rfl rfl,trivial⟩,⟨rfl,rfl,zt,fun h=>h⟩⟩⟩
def b8c (x:Int):ec 263 [eI x] [] (i9 false) []:=by
 refine ac Tryz.func263 ?_;conv=>whnf
 repeat' (first|refine zx ?_|apply zD<;>intro<;>try omega)<;>conv=>whnf
 all_goals first|omega|exact d9 rfl
def M3 (x y:Int):Int:=if x<y then -1 else if x > y then 1 else 0
def a4K (x y:Int):ec 188 [eI x,eI y] [] (eI (M3 x y)) []:=by
 refine ac Tryz.func188 ?_;conv=>whnf
 repeat' (first|refine zx ?_|refine qp (b8c _) ?_|apply zD<;>intro<;>try omega)<;>conv=>whnf
 all_goals first
  |(exfalso;simp_all;done)
  |(refine n8 ?_;unfold M3;split<;>first|omega|(split<;>omega))
def a3V (x y:Int):ec 259 [.c (.t (.sl 1 .full ([x,y].map k6)))] [] (eI (if x=0 then y else x)) []:=by
 refine ac Tryz.func259 ?_;conv=>whnf
 repeat' (first|refine zx ?_|apply zD<;>intro<;>try omega)<;>conv=>whnf
 refine j3 d7 (fun k=>([J,J,J,eI 0,J,J,S.c (C.t (T.sl 1 .full ([x,y].map k6))),eI 2,eI k]++Jn 9,[])) 2 (fun k=>∀v ∈ [x,y].take k,v=0) [] zq
  ⟨rfl,rfl,trivial,⟨rfl,l9 rfl,e7 rfl,e7 rfl,trivial⟩⟩ ?_
 intro k hk hI;conv=>whnf
 repeat' (first|refine zx ?_|apply zD<;>intro<;>try omega)<;>conv=>whnf
 ·have hlt:k<2:=by omega
  obtain ⟨v,hv⟩:∃v,[x,y][k]? =some v:=⟨_,lbf (by simpa using hlt)⟩;refine i6 hv ?_;conv=>whnf
  repeat' (first|refine zx ?_|apply zD<;>intro<;>try omega)<;>conv=>whnf
  ·refine n8 ?_
   match k,hlt with
   |0,_=>simp at hv;subst hv;rw [if_neg (by assumption)]
   |1,_=>simp at hv;subst hv;rw [if_pos (hI x zq)]
  ·refine ⟨hlt,?_,[],rz⟩;intro u hu;rw [lbF,hv] at hu;rcases lby.1 hu with hu|hu
   ·exact hI u hu
   ·simp at hu;subst hu;omega
 ·have h1:=hI x (by rw [lbn zo];simp);have h2:=hI y (by rw [lbn zo];simp);refine n8 ?_;rw [if_pos h1,h2]
def sgn (s:Int) (l:LI):Bg:=if (J6 l).length=0 then ⟨0,[]⟩ else ⟨s,J6 l⟩
def aZ1 (s:Int) (l:LI) (hl:l.length<=1000000):ec 191 [eI s,k9 l] [] (bgS (sgn s l)) []:=by
 refine ac Tryz.func191 ?_;conv=>whnf
 repeat' (first|refine zx ?_|refine qp (a4v l hl) ?_|apply zD<;>intro<;>try omega)<;>conv=>whnf
 ·have h0:(J6 l).length=0:=by simp at *;assumption
  unfold sgn;rw [if_pos h0];exact m9 rz
 ·have h0:¬(J6 l).length=0:=by simp at *;assumption
  unfold sgn;rw [if_neg h0];exact m9 rz
def K7 (r:Bool) (b:Bg):ec 252 [i9 r,bgS b] [] (.tup [bgS (if r then b else ⟨0,[]⟩),eI (if r then 0 else 1)]) []:=by
 cases r<;>
 ·refine ac Tryz.func252 ?_;conv=>whnf
  repeat' (first|refine zx ?_|apply zD<;>intro<;>try omega)<;>conv=>whnf
  exact m9 rz
open St1 St2 St3 St4 St5 St6 St7 St8 StA StB StC
set_option maxRecDepth 100000
def a3P {x y:Int} (h:x<y):M3 x y=-1:=by unfold M3;rw [if_pos h]
def ae7 {x y:Int} (h:y<x):M3 x y=1:=by unfold M3;rw [if_neg om,if_pos h]
def b8H {x y:Int} (h:x=y):M3 x y=0:=by unfold M3;rw [if_neg om,if_neg om]
def b0p {s:Int} {l:LI} (h:Okd l) (hs:s=1∨s=-1∨val l=0):sgn s l=bz (s*val l):=by
 have hv:=v7 h;unfold sgn bz;rw [N2 h];by_cases h0:val l=0
 ·rw [h0,Int.mul_zero];rfl
 ·have h1:(dg (val l).toNat).length≠0:=by rw [Ne,a27,K8];omega
  rw [if_neg h1];rcases hs with rfl|rfl|h2
  ·rw [O5 om]
   congr 2;omega
  ·rw [a1n om]
   congr 2;omega
  ·exact absurd h2 h0
def a3g (a b:LI) (ha:Can a) (hb:Can b) (la:a.length<=1000000) (lb:b.length<=1000000):
 ec 189 [k9 a,k9 b] [] (eI (M3 (val a) (val b))) []:=by
 have l1:(a.map k6).length=a.length:=zq;have l2:(b.map k6).length=b.length:=zq;have key:∀{x y:LI},Can x->Can y->x.length<y.length->val x<val y:=fun {x y} hx hy h=>by
  rw [b1I hx,b1I hy] at h;have:=aD6 h;have:=v7 hx.1;omega
 by_cases hl:a.length=b.length
 ·refine ac Tryz.func189 ?_;conv=>whnf
  repeat' (first|refine zx ?_|apply zD<;>intro h<;>try omega)<;>conv=>whnf
  refine p9 d7 (σ:=Nat) (fun k=>([k9 a,k9 b,J,J,J,eI ((k:Int) - 1)]++Jn 35,[])) (fun k=>k<=a.length∧a.drop k=b.drop k) (fun k=>k) a.length []
   ⟨lbQ _,by rw [lbo (lbQ _),lbo om]⟩ ⟨rfl,rfl,trivial,⟨l9 rfl,l9 rfl,e7 zq,trivial⟩⟩ ?_
  rintro k ⟨hk,hd⟩;have hk:k<=a.length:=hk;have hd:a.drop k=b.drop k:=hd;conv=>whnf
  repeat' (first|refine zx ?_|refine qp (a4K _ _) ?_|refine G7 om (a1W om hk) ?_|refine G7 om (a1W om (hl ▸ hk)) ?_|apply zD<;>intro h<;>try omega)<;>conv=>whnf
  all_goals first
   |(have hp:0<k:=by omega
     have e:k - 1+1=k:=om;have gx:=w7 (l:=a) (i:=k - 1) om;have gy:=w7 (l:=b) (i:=k - 1) om;refine n8 ?_;rcases a3a (dat a (k - 1)) (dat b (k - 1)) with h|h|h
     ·rw [a3P h,a3P (a9z ha.1 hb.1 hl gx gy (by rw [e];exact hd) h)]
     ·exfalso;simp_all;done
     ·rw [ae7 h,ae7 (a9z hb.1 ha.1 hl.symm gy gx (by rw [e];exact hd.symm) h)])
   |(have hp:0<k:=by omega
     have hq:dat a (k - 1)=dat b (k - 1):=om;refine ⟨[],k - 1,⟨rfl,rfl,trivial,⟨rfl,rfl,e7 om,trivial⟩⟩,⟨om,?_⟩,by show k - 1<k;omega⟩;rw [a9t (by omega:k - 1<a.length),a9t (by omega:k - 1<b.length),show k - 1+1=k by omega,hd]
     congr 1
     have gx:=w7 (l:=a) (i:=k - 1) om;have gy:=w7 (l:=b) (i:=k - 1) om;rw [lbf om] at gx gy;injection gx with gx;injection gy with gy;rw [gx,gy,hq])
   |(have:k=0:=by omega
     subst this;simp only [a9y] at hd;refine n8 ?_;rw [hd,b8H rfl])
 ·refine ac Tryz.func189 ?_;conv=>whnf
  repeat' (first|refine zx ?_|refine qp (a4K _ _) ?_|apply zD<;>intro h<;>try omega)<;>conv=>whnf
  all_goals first
   |omega
   |(refine n8 ?_
     rcases aU3 hl with h|h
     ·rw [a3P om,a3P (key ha hb h)]
     ·rw [ae7 om,ae7 (key hb ha h)])
def b3K (a b:Bg):Int:=if J0 a && J0 b then M3 (bv a) (bv b) else 0
def b1P (x:Int):Can (bz x).dl:=U2 _
def aM6 (x:Int):val (bz x).dl=x.natAbs:=s6 _
def C4 (x:Int):x.sign=0∧x=0∨x.sign=1∧0<x∨x.sign=-1∧x<0:=by
 rcases a3a x 0 with h|h|h
 ·exact .inr (.inr ⟨a1n h,h⟩)
 ·subst h;exact .inl rz
 ·exact .inr (.inl ⟨O5 h,h⟩)
def b4k {x y:Int} (h:x.sign≠y.sign):M3 x.sign y.sign=M3 x y:=by
 rcases C4 x with ⟨e,h1⟩|⟨e,h1⟩|⟨e,h1⟩<;>rcases C4 y with ⟨f,h2⟩|⟨f,h2⟩|⟨f,h2⟩<;>rw [e,f] at h ⊢<;>unfold M3<;>(repeat' split)<;>omega
def b67 {x y:Int} (h:x.sign=y.sign):x.sign*M3 x.natAbs y.natAbs=M3 x y:=by
 rcases C4 x with ⟨e,h1⟩|⟨e,h1⟩|⟨e,h1⟩<;>rcases C4 y with ⟨f,h2⟩|⟨f,h2⟩|⟨f,h2⟩<;>rw [e,f] at h<;>try omega
 all_goals (rw [e];unfold M3;(repeat' split)<;>omega)
def b68 (x y:Int):-1<=M3 x y∧M3 x y<=1:=by unfold M3;split<;>(try split)<;>omega
def ap2 {b:Bg} (h:J0 b=true):∃z,b=bz z:=⟨_,b34 h⟩
def b1K (a b:Bg) (la:a.dl.length<=1000000) (lb:b.dl.length<=1000000):
 ec 120 [bgS a,bgS b] [] (eI (b3K a b)) []:=by
 have r1:=a3B a la;have r2:=a3B b lb;cases ha:J0 a with
 |false=>
  rw [ha] at r1;refine ac Tryz.func120 ?_;conv=>whnf
  repeat' (first|refine zx ?_|apply zD<;>intro<;>try omega)<;>conv=>whnf
  all_goals (first|(exfalso;simp_all;done)|(refine n8 ?_;unfold b3K;rw [ha];rfl))
 |true=>
  rw [ha] at r1;cases hb:J0 b with
  |false=>
   rw [hb] at r2;refine ac Tryz.func120 ?_;conv=>whnf
   repeat' (first|refine zx ?_|apply zD<;>intro<;>try omega)<;>conv=>whnf
   all_goals (first|(exfalso;simp_all;done)|(refine n8 ?_;unfold b3K;rw [ha,hb];rfl))
  |true=>
   rw [hb] at r2;obtain ⟨x,rfl⟩:=ap2 ha;obtain ⟨y,rfl⟩:=ap2 hb;have c:=a3g (bz x).dl (bz y).dl (b1P x) (b1P y) la lb;rw [aM6,aM6] at c;have e:b3K (bz x) (bz y)=M3 x y:=by unfold b3K;rw [ha,hb,a4Q,a4Q];rfl
   rw [e];have hr:=b68 x y;by_cases hs:x.sign=y.sign
   ·have hs':(bz x).sg=(bz y).sg:=hs;have e2:=b67 hs;refine ac Tryz.func120 ?_;conv=>whnf
    repeat' (first|refine zx ?_|refine ⟨_,D7 e2 om om,?_⟩|apply zD<;>intro<;>try omega)<;>conv=>whnf
    all_goals first|omega|(exfalso;simp_all;done)|exact n8 rfl
   ·have hs':(bz x).sg≠(bz y).sg:=hs;refine ac Tryz.func120 ?_;conv=>whnf
    repeat' (first|refine zx ?_|refine qp (a4K _ _) ?_|apply zD<;>intro<;>try omega)<;>conv=>whnf
    all_goals first|omega|(exfalso;simp_all;done)|exact n8 (b4k hs)
def b3m (a:Bg):Bg:=if J0 a then bz (-bv a) else ⟨0,[]⟩
def bi1 (a:Bg) (la:a.dl.length<=1000000):ec 185 [bgS a] [] (bgS (b3m a)) []:=by
 have r1:=a3B a la;cases ha:J0 a with
 |false=>
  rw [ha] at r1;have e:b3m a=⟨0,[]⟩:=by unfold b3m;rw [ha];rfl
  rw [e];refine ac Tryz.func185 ?_;conv=>whnf
  repeat' (first|refine zx ?_|apply zD<;>intro h<;>try omega)<;>conv=>whnf
  all_goals (first|(exfalso;simp_all;done)|exact m9 rz)
 |true=>
  rw [ha] at r1;obtain ⟨x,rfl⟩:=ap2 ha;have e:b3m (bz x)=sgn (0 - (bz x).sg) (bz x).dl:=by
   rw [Int.zero_sub];unfold b3m;rw [ha,b0p (b1P x).1 (by rcases C4 x with ⟨h,h1⟩|⟨h,h1⟩|⟨h,h1⟩<;>rw [a7N,h]<;>simp [h1,aM6]),a4Q,aM6,a7N];show bz (-x)=_
   congr 1
   rw [Int.neg_mul,ar7]
  rw [e];have hs:-1<=(bz x).sg∧(bz x).sg<=1:=by rcases C4 x with ⟨h,h1⟩|⟨h,h1⟩|⟨h,h1⟩<;>rw [a7N,h]<;>decide
  refine ac Tryz.func185 ?_;conv=>whnf
  repeat' (first|refine zx ?_|refine qp (ad0 _ la) ?_|refine qp (aZ1 _ _ la) ?_|apply zD<;>intro h<;>try omega)<;>conv=>whnf
  all_goals (first|(exfalso;simp_all;done)|exact m9 rz)
end Go.Proofs.YtikokmdpigploaaGreat
