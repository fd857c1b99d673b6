/- Part 14. -/
import Derived.Shelf.Small.Wraps
import Derived.Shelf.Slices.In.SortNone
import Derived.Shelf.Sort.Plain
import Derived.Lib.SlKeysI
import Derived.Shelf.Slices.CompactI
import Derived.Test.YtaejgdbahjjncaaGreatUj13
namespace Go.Proofs.YtaejgdbahjjncaaGreat
set_option linter.unusedVariables false
set_option linter.unusedSimpArgs false
set_option maxRecDepth 100000
open Go.RowKit
open St1 St2 St3 St4 St5 St6 St7 St8 StA StB
open Go.Shelf Go.Proofs
def a2J:Go.Shelf.Ren:=⟨fun|6=>127|15=>206|14=>205|28=>258|29=>259|20=>250|21=>251|22=>252|23=>253|24=>254|25=>255|26=>256|27=>257|46=>297|47=>298|48=>299|49=>300|50=>301|57=>317|n=>n,fun|22=>57|24=>129|25=>234|3=>3|39=>236|0=>0|53=>378|55=>235|4=>4|46=>372|45=>371|50=>328|5=>5|9=>9|66=>417|70=>421|76=>438|77=>316|n=>n,fun|n=>n⟩
theorem b2D:Go.Proofs.SlLaysF0.n6 Tryz.prog a2J:={
 mixed:=by kernel_rfl
 f6:=⟨Tryz.f127.name,by decide,Tryz.func127.trans (congrArg some (by kernel_rfl))⟩
 f14:=⟨Tryz.f205.name,by decide,Tryz.func205.trans (congrArg some (by kernel_rfl))⟩
 f15:=Tryz.func206.trans (congrArg some (by kernel_rfl))
 f20:=⟨Tryz.f250.name,by decide,Tryz.func250.trans (congrArg some (by kernel_rfl))⟩
 f21:=⟨Tryz.f251.name,by decide,Tryz.func251.trans (congrArg some (by kernel_rfl))⟩
 f22:=⟨Tryz.f252.name,by decide,Tryz.func252.trans (congrArg some (by kernel_rfl))⟩
 f23:=⟨Tryz.f253.name,by decide,Tryz.func253.trans (congrArg some (by kernel_rfl))⟩
 f24:=⟨Tryz.f254.name,by decide,Tryz.func254.trans (congrArg some (by kernel_rfl))⟩
 f25:=⟨Tryz.f255.name,by decide,Tryz.func255.trans (congrArg some (by kernel_rfl))⟩
 f26:=⟨Tryz.f256.name,by decide,Tryz.func256.trans (congrArg some (by kernel_rfl))⟩
 f27:=⟨Tryz.f257.name,by decide,Tryz.func257.trans (congrArg some (by kernel_rfl))⟩
 f28:=Tryz.func258.trans (congrArg some (by kernel_rfl))
 f29:=Tryz.func259.trans (congrArg some (by kernel_rfl))
 f46:=⟨Tryz.f297.name,by decide,Tryz.func297.trans (congrArg some (by kernel_rfl))⟩
 f47:=Tryz.func298.trans (congrArg some (by kernel_rfl))
 f48:=Tryz.func299.trans (congrArg some (by kernel_rfl))
 f49:=⟨Tryz.f300.name,by decide,Tryz.func300.trans (congrArg some (by kernel_rfl))⟩
 f50:=⟨Tryz.f301.name,by decide,Tryz.func301.trans (congrArg some (by kernel_rfl))⟩
 f57:=⟨Tryz.f317.name,by decide,Tryz.func317.trans (congrArg some (by kernel_rfl))⟩
 t0:=Tryz.underlying0
 a0:=Tryz.isAgg0
 z0:=Tryz.sizeOf0
 v0:=Tryz.zeroValue0
 t3:=Tryz.underlying3
 a3:=Tryz.isAgg3
 z3:=Tryz.sizeOf3
 v3:=Tryz.zeroValue3
 t4:=Tryz.underlying4
 a4:=Tryz.isAgg4
 z4:=Tryz.sizeOf4
 v4:=Tryz.zeroValue4
 t5:=Tryz.underlying5
 a5:=Tryz.isAgg5
 z5:=Tryz.sizeOf5
 v5:=Tryz.zeroValue5
 t9:=Tryz.underlying9
 a9:=Tryz.isAgg9
 z9:=Tryz.sizeOf9
 v9:=Tryz.zeroValue9
 t22:=Tryz.underlying57
 a22:=Tryz.isAgg57
 z22:=Tryz.sizeOf57
 v22:=Tryz.zeroValue57
 t25:=Tryz.underlying234
 a25:=Tryz.isAgg234
 z25:=Tryz.sizeOf234
 v25:=Tryz.zeroValue234
 t39:=Tryz.underlying236
 a39:=Tryz.isAgg236
 z39:=Tryz.sizeOf236
 v39:=Tryz.zeroValue236
 t45:=Tryz.underlying371
 a45:=Tryz.isAgg371
 z45:=Tryz.sizeOf371
 v45:=Tryz.zeroValue371
 t46:=Tryz.underlying372
 a46:=Tryz.isAgg372
 z46:=Tryz.sizeOf372
 v46:=Tryz.zeroValue372
 t50:=Tryz.underlying328
 a50:=Tryz.isAgg328
 z50:=Tryz.sizeOf328
 v50:=Tryz.zeroValue328
 t53:=Tryz.underlying378
 a53:=Tryz.isAgg378
 z53:=Tryz.sizeOf378
 v53:=Tryz.zeroValue378
 t55:=Tryz.underlying235
 a55:=Tryz.isAgg235
 z55:=Tryz.sizeOf235
 v55:=Tryz.zeroValue235
 t66:=Tryz.underlying417
 a66:=Tryz.isAgg417
 z66:=Tryz.sizeOf417
 v66:=Tryz.zeroValue417
 t70:=Tryz.underlying421
 a70:=Tryz.isAgg421
 z70:=Tryz.sizeOf421
 v70:=Tryz.zeroValue421
 t76:=Tryz.underlying438
 a76:=Tryz.isAgg438
 z76:=Tryz.sizeOf438
 v76:=Tryz.zeroValue438
 t77:=Tryz.underlying316
 a77:=Tryz.isAgg316
 z77:=Tryz.sizeOf316
 v77:=Tryz.zeroValue316 }
def aj4:Go.Shelf.Ren:=⟨fun|189=>179|125=>206|257=>237|128=>258|129=>259|294=>282|295=>283|296=>284|297=>285|298=>286|299=>287|216=>288|300=>289|301=>290|328=>311|329=>298|330=>299|331=>312|332=>313|215=>207|343=>324|n=>n,fun|28=>31|3=>3|46=>236|0=>0|51=>378|53=>235|4=>4|183=>372|182=>371|131=>328|5=>5|9=>9|218=>417|222=>421|228=>438|229=>316|n=>n,fun|n=>n⟩
theorem a8y:Go.Proofs.Lays.n189 Tryz.prog aj4:={
 mixed:=by kernel_rfl
 f125:=Tryz.func206.trans (congrArg some (by kernel_rfl))
 f128:=Tryz.func258.trans (congrArg some (by kernel_rfl))
 f129:=Tryz.func259.trans (congrArg some (by kernel_rfl))
 f189:=Tryz.func179.trans (congrArg some (by kernel_rfl))
 f215:=Tryz.func207.trans (congrArg some (by kernel_rfl))
 f216:=Tryz.func288.trans (congrArg some (by kernel_rfl))
 f257:=Tryz.func237.trans (congrArg some (by kernel_rfl))
 f294:=Tryz.func282.trans (congrArg some (by kernel_rfl))
 f295:=Tryz.func283.trans (congrArg some (by kernel_rfl))
 f296:=Tryz.func284.trans (congrArg some (by kernel_rfl))
 f297:=Tryz.func285.trans (congrArg some (by kernel_rfl))
 f298:=Tryz.func286.trans (congrArg some (by kernel_rfl))
 f299:=Tryz.func287.trans (congrArg some (by kernel_rfl))
 f300:=Tryz.func289.trans (congrArg some (by kernel_rfl))
 f301:=Tryz.func290.trans (congrArg some (by kernel_rfl))
 f328:=Tryz.func311.trans (congrArg some (by kernel_rfl))
 f329:=Tryz.func298.trans (congrArg some (by kernel_rfl))
 f330:=Tryz.func299.trans (congrArg some (by kernel_rfl))
 f331:=Tryz.func312.trans (congrArg some (by kernel_rfl))
 f332:=Tryz.func313.trans (congrArg some (by kernel_rfl))
 f343:=Tryz.func324.trans (congrArg some (by kernel_rfl))
 t0:=Tryz.underlying0
 a0:=Tryz.isAgg0
 z0:=Tryz.sizeOf0
 v0:=Tryz.zeroValue0
 t3:=Tryz.underlying3
 a3:=Tryz.isAgg3
 z3:=Tryz.sizeOf3
 v3:=Tryz.zeroValue3
 t4:=Tryz.underlying4
 a4:=Tryz.isAgg4
 z4:=Tryz.sizeOf4
 v4:=Tryz.zeroValue4
 t5:=Tryz.underlying5
 a5:=Tryz.isAgg5
 z5:=Tryz.sizeOf5
 v5:=Tryz.zeroValue5
 t9:=Tryz.underlying9
 a9:=Tryz.isAgg9
 z9:=Tryz.sizeOf9
 v9:=Tryz.zeroValue9
 t28:=Tryz.underlying31
 a28:=Tryz.isAgg31
 z28:=Tryz.sizeOf31
 v28:=Tryz.zeroValue31
 t46:=Tryz.underlying236
 a46:=Tryz.isAgg236
 z46:=Tryz.sizeOf236
 v46:=Tryz.zeroValue236
 t51:=Tryz.underlying378
 a51:=Tryz.isAgg378
 z51:=Tryz.sizeOf378
 v51:=Tryz.zeroValue378
 t53:=Tryz.underlying235
 a53:=Tryz.isAgg235
 z53:=Tryz.sizeOf235
 v53:=Tryz.zeroValue235
 t131:=Tryz.underlying328
 a131:=Tryz.isAgg328
 z131:=Tryz.sizeOf328
 v131:=Tryz.zeroValue328
 t182:=Tryz.underlying371
 a182:=Tryz.isAgg371
 z182:=Tryz.sizeOf371
 v182:=Tryz.zeroValue371
 t183:=Tryz.underlying372
 a183:=Tryz.isAgg372
 z183:=Tryz.sizeOf372
 v183:=Tryz.zeroValue372
 t218:=Tryz.underlying417
 a218:=Tryz.isAgg417
 z218:=Tryz.sizeOf417
 v218:=Tryz.zeroValue417
 t222:=Tryz.underlying421
 a222:=Tryz.isAgg421
 z222:=Tryz.sizeOf421
 v222:=Tryz.zeroValue421
 t228:=Tryz.underlying438
 a228:=Tryz.isAgg438
 z228:=Tryz.sizeOf438
 v228:=Tryz.zeroValue438
 t229:=Tryz.underlying316
 a229:=Tryz.isAgg316
 z229:=Tryz.sizeOf316
 v229:=Tryz.zeroValue316 }
def a9g:Go.Shelf.Ren:=⟨fun|20=>180|n=>n,fun|22=>31|3=>3|4=>4|0=>0|n=>n,fun|n=>n⟩
theorem aG7:Go.Proofs.Lays2.n20 Tryz.prog a9g:={
 mixed:=by kernel_rfl
 f20:=Tryz.func180.trans (congrArg some (by kernel_rfl))
 t0:=Tryz.underlying0
 a0:=Tryz.isAgg0
 z0:=Tryz.sizeOf0
 v0:=Tryz.zeroValue0
 t3:=Tryz.underlying3
 a3:=Tryz.isAgg3
 z3:=Tryz.sizeOf3
 v3:=Tryz.zeroValue3
 t4:=Tryz.underlying4
 a4:=Tryz.isAgg4
 z4:=Tryz.sizeOf4
 v4:=Tryz.zeroValue4
 t22:=Tryz.underlying31
 a22:=Tryz.isAgg31
 z22:=Tryz.sizeOf31
 v22:=Tryz.zeroValue31
 i3:=by kernel_rfl }
def aM2:Go.Shelf.Ren:=⟨fun|122=>129|215=>207|n=>n,fun|3=>3|4=>4|n=>n,fun|n=>n⟩
theorem b71:Go.Proofs.Lays.n122 Tryz.prog aM2:={
 mixed:=by kernel_rfl
 f122:=Tryz.func129.trans (congrArg some (by kernel_rfl))
 f215:=Tryz.func207.trans (congrArg some (by kernel_rfl))
 t3:=Tryz.underlying3
 a3:=Tryz.isAgg3
 z3:=Tryz.sizeOf3
 v3:=Tryz.zeroValue3
 t4:=Tryz.underlying4
 a4:=Tryz.isAgg4
 z4:=Tryz.sizeOf4
 v4:=Tryz.zeroValue4 }
theorem b5U (w:World):(isAgg (a2J.t 24)).run Tryz.prog w=.ok true w:=Tryz.isAgg129 w
theorem b1F (w:World):(Go.sizeOf (a2J.t 24)).run Tryz.prog w=.ok 5 w:=Tryz.sizeOf129 w
def O8 (e:Ev) (p:D8):Int:=p.mv*e.mats+p.mat
def a0u (e:Ev) (p:D8):Bool:=decide (0<=p.mv) && decide (p.mv<e.moves.length) && decide (0<=p.mat) && decide (p.mat<e.mats)
def ab2:List Int->Bool
 |[]=>true
 |[_]=>true
 |a::b::r=>decide (a≠b) && ab2 (b::r)
def G7 (e:Ev) (ps:List D8):Bool:=decide (m8 e=0) && ps.all (a0u e) && ab2 (B2 (ps.map (O8 e)))
def x8 (e:Ev) (ps:List D8):List (Int × Rat):=if G7 e ps=true then w8 (B2 (ps.map (O8 e))) else []
theorem at4 {n:Int}:∀{l:List Int} {last:Int},l.Pairwise (·<=·)->ab2 l=true->(∀ x ∈ l,last<x∧x<n)->d8 last n (w8 l)=true
 |[],_,_,_,_=>rfl
 |[a],last,_,_,h=>by
  obtain ⟨h1,h2⟩:=h a (by simp)
  show (decide (last<a) && decide (a<n) && decide (((1:Int):Rat)≠0) && true)=true
  rw [lbH h1,lbH h2];decide
 |a::b::r,last,hp,ha,h=>by
  obtain ⟨h1,h2⟩:=h a (by simp)
  unfold ab2 at ha
  rw [lbM,lbI] at ha
  rw [List.pairwise_cons] at hp
  have hab:=hp.1 b (by simp)
  have ih:=at4 (l:=b::r) (last:=a) hp.2 ha.2 fun x hx=>by
   refine ⟨?_,(h x (List.mem_cons_of_mem _ hx)).2⟩
   have h3:b<=x:=by
    rcases lbA.1 hx with rfl|hx
    ·exact Int.le_refl _
    ·exact (List.pairwise_cons.1 hp.2).1 x hx
   omega
  show (decide (last<a) && decide (a<n) && decide (((1:Int):Rat)≠0) && d8 a n (w8 (b::r)))=true
  rw [lbH h1,lbH h2,ih];decide
theorem b1f {e:Ev} {p:D8} (h:a0u e p=true) (hm:0<=e.mats):0<=O8 e p∧O8 e p<(e.moves.length:Int)*e.mats:=by
 unfold a0u at h
 simp only [lbM,lbI] at h
 unfold O8
 have h1:0<=p.mv*e.mats:=lbZ (by omega) hm
 have h2:(p.mv+1)*e.mats<=(e.moves.length:Int)*e.mats:=lbW (by omega) hm
 rw [Int.add_mul] at h2
 omega
theorem aV8 {e:Ev} {ps:List D8} (h:G7 e ps=true):d8 (-1) ((e.moves.length:Int)*e.mats) (x8 e ps)=true:=by
 unfold x8
 rw [if_pos h]
 unfold G7 at h
 simp only [lbM,lbI] at h
 have hm:=(B5 h.1.1).1
 refine at4 (a1d _) h.2 fun x hx=>?_
 obtain ⟨p,hp,rfl⟩:=lbx.1 (b2T.1 hx)
 have:=b1f (lbv.1 h.1.2 p hp) (by omega)
 omega
theorem aY0 (l:List Int):E4 (w8 l):=fun t ht=>by
 obtain ⟨v,_,rfl⟩:=lbx.1 ht
 exact ⟨1,rfl,Q3 (by decide) (by decide)⟩
theorem a3G (e:Ev) (ps:List D8):E4 (x8 e ps):=by
 unfold x8;split
 ·exact aY0 _
 ·exact a0j
theorem aF1 (e:Ev) (ps:List D8):∀t ∈ x8 e ps,0<=t.2:=by
 unfold x8;split
 ·intro t ht
  obtain ⟨v,_,rfl⟩:=lbx.1 ht
  show (0:Rat)<=((1:Int):Rat)
  decide
 ·intro t ht;cases ht
theorem a82 (f:Int × Rat->Rat):∀(l:List (Int × Rat)) (a:Rat),l.foldl (fun x t=>x+f t) a=a+l.foldl (fun x t=>x+f t) ((0:Int):Rat)
 |[],a=>by simp only [List.foldl_nil];have:((0:Int):Rat)=0:=rfl;grind
 |t::r,a=>by
  rw [List.foldl_cons,a82 f r,List.foldl_cons,a82 f r (((0:Int):Rat)+f t)]
  have:((0:Int):Rat)=0:=rfl
  grind
theorem a0m (t:Int × Rat) (l:List (Int × Rat)) (z:List Rat):j1 (t::l) z=t.2*z.getD t.1.toNat 0+j1 l z:=by
 unfold j1
 rw [List.foldl_cons,a82 (fun t=>t.2*z.getD t.1.toNat 0)]
 have:((0:Int):Rat)=0:=rfl
 grind
theorem b32 {l l':List (Int × Rat)} (h:l.Perm l') (z:List Rat):j1 l z=j1 l' z:=by
 induction h with
 |nil=>rfl
 |cons t _ ih=>rw [a0m,a0m,ih]
 |swap t u l=>rw [a0m,a0m,a0m,a0m];grind
 |trans _ _ ih1 ih2=>rw [ih1,ih2]
def b5z (z:List Rat):List Int->Rat
 |[]=>0
 |v::r=>z.getD v.toNat 0+b5z z r
theorem b2O (l:List Int) (z:List Rat):j1 (w8 l) z=b5z z l:=by
 induction l with
 |nil=>rfl
 |cons v r ih=>
  show j1 ((v,((1:Int):Rat))::w8 r) z=_
  rw [a0m,ih]
  show ((1:Int):Rat)*_+_=z.getD v.toNat 0+b5z z r
  have:((1:Int):Rat)=1:=rfl
  grind
theorem b3y {e:Ev} {ps:List D8} (h:G7 e ps=true) (z:List Rat):j1 (x8 e ps) z=b5z z (ps.map (O8 e)):=by
 unfold x8
 rw [if_pos h,←b2O]
 exact b32 ((a0t _).map _) z
open Go.RowKit Go.Shelf Go.Lib Go.Sort
theorem b62:b5b Tryz.prog 128:=fun x y a1 a2 a3 a4 b1 b2 b3 b4 W=>by
 have hcon:=fun W'=>Any.cmp_Compare_int b71 x y W'
 change ∀W',Calls Tryz.prog 129 _ _ _ at hcon
 generalize Lib.compareInt x y=r at hcon ⊢
 go_enter Tryz.func128,Tryz.ntmps128
 go_wp2_with (go_at_call 129;refine (hcon _).mono ?_;rintro e w' ⟨rfl,rfl⟩)
 go_ret
 exact ⟨rfl,0,_,by rw [alloc_eq_grow,alloc_eq_grow,grow_grow];rfl⟩
theorem b6q (vs:List Int) (hl:vs.length<=1000):b7 Tryz.prog 127 [.c (.own 0 0 vs.length true),.c (.t (.fn (Fn.func 128) []))] [H6 (w8 vs)] (.tup []) [H6 (w8 (B2 vs))]:=
 aG2 b2D b5U b1F ⟨_,Tryz.func127,rfl,by decide⟩ (enters_of Tryz.func128 (by kernel_rfl) rfl) b62 vs hl
theorem ai8:∀(l:List Int),ab2 l=true↔∀i a b,l[i]? =some a->l[i+1]? =some b->a≠b
 |[]=>⟨fun _ i a b h=>by simp at h,fun _=>rfl⟩
 |[x]=>⟨fun _ i a b _ h=>by simp at h,fun _=>rfl⟩
 |x::y::r=>by
  have ih:=ai8 (y::r)
  unfold ab2
  rw [lbM,lbI,ih]
  constructor
  ·rintro ⟨h1,h2⟩ i a b ha hb
   cases i with
   |zero=>simp at ha hb;subst ha hb;exact h1
   |succ i=>exact h2 i a b (by simpa using ha) (by simpa using hb)
  ·intro h
   exact ⟨h 0 x y rfl rfl,fun i a b ha hb=>h (i+1) a b (by simpa using ha) (by simpa using hb)⟩
theorem aX9 (l:List (Int × Rat)):(H6 l).rows.length=l.length:=by simp [toC]
set_option maxHeartbeats 8000000 in
theorem b5T (e:Ev) (hs:e.Sized) (ps:List D8) (hp:ps.length<=100):b7 Tryz.prog 56 [evS e,F6 ps] [] (.tup [k9 (x8 e ps),f7 (G7 e ps)]) []:=by
 have ck:=S1 e hs
 have i1:=D2 1 (by decide) (by decide)
 have m1:(ps.map D8.row).length=ps.length:=by simp
 have m2:(e.moves.map j6.row).length=e.moves.length:=by simp
 have s2:=hs.s2
 have nil:∀{H1:Hp},G7 e ps=false->Fin 0 (.tup [.c (.t (.sl 0 .nil [])),f7 false]) H1 (.tup [k9 (x8 e ps),f7 (G7 e ps)]) []:=fun {H1} hg=>by
  have:x8 e ps=[]:=by unfold x8;rw [hg];rfl
  rw [this,hg]
  exact j3 ⟨rfl,rfl,trivial⟩
 by_cases h0:m8 e=0
 ·rw [h0] at ck
  have hb:=B5 h0
  (refine ac Tryz.func56 ?_;(conv=>whnf);repeat ((first|refine b0x ?_|refine zy ?_);conv=>whnf))
  repeat' (first|refine zx ?_|refine qp ck ?_|refine zd ?_ ?_<;>intro h<;>try omega|fail)<;>conv=>whnf
  all_goals try omega
  refine f8 c7 (fun k=>([J,J,S.c (C.t (T.ptr (evT e))),J,J,J,S.c (C.own 0 0 k true),J,J,J,J,J,J,F6 ps,a8 .i64 ps.length,a8 .i64 k]++Jn 61,[H6 (w8 ((ps.take k).map (O8 e)))])) ps.length (fun k=>(ps.take k).all (a0u e)=true) [none] rfl
   ⟨rfl,rfl,⟨⟨rfl,rfl⟩,trivial⟩,⟨rfl,⟨rfl,rfl,rfl⟩,i5 rfl,c6 (by omega),c6 rfl,trivial⟩⟩ ?_
  intro k hk hI
  by_cases hlt:k<ps.length
  ·obtain ⟨p,hpk⟩:∃p,ps[k]? =some p:=⟨_,lbf hlt⟩
   have tk:ps.take (k+1)=ps.take k++[p]:=by rw [lbG,hpk];rfl
   have ek:(w8 ((ps.take k).map (O8 e))).length=k:=by simp [w8];omega
   cases hok:a0u e p with
   |false=>
    have hg:G7 e ps=false:=by
     unfold G7
     have:ps.all (a0u e)=false:=List.all_eq_false.2 ⟨p,lbm hpk,by rw [hok];decide⟩
     rw [this];simp
    have hno:¬(0<=p.mv∧p.mv<e.moves.length∧0<=p.mat∧p.mat<e.mats):=fun h=>by
     unfold a0u at hok
     simp [h.1,h.2.1,h.2.2.1,h.2.2.2] at hok
    conv=>whnf
    repeat' (first|refine zx ?_|refine d7 hpk ?_|refine zd ?_ ?_<;>intro h<;>try omega|fail)<;>conv=>whnf
    all_goals first
     |omega
     |exact nil hg
   |true=>
    have hyes:0<=p.mv∧p.mv<e.moves.length∧0<=p.mat∧p.mat<e.mats:=by
     unfold a0u at hok
     simpa [and_assoc] using hok
    have lA:k<=(H6 (w8 ((ps.take k).map (O8 e)))).rows.length:=by rw [aX9,ek];exact lbQ _
    have hm:0<=p.mv*e.mats∧p.mv*e.mats<=1000000*1000:=⟨lbZ (by omega) (by omega),Int.mul_le_mul (by omega) (by omega) (by omega) (by omega)⟩
    have sn:w8 ((ps.take (k+1)).map (O8 e))=w8 ((ps.take k).map (O8 e))++[(p.mv*e.mats+p.mat,((1:Int):Rat))]:=by rw [tk];simp [w8,O8]
    conv=>whnf
    repeat' (first|refine zx ?_|refine qp i1 ?_|refine qp toC ?_|refine d7 hpk ?_|refine y9 lA (by simp [toC];omega) ?_|refine zd ?_ ?_<;>intro h<;>try omega|fail)<;>conv=>whnf
    all_goals first
     |omega
     |(refine ⟨hlt,by rw [tk,List.all_append,hI];simp [hok],[some 2],rfl,rfl,⟨b8 (rows:=(w8 ((ps.take (k+1)).map (O8 e))).map j9) rfl rfl rfl ?_ rfl,trivial⟩,⟨rfl,⟨rfl,rfl,rfl,fun h=>h⟩,rfl,rfl,c6 (by omega),trivial⟩⟩
       rw [sn]
       exact a1A (f:=j9) (x:=(p.mv*e.mats+p.mat,((1:Int):Rat))) ek.symm)
  ·have hke:k=ps.length:=by omega
   subst hke
   rw [lbn (lbQ _)] at hI ⊢
   have st:=b6q (ps.map (O8 e)) (by simp;omega)
   rw [lbr] at st
   have sl:(B2 (ps.map (O8 e))).length=ps.length:=by rw [W8,lbr]
   conv=>whnf
   repeat' (first|refine zx ?_|refine .inr ⟨_,_,st,?_⟩|refine zd ?_ ?_<;>intro h<;>try omega|fail)<;>conv=>whnf
   all_goals try omega
   refine f8 c7 (fun k=>(Jn 6++[S.c (C.own 0 0 ps.length true),J,J,a8 .i64 ((k:Int)+1)]++Jn 67,[H6 (w8 (B2 (ps.map (O8 e))))])) ps.length (fun k=>∀i a b,i<k->(B2 (ps.map (O8 e)))[i]? =some a->(B2 (ps.map (O8 e)))[i+1]? =some b->a≠b) [some 0] (fun i a b h=>by omega)
    ⟨rfl,rfl,⟨b8 rfl rfl rfl rfl rfl,trivial⟩,⟨⟨rfl,rfl,rfl,fun h=>h⟩,c6 (by omega),trivial⟩⟩ ?_
   intro k hk hK
   generalize hv:B2 (ps.map (O8 e))=v at *
   by_cases hlt:k+1<ps.length
   ·obtain ⟨a,ha⟩:∃a,v[k]? =some a:=⟨_,lbf (by omega)⟩
    obtain ⟨b,hb2⟩:∃b,v[k+1]? =some b:=⟨_,lbf (by omega)⟩
    have ga:(w8 v)[k]? =some (a,((1:Int):Rat)):=by simp [w8,ha]
    have gb:(w8 v)[k+1]? =some (b,((1:Int):Rat)):=by simp [w8,hb2]
    by_cases hab:a=b
    ·have hg:G7 e ps=false:=by
      unfold G7
      have:ab2 v=false:=by
       cases h:ab2 v with
       |false=>rfl
       |true=>exact absurd hab ((ai8 v).1 h k a b ha hb2)
      rw [hv,this];simp
     conv=>whnf
     repeat' (first|refine zx ?_|refine a6W (m:=k) (by omega) ga ?_|refine a6W (m:=k+1) (by omega) gb ?_|refine zd ?_ ?_<;>intro h<;>try omega|fail)<;>conv=>whnf
     all_goals first
      |omega
      |exact nil hg
    ·conv=>whnf
     repeat' (first|refine zx ?_|refine a6W (m:=k) (by omega) ga ?_|refine a6W (m:=k+1) (by omega) gb ?_|refine zd ?_ ?_<;>intro h<;>try omega|fail)<;>conv=>whnf
     all_goals first
      |omega
      |(refine ⟨by omega,fun i x y hi hx hy=>?_,[some 0],rfl,rfl,⟨b8 rfl rfl rfl rfl rfl,trivial⟩,⟨⟨rfl,rfl,rfl,fun h=>h⟩,c6 (by omega),trivial⟩⟩
        rcases Nat.lt_or_ge i k with h|h
        ·exact hK i x y h hx hy
        ·have:i=k:=by omega
         subst this
         rw [ha] at hx;rw [hb2] at hy;injection hx with hx;injection hy with hy
         rw [← hx,←hy];exact hab)
   ·have hg:G7 e ps=true:=by
     unfold G7
     rw [lbH h0,hI,hv,Bool.true_and,Bool.true_and,ai8]
     intro i a b ha hb2
     refine hK i a b ?_ ha hb2
     have:=(lbe.1 hb2).1
     omega
    have ht:x8 e ps=w8 v:=by unfold x8;rw [if_pos hg,hv]
    rw [hg,ht]
    conv=>whnf
    repeat' (first|refine zx ?_|refine zd ?_ ?_<;>intro h<;>try omega|fail)<;>conv=>whnf
    all_goals first
     |omega
     |exact j3 ⟨show VC _ (fun id=>G3 [] id=true) _ _ from t8 rfl rfl (by intro h;cases h) rfl rfl (by simp [w8];omega),rfl,trivial⟩
 ·have hg:G7 e ps=false:=by unfold G7;rw [lbJ h0];rfl
  (refine ac Tryz.func56 ?_;(conv=>whnf);repeat ((first|refine b0x ?_|refine zy ?_);conv=>whnf))
  repeat' (first|refine zx ?_|refine qp ck ?_|refine zd ?_ ?_<;>intro h<;>try omega|fail)<;>conv=>whnf
  all_goals first
   |omega
   |exact nil hg
def a5X:C->C->Prop
 |.t x,.t y=>∀(w:World) (M:Ms) (v:Value),RT w M x v->RT w M y v
 |a,b=>a=b
def a3W:List C->List C->Prop
 |[],[]=>True
 |a::r,b::q=>a5X a b∧a3W r q
 |_,_=>False
def ap3:S->S->Prop
 |.c a,.c b=>a5X a b
 |.agg l,.agg m=>a3W l m
 |a,b=>a=b
theorem a5X.rc {w:World} {ι:Io} {M:Ms} {x y:C} {v:Value} (h:a5X x y) (hr:RC w ι M x v):RC w ι M y v:=by
 cases x<;>cases y<;>first
  |(cases hr with
    |t hr=>exact .t (h _ _ _ hr))
  |(have e:=h;unfold a5X at e;first|(rw [← e];exact hr)|cases e)
theorem a3W.len:∀{l m:List C},a3W l m->l.length=m.length
 |[],[],_=>rfl
 |[],_::_,h=>h.elim
 |_::_,[],h=>h.elim
 |a::r,b::q,h=>by rw [lbu,lbu,a3W.len h.2]
theorem a3W.get:∀{l m:List C},a3W l m->∀{j:Nat} {b:C},m[j]? =some b->∃a,l[j]? =some a∧a5X a b
 |[],[],_,j,b,hb=>by simp at hb
 |[],_::_,h,_,_,_=>h.elim
 |_::_,[],h,_,_,_=>h.elim
 |a::r,c::q,h,0,b,hb=>by simp at hb;subst hb;exact ⟨a,rfl,h.1⟩
 |a::r,c::q,h,j+1,b,hb=>by
  obtain ⟨x,hx,hl⟩:=a3W.get h.2 (j:=j) (b:=b) (by simpa using hb)
  exact ⟨x,by simpa using hx,hl⟩
theorem ap3.rs {w:World} {ι:Io} {M:Ms} {x y:S} {v:Value} (h:ap3 x y) (hr:RS w ι M x v):RS w ι M y v:=by
 cases x<;>cases y<;>first
  |(cases hr with
    |c hr=>exact .c (a5X.rc h hr))
  |(cases hr with
    |agg vs hl hr=>
     exact .agg vs (hl.trans (a3W.len h)) fun j c hc=>by
      obtain ⟨a,ha,hl2⟩:=a3W.get h hc
      exact a5X.rc hl2 (hr j a ha))
  |(have e:=h;unfold ap3 at e;first|(rw [← e];exact hr)|cases e)
def a5P:List S->List S->Prop
 |[],[]=>True
 |a::r,b::q=>ap3 a b∧a5P r q
 |_,_=>False
theorem a5P.len:∀{l m:List S},a5P l m->l.length=m.length
 |[],[],_=>rfl
 |[],_::_,h=>h.elim
 |_::_,[],h=>h.elim
 |a::r,b::q,h=>by rw [lbu,lbu,a5P.len h.2]
theorem a5P.get:∀{l m:List S},a5P l m->∀{j:Nat} {a b:S},l[j]? =some a->m[j]? =some b->ap3 a b
 |[],[],_,j,a,b,ha,hb=>by simp at hb
 |[],_::_,h,_,_,_,_,_=>h.elim
 |_::_,[],h,_,_,_,_,_=>h.elim
 |x::r,c::q,h,0,a,b,ha,hb=>by simp at ha hb;subst ha;subst hb;exact h.1
 |x::r,c::q,h,j+1,a,b,ha,hb=>a5P.get h.2 (j:=j) (by simpa using ha) (by simpa using hb)
theorem a6l {P:Program} {g:FuncId} {args args':List S} {H H':Hp} {r:S} (h:b7 P g args' H r H') (hl:a5P args args'):b7 P g args H r H':=
 a60 h (a5P.len hl) fun w ι M j s s' v hs hs' hr=>(a5P.get hl hs hs').rs hr
theorem X0 (x:C):a5X x x:=by cases x<;>first|exact fun _ _ _ h=>h|rfl
theorem a1o (x:S):ap3 x x:=by
 cases x with
 |c a=>exact X0 a
 |agg l=>
  show a3W l l
  induction l with
  |nil=>trivial
  |cons a r ih=>exact ⟨X0 a,ih⟩
 |_=>rfl
structure EvT (e:Ev):Prop where
 sz:e.Sized
 sm:m8 e=0->al3 e
 n:(e.moves.length:Int)*e.mats<=10
theorem EvT.t {e:Ev} (h:EvT e) (hc:m8 e=0):I6 (C3 e):=ao4 hc (h.sm hc).mv (h.sm hc).pu h.n
theorem EvT.r {e:Ev} (hc:m8 e=0):a6B e=C3 e:=by unfold a6B;rw [if_neg (fun h=>h hc)]
theorem ay0 {e:Ev} (h:EvT e) (hc:m8 e=0) {ps:List D8}:d8 (-1) (((C3 e).n.toNat:Nat):Int) (x8 e ps)=true:=by
 have hn:=O7 (h.t hc).r
 rw [hn]
 by_cases hg:G7 e ps=true
 ·exact aV8 hg
 ·unfold x8;rw [if_neg hg];rfl
theorem a3o {e:Ev} {ps:List D8} (h:G7 e ps=true):m8 e=0:=by
 unfold G7 at h
 simp only [lbM,lbI] at h
 exact h.1.1
theorem a7k (e:Ev) (h:EvT e) (ps:List D8) (hp:ps.length<=100) (hg:G7 e ps=false):b7 Tryz.prog 18 [evS e,F6 ps] [] (.tup [a07 a89 a89,a8 .i64 1]) []:=by
 have g:=b5T e h.sz ps hp
 rw [hg] at g
 (refine ac Tryz.func18 ?_;(conv=>whnf);repeat ((first|refine b0x ?_|refine zy ?_);conv=>whnf))
 repeat' (first|refine zx ?_|refine qp g ?_|refine zd ?_ ?_<;>intro h<;>try omega|fail)<;>conv=>whnf
 all_goals first
  |(exfalso;simp_all;done)
  |exact j3 ⟨⟨rfl,rfl,rfl,rfl,rfl,rfl,rfl,rfl,rfl,rfl,rfl,rfl,rfl,rfl,rfl,rfl,trivial⟩,rfl,trivial⟩
theorem a6X (e:Ev) (h:EvT e) (ps:List D8) (hp:ps.length<=100) (hg:G7 e ps=true):
 ((∀ z,i4 (C3 e) z=false)∧b7 Tryz.prog 18 [evS e,F6 ps] [] (.tup [a07 a89 a89,a8 .i64 15]) [])∨
 ∃lo hi,a3n (C3 e) (x8 e ps) lo hi∧b7 Tryz.prog 18 [evS e,F6 ps] [] (.tup [a07 lo hi,a8 .i64 0]) []:=by
 have hc:=a3o hg
 have g:=b5T e h.sz ps hp
 rw [hg] at g
 have sy:=a7V e h.sz h.sm
 rw [EvT.r hc,hc] at sy
 rcases b5W (C3 e) (x8 e ps) (h.t hc) (ay0 h hc) (a3G e ps) with ⟨hn,so⟩|⟨lo,hi,hr,so⟩
 ·refine .inl ⟨hn,?_⟩
  (refine ac Tryz.func18 ?_;(conv=>whnf);repeat ((first|refine b0x ?_|refine zy ?_);conv=>whnf))
  repeat' (first|refine zx ?_|refine qp g ?_|refine qp sy ?_|refine qp so ?_|refine zd ?_ ?_<;>intro h<;>try omega|fail)<;>conv=>whnf
  all_goals first
   |(exfalso;simp_all;done)
   |exact j3 ⟨⟨rfl,rfl,rfl,rfl,rfl,rfl,rfl,rfl,rfl,rfl,rfl,rfl,rfl,rfl,rfl,rfl,trivial⟩,rfl,trivial⟩
 ·refine .inr ⟨lo,hi,hr,?_⟩
  (refine ac Tryz.func18 ?_;(conv=>whnf);repeat ((first|refine b0x ?_|refine zy ?_);conv=>whnf))
  repeat' (first|refine zx ?_|refine qp g ?_|refine qp sy ?_|refine qp so ?_|refine zd ?_ ?_<;>intro h<;>try omega|fail)<;>conv=>whnf
  all_goals first
   |(exfalso;simp_all;done)
   |exact j3 ⟨⟨rfl,rfl,rfl,rfl,rfl,rfl,rfl,rfl,rfl,rfl,rfl,rfl,rfl,rfl,rfl,rfl,trivial⟩,rfl,trivial⟩
theorem aN3 {e:Ev} (hc:m8 e=0):G7 e []=true:=by unfold G7;rw [lbH hc];simp [B2,ab2]
theorem a88 {P:Program} {g:FuncId} {H H':Hp} {r a:S} (h:b7 P g [a,F6 []] H r H'):b7 P g [a,.c (.t (.sl 0 .nil []))] H r H':=
 a6l h ⟨a1o a,(fun w M v hr=>hr.weak rfl),trivial⟩
theorem a5L (e:Ev) (h:EvT e) (hn:m8 e≠0∨∀z,i4 (C3 e) z=false):b7 Tryz.prog 8 [evS e] [] (f7 false) []:=by
 by_cases hc:m8 e=0
 ·rcases a6X e h [] (by simp) (aN3 hc) with ⟨_,so⟩|⟨lo,hi,hr,_⟩
  ·have so:=a88 so
   (refine ac Tryz.func8 ?_;(conv=>whnf);repeat ((first|refine b0x ?_|refine zy ?_);conv=>whnf))
   repeat' (first|refine zx ?_|refine qp so ?_|refine zd ?_ ?_<;>intro h<;>try omega|fail)<;>conv=>whnf
   all_goals first
    |omega
    |exact c9 rfl
  ·exfalso
   rcases hn with hn|hn
   ·exact hn hc
   ·have:=a1N hr.lo hr.l1;rw [hn] at this;cases this
 ·have so:=a88 (a7k e h [] (by simp) (by unfold G7;rw [lbJ hc];rfl))
  (refine ac Tryz.func8 ?_;(conv=>whnf);repeat ((first|refine b0x ?_|refine zy ?_);conv=>whnf))
  repeat' (first|refine zx ?_|refine qp so ?_|refine zd ?_ ?_<;>intro h<;>try omega|fail)<;>conv=>whnf
  all_goals first
   |omega
   |exact c9 rfl
theorem a4a (e:Ev) (h:EvT e) (hc:m8 e=0) (hz:∃z,i4 (C3 e) z=true):b7 Tryz.prog 8 [evS e] [] (f7 true) []:=by
 rcases a6X e h [] (by simp) (aN3 hc) with ⟨hn,_⟩|⟨lo,hi,hr,so⟩
 ·obtain ⟨z,hz⟩:=hz;rw [hn z] at hz;cases hz
 ·have so:=a88 so
  (refine ac Tryz.func8 ?_;(conv=>whnf);repeat ((first|refine b0x ?_|refine zy ?_);conv=>whnf))
  repeat' (first|refine zx ?_|refine qp so ?_|refine zd ?_ ?_<;>intro h<;>try omega|fail)<;>conv=>whnf
  all_goals first
   |omega
   |exact c9 rfl
theorem az1 (r:Int):(exW r).Sized:=⟨by simp [exW],by simp [exW],by simp [exW],by simp [exW],by simp [exW]⟩
abbrev pk1:List D8:=[⟨0,0⟩]
abbrev b3x:T:=.sl 1 .any [[R0 pk1]]
set_option maxHeartbeats 4000000 in
theorem b95 (e:Ev) (hs:e.Sized):b7 Tryz.prog 112 [evS e] [] (evS e) []:=by
 have c1:=ai4 e.places (by have:=hs.s1;omega)
 have c2:=b2W e.moves (by have:=hs.s2;omega)
 have c3:=ar3 e.certs (by have:=hs.s3;omega)
 have c4:=a8V e.recalls (by have:=hs.s4;omega)
 have c5:=a8R e.purities (by have:=hs.s5;omega)
 (refine ac Tryz.func112 ?_;(conv=>whnf);repeat (refine zy ?_;conv=>whnf))
 repeat' (first|refine zx ?_|refine qp c1 ?_|refine qp c2 ?_|refine qp c3 ?_|refine qp c4 ?_|refine qp c5 ?_|refine qp (5,8) ?_|refine qp 8 ?_|refine qp 5 ?_|refine bl0 [5,8] ?_|refine bl0 [8] ?_|refine bl0 [5] ?_|refine zd ?_ ?_<;>intro h<;>try omega|fail)<;>conv=>whnf
 all_goals first
  |exact j3 ⟨rfl,rfl,rfl,rfl,rfl,rfl,rfl,rfl,trivial⟩
theorem b63 (x y:Rat) (hx:rl x<=50000) (hy:rl y<=50000):b7 Tryz.prog 116 [b20 (some x) (some y)] [] (b20 (some x) (some y)) []:=by
 have n1:=a0Z x (by omega)
 have n2:=a0Z (-x) (by rw [S8];omega)
 have n3:=a0Z y (by omega)
 have n4:=a0Z (-y) (by rw [S8];omega)
 rw [Rat.neg_neg] at n2 n4
 (refine ac Tryz.func116 ?_;(conv=>whnf);repeat (refine zy ?_;conv=>whnf))
 repeat' (first|refine zx ?_|refine qp n1 ?_|refine qp n2 ?_|refine qp n3 ?_|refine qp n4 ?_|refine qp (6,7) ?_|refine qp 7 ?_|refine qp 6 ?_|refine bl0 [6,7] ?_|refine bl0 [7] ?_|refine bl0 [6] ?_|refine zd ?_ ?_<;>intro h<;>try omega|fail)<;>conv=>whnf
 all_goals first
  |exact j3 ⟨rfl,rfl,rfl,rfl,rfl,rfl,rfl,rfl,rfl,rfl,trivial⟩
open Go.RowKit Go.Shelf Go.Lib Go.Sort
set_option maxHeartbeats 4000000 in
theorem aR2 {P:Program} {ρ:Ren} (L:Lays.n189 P ρ) (en:a8p P (ρ.f 189)) (l:List Int) (hl:l.length<=100000):b7 P (ρ.f 189) [.c (.own 0 0 l.length true)] [n7 l] (.tup []) [n7 (B2 l)]:=by
 refine ⟨en,fun w ι M vals hlen hv hH hMB hF=>?_⟩
 obtain ⟨x,rfl⟩:∃x,vals=[x]:=by
  match vals,hlen with
  |[x],_=>exact ⟨x,rfl⟩
 have hx:=hv 0 _ rfl
 simp only [lb5] at hx
 have hb0:∀l0,ι 0=some l0->G4 w ι M (n7 l) l0:=fun l0 h=>hH.blk 0 _ rfl (by intro h;cases h) _ h
 generalize hn:l.length=n at hx
 cases hx with
 |c hx=>
 cases hx with
 |nil hnil=>
  have hvs:l=[]:=lbF hn
  subst hvs
  clear hn
  refine (Any.slices_Sort_int_none L _ _ w).mono ?_
  rintro e w' ⟨rfl,rfl⟩
  have e0:B2 []=[]:=by simp [B2]
  rw [e0]
  exact ⟨_,rfl,ι,M,.tup [] rfl (fun j s h=>by simp at h),hH,hMB,hF,rfl,rfl,rfl,lbQ _,fun _ _ _=>rfl,fun _ _=>rfl,fun _ h=>.inl h,fun _ h=>.inl h,fun _ h=>.inl h,lbQ _⟩
 |@own _ _ _ _ b cap size A cap' h0 h1 h2 h3 h4 h5=>
  subst hn
  obtain ⟨q1,q2,q3,q4,q5,cur,q6,q7,q8⟩:=hb0 _ h0
  have hs1:size=1:=q1.symm
  subst hs1
  obtain ⟨_,hA,hcap⟩:=h5 rfl
  subst hA
  have hle:l.length<=cap:=by omega
  have hblk:=B8 q6
  have hsz:l.length<=cur.size:=by rw [q7];omega
  have cell:∀i,i<l.length->cur[i]? =some (.int .i64 (l.getD i 0)):=fun i hi=>by
   obtain ⟨u,hu,hr⟩:=q8 i 0 (.t (ti (l.getD i 0))) (by
    unfold at2
    rw [show (n7 l).rows=toC (l.map e8) from rfl]
    simp [toC,hi,e8])
   rw [show i*1+0=i by omega] at hu
   rw [hu]
   cases hr with
   |t h=>cases h;rfl
  have hold:Holds (Value.int .i64) w b 0 l.toArray:=by
   intro j hj
   have hj':j<l.length:=by simpa using hj
   have e1:l.toArray[j]! =l.getD j 0:=by
    rw [getElem!_pos _ j hj,lbl,lbf hj'];simp
   rw [e1]
   refine ⟨?_,?_⟩
   ·show w.cell? ⟨b,0+j,none⟩=_
    simp only [World.cell?,q6,Nat.zero_add,cell j hj']
    rfl
   ·simp [World.frozen?,q6]
  refine (Any.slices_Sort_int L b 0 cap' l w hold hblk (by omega)).mono ?_
  rintro e w' ⟨rfl,n,os,rfl⟩
  refine ⟨_,rfl,a6q hH hMB hF h0 rfl rfl (a7E (Value.int .i64) w b 0 n _ os) ?_ (.tup [] rfl (fun j s h=>by simp at h))⟩
  have ml:=W8 l
  refine ⟨rfl,by decide,?_,q4,?_,_,ag4 (Value.int .i64) 0 n _ os q6,by rw [a8i,q7],?_⟩
  ·show (toC _).length<=cap;simp [toC,ml];omega
  ·intro r hr
   simp only [toC,List.map_map,lbx,Function.comp_def] at hr
   obtain ⟨x,_,rfl⟩:=hr
   rfl
  ·intro i j c hij
   unfold at2 at hij
   rw [show (n7 (B2 l)).rows=toC ((B2 l).map e8) from rfl] at hij
   simp only [toC,List.map_map,lba] at hij
   cases hk:(B2 l)[i]? with
   |none=>rw [hk] at hij;cases hij
   |some v=>
    rw [hk] at hij
    have hi:=(lbe.1 hk).1
    rcases j with _|j
    ·simp [e8] at hij
     subst hij
     refine ⟨.int .i64 v,?_,.t (.atm rfl)⟩
     have h7:=aj3 (Value.int .i64) (off:=0) (d:=(B2 l).toArray) (cur:=cur) (j:=i) (by simpa using hi) (by omega)
     rw [Nat.zero_add] at h7
     rw [show i*1+0=i by omega]
     have e2:(B2 l).toArray[i]! =v:=by
      rw [getElem!_pos _ i (by simpa using hi)]
      have:=(lbe.1 hk).2
      simpa using this
     rw [e2] at h7
     exact h7
    ·simp [e8] at hij
section
open Go.RowKit Go.Shelf Go.Lib Go.Sort
attribute [local go_sem] Oper.semAt_some
set_option maxRecDepth 100000 in
set_option maxHeartbeats 2000000 in
theorem b7f (F:Fence) (n:Nat) (hF:F.fn 212) (hro:F.round=none) (hn:1<=n) (l X Bs Bo n₀ b off cap:Nat) (A:Option Addr) (xs:List Int) (hBs:Bs<n₀) (xBs:Bs≠X) (hb:xs≠[]->b<n₀∧b≠X∧A=some ⟨b,off,none⟩) (hl:xs.length<=1000) (hcap:xs.length<=cap)
 (J Jx:List Int->World->Prop)
 (hY:∀pre x W,J pre W->pre.length<xs.length->YieldAt F (n - 1) Tryz.prog l #[.int .i64 x] W fun e W'=>
   (e=.returned (.bool true)∧J (pre++[x]) W'∧p8 X n₀ W W')∨(e=.returned (.bool false)∧Jx (pre++[x]) W'))
 (W:World) (h1:W.cell? ⟨Bs,Bo,none⟩=some (.slice A xs.length cap)) (hc:∀i x,xs[i]? =some x->W.cell? ⟨b,off+i,none⟩=some (.int .i64 x)) (h0:J [] W):
 CallsIn F n Tryz.prog 212 #[.func (.yield l) #[] #[],.pointer (some ⟨Bs,Bo,none⟩)] W fun e W'=>(∃ v,e=.returned v)∧
  ((∃ ys,ys=xs∧J ys W')∨(∃ pre,(pre <+: xs)∧Jx pre W')):=by
 refine callsIn_of_wp Tryz.func212 rfl hF ?_ hro
 simp only [Tryz.ntmps212,List.size_toArray,lbu,List.length_nil,Nat.reduceAdd,Nat.reduceSub,Array.replicate_succ,Array.replicate_zero,List.push_toArray,List.append_toArray,List.nil_append,List.cons_append]
 gi_wp2
 gi_loopw [7] (fun i wr=>∃k:Nat,k<=xs.length∧i=.int .i64 (k:Int)∧J (xs.take k) wr∧p8 X n₀ W wr)
  (fun i _=>xs.length - (intOf i).toNat)
 case atStart=>exact ⟨0,Nat.zero_le _,rfl,by simpa using h0,p8.refl _ _ _⟩
 case round=>
  obtain ⟨k,hk,rfl,hJs,hnx⟩:=hrel
  by_cases hlt:k<xs.length
  ·obtain ⟨x,hx⟩:∃x,xs[k]? =some x:=⟨_,lbf hlt⟩
   have hne:xs≠[]:=by intro h;rw [h] at hlt;simp at hlt
   obtain ⟨b1,b2,rfl⟩:=hb hne
   have q1:=(hnx.cell (p:=⟨b,off+k,none⟩) b1 b2).trans (hc k x hx)
   have tk:xs.take (k+1)=xs.take k++[x]:=by rw [lbG,hx];rfl
   obtain ⟨fn,tmps,assign,body,hy,hR⟩:=hY _ x wr hJs (by rw [lbs];omega)
   gi_wp2
   all_goals try omega
   all_goals
    refine hR.mono ?_
    rintro e W3 (⟨rfl,hJ3,hk3⟩|⟨rfl,hJx3⟩)
    ·have hnx3:p8 X n₀ W W3:=hnx.trans hk3
     gi_wp2
     go_roundw
     case rel=>exact ⟨k+1,by omega,rfl,by rw [tk];exact hJ3,hnx3⟩
     case measure=>simp [intOf];omega
    ·gi_wp2
     refine bodyPost_ret (results_none rfl _ _ _) rfl ?_
     exact ⟨⟨_,rfl⟩,.inr ⟨_,by rw [← tk];exact List.take_prefix _ _,hJx3⟩⟩
  ·obtain rfl:k=xs.length:=by omega
   gi_wp2
   all_goals try omega
   go_end0
   exact ⟨⟨_,rfl⟩,.inl ⟨_,rfl,by simpa using hJs⟩⟩
theorem aS4 (F:Fence) (n:Nat) (hF:F.fn 212) (hro:F.round=none) (hn:1<=n) (X Bs Bo n₀ b off cap:Nat) (A:Option Addr) (xs:List Int) (hBs:Bs<n₀) (xBs:Bs≠X) (hb:xs≠[]->b<n₀∧b≠X∧A=some ⟨b,off,none⟩) (hl:xs.length<=1000) (hcap:xs.length<=cap)
 (w:World) (hn₀:n₀<=w.heap.size) (h1:w.cell? ⟨Bs,Bo,none⟩=some (.slice A xs.length cap)) (hc:∀i x,xs[i]? =some x->w.cell? ⟨b,off+i,none⟩=some (.int .i64 x)):
 SeqStopsK F n Tryz.prog 212 #[.pointer (some ⟨Bs,Bo,none⟩)] (fun i:Int=>#[.int .i64 i]) (p8 X n₀) (fun ys=>ys=xs) (fun pre=>pre <+: xs) xs.length w:=fun l J Jx W hW hJ _ hY h0=>by
 have q1:=(hW.cell (p:=⟨Bs,Bo,none⟩) (by show Bs<w.heap.size;omega)).trans h1
 refine (b7f F n hF hro hn l X Bs Bo n₀ b off cap A xs hBs xBs hb hl hcap J Jx hY W q1 (fun i x hx=>?_) h0).mono ?_
 ·have hne:xs≠[]:=by intro h;rw [h] at hx;simp at hx
  exact (hW.cell (p:=⟨b,off+i,none⟩) (by show b<w.heap.size;have:=(hb hne).1;omega)).trans (hc i x hx)
 ·rintro e W' ⟨he,⟨ys,rfl,hj⟩|⟨pre,hp,hj⟩⟩
  ·exact ⟨he,.inl ⟨_,rfl,hj⟩⟩
  ·exact ⟨he,.inr ⟨_,hp,hj⟩⟩
theorem b9L {W:World} {a b:Nat} {e:TypeId} {size:Nat} {v:Value} {k:Nat} {xs:List Value} (hab:a<=b) (h:W.ownsRow b e size v k xs):W.ownsRow a e size v k xs:=
 ⟨h.1,h.2.imp id fun ⟨g,cap,cur,h1,h2,h3⟩=>⟨g,cap,cur,h1,lbR hab h2,h3⟩⟩
theorem b6w:(Tryz.prog.info? 3).map (fun i=>(i.zero,i.size,i.bytes))=some (some (.int .i64 0),1,8):=by kernel_rfl
set_option maxRecDepth 100000 in
set_option maxHeartbeats 4000000 in
theorem a9O (b off cap:Nat) (A:Option Addr) (xs:List Int) (hl:xs.length<=1000) (hcap:xs.length<=cap) (Bs Bo:Nat) (w:World) (hBs:Bs<w.heap.size) (hb:xs≠[]->b<w.heap.size∧A=some ⟨b,off,none⟩) (h1:w.cell? ⟨Bs,Bo,none⟩=some (.slice A xs.length cap)) (hc:∀i x,xs[i]? =some x->w.cell? ⟨b,off+i,none⟩=some (.int .i64 x)):
 Calls Tryz.prog 262 #[.slice none 0 0,.func (.func 212) #[] #[.pointer (some ⟨Bs,Bo,none⟩)]] w fun ee w'=>∃v,ee=.returned v∧w'.ownsRow w.heap.size 3 1 v xs.length (xs.map (Value.int .i64))∧Below w.heap.size w w':=by
 obtain ⟨i0,hi,hz0,hz1,hz2⟩:=info_parts b6w
 have hml:(1000:Nat)<=maxLen:=by decide
 refine (callsIn_wide (n:=5)).1 ?_
 refine callsIn_of_wp_marks Tryz.func262 rfl trivial ?_ rfl
 simp only [Tryz.ntmps262,List.size_toArray,lbu,List.length_nil,Nat.reduceAdd,Nat.reduceSub,Array.replicate_succ,Array.replicate_zero,List.push_toArray,List.append_toArray,List.nil_append,List.cons_append]
 have bO:=Boxed.new w 31 (.slice none 0 0)
 have hB1:Below w.heap.size w (w.alloc (.cells #[.slice none 0 0] 31)):=(Below.refl _ _).alloc (lbQ _) _
 have s1:(w.alloc (.cells #[.slice none 0 0] 31)).heap.size=w.heap.size+1:=by simp
 obtain ⟨W1,hW1⟩:∃W1,w.alloc (.cells #[.slice none 0 0] 31)=W1:=⟨_,rfl⟩
 rw [hW1] at bO hB1 s1
 have q1:=(hB1.cell (p:=⟨Bs,Bo,none⟩) hBs).trans h1
 have qc:∀i x,xs[i]? =some x->W1.cell? ⟨b,off+i,none⟩=some (.int .i64 x):=fun i x hx=>by
  have hne:xs≠[]:=by intro h;rw [h] at hx;simp at hx
  exact (hB1.cell (p:=⟨b,off+i,none⟩) (hb hne).1).trans (hc i x hx)
 gi_wp2
 refine wpIn_rangeFunc_ownG (n:=5) rfl (by omega) (gf:=212) (lb:=#[.pointer (some ⟨Bs,Bo,none⟩)]) rfl trivial (enters_of Tryz.func212 (by kernel_rfl) rfl)
  (aS4 Fence.wide _ trivial rfl (by omega) w.heap.size Bs Bo W1.heap.size b off cap A xs (by omega) (by omega) (fun h=>⟨by have:=(hb h).1;omega,by have:=(hb h).1;omega,(hb h).2⟩) hl hcap W1 (lbQ _) q1 qc)
  p8.trans (fun W l o o' h1 h2 h3 h4=>p8.of (belowK_b (lbQ _) W l o o' h1 h2 h3 h4)) (Below.refl _ _) (fun _=>rfl)
  (fun pre W=>(∃ v,Boxed W w.heap.size 31 v∧W.ownsRow W1.heap.size 3 1 v pre.length (pre.map (Value.int .i64))∧True)∧p8 w.heap.size W1.heap.size W1 W)
  (fun _ _ _=>False)
  (OwnFrom.and (Own.from (holdsRow_own W1.heap.size w.heap.size 31 3 1 (fun pre:List Int=>pre.length) (fun pre:List Int=>pre.map (Value.int .i64)) (fun _ _=>True)) _) (a40 (lbQ _) (lbQ _)))
  (fun _ _ _ _ _ hs _ _=>hs)
  ⟨⟨_,bO,World.ownsRow_nil _ _ _ _,trivial⟩,p8.refl _ _ _⟩
  (fun i=>{ tmps:=#[.slice none 0 0,.func (.func 212) #[] #[.pointer (some ⟨Bs,Bo,none⟩)],.pointer (some ⟨w.heap.size,0,none⟩),undef,.slice none 0 0,.int .i64 i,.func (.func 212) #[] #[.pointer (some ⟨Bs,Bo,none⟩)],.int .i64 i,undef,undef,undef,undef,undef],defers:=[] }) ?assign ?body ?done ?stop
 case assign=>
  intro l i W K hK
  gi_wp2
  exact hK
 case body=>
  rintro l pre i W ⟨⟨v,hv,hrow,-⟩,hB⟩ hlt
  have hcl:=hv.cell
  gi_wp2_with (gi_at_builtin;refine wpListIn_append_own _ rfl _ _ 31 rfl W1.heap.size 3 i0 (.int .i64 0) 1 8 Tryz.underlying31 hi hz0 hz1 hz2 rfl (by decide) _ _ _ rfl (hrow.alloc _) ⟨W.heap.size,0,none⟩ 1 1 [.int .i64 i] rfl rfl (cell_one_new _ _ _) (by simp [Value.oneCell']) (by omega) (by omega) (by have:=hB.size;simp;omega) ?_;intro v' w1 hown' hgrow _;obtain ⟨g',cap',rfl⟩:=ownsRow_succ hown';obtain ⟨hv1,hv2,hr2,hk2,hb2⟩:=at9 hv (by decide) hrow hB.size hown' hgrow;have hc1:=hv1.cell;have hf1:=hv1.frozen)
  exact ⟨hk2.from _,hb2,⟨_,hv2,by rw [lbq,lbC];exact hr2,trivial⟩,hB.trans hb2⟩
 case done=>
  rintro D ys W hD rfl ⟨⟨v,hv,hrow,-⟩,hB⟩ hK
  have hcl:=hv.cell
  gi_wp2
  refine ⟨by simp,.inl ⟨_,_,rfl,run_takeDeferred hK,?_⟩⟩
  have hfin:p8 w.heap.size W1.heap.size W1 (W.putObj D (.deferred none)):=hB.trans (p8.of (belowK_b (w:=W1) (lbQ _) W D _ _ hD hK rfl rfl))
  exact ⟨_,results_tmp rfl _ _ _,v,rfl,b9L (by omega) (ownsRow_putObj hrow _ hK rfl),hB1.trans (hfin.low (by omega) (by omega))⟩
 case stop=>
  rintro D c pre W _ _ h _
  exact h.elim
end
theorem b68 (l:List Int) (hl:l.length<=1000000):b7 Tryz.prog 150 [g8 l,g8 l] [] (f7 true) []:=by
 have m1:(l.map e8).length=l.length:=by simp
 (refine ac Tryz.func150 ?_;(conv=>whnf);repeat ((first|refine b0x ?_|refine zy ?_);conv=>whnf))
 repeat' (first|refine zx ?_|refine zd ?_ ?_<;>intro h<;>try omega|fail)<;>conv=>whnf
 all_goals try omega
 refine f8 c7 (fun k=>([g8 l,g8 l]++Jn 10++[a8 .i64 l.length,a8 .i64 k]++Jn 12,[])) l.length (fun _=>True) [] trivial
  ⟨rfl,rfl,trivial,⟨rfl,rfl,c6 (by omega),rfl,trivial⟩⟩ ?_
 intro k hk _
 by_cases hlt:k<l.length
 ·obtain ⟨x,hx⟩:∃x,l[k]? =some x:=⟨_,lbf hlt⟩
  conv=>whnf
  repeat' (first|refine zx ?_|refine d7 hx ?_|refine zd ?_ ?_<;>intro h<;>try omega|fail)<;>conv=>whnf
  all_goals first
   |omega
   |exact ⟨hlt,trivial,[],rfl,rfl,trivial,⟨rfl,rfl,rfl,c6 (by omega),trivial⟩⟩
 ·have hke:k=l.length:=by omega
  subst hke
  conv=>whnf
  repeat' (first|refine zx ?_|refine zd ?_ ?_<;>intro h<;>try omega|fail)<;>conv=>whnf
  all_goals first
   |omega
   |exact c9 rfl
theorem b1u (b:Bg) (hl:b.dl.length<=1000000):b7 Tryz.prog 82 [bgS b,bgS b] [] (f7 true) []:=by
 have e:=b68 b.dl hl
 (refine ac Tryz.func82 ?_;(conv=>whnf);repeat ((first|refine b0x ?_|refine zy ?_);conv=>whnf))
 repeat' (first|refine zx ?_|refine qp e ?_|refine zd ?_ ?_<;>intro h<;>try omega|fail)<;>conv=>whnf
 all_goals first
  |omega
  |exact c9 rfl
theorem a7g (f:Fr) (lp:f.p.dl.length<=1000000) (lq:f.q.dl.length<=1000000):b7 Tryz.prog 30 [frS f,frS f] [] (f7 true) []:=by
 have e1:=b1u f.p lp
 have e2:=b1u f.q lq
 (refine ac Tryz.func30 ?_;(conv=>whnf);repeat ((first|refine b0x ?_|refine zy ?_);conv=>whnf))
 repeat' (first|refine zx ?_|refine qp e1 ?_|refine qp e2 ?_|refine zd ?_ ?_<;>intro h<;>try omega|fail)<;>conv=>whnf
 all_goals first
  |omega
  |exact c9 rfl
theorem b2j (l h:Fr) (a b:Bool) (l1:l.p.dl.length<=1000000) (l2:l.q.dl.length<=1000000) (h1:h.p.dl.length<=1000000) (h2:h.q.dl.length<=1000000)
 (sl:b7 Tryz.prog 60 [frS l,frS l] [] (f7 true) []) (sh:b7 Tryz.prog 60 [frS h,frS h] [] (f7 true) []):
 b7 Tryz.prog 20 [.agg (frC l++frC h++[.t (tb a),.t (tb b)]),.agg (frC l++frC h++[.t (tb a),.t (tb b)])] [] (f7 true) []:=by
 cases a<;>cases b<;>
 ·(refine ac Tryz.func20 ?_;(conv=>whnf);repeat ((first|refine b0x ?_|refine zy ?_);conv=>whnf))
  repeat' (first|refine zx ?_|refine qp sl ?_|refine qp sh ?_|refine zd ?_ ?_<;>intro h<;>try omega|fail)<;>conv=>whnf
  all_goals first
   |omega
   |(exfalso;contradiction)
   |exact c9 rfl
theorem b4H {x:Rat}:0<sgR x↔0<x:=by unfold sgR;split<;>(try split)<;>simp_all<;>grind
theorem b3w:b7 Tryz.prog 145 [frS I3] [] (f7 true) []:=by
 have e1:I3.p.sg=0:=rfl
 have e2:I3.q.sg=0:=rfl
 have e3:(I3.p.dl.map e8).length=0:=rfl
 have e4:(I3.q.dl.map e8).length=0:=rfl
 (refine ac Tryz.func145 ?_;(conv=>whnf);repeat ((first|refine b0x ?_|refine zy ?_);conv=>whnf))
 repeat' (first|refine zx ?_|refine zd ?_ ?_<;>intro h<;>try omega|fail)<;>conv=>whnf
 all_goals first
  |omega
  |exact c9 rfl
theorem b9O {s:g6} (h:I6 s) (hl:s.rows.length<=78) {Y:List Rat} (hY:Y.length=s.rows.length) (hy:∀v ∈ Y,rl v<=300):b7S s Y:=
 b5L (B:=300) (C:=200) (N:=78) hY (by omega) (by decide) hy (fun w hw=>⟨(X4 h w hw).2.1,(X4 h w hw).2.2⟩) (by decide) (by decide) (by decide)
theorem a6h {s:g6} {l:List (Int × Rat)} {z:List Rat} (h:I6 s) (hl:d8 (-1) ((s.n.toNat:Nat):Int) l=true) (hc:E4 l) (hz:∀v ∈ z,rl v<=15) (k:Nat):rl (j1 (l.take k) z)<=6000:=by
 have h1:=D3 hl
 have h10:=h.n
 have:=aD8 (l:=l) (z:=z) (B:=15) (a05 hc) hz k
 have h2:=lbT (15+4) (show l.length<=10 by omega)
 omega
set_option maxHeartbeats 8000000 in
theorem b9T (s:g6) (g:List (Int × Rat)) (d:List Rat) (hT:I6 s) (hg:d8 (-1) ((s.n.toNat:Nat):Int) g=true) (hw:E4 g) (hd:b7J s d) (hn:j1 g d<0) (hb:∀v ∈ d,rl v<=15):
 b7 Tryz.prog 146 [S7 s,k9 g,j7 (d.map fz)] [] (f7 true) []:=by
 have hsn:=O7 hT.r
 have h10:=hT.n
 have hdl:=hd.len
 have hrl:=hT.l
 have m1:((d.map fz).map j5).length=d.length:=by simp
 have m2:(s.rows.map C8).length=s.rows.length:=by simp
 have sb:=a2U hT
 have lr:=T3 s sb
 rw [hT.r] at lr
 have gl:=D3 hg
 have rt:=G9 g s.n (by omega) (fun t ht=>by have:=a05 hw t ht;omega)
 rw [lbH (show 0<=s.n by omega),Bool.true_and,show d8 (-1) s.n g=true by rw [← hsn];exact hg] at rt
 have va:=a7q g d (by omega) (fun t ht=>by have:=a05 hw t ht;omega) (fun v hv=>by have:=hb v hv;omega) (fun k=>by have:=a6h hT hg hw hb k;omega) (by omega) (by rw [hdl];exact hg)
 have sv:=Y8 (j1 g d) (by have:=a6h hT hg hw hb g.length;rw [List.take_length] at this;omega)
 have sv2:=(a59 (x:=j1 g d)).2 hn
 (refine ac Tryz.func146 ?_;(conv=>whnf);repeat ((first|refine b0x ?_|refine zy ?_);conv=>whnf))
 repeat' (first|refine zx ?_|refine qp lr ?_|refine qp rt ?_|refine zd ?_ ?_<;>intro h<;>try omega|fail)<;>conv=>whnf
 all_goals try omega
 refine f8 c7 (fun k=>([J,k9 g,j7 (d.map fz),S.c (C.t (T.ptr (a1H s)))]++Jn 29++[j7 (d.map fz),a8 .i64 d.length,a8 .i64 k]++Jn 54,[])) d.length (fun _=>True) [] trivial
  ⟨rfl,rfl,trivial,⟨rfl,rfl,rfl,rfl,c6 (by simp),rfl,trivial⟩⟩ ?_
 intro k hk _
 by_cases hlt:k<d.length
 ·obtain ⟨x,hx⟩:∃x,d[k]? =some x:=⟨_,lbf hlt⟩
  have bx:=hb x (lbm hx)
  have px:=hd.pos x (lbm hx)
  have rr:=a36 (fz x) (by have:=J3 x;show bl x.num<=_;omega) (by have:=K0 x;show bl x.den<=_;omega)
  rw [a2P] at rr
  have sg:=Y8 x (by omega)
  have sn:¬sgR x<0:=fun h0=>absurd ((a59 (x:=x)).1 h0) (lb2.2 px)
  conv=>whnf
  repeat' (first|refine zx ?_|refine qp rr ?_|refine qp sg ?_|refine d7 (I1 d hx) ?_|refine zd ?_ ?_<;>intro h<;>try omega|fail)<;>conv=>whnf
  all_goals first
   |omega
   |exact ⟨hlt,trivial,[],rfl,rfl,trivial,⟨rfl,rfl,rfl,rfl,rfl,c6 (by omega),trivial⟩⟩
 ·have hke:k=d.length:=by omega
  subst hke
  conv=>whnf
  repeat' (first|refine zx ?_|refine zd ?_ ?_<;>intro h<;>try omega|fail)<;>conv=>whnf
  all_goals try omega
  refine f8 c7 (fun k=>([J,k9 g,j7 (d.map fz)]++Jn 46++[S.c (C.t (S6 s.rows)),a8 .i64 s.rows.length,a8 .i64 k]++Jn 38,[])) s.rows.length (fun _=>True) [] trivial
   ⟨rfl,rfl,trivial,⟨rfl,rfl,rfl,c6 (by simp),rfl,trivial⟩⟩ ?_
  intro k hk _
  by_cases hlt:k<s.rows.length
  ·obtain ⟨w,hw'⟩:∃w,s.rows[k]? =some w:=⟨_,lbf hlt⟩
   obtain ⟨b1,b2,b3⟩:=X4 hT w (lbm hw')
   have hrt:=(a00 hT.r hw').1
   have vw:=a7q w.terms d (by omega) b2 (fun v hv=>by have:=hb v hv;omega) (fun k=>by have:=a6h hT hrt (hT.i _ (lbm hw')).1 hb k;omega) (by omega) (by rw [hdl];exact hrt)
   have sw:=Y8 (j1 w.terms d) (by have:=a6h hT hrt (hT.i _ (lbm hw')).1 hb w.terms.length;rw [List.take_length] at this;omega)
   have s1:w.kind≠0->¬0<sgR (j1 w.terms d):=fun hk h0=>absurd ((b4H (x:=j1 w.terms d)).1 h0) (lb2.2 (hd.up k w hw' hk))
   have s2:w.kind≠1->¬sgR (j1 w.terms d)<0:=fun hk h0=>absurd ((a59 (x:=j1 w.terms d)).1 h0) (lb2.2 (hd.down k w hw' hk))
   conv=>whnf
   repeat' (first|refine zx ?_|refine qp vw ?_|refine qp sw ?_|refine d7 hw' ?_|refine zd ?_ ?_<;>intro h<;>try omega|fail)<;>conv=>whnf
   all_goals first
    |omega
    |exact ⟨hlt,trivial,[],rfl,rfl,trivial,⟨rfl,rfl,rfl,rfl,c6 (by omega),trivial⟩⟩
  ·have hke:k=s.rows.length:=by omega
   subst hke
   conv=>whnf
   repeat' (first|refine zx ?_|refine qp va ?_|refine qp sv ?_|refine zd ?_ ?_<;>intro h<;>try omega|fail)<;>conv=>whnf
   all_goals first
    |omega
    |exact c9 rfl
set_option maxHeartbeats 8000000 in
theorem aC9 (s:g6) (g:List (Int × Rat)) (o:a26) (hT:I6 s) (hl:s.rows.length<=78) (hg:d8 (-1) ((s.n.toNat:Nat):Int) g=true) (hw:E4 g) (ho:au3 s g o) (hk:o.kind≠1):
 b7 Tryz.prog 69 [S7 s,k9 g,ap1 o] [] (f7 true) []:=by
 have hsn:=O7 hT.r
 have h10:=hT.n
 have sb:=a2U hT
 have lr:=T3 s sb
 rw [hT.r] at lr
 have gl:=D3 hg
 have gb:∀t ∈ g,rl t.2<=200:=fun t ht=>by have:=a05 hw t ht;omega
 have rt:=G9 g s.n (by omega) gb
 rw [lbH (show 0<=s.n by omega),Bool.true_and,show d8 (-1) s.n g=true by rw [← hsn];exact hg] at rt
 have sx:=a1N ho hk
 have bx:=ho.bx
 have xl:=(F5 sx).2
 have hd:=b3P s sb hT.r o.X ⟨fun v hv=>by have:=bx v hv;omega,fun w hw' k=>by
  obtain ⟨i,hi⟩:=List.getElem?_of_mem hw'
  have:=a6h hT (a00 hT.r hi).1 (hT.i w hw').1 bx k
  omega,by omega⟩
 rw [sx] at hd
 have bv:=a6h hT hg hw bx g.length
 rw [List.take_length] at bv
 obtain ⟨kd,val,X,Y,R⟩:=o
 simp only at hk bx xl hd bv sx
 rcases ho.k with e|e|e
 ·simp only at e
  subst e
  obtain ⟨_,f2,f3,f4,f5,f6⟩:=ho.found rfl
  simp only at f2 f3 f4 f5 f6
  subst f2 f4
  have hYl:Y.length=s.rows.length:=by
   unfold a9k at f5
   simp only [lbM] at f5
   have:=f5.1
   unfold a3N at this
   simp only [lbM,lbI] at this
   exact this.1.1
  have lo:=b4J s sb hT.r (by omega) g (by omega) gb Y (fun v hv=>by have:=ho.by' v hv;omega) (by omega) (fun _=>b9O hT hl hYl ho.by')
  unfold aT3 at lo
  rw [f5,if_pos rfl,f6] at lo
  have va:=a7q g X (by omega) gb (fun v hv=>by have:=bx v hv;omega) (fun k=>by have:=a6h hT hg hw bx k;omega) (by omega) (by rw [show (X.length:Int)=((s.n.toNat:Nat):Int) by omega];exact hg)
  have sm:=a7g (fz (j1 g X)) (by have:=J3 (j1 g X);show bl (j1 g X).num<=_;omega) (by have:=K0 (j1 g X);show bl (j1 g X).den<=_;omega)
  (refine ac Tryz.func69 ?_;(conv=>whnf);repeat ((first|refine b0x ?_|refine zy ?_);conv=>whnf))
  repeat' (first|refine zx ?_|refine qp lr ?_|refine qp rt ?_|refine qp lo ?_|refine qp va ?_|refine qp hd ?_|refine qp sm ?_|refine zd ?_ ?_<;>intro h<;>try omega|fail)<;>conv=>whnf
  all_goals first
   |(exfalso;(try dsimp only at *);omega)
   |exact c9 rfl
   |(exfalso;simp at h;done)
 ·exact absurd e hk
 ·simp only at e
  subst e
  obtain ⟨_,f2,f3,f4,f5⟩:=ho.free rfl
  simp only at f2 f3 f4 f5
  subst f4 f5
  have ry:=b9T s g R hT hg hw f2 f3 ho.br
  have em:=b3w
  (refine ac Tryz.func69 ?_;(conv=>whnf);repeat ((first|refine b0x ?_|refine zy ?_);conv=>whnf))
  repeat' (first|refine zx ?_|refine qp lr ?_|refine qp rt ?_|refine qp hd ?_|refine qp ry ?_|refine qp em ?_|refine zd ?_ ?_<;>intro h<;>try omega|fail)<;>conv=>whnf
  all_goals first
   |(exfalso;(try dsimp only at *);omega)
   |exact c9 rfl
   |(exfalso;simp at h;done)
open Go.RowKit Go.Shelf
theorem b41:EqS Tryz.prog 54 2:=by
 refine ⟨by kernel_rfl,fun us vs w h1 h2=>?_⟩
 match us,vs,h1,h2 with
 |[a,b],[a',b'],_,_=>
  have u3:=Tryz.underlying3
  have a3:=Tryz.isAgg3
  have z3:=Tryz.sizeOf3
  have hS:Tryz.prog.underlying 54=some (.struct (Tryz.prog.fieldsOf 54)):=by kernel_rfl
  have hp:Tryz.prog.stoodInHeld 54=false:=by kernel_rfl
  show (Op.equalIn 10000 54 (.agg #[.int .i64 a,.int .i64 b]) (.agg #[.int .i64 a',.int .i64 b'])).run Tryz.prog w=_
  rw [show (10000:Nat)=9999+1 from rfl,run_equalIn_agg w 9999 54 _ _ hS hp]
  simp only [Program.fieldsOf,Tryz.underlying54]
  go_simp
  by_cases h1:a=a'<;>by_cases h2:b=b'<;>simp [h1,h2]
theorem b1s {P:Program} {t:TypeId} {n m:Nat} {K:Prop} (h:EqS P t n) (hl:m=n) (k:K):(EqS P t n∧m=n)∧K:=⟨⟨h,hl⟩,k⟩
def eqP (p q:D8):Bool:=[p.mv,p.mat] == [q.mv,q.mat]
theorem b5y (l:List D8) (p:D8) (hl:l.length<=1000000):b7 Tryz.prog 139 [F6 l,.agg (p.row.map C.t)] [] (a8 .i64 (F7 (eqP p) l 0)) []:=by
 have m1:(l.map D8.row).length=l.length:=by simp
 (refine ac Tryz.func139 ?_;(conv=>whnf);repeat ((first|refine b0x ?_|refine zy ?_);conv=>whnf))
 repeat' (first|refine zx ?_|refine zd ?_ ?_<;>intro h<;>try omega|fail)<;>conv=>whnf
 refine f8 c7 (fun k=>([F6 l,J,J,S.c (C.t (T.ptr p.row)),J,J,J,a8 .i64 l.length,a8 .i64 k]++Jn 10,[])) l.length (fun k=>F7 (eqP p) (l.drop k) k=F7 (eqP p) l 0) [] rfl
  ⟨rfl,rfl,trivial,⟨rfl,rfl,c6 (by omega),rfl,trivial⟩⟩ ?_
 intro k hk hI
 by_cases hlt:k<l.length
 ·obtain ⟨r,hr⟩:∃r,l[k]? =some r:=⟨_,lbf hlt⟩
  have hd:l.drop k=r::l.drop (k+1):=by
   rw [List.drop_eq_getElem_cons hlt]
   rw [lbf hlt] at hr
   injection hr with hr
   rw [hr]
  rw [hd] at hI
  have hI:(if eqP p r then (k:Int) else F7 (eqP p) (l.drop (k+1)) (k+1))=F7 (eqP p) l 0:=hI
  have hq:([p.mv,p.mat] == [r.mv,r.mat])=eqP p r:=rfl
  conv=>whnf
  repeat' (first|refine zx ?_|refine d7 hr ?_|refine b1s b41 rfl ?_|refine zd ?_ ?_<;>intro h<;>try omega|fail)<;>conv=>whnf
  all_goals first
   |omega
   |(rw [if_pos (hq.symm.trans h)] at hI;exact v8 hI)
   |(rw [if_neg (by rw [← hq,h];decide)] at hI;exact ⟨hlt,hI,[],rfl,rfl,trivial,⟨rfl,rfl,rfl,c6 (by omega),trivial⟩⟩)
 ·have hke:k=l.length:=by omega
  subst hke
  rw [lbo (lbQ _)] at hI
  conv=>whnf
  repeat' (first|refine zx ?_|refine zd ?_ ?_<;>intro h<;>try omega|fail)<;>conv=>whnf
  all_goals first
   |omega
   |exact v8 hI
theorem b0t (l:List D8) (p:D8) (hl:l.length<=1000000):b7 Tryz.prog 67 [F6 l,.agg (p.row.map C.t)] [] (f7 (l.any (eqP p))) []:=by
 have ix:=b5y l p hl
 have an:=a3z (eqP p) l 0
 (refine ac Tryz.func67 ?_;(conv=>whnf);repeat ((first|refine b0x ?_|refine zy ?_);conv=>whnf))
 repeat' (first|refine zx ?_|refine qp ix ?_|refine zd ?_ ?_<;>intro h<;>try omega|fail)<;>conv=>whnf
 all_goals first
  |(refine c9 ?_;rw [← an];simp;omega)
theorem b72 {w:World} {M:Ms} {b0:Nat} {v:Value} {ss:List Int} (h:w.ownsRow b0 3 1 v ss.length (ss.map (Value.int .i64))) (hM:∀k,M k->k<b0):RT w M (N3 ss) v:=by
 have at1:∀i j t,at2 (ss.map e8) i j=some t->∃x,ss[i]? =some x∧j=0∧t=ti x:=fun i j t h=>by
  rw [a9w] at h
  cases hx:ss[i]? with
  |none=>rw [hx] at h;simp at h
  |some x=>
   rw [hx] at h
   cases j with
   |zero=>simp [e8] at h;exact ⟨x,rfl,rfl,h.symm⟩
   |succ j=>simp [e8] at h
 have ml:(ss.map e8).length=ss.length:=by simp
 have size1:∀r ∈ ss.map e8,r.length=1:=by
  intro r hr'
  obtain ⟨q,hq,rfl⟩:=lbx.1 hr'
  rfl
 rcases h.2 with ⟨rfl,h0⟩|⟨g,cap1,cur,rfl,hg,hcur,hcap1,hcm,hcs,htake⟩
 ·have e1:Value.slice none 0 0=.slice none (ss.map e8).length 0:=by rw [ml,h0]
  rw [e1]
  refine .sl (b:=0) (off:=0) (fun _ _=>undef) size1 (by rw [ml];omega) (Nat.zero_le _) (fun h=>by cases h) (fun h=>by cases h) (fun h=>absurd (lbF (ml.trans h0)) h) (fun i j t h=>?_) (fun i j t h=>?_)
  ·obtain ⟨x,hx,_⟩:=at1 i j t h
   have:=(lbe.1 hx).1;omega
  ·obtain ⟨x,hx,_⟩:=at1 i j t h
   have:=(lbe.1 hx).1;omega
 ·have e1:Value.slice (some ⟨g,0,none⟩) ss.length cap1=.slice (some ⟨g,0,none⟩) (ss.map e8).length cap1:=by rw [ml]
  rw [e1]
  refine .sl (b:=g) (off:=0) (fun i _=>.int .i64 (ss.getD i 0)) size1 (by rw [ml];exact hcap1) hcm (fun h=>by cases h) (fun h=>by cases h) (fun _=>rfl) (fun i j t h=>?_) (fun i j t h=>?_)
  ·obtain ⟨x,hx,rfl,rfl⟩:=at1 i j t h
   have hi:=(lbe.1 hx).1
   refine ⟨?_,fun h=>by have:=hM _ h;omega⟩
   have h5:cur[i]? =some (.int .i64 (ss.getD i 0)):=by
    have:=congrArg (·[i]?) htake
    simp only [lbi,lba,Nat.mul_one] at this
    rw [if_pos hi,hx] at this
    rw [lbl,hx]
    simpa using this
   simp [World.cell?,hcur,h5]
  ·obtain ⟨x,hx,rfl,rfl⟩:=at1 i j t h
   have e:ss.getD i 0=x:=by rw [lbl,hx];rfl
   show RT _ _ _ (.int .i64 (ss.getD i 0))
   rw [e]
   exact .atm rfl
set_option maxHeartbeats 4000000 in
theorem aF5 (b off cap:Nat) (A:Option Addr) (xs:List Int) (hl:xs.length<=1000) (hcap:xs.length<=cap) (Bs Bo:Nat) (w:World) (hBs:Bs<w.heap.size) (hb:xs≠[]->b<w.heap.size∧A=some ⟨b,off,none⟩) (h1:w.cell? ⟨Bs,Bo,none⟩=some (.slice A xs.length cap)) (hc:∀i x,xs[i]? =some x->w.cell? ⟨b,off+i,none⟩=some (.int .i64 x)):
 Calls Tryz.prog 140 #[.func (.func 212) #[] #[.pointer (some ⟨Bs,Bo,none⟩)]] w fun ee w'=>∃v,ee=.returned v∧w'.ownsRow w.heap.size 3 1 v (B2 xs).length ((B2 xs).map (Value.int .i64))∧Below w.heap.size w w':=by
 have hcol:Calls Tryz.prog 211 #[.func (.func 212) #[] #[.pointer (some ⟨Bs,Bo,none⟩)]] w fun ee w'=>∃v,ee=.returned v∧w'.ownsRow w.heap.size 3 1 v xs.length (xs.map (Value.int .i64))∧Below w.heap.size w w':=by
  have hap:=a9O b off cap A xs hl hcap Bs Bo w hBs hb h1 hc
  go_enter Tryz.func211,Tryz.ntmps211
  go_wp2_with (go_at_call 262;refine hap.mono ?_;rintro e w' ⟨v,rfl,hrow,hB⟩)
  go_ret
  exact ⟨v,rfl,hrow,hB⟩
 go_enter Tryz.func140,Tryz.ntmps140
 go_wp2_with (go_at_call 211;refine hcol.mono ?_;rintro e W ⟨v,rfl,hrow,hB⟩)
 rcases hrow.2 with ⟨rfl,hz⟩|⟨gb,cap1,cur,rfl,hbase,hgb,r1,r2,r3,r4⟩
 ·have hss:xs=[]:=lbF hz
  subst hss
  have cN:=Any.slices_Sort_int_none a8y none 0 W
  change Calls Tryz.prog 179 _ _ _ at cN
  go_wp2_with (go_at_call 179;refine cN.mono ?_;rintro e w' ⟨rfl,rfl⟩)
  go_ret
  exact ⟨_,rfl,by rw [show B2 []=[] by simp [B2]];exact hrow,hB⟩
 ·have hH:=holds_of_block_i hgb (by simpa using r4)
  have hgl:gb<W.heap.size:=(lb4.1 hgb).1
  have cS:=Any.slices_Sort_int a8y gb 0 cap1 xs W hH hgl (by omega)
  change Calls Tryz.prog 179 _ _ _ at cS
  go_wp2_with (go_at_call 179;refine cS.mono ?_;rintro e w' ⟨rfl,nn,os,rfl⟩)
  go_ret
  refine ⟨_,rfl,?_,hB.grown (grownBy_sorted_i _) hB.size (fun j hj=>by cases hj;exact hbase)⟩
  rw [W8]
  exact ownsRow_sorted_i (W8 xs) hbase hgb r1 r2 r3
theorem b3E (xs:List Int) (hl:xs.length<=1000):b7 Tryz.prog 140 [.c (.t (T.fn (Fn.func 212) [T.ptr [N3 xs]]))] [] (g8 (B2 xs)) []:=by
 refine ⟨⟨_,Tryz.func140,rfl,by decide⟩,fun w ι M vals hlen hv hH hMB hF=>?_⟩
 obtain ⟨x,rfl⟩:∃x,vals=[x]:=by
  match vals,hlen with
  |[x],_=>exact ⟨x,rfl⟩
 have hx:=hv 0 _ rfl
 simp only [lb5] at hx
 cases hx with|c hx=>cases hx with|t hx=>cases hx with|@fn _ _ vs hl' hr=>
 obtain ⟨p,rfl⟩:∃p,vs=[p]:=by
  match vs,hl' with
  |[p],_=>exact ⟨p,rfl⟩
 have hp:=hr 0 _ rfl
 simp only [lb5] at hp
 cases hp with|@ptr _ b0 o0 f hc0 hr0=>
 have c0:=(hc0 0 _ rfl).1
 have r0:=hr0 0 _ rfl
 rw [Nat.add_zero] at c0
 generalize f 0=sv at c0 r0
 cases r0 with|@sl _ _ _ b off cap A f' hrow hcap hmax hk hn hA hcc hr' hx'=>
 have ml:(xs.map e8).length=xs.length:=by simp
 rw [ml] at c0 hcap
 have cells:∀i x,xs[i]? =some x->w.cell? ⟨b,off+i,none⟩=some (.int .i64 x):=fun i x hx=>by
  have h1:at2 (xs.map e8) i 0=some (ti x):=by rw [a9w,hx];rfl
  have h2:=(hcc i 0 _ h1).1
  have h3:=hr' i 0 _ h1
  rw [show off+(i*1+0)=off+i by omega] at h2
  rw [h2]
  generalize f' i 0=u at h3
  cases h3;rfl
 refine (aF5 b off cap A xs hl hcap b0 o0 w (a7L c0) (fun hne=>⟨?_,hA (by simpa using hne)⟩) c0 cells).mono ?_
 ·obtain ⟨x,r,rfl⟩:=List.exists_cons_of_ne_nil hne
  exact a7L (cells 0 x rfl)
 ·rintro ee w' ⟨v,rfl,hrow',hB⟩
  exact ⟨v,rfl,a8Y (.c (.t (b72 hrow' (fun k h=>hMB k h)))) hB hMB hF⟩
theorem b47:∀{l:List Int},l.Pairwise (·<=·)->ab2 l=true->l.Pairwise (·<·)
 |[],_,_=>.nil
 |[x],_,_=>List.pairwise_singleton _ _
 |x::y::r,h,ha=>by
  unfold ab2 at ha
  rw [lbM,lbI] at ha
  have ih:=b47 h.tail ha.2
  refine .cons (fun z hz=>?_) ih
  have h1:=List.rel_of_pairwise_cons h (List.mem_cons_self (a:=y) (l:=r))
  rcases lbA.1 hz with rfl|hz'
  ·have:=ha.1;omega
  ·have h2:=List.rel_of_pairwise_cons ih hz'
   omega
theorem b1H {e:Ev} {ps:List D8} (h:G7 e ps=true) {k:Nat} {p:D8} (hp:ps[k]? =some p):(ps.take k).any (eqP p)=false:=by
 unfold G7 at h
 simp only [lbM,lbI] at h
 have h1:=b47 (a1d _) h.2
 have nd:(ps.map (O8 e)).Nodup:=(a0t _).nodup_iff.1 (h1.imp fun h=>by omega)
 rw [List.any_eq_false]
 intro q hq hE
 unfold eqP at hE
 have hE:[p.mv,p.mat]=[q.mv,q.mat]:=by simpa using hE
 injection hE with e1 e2
 injection e2 with e2 _
 obtain ⟨i,hi,hqi⟩:=List.getElem_of_mem hq
 rw [lbs] at hi
 have hk:=(lbe.1 hp).1
 have g1:(ps.map (O8 e))[i]'(by rw [lbr];omega)=(ps.map (O8 e))[k]'(by rw [lbr];exact hk):=by
  rw [List.getElem_map,List.getElem_map]
  rw [List.getElem_take] at hqi
  rw [hqi,(lbe.1 hp).2]
  unfold O8
  rw [e1,e2]
 exact List.pairwise_iff_getElem.1 nd i k _ _ (by omega) g1
theorem b3W (l:List Int):b7 Tryz.prog 141 [g8 l] [] (.c (.t (T.fn (Fn.func 212) [T.ptr [N3 l]]))) []:=by
 (refine ac Tryz.func141 ?_;(conv=>whnf);repeat ((first|refine b0x ?_|refine zy ?_);conv=>whnf))
 repeat' (first|refine zx ?_|refine zd ?_ ?_<;>intro h<;>try omega|fail)<;>conv=>whnf
 all_goals first
  |exact j3 rfl
theorem b9h (l:List (Int × Rat)) (hr:d8 (-1) 1500 l=true) (hb:∀t ∈ l,rl t.2<=200):b7 Tryz.prog 70 [k9 l] [] (k9 (a1w l)) []:=by
 have i1:=D2 (-1) (by decide) (by decide)
 have ti:=b0Z l ((-1:Int):Rat) (by decide) hr hb (by have:=b8s;omega)
 (refine ac Tryz.func70 ?_;(conv=>whnf);repeat ((first|refine b0x ?_|refine zy ?_);conv=>whnf))
 repeat' (first|refine zx ?_|refine qp i1 ?_|refine qp ti ?_|refine zd ?_ ?_<;>intro h<;>try omega|fail)<;>conv=>whnf
 all_goals exact j3 rfl
set_option maxHeartbeats 4000000 in
theorem b9F (l:List Int) (hl:l.length<=1000):b7 Tryz.prog 68 [g8 l] [] (k9 (w8 (B2 l))) []:=by
 have va:=b3W l
 have so:=b3E l hl
 have i1:=D2 1 (by decide) (by decide)
 have sl:=W8 l
 have m1:((B2 l).map e8).length=l.length:=by rw [lbr,sl]
 (refine ac Tryz.func68 ?_;(conv=>whnf);repeat ((first|refine b0x ?_|refine zy ?_);conv=>whnf))
 repeat' (first|refine zx ?_|refine qp va ?_|refine qp so ?_|refine zd ?_ ?_<;>intro h<;>try omega|fail)<;>conv=>whnf
 generalize hv:B2 l=v at *
 refine f8 c7 (fun k=>([J,J,J,S.c (C.own 0 0 k true),J,J,J,J,J,g8 v,a8 .i64 l.length,a8 .i64 k]++Jn 11,[H6 (w8 (v.take k))])) l.length (fun _=>True) [none] trivial
  ⟨rfl,rfl,⟨⟨rfl,rfl⟩,trivial⟩,⟨⟨rfl,rfl,rfl⟩,rfl,c6 (by omega),rfl,trivial⟩⟩ ?_
 intro k hk _
 by_cases hlt:k<l.length
 ·obtain ⟨x,hx⟩:∃x,v[k]? =some x:=⟨_,lbf (by omega)⟩
  have ek:(w8 (v.take k)).length=k:=by simp [w8];omega
  have lA:k<=(H6 (w8 (v.take k))).rows.length:=by show k<=(toC _).length;rw [toC,lbr,lbr,ek];exact lbQ _
  have sn:w8 (v.take (k+1))=w8 (v.take k)++[(x,((1:Int):Rat))]:=by rw [lbG,hx];simp [w8]
  conv=>whnf
  repeat' (first|refine zx ?_|refine qp i1 ?_|refine qp toC ?_|refine d7 hx ?_|refine y9 lA (by simp [toC];omega) ?_|refine zd ?_ ?_<;>intro h<;>try omega|fail)<;>conv=>whnf
  all_goals first
   |omega
   |(refine ⟨hlt,trivial,[some 1],rfl,rfl,⟨b8 (rows:=(w8 (v.take (k+1))).map j9) rfl rfl rfl ?_ rfl,trivial⟩,⟨⟨rfl,rfl,rfl,fun h=>h⟩,rfl,rfl,c6 (by omega),trivial⟩⟩
     rw [sn]
     exact a1A (f:=j9) (x:=(x,((1:Int):Rat))) ek.symm)
 ·have hke:k=l.length:=by omega
  subst hke
  rw [lbn (by omega)]
  conv=>whnf
  repeat' (first|refine zx ?_|refine zd ?_ ?_<;>intro h<;>try omega|fail)<;>conv=>whnf
  all_goals first
   |omega
   |exact J7 rfl (fun h=>h) rfl rfl (by simp [w8];omega)
def b8o (o:a26):List T:=ti o.kind::j5 o.value++[E9 (o.X.map fz),E9 (o.Y.map fz),E9 (o.R.map fz)]
abbrev b8t (s:g6):Blk:={ mode:=.live,elem:=48,size:=2,rows:=[[.t (ti s.n),.t (S6 s.rows)]],box:=true }
theorem b08 (s:g6):E5 (b8t s).rows:=by simp [E5,C.isT]
set_option maxHeartbeats 16000000 in
theorem aP1 (e:Ev) (hE:EvT e) (ps:List D8) (hp:ps.length<=100) (hg:G7 e ps=true) (hl:(C3 e).rows.length<=78) (lo hi:a26) (hr:a3n (C3 e) (x8 e ps) lo hi):
 b7 Tryz.prog 25 [evS e,F6 ps,a07 lo hi] [] (f7 true) []:=by
 have hc:=a3o hg
 have hT:=hE.t hc
 have sy:=a7V e hE.sz hE.sm
 rw [EvT.r hc,hc] at sy
 have hcb:=B5 hc
 have m1:(ps.map D8.row).length=ps.length:=by simp
 have m2:(e.moves.map j6.row).length=e.moves.length:=by simp
 have eg:x8 e ps=w8 (B2 (ps.map (O8 e))):=by unfold x8;rw [if_pos hg]
 have gr:=ay0 hE hc (ps:=ps)
 have gw:=a3G e ps
 have sm:=b9F (ps.map (O8 e)) (by rw [lbr];omega)
 rw [← eg] at sm
 have hsn:=O7 hT.r
 have h10:=hT.n
 have op:=b9h (x8 e ps) (a4s (by omega) gr) (fun t ht=>by have:=a05 gw t ht;omega)
 have c1:=aC9 (C3 e) (x8 e ps) lo hT hl gr gw hr.lo hr.l1
 have c2:=aC9 (C3 e) (a1w (x8 e ps)) hi hT hl (a34 gr) (a8h gw) hr.hi hr.h1
 have k1:=hr.l1
 have k2:=hr.h1
 have hall:ps.all (a0u e)=true:=by
  unfold G7 at hg
  simp only [lbM] at hg
  exact hg.1.2
 (refine ac Tryz.func25 ?_;(conv=>whnf);repeat ((first|refine b0x ?_|refine zy ?_);conv=>whnf))
 repeat' (first|refine zx ?_|refine qp sy ?_|refine B4 _ (by decide +kernel) rfl ?_|refine zd ?_ ?_<;>intro h<;>try omega|fail)<;>conv=>whnf
 all_goals try omega
 refine f8 c7 (fun k=>([J,F6 ps,J,S.c (C.t (T.ptr (evT e))),J,S.c (C.t (T.ptr (b8o lo++b8o hi))),J,S.c (C.ptr 0 0 0),J,S.c (C.own 1 0 k true)]++Jn 22++[F6 ps,a8 .i64 ps.length,a8 .i64 k]++Jn 61,[b8t (C3 e),n7 ((ps.take k).map (O8 e))])) ps.length (fun _=>True) [some 0,none] trivial
  ⟨rfl,rfl,⟨⟨rfl,rfl,rfl,.inl ⟨rfl,b08 _⟩⟩,⟨rfl,rfl⟩,trivial⟩,⟨rfl,rfl,rfl,⟨rfl,rfl,rfl⟩,⟨rfl,rfl,rfl⟩,rfl,c6 (by omega),rfl,trivial⟩⟩ ?_
 intro k hk _
 by_cases hlt:k<ps.length
 ·obtain ⟨p,hpk⟩:∃p,ps[k]? =some p:=⟨_,lbf hlt⟩
  have hok:=lbv.1 hall p (lbm hpk)
  have hyes:0<=p.mv∧p.mv<e.moves.length∧0<=p.mat∧p.mat<e.mats:=by
   unfold a0u at hok
   simpa [and_assoc] using hok
  have ct:=b0t (ps.take k) p (by rw [lbs];omega)
  rw [b1H hg hpk] at ct
  have ct:b7 Tryz.prog 67 [.c (.t (.sl 2 .any ((ps.map D8.row).take k))),.agg (p.row.map C.t)] [] (f7 false) []:=by rw [← List.map_take];exact ct
  have ek:((ps.take k).map (O8 e)).length=k:=by simp;omega
  have lA:k<=(n7 ((ps.take k).map (O8 e))).rows.length:=by show k<=(toC _).length;rw [toC,lbr,lbr,ek];exact lbQ _
  have hm:0<=p.mv*e.mats∧p.mv*e.mats<=1000000*1000:=⟨lbZ (by omega) (by omega),Int.mul_le_mul (by omega) (by omega) (by omega) (by omega)⟩
  have sn:(ps.take (k+1)).map (O8 e)=(ps.take k).map (O8 e)++[p.mv*e.mats+p.mat]:=by rw [lbG,hpk];simp [O8]
  have sl:(0:Int)<=0∧(0:Int)<=(k:Int)∧(k:Int)<=((ps.map D8.row).length:Int):=by omega
  conv=>whnf
  repeat' (first|refine zx ?_|refine qp ct ?_|refine qp toC ?_|refine d7 hpk ?_|refine y9 lA (by simp [toC];omega) ?_|refine ⟨sl,?_⟩|refine zd ?_ ?_<;>intro h<;>try omega|fail)<;>conv=>whnf
  all_goals first
   |omega
   |(refine ⟨hlt,trivial,[some 0,some 3],rfl,rfl,⟨⟨rfl,rfl,rfl,.inl ⟨rfl,b08 _⟩⟩,b8 (rows:=((ps.take (k+1)).map (O8 e)).map e8) rfl rfl rfl ?_ rfl,trivial⟩,⟨rfl,rfl,rfl,⟨rfl,rfl,rfl⟩,⟨rfl,rfl,rfl,fun h=>h⟩,rfl,rfl,c6 (by omega),trivial⟩⟩
     rw [sn]
     exact a1A (f:=e8) (x:=p.mv*e.mats+p.mat) ek.symm)
 ·have hke:k=ps.length:=by omega
  subst hke
  rw [lbn (lbQ _)]
  conv=>whnf
  repeat' (first|refine zx ?_|refine qp op ?_|refine qp c1 ?_|refine qp c2 ?_|refine qp 1 ?_|refine .inr ⟨_,_,C7 [1] sm ⟨a3p (t8 (k:=n7 (ps.map (O8 e))) (by simp) rfl (fun h=>h) rfl rfl (by simp)),trivial⟩ rfl,?_⟩|refine B4 _ (by decide +kernel) rfl ?_|refine zd ?_ ?_<;>intro h<;>try omega|fail)<;>conv=>whnf
  all_goals first
   |omega
   |exact c9 rfl
theorem ag9 {l:List Int} (h:l.Pairwise (·<=·)):B2 l=l:=
 List.Perm.eq_of_pairwise (le:=(·<=·)) (fun a b _ _ h1 h2=>by omega) (a1d l) h (a0t l)
theorem a7t:EvT (exW 23):=⟨az1 23,fun _=>⟨az1 23,by decide,by decide,by decide,by decide,by decide,by decide⟩,by decide⟩
theorem ae5:G7 (exW 23) pk1=true:=by
 unfold G7
 rw [lbH K2.1]
 have:B2 (pk1.map (O8 (exW 23)))=[0]:=ag9 (by decide)
 rw [this]
 decide
theorem a8L:x8 (exW 23) pk1=[(0,((1:Int):Rat))]:=by
 unfold x8
 rw [if_pos ae5]
 have:B2 (pk1.map (O8 (exW 23)))=[0]:=ag9 (by decide)
 rw [this];rfl
theorem am8:∃lo hi,a3n (C3 (exW 23)) (x8 (exW 23) pk1) lo hi∧aj8 (x8 (exW 23) pk1) lo=some 21∧a7j (x8 (exW 23) pk1) hi=some 22∧b7 Tryz.prog 18 [evS (exW 23),F6 pk1] [] (.tup [a07 lo hi,a8 .i64 0]) []∧b7 Tryz.prog 21 [a07 lo hi] [] (b20 (some 21) (some 22)) []:=by
 have hT:=a7t.t K2.1
 have gr:=ay0 a7t K2.1 (ps:=pk1)
 have gw:=a3G (exW 23) pk1
 rcases a6X (exW 23) a7t pk1 (by decide) ae5 with ⟨hn,_⟩|⟨lo,hi,hr,so⟩
 ·have:=hn [21,21];rw [a9N] at this;cases this
 ·have b:=aE4 hT gr gw hr
  have lk:=aq9 hr.lo (aF1 (exW 23) pk1) hr.l1
  obtain ⟨f1,_,f3,_⟩:=hr.lo.found lk
  have e1:aj8 (x8 (exW 23) pk1) lo=some 21:=by
   unfold aj8
   rw [if_pos lk]
   have h1:=f3 _ a9N
   have h2:=(aI0 f1).1
   rw [a8L] at h1 ⊢
   rw [v0] at h1
   congr 1;grind
  have hk:hi.kind=0:=by
   rcases hr.hi.k with e|e|e
   ·exact e
   ·exact absurd e hr.h1
   ·exfalso
    obtain ⟨g1,g2,g3,_⟩:=hr.hi.free e
    have hu:=g2.up 1 ⟨[(0,((1:Int):Rat))],1,22⟩ (by rw [a8d];rfl) (by decide)
    rw [a0J (s:=C3 (exW 23)) (g:=x8 (exW 23) pk1),a8L] at g3
    have hu:j1 [(0,((1:Int):Rat))] hi.R<=0:=hu
    grind
  have e2:a7j (x8 (exW 23) pk1) hi=some 22:=by
   rw [aI1 hr hk]
   obtain ⟨g1,_,g3,_⟩:=hr.hi.found hk
   have h1:=g3 _ b42
   have h2:=(aI0 g1).2
   rw [a0J (s:=C3 (exW 23)) (g:=x8 (exW 23) pk1),a0J (s:=C3 (exW 23)) (g:=x8 (exW 23) pk1)] at h1
   rw [a8L] at h1 ⊢
   rw [v0] at h1
   congr 1;grind
  rw [e1,e2] at b
  exact ⟨lo,hi,hr,e1,e2,so,b⟩
theorem b7P:pk1[0]? =some ⟨0,0⟩:=rfl
theorem b8H:[R0 pk1][0]? =some (R0 pk1):=rfl
theorem b6c:b7 Tryz.prog 113 [evS (exW 23),F6 pk1] [] (f7 true) []:=by
 have ct:=b0t [] ⟨0,0⟩ (by decide)
 (refine ac Tryz.func113 ?_;(conv=>whnf);repeat ((first|refine b0x ?_|refine zy ?_);conv=>whnf))
 repeat' (first|refine zx ?_|refine zd ?_ ?_<;>intro h<;>try omega|fail)<;>conv=>whnf
 refine f8 c7 (fun k=>([J,F6 pk1,S.c (C.t (T.ptr (evT (exW 23)))),J,J,J,J,F6 pk1,a8 .i64 1,a8 .i64 k]++Jn 35,[])) 1 (fun _=>True) [] trivial
  ⟨rfl,rfl,trivial,⟨rfl,rfl,rfl,rfl,rfl,trivial⟩⟩ ?_
 intro k hk _
 by_cases hlt:k<1
 ·have hk0:k=0:=by omega
  subst hk0
  have m2:((exW 23).moves.map j6.row).length=2:=rfl
  have m3:(exW 23).mats=1:=rfl
  conv=>whnf
  repeat' (first|refine zx ?_|refine qp ct ?_|refine d7 b7P ?_|refine ⟨⟨by decide,by decide,by decide⟩,?_⟩|refine zd ?_ ?_<;>intro h<;>try omega|fail)<;>conv=>whnf
  all_goals first
   |(exfalso;(try dsimp only at *);omega)
   |exact ⟨by decide,trivial,[],rfl,rfl,trivial,⟨rfl,rfl,rfl,rfl,c6 (by decide),trivial⟩⟩
 ·have hke:k=1:=by omega
  subst hke
  conv=>whnf
  repeat' (first|refine zx ?_|refine zd ?_ ?_<;>intro h<;>try omega|fail)<;>conv=>whnf
  all_goals first
   |omega
   |exact c9 rfl
theorem b4r:b7 Tryz.prog 191 [evS (exW 23),F6 pk1] [] (b20 (some 21) (some 22)) []:=by
 obtain ⟨lo,hi,_,_,_,so,b⟩:=am8
 (refine ac Tryz.func191 ?_;(conv=>whnf);repeat ((first|refine b0x ?_|refine zy ?_);conv=>whnf))
 repeat' (first|refine zx ?_|refine qp so ?_|refine qp b ?_|refine B4 _ (by decide +kernel) rfl ?_|refine zd ?_ ?_<;>intro h<;>try omega|fail)<;>conv=>whnf
 all_goals first
  |exact j3 ⟨rfl,rfl,rfl,rfl,rfl,rfl,rfl,rfl,rfl,rfl,trivial⟩
def Z1:List T:=j5 (fz 21)++j5 (fz 22)++[tb true,tb true]
theorem b0q:[Z1][0]? =some Z1:=rfl
abbrev b0O:T:=.sl 10 .any [Z1]
def aR8 (q b p:T):List T:=evT (exW 23)++[q,b,p]
abbrev b0b (l:List (List T)):Blk:={ mode:=.live,elem:=67,size:=10,rows:=toC l,box:=false }
abbrev b5w (q b p:C):Blk:={ mode:=.live,elem:=220,size:=11,rows:=[(evT (exW 23)).map C.t++[q,b,p]],box:=true }
abbrev b2S (l:List (List D8)):Blk:={ mode:=.live,elem:=52,size:=1,rows:=toC (l.map fun x=>[R0 x]),box:=false }
abbrev b94:Blk:=b5w (.own 1 0 1 true) (.t (.sl 0 .nil [])) (.t (tb false))
theorem aw6 {ρ:List (Option Nat)} {H:Hp} {q r:Nat} {b p:T} (h1:ρ[r]? =some (some q)):a1f ρ H (b5w (.own q 0 1 true) (.t b) (.t p)) (b5w (.own r 0 1 true) (.t b) (.t p)):=
 ⟨rfl,rfl,rfl,.inr ⟨⟨rfl,rfl,rfl,rfl,rfl,rfl,rfl,rfl,⟨h1,rfl,rfl,fun h=>h⟩,X7 b,X7 p,trivial⟩,trivial⟩⟩
theorem b9B {K:List C->Prop} (h:K [C.t (R0 pk1)]):∃row,(b2S [pk1]).rows[0+(((0:Nat):Int)).toNat]? =some row∧K row:=⟨_,rfl,h⟩
theorem b7t:b7 Tryz.prog 115 [.c (.ptr 0 0 0),evS (exW 23)] [b94,b2S [pk1]] (.tup [.c (.own 2 0 1 true),f7 true]) [b94,b2S [pk1],b0b [Z1]]:=by
 have po:=a4a (exW 23) a7t K2.1 ⟨_,a9N⟩
 have bo:=b4r
 (refine ac Tryz.func115 ?_;(conv=>whnf);repeat ((first|refine b0x ?_|refine zy ?_);conv=>whnf))
 repeat' (first|refine zx ?_|refine qp po ?_|refine zd ?_ ?_<;>intro h<;>try omega|fail)<;>conv=>whnf
 all_goals try omega
 refine f8 c7 (fun k=>([J,J,J,S.c (C.t (T.ptr (evT (exW 23)))),J,J,S.c (C.own 2 0 k true),J,J,J,J,J,J,J,J,S.c (C.own 1 0 1 true),a8 .i64 1,a8 .i64 k]++Jn 11,[b94,b2S [pk1],b0b ([Z1].take k)])) 1 (fun _=>True) [some 0,some 1,none] trivial
  ⟨rfl,rfl,⟨aw6 rfl,b8 (rows:=[[R0 pk1]]) rfl rfl rfl rfl rfl,⟨rfl,rfl⟩,trivial⟩,⟨rfl,⟨rfl,rfl,rfl⟩,⟨rfl,rfl,rfl,fun h=>h⟩,rfl,rfl,trivial⟩⟩ ?_
 intro k hk _
 by_cases hlt:k<1
 ·have hk0:k=0:=by omega
  subst hk0
  conv=>whnf
  repeat' (first|refine zx ?_|refine qp bo ?_|refine b9B ?_|refine y9 (Nat.zero_le _) (by decide) ?_|refine zd ?_ ?_<;>intro h<;>try omega|fail)<;>conv=>whnf
  all_goals first
   |omega
   |exact ⟨by decide,trivial,[some 0,some 1,some 3],rfl,rfl,⟨aw6 rfl,b8 (rows:=[[R0 pk1]]) rfl rfl rfl rfl rfl,b8 (rows:=[Z1]) rfl rfl rfl rfl rfl,trivial⟩,⟨rfl,⟨rfl,rfl,rfl,fun h=>h⟩,⟨rfl,rfl,rfl,fun h=>h⟩,rfl,c6 (by decide),trivial⟩⟩
 ·have hke:k=1:=by omega
  subst hke
  conv=>whnf
  repeat' (first|refine zx ?_|refine zd ?_ ?_<;>intro h<;>try omega|fail)<;>conv=>whnf
  all_goals first
   |omega
   |exact ⟨[some 0,some 1,some 2],rfl,rfl,⟨aw6 rfl,b8 (rows:=[[R0 pk1]]) rfl rfl rfl rfl rfl,b8 (rows:=[Z1]) rfl rfl rfl rfl rfl,trivial⟩,⟨⟨rfl,rfl,rfl,fun h=>h⟩,rfl,trivial⟩⟩
theorem b1X (q:T):b7 Tryz.prog 43 [.c (.t (T.ptr (aR8 q b0O (tb true))))] [] (.tup [.c (.t b0O),a8 .i64 0]) []:=by
 have fr:=b63 21 22 (by decide +kernel) (by decide +kernel)
 (refine ac Tryz.func43 ?_;(conv=>whnf);repeat ((first|refine b0x ?_|refine zy ?_);conv=>whnf))
 repeat' (first|refine zx ?_|refine zd ?_ ?_<;>intro h<;>try omega|fail)<;>conv=>whnf
 all_goals try omega
 all_goals try (exfalso;contradiction)
 refine f8 c7 (fun k=>([J,J,J,J,S.c (C.own 0 0 k true)]++Jn 10++[S.c (C.t b0O),a8 .i64 1,a8 .i64 k]++Jn 10,[b0b ([Z1].take k)])) 1 (fun _=>True) [none] trivial
  ⟨rfl,rfl,⟨⟨rfl,rfl⟩,trivial⟩,⟨⟨rfl,rfl,rfl⟩,rfl,rfl,rfl,trivial⟩⟩ ?_
 intro k hk _
 by_cases hlt:k<1
 ·have hk0:k=0:=by omega
  subst hk0
  conv=>whnf
  repeat' (first|refine zx ?_|refine qp fr ?_|refine d7 (f:=fun x:List T=>x) b0q ?_|refine y9 (Nat.zero_le _) (by decide) ?_|refine zd ?_ ?_<;>intro h<;>try omega|fail)<;>conv=>whnf
  all_goals first
   |omega
   |exact ⟨by decide,trivial,[some 2],rfl,rfl,⟨b8 (rows:=[Z1]) rfl rfl rfl rfl rfl,trivial⟩,⟨⟨rfl,rfl,rfl,fun h=>h⟩,rfl,rfl,c6 (by decide),trivial⟩⟩
 ·have hke:k=1:=by omega
  subst hke
  conv=>whnf
  repeat' (first|refine zx ?_|refine zd ?_ ?_<;>intro h<;>try omega|fail)<;>conv=>whnf
  all_goals first
   |omega
   |exact j3 ⟨show VC _ (fun id=>G3 [] id=true) _ _ from t8 (rows:=[Z1]) rfl rfl (by intro h;cases h) rfl rfl rfl,rfl,trivial⟩
theorem aQ0 {P:Program} {f:FuncId} {args:List S} {H1:Hp} {x y a b:S} (h:b7 P f args [] (.tup [x,y]) H1) (hx:VYS H1 (fun id=>G3 [] id=true) x a) (hy:VYS H1 (fun id=>G3 [] id=true) y b):b7 P f args [] (.tup [a,b]) []:=by
 refine ⟨h.1,fun w ι M vals hl hr hH hM hF=>?_⟩
 refine Calls.mono (h.2 w ι M vals hl hr hH hM hF) ?_
 rintro e w' ⟨v,rfl,ι',M',h4,hH',hM',hF',hst⟩
 obtain ⟨g1,g2,g3⟩:=a35.all (ρ:=[]) (H':=[]) (n0:=0) rfl rfl trivial rfl hM hH' hst
 refine ⟨v,rfl,N5 [] ι',_,?_,g1,fun b hb=>hM' b hb.1,g2,g3⟩
 have key:∀{s t:S} {u:Value},VYS H1 (fun id=>G3 [] id=true) s t->RS w' ι' M' s u->RS w' (N5 [] ι') (a5R [] H1 ι' M') t u:=fun hs hu=>
  hs.rs hH' (fun b hb=>hb.1) (fun id k b cap size hp hk hd hi hb=>hb.2 ⟨id,k,cap,size,hp,hk,hd,hi⟩) hu
 cases h4 with
 |tup vs hl2 hr2=>
  refine .tup vs (by simpa using hl2) fun j s hj=>?_
  match j,hj with
  |0,hj=>injection hj with hj;subst hj;exact key hx (hr2 0 x rfl)
  |1,hj=>injection hj with hj;subst hj;exact key hy (hr2 1 y rfl)
set_option maxHeartbeats 8000000 in
theorem b78:b7 Tryz.prog 42 [evS (exW 23),.c (.t b3x)] [] (.tup [.c (.ptr 0 0 0),a8 .i64 0]) [b5w (.own 1 0 1 true) (.own 2 0 1 true) (.t (tb true)),b2S [pk1],b0b [Z1]]:=by
 have ck:=S1 (exW 23) (az1 23)
 rw [K2.1] at ck
 have ow:=b95 (exW 23) (az1 23)
 have ri:=b6c
 have cp:=b2C pk1 (by decide)
 have m1:([[R0 pk1]]:List (List T)).length=1:=rfl
 (refine ac Tryz.func42 ?_;(conv=>whnf);repeat ((first|refine b0x ?_|refine zy ?_);conv=>whnf))
 repeat' (first|refine zx ?_|refine qp ck ?_|refine qp ow ?_|refine zd ?_ ?_<;>intro h<;>try omega|fail)<;>conv=>whnf
 all_goals try omega
 refine f8 c7 (fun k=>([J,J,S.c (C.t (T.ptr (evT (exW 23)))),J,J,J,S.c (C.ptr 0 0 0)]++Jn 14++[S.c (C.t b3x),a8 .i64 1,a8 .i64 k]++Jn 35,[b5w (.own 1 0 k true) (.t (.sl 0 .nil [])) (.t (tb false)),b2S ([pk1].take k)])) 1 (fun _=>True) [some 0,none] trivial
  ⟨rfl,rfl,⟨⟨rfl,rfl,rfl,.inr ⟨⟨rfl,rfl,rfl,rfl,rfl,rfl,rfl,rfl,⟨rfl,rfl,rfl⟩,rfl,rfl,trivial⟩,trivial⟩⟩,⟨rfl,rfl⟩,trivial⟩,⟨rfl,⟨rfl,rfl,rfl⟩,rfl,rfl,rfl,trivial⟩⟩ ?_
 intro k hk _
 by_cases hlt:k<1
 ·have hk0:k=0:=by omega
  subst hk0
  conv=>whnf
  repeat' (first|refine zx ?_|refine qp ri ?_|refine qp cp ?_|refine qp x ?_|refine d7 (f:=fun x:T=>[x]) b8H ?_|refine y9 (Nat.zero_le _) (by decide) ?_|refine B4 _ (by decide +kernel) rfl ?_|refine zd ?_ ?_<;>intro h<;>try omega|fail)<;>conv=>whnf
  all_goals first
   |omega
   |exact ⟨by decide,trivial,[some 0,some 2],rfl,rfl,⟨⟨rfl,rfl,rfl,.inr ⟨⟨rfl,rfl,rfl,rfl,rfl,rfl,rfl,rfl,⟨rfl,rfl,rfl,fun h=>h⟩,rfl,rfl,trivial⟩,trivial⟩⟩,b8 (rows:=[[R0 pk1]]) rfl rfl rfl rfl rfl,trivial⟩,⟨rfl,⟨rfl,rfl,rfl⟩,rfl,rfl,c6 (by decide),trivial⟩⟩
 ·have hke:k=1:=by omega
  subst hke
  conv=>whnf
  repeat' (first|refine zx ?_|refine .inr ⟨_,_,b7t,?_⟩|refine B4 _ (by decide +kernel) rfl ?_|refine zd ?_ ?_<;>intro h<;>try omega|fail)<;>conv=>whnf
  all_goals first
   |omega
   |exact ⟨[some 0,some 1,some 2],rfl,rfl,⟨⟨rfl,rfl,rfl,.inr ⟨⟨rfl,rfl,rfl,rfl,rfl,rfl,rfl,rfl,⟨rfl,rfl,rfl,fun h=>h⟩,⟨rfl,rfl,rfl,fun h=>h⟩,rfl,trivial⟩,trivial⟩⟩,b8 (rows:=[[R0 pk1]]) rfl rfl rfl rfl rfl,b8 (rows:=[Z1]) rfl rfl rfl rfl rfl,trivial⟩,⟨⟨rfl,rfl,rfl⟩,rfl,trivial⟩⟩
theorem b7v {H:Hp} {p:Nat->Prop} {q b c:C} {q' b' c':T} (h1:VY H p q q') (h2:VY H p b b') (h3:VY H p c c'):VYL H p ((evT (exW 23)).map C.t++[q,b,c]) (aR8 q' b' c'):=
 ⟨a6G,a6G,a6G,a6G,a6G,a6G,a6G,a6G,h1,h2,h3,trivial⟩
theorem b93:b7 Tryz.prog 42 [evS (exW 23),.c (.t b3x)] [] (.tup [.c (.t (T.ptr (aR8 b3x b0O (tb true)))),a8 .i64 0]) []:=
 aQ0 b78 (a8D (r:=0) rfl rfl (fun h=>h) rfl (b7v (.vc (t8 (rows:=[[R0 pk1]]) rfl rfl (fun h=>h) rfl rfl rfl)) (.vc (t8 (rows:=[Z1]) rfl rfl (fun h=>h) rfl rfl rfl)) a6G)) a6G
open Go.RowKit Go.Shelf Go.Lib Go.Sort
def aw5 (l:List Int):List Int:=Lib.compact l++List.replicate (l.length - (Lib.compact l).length) 0
theorem b4W {l:List Int} (h:(Lib.compact l).length<=l.length):(aw5 l).length=l.length:=by simp [aw5];omega
set_option maxHeartbeats 4000000 in
theorem aj9 {P:Program} {ρ:Ren} (L:Lays2.n20 P ρ) (en:a8p P (ρ.f 20)) (l:List Int) (hl:l.length<=100000) (hcl:(Lib.compact l).length<=l.length):b7 P (ρ.f 20) [.c (.own 0 0 l.length true)] [n7 l] (.c (.own 0 0 (Lib.compact l).length true)) [n7 (aw5 l)]:=by
 refine ⟨en,fun w ι M vals hlen hv hH hMB hF=>?_⟩
 obtain ⟨x,rfl⟩:∃x,vals=[x]:=by
  match vals,hlen with
  |[x],_=>exact ⟨x,rfl⟩
 have hx:=hv 0 _ rfl
 simp only [lb5] at hx
 have hb0:∀l0,ι 0=some l0->G4 w ι M (n7 l) l0:=fun l0 h=>hH.blk 0 _ rfl (by intro h;cases h) _ h
 generalize hn:l.length=n at hx
 cases hx with
 |c hx=>
 cases hx with
 |nil hnil=>
  have hvs:l=[]:=lbF hn
  subst hvs
  clear hn
  refine (Any.slices_Compact_int_empty L _ _ w).mono ?_
  rintro e w' ⟨rfl,rfl⟩
  exact ⟨_,rfl,ι,M,.c (.nil hnil),hH,hMB,hF,rfl,rfl,rfl,lbQ _,fun _ _ _=>rfl,fun _ _=>rfl,fun _ h=>.inl h,fun _ h=>.inl h,fun _ h=>.inl h,lbQ _⟩
 |@own _ _ _ _ b cap size A cap' h0 h1 h2 h3 h4 h5=>
  subst hn
  obtain ⟨q1,q2,q3,q4,q5,cur,q6,q7,q8⟩:=hb0 _ h0
  have hs1:size=1:=q1.symm
  subst hs1
  obtain ⟨_,hA,hcap⟩:=h5 rfl
  subst hA
  have hle:l.length<=cap:=by omega
  have hblk:=B8 q6
  have hsz:l.length<=cur.size:=by rw [q7];omega
  have cell:∀i,i<l.length->cur[i]? =some (.int .i64 (l.getD i 0)):=fun i hi=>by
   obtain ⟨u,hu,hr⟩:=q8 i 0 (.t (ti (l.getD i 0))) (by
    unfold at2
    rw [show (n7 l).rows=toC (l.map e8) from rfl]
    simp [toC,hi,e8])
   rw [show i*1+0=i by omega] at hu
   rw [hu]
   cases hr with
   |t h=>cases h;rfl
  have hold:Holds (Value.int .i64) w b 0 l.toArray:=by
   intro j hj
   have hj':j<l.length:=by simpa using hj
   have e1:l.toArray[j]! =l.getD j 0:=by
    rw [getElem!_pos _ j hj,lbl,lbf hj'];simp
   rw [e1]
   refine ⟨?_,?_⟩
   ·show w.cell? ⟨b,0+j,none⟩=_
    simp only [World.cell?,q6,Nat.zero_add,cell j hj']
    rfl
   ·simp [World.frozen?,q6]
  refine (Any.slices_Compact_int L b 0 cap' l w hold (by omega) (by omega)).mono ?_
  rintro e w' ⟨rfl,n,rfl⟩
  rw [← grow_empty (putRow _ _ _ _ _)]
  refine ⟨_,rfl,a6q hH hMB hF h0 rfl rfl (a7E (Value.int .i64) w b 0 n _ #[]) ?_ (.c (.own h0 (by omega) (fun _=>rfl) (by omega) h4 (fun _=>⟨rfl,rfl,hcap⟩)))⟩
  have ml:=b4W hcl
  refine ⟨rfl,by decide,?_,q4,?_,_,ag4 (Value.int .i64) 0 n _ #[] q6,by rw [a8i,q7],?_⟩
  ·show (toC _).length<=cap;simp [toC,ml];omega
  ·intro r hr
   simp only [toC,List.map_map,lbx,Function.comp_def] at hr
   obtain ⟨x,_,rfl⟩:=hr
   rfl
  ·intro i j c hij
   unfold at2 at hij
   rw [show (n7 (aw5 l)).rows=toC ((aw5 l).map e8) from rfl] at hij
   simp only [toC,List.map_map,lba] at hij
   cases hk:(aw5 l)[i]? with
   |none=>rw [hk] at hij;cases hij
   |some v=>
    rw [hk] at hij
    have hi:=(lbe.1 hk).1
    rcases j with _|j
    ·simp [e8] at hij
     subst hij
     refine ⟨.int .i64 v,?_,.t (.atm rfl)⟩
     have h7:=aj3 (Value.int .i64) (off:=0) (d:=(aw5 l).toArray) (cur:=cur) (j:=i) (by simpa using hi) (by omega)
     rw [Nat.zero_add] at h7
     rw [show i*1+0=i by omega]
     have e2:(aw5 l).toArray[i]! =v:=by
      rw [getElem!_pos _ i (by simpa using hi)]
      have:=(lbe.1 hk).2
      simpa using this
     rw [e2] at h7
     exact h7
    ·simp [e8] at hij
theorem an8 {α:Type} {l:List α} {k:Nat} {x:α} (h:l[k]? =some x):l.take (k+1)=l.take k++[x]:=by
 rw [lbG,h];rfl
theorem aX2 (a b:List Int) (ha:a.length<=1000000) (hb:b.length<=1000000):b7 Tryz.prog 44 [g8 a,g8 b] [] (f7 (decide (a=b))) []:=by
 have l1:(a.map e8).length=a.length:=by simp
 have l2:(b.map e8).length=b.length:=by simp
 (refine ac Tryz.func44 ?_;(conv=>whnf);repeat (refine zy ?_;conv=>whnf))
 repeat' (first|refine zx ?_|refine zd ?_ ?_<;>intro h<;>try omega|fail)<;>conv=>whnf
 ·refine c9 (lbJ ?_).symm
  intro hab;subst hab;exact h rfl
 have hab:a.length=b.length:=by omega
 refine f8 c7 (fun k=>([g8 a,g8 b,J,J,J,a8 .i64 k]++Jn 20,[])) a.length (fun k=>a.take k=b.take k) [] rfl
  ⟨rfl,rfl,trivial,⟨i5 rfl,i5 rfl,c6 rfl,trivial⟩⟩ ?_
 intro k hk hI
 conv=>whnf
 repeat' (first|refine zx ?_|refine zd ?_ ?_<;>intro h<;>try omega|fail)<;>conv=>whnf
 ·have hlt:k<a.length:=by omega
  obtain ⟨x,hx⟩:∃x,a[k]? =some x:=⟨_,lbf hlt⟩
  obtain ⟨y,hy⟩:∃y,b[k]? =some y:=⟨_,lbf (by omega)⟩
  repeat' (first|refine zx ?_|refine d7 hx ?_|refine d7 hy ?_|refine zd ?_ ?_<;>intro h<;>try omega|fail)<;>conv=>whnf
  ·have hne:x≠y:=‹x≠y›
   refine c9 (lbJ ?_).symm
   intro hq;subst hq;rw [hx] at hy;injection hy with hy;exact hne hy
  ·have hxy:x=y:=by omega
   refine ⟨hlt,?_,[],rfl,rfl,trivial,⟨i5 rfl,i5 rfl,rfl,trivial⟩⟩
   rw [an8 hx,an8 hy,hI,hxy]
 ·refine c9 (lbH ?_).symm
  rw [lbn (by omega),lbn (by omega)] at hI
  exact hI
theorem b3V (l:List Int) (n:Int) (ha:l.length<=1000000):b7 Tryz.prog 240 [g8 l,a8 .i64 n] [] (a8 .i64 (if (l.any fun x=>decide (x=n)) then (l.findIdx fun x=>decide (x=n)) else -1)) []:=by
 have l1:(l.map e8).length=l.length:=by simp
 (refine ac Tryz.func240 ?_;(conv=>whnf);repeat (refine zy ?_;conv=>whnf))
 refine f8 c7 (fun k=>([g8 l,a8 .i64 n,J,J,J,J,g8 l,a8 .i64 l.length,a8 .i64 k]++Jn 10,[])) l.length (fun k=>(l.take k).any (fun x=>decide (x=n))=false) [] rfl
  ⟨rfl,rfl,trivial,⟨i5 rfl,rfl,i5 rfl,c6 (by simp),c6 rfl,trivial⟩⟩ ?_
 intro k hk hI
 conv=>whnf
 repeat' (first|refine zx ?_|refine zd ?_ ?_<;>intro h<;>try omega|fail)<;>conv=>whnf
 ·have hlt:k<l.length:=by omega
  obtain ⟨x,hx⟩:∃x,l[k]? =some x:=⟨_,lbf hlt⟩
  have hxg:l[k]=x:=(lbe.1 hx).2
  repeat' (first|refine zx ?_|refine d7 hx ?_|refine zd ?_ ?_<;>intro h<;>try omega|fail)<;>conv=>whnf
  ·have hxn:x=n:=by omega
   refine v8 ?_
   rw [if_pos (a6j hx (by simpa using hxn)),(List.findIdx_eq hlt).2 ⟨by simp [hxg,hxn],fun j hj=>?_⟩]
   rw [List.any_eq_false] at hI
   have:=hI l[j] (List.mem_take_iff_getElem.2 ⟨j,by omega,rfl⟩)
   simpa using this
  ·have hne:¬x=n:=by omega
   refine ⟨hlt,?_,[],rfl,rfl,trivial,⟨rfl,rfl,rfl,rfl,rfl,trivial⟩⟩
   rw [a2F hx,hI]
   simpa using hne
 ·refine v8 ?_
  rw [lbn (by omega)] at hI
  rw [hI];rfl
theorem a93 (l:List Int) (n:Int) (ha:l.length<=1000000):b7 Tryz.prog 185 [g8 l,a8 .i64 n] [] (f7 (l.any fun x=>decide (x=n))) []:=by
 (refine ac Tryz.func185 ?_;(conv=>whnf);repeat (refine zy ?_;conv=>whnf))
 repeat' (first|refine zx ?_|refine qp (b3V _ _ ha) ?_|refine zd ?_ ?_<;>intro h<;>try omega|fail)<;>conv=>whnf
 all_goals
  refine c9 ?_
  cases hb:(l.any fun x=>decide (x=n)) with
  |true=>simp_all
  |false=>simp_all
noncomputable def a2T (s:g6) (Y:List Rat):g6:=⟨s.n,s.rows.mapIdx fun i w=>if yN Y i=0 then ⟨[],2,0⟩ else w⟩
theorem a7f {s:g6} {Y:List Rat} {i:Nat}:(a2T s Y).rows[i]? =(s.rows[i]?).map fun w=>if yN Y i=0 then ⟨[],2,0⟩ else w:=by
 unfold a2T
 rw [List.getElem?_mapIdx]
theorem ad1 {s:g6} {Y:List Rat}:(a2T s Y).rows.length=s.rows.length:=by unfold a2T;simp
theorem aR4 {s:g6} {Y:List Rat} (h:i9 s=true):i9 (a2T s Y)=true:=by
 unfold i9 at h ⊢
 simp only [lbM,lbI] at h ⊢
 refine ⟨⟨h.1.1,by rw [ad1];exact h.1.2⟩,?_⟩
 rw [lbv] at h ⊢
 intro w hw
 obtain ⟨i,hi⟩:=List.getElem?_of_mem hw
 rw [a7f] at hi
 obtain ⟨x,hx,rfl⟩:=Option.map_eq_some_iff.1 hi
 have:=h.2 x (lbm hx)
 split
 ·rfl
 ·exact this
theorem aa0 {s:g6} {Y:List Rat} (i:Nat):(∀ l,yN Y i*C6 (p9 (a2T s Y) i).terms l=yN Y i*C6 (p9 s i).terms l)∧yN Y i*(p9 (a2T s Y) i).value=yN Y i*(p9 s i).value:=by
 unfold p9
 rw [lbl,lbl,a7f]
 cases s.rows[i]? with
 |none=>exact ⟨fun _=>rfl,rfl⟩
 |some w=>
  by_cases h:yN Y i=0
  ·exact ⟨fun l=>by rw [h];grind,by rw [h];grind⟩
  ·simp only [Option.map_some,Option.getD_some]
   rw [if_neg h];exact ⟨fun _=>rfl,rfl⟩
theorem b31 {s:g6} {Y:List Rat} (hr:i9 s=true) (h:aV4 s Y=true) (z:List Rat):i4 (a2T s Y) z=false:=by
 cases hz:i4 (a2T s Y) z with
 |false=>rfl
 |true=>
  exfalso
  unfold aV4 at h
  rw [lbM,lbI] at h
  have hl:=b8d hr h.1
  have hn:(a2T s Y).n=s.n:=rfl
  have hL:b33 (a2T s Y) (C6 []) (yN Y) (a5I s (yN Y)):=by
   refine ⟨fun i w hw=>?_,fun l hl2=>?_,?_⟩
   ·rw [a7f] at hw
    obtain ⟨x,hx,rfl⟩:=Option.map_eq_some_iff.1 hw
    have:=hl.sign i x hx
    split
    ·exact ⟨fun e=>absurd e (show ¬(2:Int)=0 by decide),fun e=>absurd e (show ¬(2:Int)=1 by decide)⟩
    ·exact this
   ·have e:N0 (a2T s Y) (yN Y) l=N0 s (yN Y) l:=by
     unfold N0
     rw [ad1]
     exact d9 fun i _=>(aa0 i).1 l
    rw [e];exact hl.mix l hl2
   ·unfold a5I
    rw [ad1]
    exact d9 fun i _=>(aa0 i).2
  have hb:=b1Q (g:=[]) hL hz
  rw [s7 fun j hj=>by show (0:Rat)*_=0;grind] at hb
  have:=h.2
  grind
def ptW (c:Nat):List Rat:=if c=1 then [25,25] else if c=2 then [20,25] else [20,20]
def b2G (i:Nat):k7:=(wR 23 27).getD i ⟨[],2,0⟩
theorem wRow_holds:∀c,c<4->1<=c->∀i,i<5->i≠c->G1 (b2G i) (ptW c)=true:=by decide +kernel
theorem av2:∀i,i<5->s6 2 (b2G i)=true:=by decide +kernel
def P8 (L:List Nat):g6:=⟨2,L.map b2G⟩
theorem a4g {L:List Nat} (h:∀i ∈ L,i<5) (hl:L.length<=5):i9 (P8 L)=true:=by
 unfold i9
 simp only [lbM,lbI]
 refine ⟨⟨⟨show (0:Int)<=2 by decide,show (2:Int)<=1500 by decide⟩,by show (L.map b2G).length<=6000;rw [lbr];omega⟩,?_⟩
 rw [lbv]
 intro w hw
 obtain ⟨i,hi,rfl⟩:=lbx.1 hw
 exact av2 i (h i hi)
theorem b5K {L:List Nat} (h:∀i ∈ L,i<5) (hl:L.length<=5) {Y:List Rat} (hY:aV4 (P8 L) Y=true) {c:Nat} (c0:1<=c) (c1:c<4):∃k:Nat,L[k]? =some c∧yN Y k≠0:=by
 apply aL1
 intro hno
 have hz:i4 (a2T (P8 L) Y) (ptW c)=true:=by
  refine N2.2 ⟨aR4 (a4g h hl),?_,?_,fun w hw=>aN0.1 ?_⟩
  ·show ((ptW c).length:Int)=2;unfold ptW;split
   ·rfl
   ·split<;>rfl
  ·have:∀c,c<4->1<=c->∀v ∈ ptW c,0<=v:=by decide +kernel
   exact this c c1 c0
  ·obtain ⟨k,hk⟩:=List.getElem?_of_mem hw
   rw [a7f] at hk
   obtain ⟨x,hx,rfl⟩:=Option.map_eq_some_iff.1 hk
   have hx2:((L.map b2G)[k]?)=some x:=hx
   rw [lba] at hx2
   obtain ⟨i,hi,rfl⟩:=Option.map_eq_some_iff.1 hx2
   split
   ·have:∀c,c<4->1<=c->G1 ⟨[],2,0⟩ (ptW c)=true:=by decide +kernel
    exact this c c1 c0
   ·rename_i hy
    by_cases hic:i=c
    ·subst hic;exact absurd ⟨k,hi,hy⟩ hno
    ·exact wRow_holds c c1 c0 i (h i (lbm hi)) hic
 rw [b31 (a4g h hl) hY] at hz
 cases hz
theorem aB2 {L:List Nat} (h1:1 ∈ L) (h2:2 ∈ L) (h3:3 ∈ L) (z:List Rat):i4 (P8 L) z=false:=
 aL6 (lbx.2 ⟨1,h1,rfl⟩) (lbx.2 ⟨2,h2,rfl⟩) (lbx.2 ⟨3,h3,rfl⟩) z
theorem b8n:C3 (exW 25)=P8 [0,1,2,3,4]:=aq8
end Go.Proofs.YtaejgdbahjjncaaGreat
