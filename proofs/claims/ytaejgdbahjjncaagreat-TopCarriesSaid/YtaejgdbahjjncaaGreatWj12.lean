/- Part 12. -/
import Derived.Shelf.Slices.In.SortNone
import Derived.Shelf.Sort.Plain
import Derived.RangeFuncBox
import Derived.RangeFuncLeaves
import Derived.Shelf.Abstract
import Derived.Shelf.RegionOpen
import Derived.OwnWalkIn
import Derived.TacticsInMore
import Derived.LoopNIn
import Derived.LoopIn
import Derived.Maps.AppendAt
import Derived.Test.YtaejgdbahjjncaaGreatWj11
namespace Go.Proofs.YtaejgdbahjjncaaGreat
set_option linter.unusedVariables false
set_option linter.unusedSimpArgs false
set_option maxRecDepth 100000
set_option maxHeartbeats 8000000
open Go.RowKit
open St1 St2 St3 St4 St5 St6 St7 St8 StA StB
open Go.RowKit Go.Shelf Go.Lib Go.Sort
theorem b5k:b4w Tryz.prog 128:=fun x y a1 a2 a3 a4 b1 b2 b3 b4 W=>by
 have hcon:=fun W'=>Any.cmp_Compare_int b6d x y W'
 change ∀W',Calls Tryz.prog 129 _ _ _ at hcon
 generalize Lib.compareInt x y=r at hcon ⊢
 go_enter Tryz.func128,Tryz.ntmps128
 go_wp2_with (go_at_call 129;refine (hcon _).mono ?_;rintro e w' ⟨rfl,rfl⟩)
 go_ret
 exact ⟨rfl,0,_,by rw [alloc_eq_grow,alloc_eq_grow,grow_grow];rfl⟩
theorem b5H (vs:List Int) (hl:vs.length<=1000):a8 Tryz.prog 127 [.c (.own 0 0 vs.length true),.c (.t (.fn (Fn.func 128) []))] [E3 (q9 vs)] (.tup []) [E3 (q9 (y8 vs))]:=
 aF2 b28 b5c b1m ⟨_,Tryz.func127,rfl,by decide⟩ (enters_of Tryz.func128 (by kernel_rfl) rfl) b5k vs hl
theorem ah6:∀(l:List Int),a7l l=true↔∀i a b,l[i]? =some a->l[i+1]? =some b->a≠b
 |[]=>⟨fun _ i a b h=>by simp at h,fun _=>rfl⟩
 |[x]=>⟨fun _ i a b _ h=>by simp at h,fun _=>rfl⟩
 |x::y::r=>by
  have ih:=ah6 (y::r)
  unfold a7l
  rw [lbM,lbI,ih]
  constructor
  ·rintro ⟨h1,h2⟩ i a b ha hb
   cases i with
   |zero=>simp at ha hb;subst ha hb;exact h1
   |succ i=>exact h2 i a b (by simpa using ha) (by simpa using hb)
  ·intro h
   exact ⟨h 0 x y rfl rfl,fun i a b ha hb=>h (i+1) a b (by simpa using ha) (by simpa using hb)⟩
theorem aV8 (l:List (Int × Rat)):(E3 l).rows.length=l.length:=by simp [toC]
theorem aX3 (e:Ev) (hs:e.Sized) (ps:List E0) (hp:ps.length<=100):a8 Tryz.prog 56 [evS e,G7 ps] [] (.tup [j1 (y9 e ps),d9 (G4 e ps)]) []:=by
 have ck:=a0o e hs
 have i1:=H4 1 (by decide) (by decide)
 have m1:(ps.map E0.row).length=ps.length:=by simp
 have m2:(e.moves.map j5.row).length=e.moves.length:=by simp
 have s2:=hs.s2
 have nil:∀{H1:Hp},G4 e ps=false->Fin 0 (.tup [.c (.t (.sl 0 .nil [])),d9 false]) H1 (.tup [j1 (y9 e ps),d9 (G4 e ps)]) []:=fun {H1} hg=>by
  have:y9 e ps=[]:=by unfold y9;rw [hg];rfl
  rw [this,hg]
  exact j2 ⟨rfl,rfl,trivial⟩
 by_cases h0:p7 e=0
 ·rw [h0] at ck
  have hb:=F2 h0
  (refine ac Tryz.func56 ?_;(conv=>whnf);repeat ((first|refine b0x ?_|refine zy ?_);conv=>whnf))
  repeat' (first|refine zx ?_|refine qp ck ?_|refine zd ?_ ?_<;>intro h<;>try omega|fail)<;>conv=>whnf
  all_goals try omega
  refine g8 b9 (fun k=>([J,J,S.c (C.t (T.ptr (evT e))),J,J,J,S.c (C.own 0 0 k true),J,J,J,J,J,J,G7 ps,a7 .i64 ps.length,a7 .i64 k]++Jn 61,[E3 (q9 ((ps.take k).map (O5 e)))])) ps.length (fun k=>(ps.take k).all (a1u e)=true) [none] rfl
   ⟨rfl,rfl,⟨⟨rfl,rfl⟩,trivial⟩,⟨rfl,⟨rfl,rfl,rfl⟩,g9 rfl,c7 (by omega),c7 rfl,trivial⟩⟩ ?_
  intro k hk hI
  by_cases hlt:k<ps.length
  ·obtain ⟨p,hpk⟩:∃p,ps[k]? =some p:=⟨_,lbf hlt⟩
   have tk:ps.take (k+1)=ps.take k++[p]:=by rw [lbG,hpk];rfl
   have ek:(q9 ((ps.take k).map (O5 e))).length=k:=by simp [q9];omega
   cases hok:a1u e p with
   |false=>
    have hg:G4 e ps=false:=by
     unfold G4
     have:ps.all (a1u e)=false:=List.all_eq_false.2 ⟨p,lbm hpk,by rw [hok];decide⟩
     rw [this];simp
    have hno:¬(0<=p.mv∧p.mv<e.moves.length∧0<=p.mat∧p.mat<e.mats):=fun h=>by
     unfold a1u at hok
     simp [h.1,h.2.1,h.2.2.1,h.2.2.2] at hok
    conv=>whnf
    repeat' (first|refine zx ?_|refine f9 hpk ?_|refine zd ?_ ?_<;>intro h<;>try omega|fail)<;>conv=>whnf
    all_goals first
     |omega
     |exact nil hg
   |true=>
    have hyes:0<=p.mv∧p.mv<e.moves.length∧0<=p.mat∧p.mat<e.mats:=by
     unfold a1u at hok
     simpa [and_assoc] using hok
    have lA:k<=(E3 (q9 ((ps.take k).map (O5 e)))).rows.length:=by rw [aV8,ek];exact lbQ _
    have hm:0<=p.mv*e.mats∧p.mv*e.mats<=1000000*1000:=⟨lbZ (by omega) (by omega),a0P (by omega) (by omega) (by omega) (by omega)⟩
    have sn:q9 ((ps.take (k+1)).map (O5 e))=q9 ((ps.take k).map (O5 e))++[(p.mv*e.mats+p.mat,((1:Int):Rat))]:=by rw [tk];simp [q9,O5]
    conv=>whnf
    repeat' (first|refine zx ?_|refine qp i1 ?_|refine qp toC ?_|refine f9 hpk ?_|refine o6 lA (by simp [toC];omega) ?_|refine zd ?_ ?_<;>intro h<;>try omega|fail)<;>conv=>whnf
    all_goals first
     |omega
     |(refine ⟨hlt,by rw [tk,a3a,hI];simp [hok],[some 2],rfl,rfl,⟨b7 (rows:=(q9 ((ps.take (k+1)).map (O5 e))).map i8) rfl rfl rfl ?_ rfl,trivial⟩,⟨rfl,⟨rfl,rfl,rfl,fun h=>h⟩,rfl,rfl,c7 (by omega),trivial⟩⟩
       rw [sn]
       exact L0 (f:=i8) (x:=(p.mv*e.mats+p.mat,((1:Int):Rat))) ek.symm)
  ·have hke:k=ps.length:=by omega
   subst hke
   rw [lbn (lbQ _)] at hI ⊢
   have st:=b5H (ps.map (O5 e)) (by simp;omega)
   rw [lbr] at st
   have sl:(y8 (ps.map (O5 e))).length=ps.length:=by rw [V7,lbr]
   conv=>whnf
   repeat' (first|refine zx ?_|refine .inr ⟨_,_,st,?_⟩|refine zd ?_ ?_<;>intro h<;>try omega|fail)<;>conv=>whnf
   all_goals try omega
   refine g8 b9 (fun k=>(Jn 6++[S.c (C.own 0 0 ps.length true),J,J,a7 .i64 ((k:Int)+1)]++Jn 67,[E3 (q9 (y8 (ps.map (O5 e))))])) ps.length (fun k=>∀i a b,i<k->(y8 (ps.map (O5 e)))[i]? =some a->(y8 (ps.map (O5 e)))[i+1]? =some b->a≠b) [some 0] (fun i a b h=>by omega)
    ⟨rfl,rfl,⟨b7 rfl rfl rfl rfl rfl,trivial⟩,⟨⟨rfl,rfl,rfl,fun h=>h⟩,c7 (by omega),trivial⟩⟩ ?_
   intro k hk hK
   generalize hv:y8 (ps.map (O5 e))=v at *
   by_cases hlt:k+1<ps.length
   ·obtain ⟨a,ha⟩:∃a,v[k]? =some a:=⟨_,lbf (by omega)⟩
    obtain ⟨b,hb2⟩:∃b,v[k+1]? =some b:=⟨_,lbf (by omega)⟩
    have ga:(q9 v)[k]? =some (a,((1:Int):Rat)):=by simp [q9,ha]
    have gb:(q9 v)[k+1]? =some (b,((1:Int):Rat)):=by simp [q9,hb2]
    by_cases hab:a=b
    ·have hg:G4 e ps=false:=by
      unfold G4
      have:a7l v=false:=by
       cases h:a7l v with
       |false=>rfl
       |true=>exact absurd hab ((ah6 v).1 h k a b ha hb2)
      rw [hv,this];simp
     conv=>whnf
     repeat' (first|refine zx ?_|refine a6e (m:=k) (by omega) ga ?_|refine a6e (m:=k+1) (by omega) gb ?_|refine zd ?_ ?_<;>intro h<;>try omega|fail)<;>conv=>whnf
     all_goals first
      |omega
      |exact nil hg
    ·conv=>whnf
     repeat' (first|refine zx ?_|refine a6e (m:=k) (by omega) ga ?_|refine a6e (m:=k+1) (by omega) gb ?_|refine zd ?_ ?_<;>intro h<;>try omega|fail)<;>conv=>whnf
     all_goals first
      |omega
      |(refine ⟨by omega,fun i x y hi hx hy=>?_,[some 0],rfl,rfl,⟨b7 rfl rfl rfl rfl rfl,trivial⟩,⟨⟨rfl,rfl,rfl,fun h=>h⟩,c7 (by omega),trivial⟩⟩
        rcases K4 i k with h|h
        ·exact hK i x y h hx hy
        ·have:i=k:=by omega
         subst this
         rw [ha] at hx;rw [hb2] at hy;injection hx with hx;injection hy with hy
         rw [← hx,←hy];exact hab)
   ·have hg:G4 e ps=true:=by
     unfold G4
     rw [lbH h0,hI,hv,N9,N9,ah6]
     intro i a b ha hb2
     refine hK i a b ?_ ha hb2
     have:=(lbe.1 hb2).1
     omega
    have ht:y9 e ps=q9 v:=by unfold y9;rw [if_pos hg,hv]
    rw [hg,ht]
    conv=>whnf
    repeat' (first|refine zx ?_|refine zd ?_ ?_<;>intro h<;>try omega|fail)<;>conv=>whnf
    all_goals first
     |omega
     |exact j2 ⟨show VC _ (fun id=>E6 [] id=true) _ _ from p4 rfl rfl (by intro h;cases h) rfl rfl (by simp [q9];omega),rfl,trivial⟩
 ·have hg:G4 e ps=false:=by unfold G4;rw [lbJ h0];rfl
  (refine ac Tryz.func56 ?_;(conv=>whnf);repeat ((first|refine b0x ?_|refine zy ?_);conv=>whnf))
  repeat' (first|refine zx ?_|refine qp ck ?_|refine zd ?_ ?_<;>intro h<;>try omega|fail)<;>conv=>whnf
  all_goals first
   |omega
   |exact nil hg
def a3t (o:OrP):List T:=[ti o.kind,ti o.mv,ti o.mat,ti o.idx]
abbrev orS (o:OrP):S:=.agg ((a3t o).map .t)
abbrev a0X (l:List (Int × Rat)):Blk:={ mode:=.live,elem:=129,size:=5,rows:=toC (l.map i8),box:=false }
abbrev rB (l:List (j6 × OrP)):Blk:={ mode:=.live,elem:=192,size:=6,rows:=toC (l.map fun w=>C0 w.1),box:=false }
abbrev oB (l:List (j6 × OrP)):Blk:={ mode:=.live,elem:=114,size:=4,rows:=toC (l.map fun w=>a3t w.2),box:=false }
def b4y (e:Ev) (r o n:Nat):List C:=[.t (ti e.mats),.t (ti e.hhs),.t (ti e.scs),.t (a1W e.places),.t (P8 e.moves),.t (a0G e.certs),.t (M5 e.recalls),.t (R0 e.purities),.own r 0 n true,.own o 0 n true]
abbrev mkB (e:Ev) (r o n:Nat):Blk:={ mode:=.live,elem:=123,size:=10,rows:=[b4y e r o n],box:=true }
abbrev az1 (el:TypeId) (size:Nat):Blk:=⟨.dead,el,size,[],false,false⟩
abbrev aJ1:Blk:=az1 192 6
abbrev aO4:Blk:=az1 114 4
abbrev hp0 (e:Ev) (L:List (j6 × OrP)):Hp:=[mkB e 1 2 L.length,rB L,oB L]
abbrev hp1 (e:Ev) (L:List (j6 × OrP)):Hp:=[mkB e 3 4 L.length,aJ1,aO4,rB L,oB L]
abbrev b47 (k:Blk):Blk:={ k with mode:=.old }
abbrev hpO (e:Ev) (L:List (j6 × OrP)):Hp:=[b47 (mkB e 1 2 L.length),b47 (rB L),b47 (oB L)]
theorem a9x {α:Type} {f:α->List T} {l:List α} {x:α} {n:Nat} (h:n=l.length):List.take n (toC (l.map f))++toC [f x]=toC ((l++[x]).map f):=by
 rw [lbn (by simp [toC,h])]
 simp [toC]
theorem b6B (e:Ev) (L:List (j6 × OrP)) (hL:L.length<=1000000) (l:List (Int × Rat)) (kind:Int) (v:Rat) (o:OrP):
 a8 Tryz.prog 193 [.c (.ptr 0 0 0),.c (.t (a2c l)),a7 .i64 kind,frS (fz v),orS o] (hp0 e L) (.tup []) (hp1 e (L++[(⟨l,kind,v⟩,o)])):=by
 have lA:L.length<=(rB L).rows.length:=by show _<=(toC _).length;simp [toC]
 have lB:L.length<=(oB L).rows.length:=by show _<=(toC _).length;simp [toC]
 have lC:(L.length+1)*97<=140737488355328:=by omega
 have lD:(L.length+1)*33<=140737488355328:=by omega
 (refine ac Tryz.func193 ?_;(conv=>whnf);repeat ((first|refine b0x ?_|refine zy ?_);conv=>whnf))
 repeat' (first|refine zx ?_|refine qp 0 ?_|refine o6 lA lC ?_|refine o6 lB lD ?_|refine bl0 [0] ?_|refine zd ?_ ?_<;>intro h<;>try omega|fail)<;>conv=>whnf
 refine ⟨⟨[some 0,some 1,some 2,some 3,some 4],rfl,rfl,⟨⟨rfl,rfl,rfl,.inr ⟨⟨rfl,rfl,rfl,rfl,rfl,rfl,rfl,rfl,⟨rfl,rfl,?_,fun h=>h⟩,⟨rfl,rfl,?_,fun h=>h⟩,trivial⟩,trivial⟩⟩,⟨rfl,rfl,rfl,.inl ⟨rfl,by simp [C9]⟩⟩,⟨rfl,rfl,rfl,.inl ⟨rfl,by simp [C9]⟩⟩,b7 rfl rfl rfl ?_ rfl,b7 rfl rfl rfl ?_ rfl,trivial⟩,trivial⟩⟩
 ·simp [toC]
 ·simp [toC]
 ·exact a9x (f:=fun w:j6 × OrP=>C0 w.1) (x:=(⟨l,kind,v⟩,o)) rfl
 ·exact a9x (f:=fun w:j6 × OrP=>a3t w.2) (x:=(⟨l,kind,v⟩,o)) rfl
theorem J4 {ρ:List (Option Nat)} {H:Hp} {k:Blk} {rows:List (List T)} (hm:k.mode=.old) (h:k.rows=toC rows):a2f ρ H k k:=⟨by unfold a26;rw [hm],rfl,rfl,.inl ⟨rfl,h ▸ c6 rows⟩⟩
theorem a1k {e:Ev} {L:List (j6 × OrP)} {R:Hp} {ρ:List (Option Nat)}:a2f (some 0::some 1::some 2::ρ) (hpO e L++R) (b47 (mkB e 1 2 L.length)) (b47 (mkB e 1 2 L.length)):=⟨rfl,rfl,rfl,.inr ⟨⟨rfl,rfl,rfl,rfl,rfl,rfl,rfl,rfl,⟨rfl,rfl,rfl,fun h=>h⟩,⟨rfl,rfl,rfl,fun h=>h⟩,trivial⟩,trivial⟩⟩
theorem b5D (e:Ev) (L:List (j6 × OrP)) (i m:Nat) (h0:0<=(i:Int)*e.mats) (h1:(i:Int)*e.mats<=1000000) (hm:m<=1000000):
 a8 Tryz.prog 192 [.c (.ptr 0 0 0),a7 .i64 i,a7 .i64 m] (hpO e L) (a7 .i64 (M8 e i m)) (hpO e L):=by
 (refine ac Tryz.func192 ?_;(conv=>whnf);repeat ((first|refine b0x ?_|refine zy ?_);conv=>whnf))
 repeat' (first|refine zx ?_|refine zd ?_ ?_<;>intro h<;>try omega|fail)<;>conv=>whnf
 exact ⟨⟨[some 0,some 1,some 2],rfl,rfl,⟨a1k (R:=[]),J4 rfl rfl,J4 rfl rfl,trivial⟩,rfl⟩⟩
theorem a6k {H:Hp} {e:Ev} {L:List (j6 × OrP)} {r o:Nat} {k0 k1 k2:Blk} (hk0:H[0]? =some k0) (hk1:H[r]? =some k1) (hk2:H[o]? =some k2) (e0:k0.mode≠.dead∧k0.elem=(mkB e r o L.length).elem∧k0.size=10∧k0.rows=[b4y e r o L.length])
 (e1:k1.mode≠.dead∧k1.elem=(rB L).elem∧k1.size=6∧k1.rows=(rB L).rows) (e2:k2.mode≠.dead∧k2.elem=(oB L).elem∧k2.size=4∧k2.rows=(oB L).rows) (i m:Nat) (h0:0<=(i:Int)*e.mats) (h1:(i:Int)*e.mats<=1000000) (hm:m<=1000000):
 R2 Tryz.prog 192 [.c (.ptr 0 0 0),a7 .i64 i,a7 .i64 m] H (a7 .i64 (M8 e i m)) []:=by
 refine ae6 [0,r,o] (b5D e L i m h0 h1 hm) rfl rfl rfl ?_ rfl
 intro j k hk
 match j,hk with
 |0,hk=>
  injection hk with hk
  subst hk
  exact ⟨rfl,by intro r hr;simp at hr;subst hr;rfl,k0,hk0,e0.1,e0.2.1,e0.2.2.1,e0.2.2.2⟩
 |1,hk=>
  injection hk with hk
  subst hk
  exact ⟨rfl,I5 _,k1,hk1,e1.1,e1.2.1,e1.2.2.1,e1.2.2.2.trans (a3F _).symm⟩
 |2,hk=>
  injection hk with hk
  subst hk
  exact ⟨rfl,I5 _,k2,hk2,e2.1,e2.2.1,e2.2.2.1,e2.2.2.2.trans (a3F _).symm⟩
theorem a06 {l:List (Int × Rat)} {w:Int × Rat} {n:Nat} (h:n=l.length):List.take n (toC (l.map i8))++toC [i8 w]=toC ((l++[w]).map i8):=a9x h
theorem b0R {e:Ev} {i:Nat} {b own more:Int}:∀n,(a2o e i b own more n).length<=n
 |0=>by simp [a2o]
 |n+1=>by
  have ih:=b0R (e:=e) (i:=i) (b:=b) (own:=own) (more:=more) n
  unfold a2o
  split
  ·simp;omega
  ·omega
theorem b5A (e:Ev) (L:List (j6 × OrP)) (hm0:0<=e.mats) (hm6:e.mats<=6) (i:Nat) (hi:i<=1000) (b own more:Int) (hb:-100000<=b∧b<=100000) (hr:-100000<=more∧more<=100000):
 a8 Tryz.prog 194 [.c (.ptr 0 0 0),a7 .i64 i,a7 .i64 b,a7 .i64 own,a7 .i64 more] (hpO e L) (.c (.t (a2c (a08 e i b own more)))) (hpO e L):=by
 have h0:0<=(i:Int)*e.mats:=lbZ (by omega) hm0
 have h1:(i:Int)*e.mats<=1000*6:=a0P (by omega) hm6 hm0 (by decide)
 (refine ac Tryz.func194 ?_;(conv=>whnf);repeat ((first|refine b0x ?_|refine zy ?_);conv=>whnf))
 repeat' (first|refine zx ?_|refine zd ?_ ?_<;>intro h<;>try omega|fail)<;>conv=>whnf
 refine g8 b9 (fun k=>([S.c (C.ptr 0 0 0),a7 .i64 i,a7 .i64 b,a7 .i64 own,a7 .i64 more,J,J,J,J,J,J,S.c (C.own 3 0 (a2o e i b own more k).length true),J,J,J,J,J,J,a7 .i64 e.mats,a7 .i64 k]++Jn 23,hpO e L++[a0X (a2o e i b own more k)])) e.mats.toNat (fun _=>True) [some 0,some 1,some 2,none] trivial
  ⟨rfl,rfl,⟨a1k (R:=[]),J4 rfl rfl,J4 rfl rfl,⟨rfl,rfl⟩,trivial⟩,⟨⟨rfl,rfl,rfl⟩,rfl,rfl,rfl,rfl,⟨rfl,rfl,rfl⟩,rfl,rfl,trivial⟩⟩ ?_
 intro k hk _
 have lk:=b0R (e:=e) (i:=i) (b:=b) (own:=own) (more:=more) k
 by_cases hlt:k<e.mats.toNat
 ·have vq:=a6k (H:=hpO e L++[a0X (a2o e i b own more k)]) (e:=e) (L:=L) (r:=1) (o:=2) rfl rfl rfl ⟨(by intro h;cases h),rfl,rfl,rfl⟩ ⟨(by intro h;cases h),rfl,rfl,rfl⟩ ⟨(by intro h;cases h),rfl,rfl,rfl⟩ i k h0 (by omega) (by omega)
  have lA:(a2o e i b own more k).length<=(a0X (a2o e i b own more k)).rows.length:=by show _<=(toC _).length;simp [toC]
  have lC:((a2o e i b own more k).length+1)*73<=140737488355328:=by omega
  have eT:a2o e i b own more (k+1)=if a4i b own more k≠0 then a2o e i b own more k++[(M8 e i k,((a4i b own more k:Int):Rat))] else a2o e i b own more k:=rfl
  by_cases c1:(k:Int)=own
  ·have ec:a4i b own more k=b+more:=by unfold a4i;rw [if_pos c1]
   rw [ec] at eT
   have ig:=H4 (b+more) (by omega) (by omega)
   by_cases c2:b+more≠0
   ·rw [if_pos c2] at eT
    conv=>whnf
    repeat' (first|refine zx ?_|refine qp ig ?_|refine .inl ⟨_,_,vq,?_⟩|refine o6 lA lC ?_|refine zd ?_ ?_<;>intro h<;>try omega|fail)<;>conv=>whnf
    all_goals try omega
    refine ⟨hlt,trivial,[some 0,some 1,some 2,some 4],rfl,rfl,⟨a1k,J4 rfl rfl,J4 rfl rfl,b7 rfl rfl rfl ?_ rfl,trivial⟩,⟨⟨rfl,rfl,rfl⟩,rfl,rfl,rfl,rfl,⟨rfl,rfl,?_,fun h=>h⟩,rfl,rfl,trivial⟩⟩
    ·rw [eT];exact a06 (w:=(M8 e i k,((b+more:Int):Rat))) rfl
    ·rw [eT];simp [toC]
   ·rw [if_neg c2] at eT
    conv=>whnf
    repeat' (first|refine zx ?_|refine zd ?_ ?_<;>intro h<;>try omega|fail)<;>conv=>whnf
    all_goals try omega
    refine ⟨hlt,trivial,[some 0,some 1,some 2,some 3],rfl,rfl,⟨a1k,J4 rfl rfl,J4 rfl rfl,b7 rfl rfl rfl ?_ rfl,trivial⟩,⟨⟨rfl,rfl,rfl⟩,rfl,rfl,rfl,rfl,⟨rfl,rfl,?_,fun h=>h⟩,rfl,rfl,trivial⟩⟩
    ·rw [eT]
    ·rw [eT]
  ·have ec:a4i b own more k=b:=by unfold a4i;rw [if_neg c1]
   rw [ec] at eT
   have ig:=H4 b (by omega) (by omega)
   by_cases c2:b≠0
   ·rw [if_pos c2] at eT
    conv=>whnf
    repeat' (first|refine zx ?_|refine qp ig ?_|refine .inl ⟨_,_,vq,?_⟩|refine o6 lA lC ?_|refine zd ?_ ?_<;>intro h<;>try omega|fail)<;>conv=>whnf
    all_goals try omega
    refine ⟨hlt,trivial,[some 0,some 1,some 2,some 4],rfl,rfl,⟨a1k,J4 rfl rfl,J4 rfl rfl,b7 rfl rfl rfl ?_ rfl,trivial⟩,⟨⟨rfl,rfl,rfl⟩,rfl,rfl,rfl,rfl,⟨rfl,rfl,?_,fun h=>h⟩,rfl,rfl,trivial⟩⟩
    ·rw [eT];exact a06 (w:=(M8 e i k,((b:Int):Rat))) rfl
    ·rw [eT];simp [toC]
   ·rw [if_neg c2] at eT
    conv=>whnf
    repeat' (first|refine zx ?_|refine zd ?_ ?_<;>intro h<;>try omega|fail)<;>conv=>whnf
    all_goals try omega
    refine ⟨hlt,trivial,[some 0,some 1,some 2,some 3],rfl,rfl,⟨a1k,J4 rfl rfl,J4 rfl rfl,b7 rfl rfl rfl ?_ rfl,trivial⟩,⟨⟨rfl,rfl,rfl⟩,rfl,rfl,rfl,rfl,⟨rfl,rfl,?_,fun h=>h⟩,rfl,rfl,trivial⟩⟩
    ·rw [eT]
    ·rw [eT]
 ·have hke:k=e.mats.toNat:=by omega
  subst hke
  conv=>whnf
  repeat' (first|refine zx ?_|refine zd ?_ ?_<;>intro h<;>try omega|fail)<;>conv=>whnf
  all_goals try omega
  exact ⟨⟨[some 0,some 1,some 2],rfl,rfl,⟨a1k,J4 rfl rfl,J4 rfl rfl,trivial⟩,show VC _ (fun id=>E6 [some 0,some 1,some 2] id=true) _ _ from p4 rfl rfl (by intro h;cases h) rfl rfl (by rw [lbr];rfl)⟩⟩
theorem a4T {H:Hp} {e:Ev} {L:List (j6 × OrP)} {r o:Nat} {k0 k1 k2:Blk} (hk0:H[0]? =some k0) (hk1:H[r]? =some k1) (hk2:H[o]? =some k2) (e0:k0.mode≠.dead∧k0.elem=(mkB e r o L.length).elem∧k0.size=10∧k0.rows=[b4y e r o L.length])
 (e1:k1.mode≠.dead∧k1.elem=(rB L).elem∧k1.size=6∧k1.rows=(rB L).rows) (e2:k2.mode≠.dead∧k2.elem=(oB L).elem∧k2.size=4∧k2.rows=(oB L).rows)
 (hm0:0<=e.mats) (hm6:e.mats<=6) (i:Nat) (hi:i<=1000) (b own more:Int) (hb:-100000<=b∧b<=100000) (hr:-100000<=more∧more<=100000):
 R2 Tryz.prog 194 [.c (.ptr 0 0 0),a7 .i64 i,a7 .i64 b,a7 .i64 own,a7 .i64 more] H (.c (.t (a2c (a08 e i b own more)))) []:=by
 refine ae6 [0,r,o] (b5A e L hm0 hm6 i hi b own more hb hr) rfl rfl rfl ?_ rfl
 intro j k hk
 match j,hk with
 |0,hk=>
  injection hk with hk
  subst hk
  exact ⟨rfl,by intro r hr;simp at hr;subst hr;rfl,k0,hk0,e0.1,e0.2.1,e0.2.2.1,e0.2.2.2⟩
 |1,hk=>
  injection hk with hk
  subst hk
  exact ⟨rfl,I5 _,k1,hk1,e1.1,e1.2.1,e1.2.2.1,e1.2.2.2.trans (a3F _).symm⟩
 |2,hk=>
  injection hk with hk
  subst hk
  exact ⟨rfl,I5 _,k2,hk2,e2.1,e2.2.1,e2.2.2.1,e2.2.2.2.trans (a3F _).symm⟩
abbrev mvB (x:j5):Blk:={ mode:=.live,elem:=45,size:=6,rows:=[x.row.map .t],box:=true }
theorem H9 (x:j5):C9 [x.row.map C.t]:=by simp [C9,j5.row,C.isT]
theorem a3P {H:Hp} {e:Ev} {L:List (j6 × OrP)} {r o n:Nat} {rs os:List (List C)} (hs:H[0]? =some (mkB e r o n)) (h1:H[r]? =some { mode:=.live,elem:=192,size:=6,rows:=rs,box:=false })
 (h2:H[o]? =some { mode:=.live,elem:=114,size:=4,rows:=os,box:=false }) (hn:n=L.length) (hrs:rs=toC (L.map fun w=>C0 w.1)) (hos:os=toC (L.map fun w=>a3t w.2)) (hr0:r≠0) (ho0:o≠0) (hro:r≠o) (hL:L.length<=1000000)
 (l:List (Int × Rat)) (kind:Int) (v:Rat) (p:OrP):
 a8 Tryz.prog 193 [.c (.ptr 0 0 0),.c (.t (a2c l)),a7 .i64 kind,frS (fz v),orS p] H (.tup [])
  ((((H.set 0 (mkB e H.length (H.length+1) (L++[((⟨l,kind,v⟩:j6),p)]).length)).set r aJ1).set o aO4)++[rB (L++[((⟨l,kind,v⟩:j6),p)]),oB (L++[((⟨l,kind,v⟩:j6),p)])]):=by
 subst hn hrs hos
 have g0:0<H.length:=(lbe.1 hs).1
 have g1:r<H.length:=(lbe.1 h1).1
 have g2:o<H.length:=(lbe.1 h2).1
 have ex:a3y [0,r,o] H.length 2=[0,r,o,H.length,H.length+1]:=by simp [a3y,a7U]
 refine N1 [0,r,o] (b6B e L hL l kind v p) rfl rfl rfl (by simp;omega) ?_ ?_ (by simp) rfl rfl (by simp) ?_ ?_
 ·intro i k hk
  match i,hk with
  |0,hk=>
   injection hk with hk
   subst hk
   exact ⟨rfl,rfl,by intro r hr;simp at hr;subst hr;rfl,_,hs,⟨rfl,rfl,rfl,rfl,rfl⟩⟩
  |1,hk=>
   injection hk with hk
   subst hk
   exact ⟨rfl,rfl,I5 _,_,h1,v8 rfl⟩
  |2,hk=>
   injection hk with hk
   subst hk
   exact ⟨rfl,rfl,I5 _,_,h2,v8 rfl⟩
 ·intro k hk
  simp at hk
  rcases hk with rfl|rfl|rfl|rfl|rfl<;>(intro h;cases h)
 ·intro i k hk
  show ∃k',_[(a3y [0,r,o] H.length 2).getD i 0]? =some k'∧av3 (a3y [0,r,o] H.length 2) k k'
  rw [ex]
  match i,hk with
  |0,hk=>
   injection hk with hk
   subst hk
   refine ⟨mkB e H.length (H.length+1) (L++[((⟨l,kind,v⟩:j6),p)]).length,?_,⟨rfl,rfl,rfl,rfl,rfl⟩⟩
   show (_++_)[0]? =_
   rw [lbb (by simp;omega),lbg,if_neg (by omega),lbg,if_neg (by omega),lbg,if_pos rfl,if_pos g0]
  |1,hk=>
   injection hk with hk
   subst hk
   refine ⟨aJ1,?_,⟨rfl,rfl,rfl,rfl,rfl⟩⟩
   show (_++_)[r]? =_
   rw [lbb (by simp;omega),lbg,if_neg (by omega),lbg,if_pos rfl,if_pos (by simp;omega)]
  |2,hk=>
   injection hk with hk
   subst hk
   refine ⟨aO4,?_,⟨rfl,rfl,rfl,rfl,rfl⟩⟩
   show (_++_)[o]? =_
   rw [lbb (by simp;omega),lbg,if_pos rfl,if_pos (by simp;omega)]
  |3,hk=>
   injection hk with hk
   subst hk
   refine ⟨rB (L++[((⟨l,kind,v⟩:j6),p)]),?_,v8 rfl⟩
   show (_++_)[H.length]? =_
   rw [lbc (by simp)]
   simp
  |4,hk=>
   injection hk with hk
   subst hk
   refine ⟨oB (L++[((⟨l,kind,v⟩:j6),p)]),?_,v8 rfl⟩
   show (_++_)[H.length+1]? =_
   rw [lbc (by simp)]
   simp
 ·intro j hj hjn
  simp at hjn
  rw [lbb (by simp;omega),lbg,if_neg (by omega),lbg,if_neg (by omega),lbg,if_neg (by omega)]
def hpM (e:Ev) (x:j5) (L:List (j6 × OrP)):Nat->Hp
 |0=>[mkB e 1 2 L.length,rB L,oB L,mvB x]
 |_+1=>[mkB e 4 5 L.length,aJ1,aO4,mvB x,rB L,oB L]
theorem a7W {e:Ev} {p:Int} {m:Nat}:∀k,(j9 e p m k).length<=k
 |0=>by simp [j9]
 |k+1=>by
  have ih:=a7W (e:=e) (p:=p) (m:=m) k
  unfold j9
  split
  ·omega
  ·split
   ·simp;omega
   ·split
    ·simp;omega
    ·omega
theorem W4 {e:Ev} {p:Int} {m k:Nat} {y:j5} (h:e.moves[k]? =some y):j9 e p m (k+1)=if y.src=p then j9 e p m k++[(M8 e k m,((-1:Int):Rat))] else if y.dst=p then j9 e p m k++[(M8 e k m,((1:Int):Rat))] else j9 e p m k:=by rw [j9,h]
theorem o5 {ρ:List (Option Nat)} {H:Hp} {el:TypeId} {size:Nat}:a2f ρ H (az1 el size) (az1 el size):=⟨rfl,rfl,rfl,.inl ⟨rfl,by simp [C9]⟩⟩
theorem b2w (e:Ev) (hm1:1<=e.mats) (hm6:e.mats<=6) (hl:e.moves.length<=220) {i:Nat} {x:j5} (hx:e.moves[i]? =some x) (L:List (j6 × OrP)) (hL:L.length<=100000):
 a8 Tryz.prog 121 [.c (.ptr 0 0 0),a7 .i64 i] (hp0 e L) (.tup []) (hp1 e (L++H6 e i x e.mats.toNat)):=by
 have hi:=(lbe.1 hx).1
 have m0:(e.moves.map j5.row).length=e.moves.length:=by simp
 have i0:=H4 0 (by decide) (by decide)
 have i1:=H4 1 (by decide) (by decide)
 have im:=H4 (-1) (by decide) (by decide)
 have tk:(e.moves.map j5.row).take (i+1)=(e.moves.take (i+1)).map j5.row:=(a7O ..).symm
 have tl:(e.moves.take (i+1)).length=i+1:=by simp;omega
 have mt:((e.moves.take (i+1)).map j5.row).length=i+1:=by simp;omega
 have hti:((i:Int)+1).toNat=i+1:=by omega
 let K:Int:=if x.all then 2 else 0
 cases hal:x.all
 case' false=>have hK:K=0:=by show (if x.all then (2:Int) else 0)=0;rw [hal];rfl
 case' true=>have hK:K=2:=by show (if x.all then (2:Int) else 0)=2;rw [hal];rfl
 all_goals
  (refine ac Tryz.func121 ?_;(conv=>whnf);repeat ((first|refine b0x ?_|refine zy ?_);conv=>whnf))
  repeat' (first|refine zx ?_|refine f9 hx ?_|refine zd ?_ ?_<;>intro h<;>try omega|fail)<;>conv=>whnf
  all_goals first
   |omega
   |(exfalso;simp_all;done)
   |skip
  refine g8 b9 (fun m=>([S.c (C.ptr 0 0 0),a7 .i64 i,J,J,S.c (C.ptr 3 0 0),a7 .i64 K]++Jn 19++[a7 .i64 e.mats,a7 .i64 m]++Jn 50,hpM e x (L++H6 e i x m) m)) e.mats.toNat (fun _=>True) [some 0,some 1,some 2,some 3] trivial ?_ ?_
  ·have e0:L++H6 e i x 0=L:=by simp [H6]
   show Ent _ _ _ _ _ (hpM e x (L++H6 e i x 0) 0)
   rw [e0,hK]
   exact ⟨rfl,rfl,⟨⟨rfl,rfl,rfl,.inr ⟨⟨rfl,rfl,rfl,rfl,rfl,rfl,rfl,rfl,⟨rfl,rfl,rfl,fun h=>h⟩,⟨rfl,rfl,rfl,fun h=>h⟩,trivial⟩,trivial⟩⟩,b7 rfl rfl rfl rfl rfl,b7 rfl rfl rfl rfl rfl,⟨rfl,rfl,rfl,.inl ⟨rfl,H9 x⟩⟩,trivial⟩,⟨⟨rfl,rfl,rfl⟩,rfl,⟨rfl,rfl,rfl⟩,rfl,rfl,rfl,trivial⟩⟩
  intro m hm _
  have sl:(L++H6 e i x m).length<=100006:=by simp [H6];omega
  by_cases hlt:m<e.mats.toNat
  ·have hst:L++H6 e i x (m+1)=(L++H6 e i x m)++[a2W e i x m]:=by simp [H6,a7U]
   obtain ⟨M,hM⟩:∃M,M=L++H6 e i x m:=⟨_,rfl⟩
   rw [← hM] at hst sl ⊢
   cases m with
   |zero=>
    conv=>whnf
    repeat' (first|refine zx ?_|refine T2 (by omega) (by omega) (by omega) ?_|refine zd ?_ ?_<;>intro h<;>try omega|fail)<;>conv=>whnf
    all_goals try omega
    refine aO2 ?_
    refine g8 b9 (fun k=>([S.c (C.ptr 0 0 0),a7 .i64 i,J,J,S.c (C.ptr 3 0 0),a7 .i64 K,a7 .i64 ((0:Nat):Int),S.c (C.own 4 0 (j9 e x.src 0 k).length true)]++Jn 17++[a7 .i64 e.mats,a7 .i64 ((0:Nat):Int),J,J,J,J,J,J,J,J,J,S.c (C.t (P8 (e.moves.take (i+1)))),a7 .i64 ((i+1:Nat):Int),a7 .i64 k]++Jn 38,hpM e x M 0++[a0X (j9 e x.src 0 k)])) (i+1) (fun _=>True) [some 0,some 1,some 2,some 3,none] trivial
     ⟨rfl,rfl,⟨⟨rfl,rfl,rfl,.inr ⟨⟨rfl,rfl,rfl,rfl,rfl,rfl,rfl,rfl,⟨rfl,rfl,rfl,fun h=>h⟩,⟨rfl,rfl,rfl,fun h=>h⟩,trivial⟩,trivial⟩⟩,⟨rfl,rfl,rfl,.inl ⟨rfl,c6 _⟩⟩,⟨rfl,rfl,rfl,.inl ⟨rfl,c6 _⟩⟩,⟨rfl,rfl,rfl,.inl ⟨rfl,H9 x⟩⟩,⟨rfl,rfl⟩,trivial⟩,⟨⟨rfl,rfl,rfl⟩,rfl,⟨rfl,rfl,rfl⟩,rfl,rfl,⟨rfl,rfl,rfl⟩,rfl,rfl,g9 ?_,c7 ?_,rfl,trivial⟩⟩ ?_
    ·show T.sl 6 _ (((e.moves.map j5.row).take ((i:Int)+1).toNat).drop 0)=_
     rw [hti,tk];rfl
    ·show ((((e.moves.map j5.row).take ((i:Int)+1).toNat).drop 0).length:Int)=((i+1:Nat):Int)
     rw [hti,tk,a6c,mt]
    intro k hk _
    have kl:=a7W (e:=e) (p:=x.src) (m:=0) k
    by_cases hkt:k<i+1
    ·obtain ⟨y,hy⟩:∃y,e.moves[k]? =some y:=⟨_,lbf (by omega)⟩
     have hyt:(e.moves.take (i+1))[k]? =some y:=by rw [lbi,if_pos hkt];exact hy
     have n0:0<=(k:Int)*e.mats:=lbZ (by omega) (by omega)
     have n1:(k:Int)*e.mats<=220*6:=a0P (by omega) hm6 (by omega) (by decide)
     have lA:(j9 e x.src 0 k).length<=(a0X (j9 e x.src 0 k)).rows.length:=by show _<=(toC _).length;simp [toC]
     have lC:((j9 e x.src 0 k).length+1)*73<=140737488355328:=by omega
     by_cases c1:y.src=x.src
     ·have et:j9 e x.src 0 (k+1)=j9 e x.src 0 k++[(M8 e k 0,((-1:Int):Rat))]:=by rw [W4 hy,if_pos c1]
      conv=>whnf
      have vq:=fun (R:Hp)=>a6k (H:=hpM e x M 0++R) (e:=e) (L:=M) (r:=1) (o:=2) rfl rfl rfl ⟨(by intro h;cases h),rfl,rfl,rfl⟩ ⟨(by intro h;cases h),rfl,rfl,rfl⟩ ⟨(by intro h;cases h),rfl,rfl,rfl⟩ k 0 n0 (by omega) (by omega)
      repeat' (first|refine zx ?_|refine qp i1 ?_|refine qp im ?_|refine f9 hyt ?_|refine .inl ⟨_,_,vq _,?_⟩|refine o6 lA lC ?_|refine zd ?_ ?_<;>intro h<;>try omega|fail)<;>conv=>whnf
      all_goals try omega
      refine ⟨hkt,trivial,[some 0,some 1,some 2,some 3,some 6],rfl,rfl,⟨⟨rfl,rfl,rfl,.inr ⟨⟨rfl,rfl,rfl,rfl,rfl,rfl,rfl,rfl,⟨rfl,rfl,rfl,fun h=>h⟩,⟨rfl,rfl,rfl,fun h=>h⟩,trivial⟩,trivial⟩⟩,⟨rfl,rfl,rfl,.inl ⟨rfl,c6 _⟩⟩,⟨rfl,rfl,rfl,.inl ⟨rfl,c6 _⟩⟩,⟨rfl,rfl,rfl,.inl ⟨rfl,H9 x⟩⟩,b7 rfl rfl rfl ?_ rfl,trivial⟩,⟨⟨rfl,rfl,rfl⟩,rfl,⟨rfl,rfl,rfl⟩,rfl,rfl,⟨rfl,rfl,?_,fun h=>h⟩,rfl,rfl,rfl,rfl,rfl,trivial⟩⟩
      ·rw [et];exact a06 (w:=(M8 e k 0,((-1:Int):Rat))) rfl
      ·rw [et];simp [toC]
     by_cases c2:y.dst=x.src
     ·have et:j9 e x.src 0 (k+1)=j9 e x.src 0 k++[(M8 e k 0,((1:Int):Rat))]:=by rw [W4 hy,if_neg c1,if_pos c2]
      conv=>whnf
      have vq:=fun (R:Hp)=>a6k (H:=hpM e x M 0++R) (e:=e) (L:=M) (r:=1) (o:=2) rfl rfl rfl ⟨(by intro h;cases h),rfl,rfl,rfl⟩ ⟨(by intro h;cases h),rfl,rfl,rfl⟩ ⟨(by intro h;cases h),rfl,rfl,rfl⟩ k 0 n0 (by omega) (by omega)
      repeat' (first|refine zx ?_|refine qp i1 ?_|refine qp im ?_|refine f9 hyt ?_|refine .inl ⟨_,_,vq _,?_⟩|refine o6 lA lC ?_|refine zd ?_ ?_<;>intro h<;>try omega|fail)<;>conv=>whnf
      all_goals try omega
      refine ⟨hkt,trivial,[some 0,some 1,some 2,some 3,some 6],rfl,rfl,⟨⟨rfl,rfl,rfl,.inr ⟨⟨rfl,rfl,rfl,rfl,rfl,rfl,rfl,rfl,⟨rfl,rfl,rfl,fun h=>h⟩,⟨rfl,rfl,rfl,fun h=>h⟩,trivial⟩,trivial⟩⟩,⟨rfl,rfl,rfl,.inl ⟨rfl,c6 _⟩⟩,⟨rfl,rfl,rfl,.inl ⟨rfl,c6 _⟩⟩,⟨rfl,rfl,rfl,.inl ⟨rfl,H9 x⟩⟩,b7 rfl rfl rfl ?_ rfl,trivial⟩,⟨⟨rfl,rfl,rfl⟩,rfl,⟨rfl,rfl,rfl⟩,rfl,rfl,⟨rfl,rfl,?_,fun h=>h⟩,rfl,rfl,rfl,rfl,rfl,trivial⟩⟩
      ·rw [et];exact a06 (w:=(M8 e k 0,((1:Int):Rat))) rfl
      ·rw [et];simp [toC]
     ·have et:j9 e x.src 0 (k+1)=j9 e x.src 0 k:=by rw [W4 hy,if_neg c1,if_neg c2]
      conv=>whnf
      repeat' (first|refine zx ?_|refine qp i1 ?_|refine qp im ?_|refine f9 hyt ?_|refine o6 lA lC ?_|refine zd ?_ ?_<;>intro h<;>try omega|fail)<;>conv=>whnf
      all_goals try omega
      refine ⟨hkt,trivial,[some 0,some 1,some 2,some 3,some 4],rfl,rfl,⟨⟨rfl,rfl,rfl,.inr ⟨⟨rfl,rfl,rfl,rfl,rfl,rfl,rfl,rfl,⟨rfl,rfl,rfl,fun h=>h⟩,⟨rfl,rfl,rfl,fun h=>h⟩,trivial⟩,trivial⟩⟩,⟨rfl,rfl,rfl,.inl ⟨rfl,c6 _⟩⟩,⟨rfl,rfl,rfl,.inl ⟨rfl,c6 _⟩⟩,⟨rfl,rfl,rfl,.inl ⟨rfl,H9 x⟩⟩,b7 rfl rfl rfl ?_ rfl,trivial⟩,⟨⟨rfl,rfl,rfl⟩,rfl,⟨rfl,rfl,rfl⟩,rfl,rfl,⟨rfl,rfl,?_,fun h=>h⟩,rfl,rfl,rfl,rfl,rfl,trivial⟩⟩
      ·rw [et]
      ·rw [et]
    have hke:k=i+1:=by omega
    subst hke
    conv=>whnf
    repeat' (first|refine zx ?_|refine zd ?_ ?_<;>intro h<;>try omega|fail)<;>conv=>whnf
    all_goals try omega
    refine .inr ⟨[some 0,some 1,some 2,some 3],[S.c (C.ptr 0 0 0),a7 .i64 i,J,J,S.c (C.ptr 3 0 0),a7 .i64 K,a7 .i64 ((0:Nat):Int),S.c (C.t (a2c (j9 e x.src 0 (i+1))))]++Jn 17++[a7 .i64 e.mats,a7 .i64 ((0:Nat):Int),J,J,J,J,J,J,J,J,J,S.c (C.t (P8 (e.moves.take (i+1)))),a7 .i64 ((i+1:Nat):Int),a7 .i64 ((i+1:Nat):Int)]++Jn 38,hpM e x M 0,⟨rfl,rfl,⟨⟨rfl,rfl,rfl,.inr ⟨⟨rfl,rfl,rfl,rfl,rfl,rfl,rfl,rfl,⟨rfl,rfl,rfl,fun h=>h⟩,⟨rfl,rfl,rfl,fun h=>h⟩,trivial⟩,trivial⟩⟩,⟨rfl,rfl,rfl,.inl ⟨rfl,c6 _⟩⟩,⟨rfl,rfl,rfl,.inl ⟨rfl,c6 _⟩⟩,⟨rfl,rfl,rfl,.inl ⟨rfl,H9 x⟩⟩,trivial⟩,⟨⟨rfl,rfl,rfl⟩,rfl,⟨rfl,rfl,rfl⟩,rfl,rfl,ad0 (k:=a0X (j9 e x.src 0 (i+1))) rfl rfl (by intro h;cases h) rfl rfl (by rw [lbr]),rfl,rfl,rfl,rfl,rfl,trivial⟩⟩,?_⟩
    have ad:=a3P (H:=hpM e x M 0) (e:=e) (L:=M) (r:=1) (o:=2) rfl rfl rfl rfl rfl rfl (by decide) (by decide) (by decide) (by omega) (j9 e x.src 0 (i+1)) K ((0:Int):Rat) ⟨0,i,((0:Nat):Int),-1⟩
    rw [show M++[((⟨j9 e x.src 0 (i+1),K,((0:Int):Rat)⟩:j6),(⟨0,i,((0:Nat):Int),-1⟩:OrP))]=L++H6 e i x (0+1) from hst.symm] at ad
    conv=>whnf
    repeat' (first|refine zx ?_|refine qp i0 ?_|refine .inr ⟨_,_,ad,?_⟩|refine zd ?_ ?_<;>intro h<;>try omega|fail)<;>conv=>whnf
    all_goals try omega
    exact ⟨hlt,trivial,[some 0,some 1,some 2,some 3,some 4,some 5],rfl,rfl,⟨⟨rfl,rfl,rfl,.inr ⟨⟨rfl,rfl,rfl,rfl,rfl,rfl,rfl,rfl,⟨rfl,rfl,rfl,fun h=>h⟩,⟨rfl,rfl,rfl,fun h=>h⟩,trivial⟩,trivial⟩⟩,o5,o5,⟨rfl,rfl,rfl,.inl ⟨rfl,H9 x⟩⟩,⟨rfl,rfl,rfl,.inl ⟨rfl,c6 _⟩⟩,⟨rfl,rfl,rfl,.inl ⟨rfl,c6 _⟩⟩,trivial⟩,⟨⟨rfl,rfl,rfl⟩,rfl,⟨rfl,rfl,rfl⟩,rfl,rfl,rfl,trivial⟩⟩
   |succ m'=>
    conv=>whnf
    repeat' (first|refine zx ?_|refine T2 (by omega) (by omega) (by omega) ?_|refine zd ?_ ?_<;>intro h<;>try omega|fail)<;>conv=>whnf
    all_goals try omega
    refine aO2 ?_
    refine g8 b9 (fun k=>([S.c (C.ptr 0 0 0),a7 .i64 i,J,J,S.c (C.ptr 3 0 0),a7 .i64 K,a7 .i64 (((m'+1):Nat):Int),S.c (C.own 6 0 (j9 e x.src (m'+1) k).length true)]++Jn 17++[a7 .i64 e.mats,a7 .i64 (((m'+1):Nat):Int),J,J,J,J,J,J,J,J,J,S.c (C.t (P8 (e.moves.take (i+1)))),a7 .i64 ((i+1:Nat):Int),a7 .i64 k]++Jn 38,hpM e x M (m'+1)++[a0X (j9 e x.src (m'+1) k)])) (i+1) (fun _=>True) [some 0,some 1,some 2,some 3,some 4,some 5,none] trivial
     ⟨rfl,rfl,⟨⟨rfl,rfl,rfl,.inr ⟨⟨rfl,rfl,rfl,rfl,rfl,rfl,rfl,rfl,⟨rfl,rfl,rfl,fun h=>h⟩,⟨rfl,rfl,rfl,fun h=>h⟩,trivial⟩,trivial⟩⟩,o5,o5,⟨rfl,rfl,rfl,.inl ⟨rfl,H9 x⟩⟩,⟨rfl,rfl,rfl,.inl ⟨rfl,c6 _⟩⟩,⟨rfl,rfl,rfl,.inl ⟨rfl,c6 _⟩⟩,⟨rfl,rfl⟩,trivial⟩,⟨⟨rfl,rfl,rfl⟩,rfl,⟨rfl,rfl,rfl⟩,rfl,rfl,⟨rfl,rfl,rfl⟩,rfl,rfl,g9 ?_,c7 ?_,rfl,trivial⟩⟩ ?_
    ·show T.sl 6 _ (((e.moves.map j5.row).take ((i:Int)+1).toNat).drop 0)=_
     rw [hti,tk];rfl
    ·show ((((e.moves.map j5.row).take ((i:Int)+1).toNat).drop 0).length:Int)=((i+1:Nat):Int)
     rw [hti,tk,a6c,mt]
    intro k hk _
    have kl:=a7W (e:=e) (p:=x.src) (m:=(m'+1)) k
    by_cases hkt:k<i+1
    ·obtain ⟨y,hy⟩:∃y,e.moves[k]? =some y:=⟨_,lbf (by omega)⟩
     have hyt:(e.moves.take (i+1))[k]? =some y:=by rw [lbi,if_pos hkt];exact hy
     have n0:0<=(k:Int)*e.mats:=lbZ (by omega) (by omega)
     have n1:(k:Int)*e.mats<=220*6:=a0P (by omega) hm6 (by omega) (by decide)
     have lA:(j9 e x.src (m'+1) k).length<=(a0X (j9 e x.src (m'+1) k)).rows.length:=by show _<=(toC _).length;simp [toC]
     have lC:((j9 e x.src (m'+1) k).length+1)*73<=140737488355328:=by omega
     by_cases c1:y.src=x.src
     ·have et:j9 e x.src (m'+1) (k+1)=j9 e x.src (m'+1) k++[(M8 e k (m'+1),((-1:Int):Rat))]:=by rw [W4 hy,if_pos c1]
      conv=>whnf
      have vq:=fun (R:Hp)=>a6k (H:=hpM e x M (m'+1)++R) (e:=e) (L:=M) (r:=4) (o:=5) rfl rfl rfl ⟨(by intro h;cases h),rfl,rfl,rfl⟩ ⟨(by intro h;cases h),rfl,rfl,rfl⟩ ⟨(by intro h;cases h),rfl,rfl,rfl⟩ k (m'+1) n0 (by omega) (by omega)
      repeat' (first|refine zx ?_|refine qp i1 ?_|refine qp im ?_|refine f9 hyt ?_|refine .inl ⟨_,_,vq _,?_⟩|refine o6 lA lC ?_|refine zd ?_ ?_<;>intro h<;>try omega|fail)<;>conv=>whnf
      all_goals try omega
      refine ⟨hkt,trivial,[some 0,some 1,some 2,some 3,some 4,some 5,some 8],rfl,rfl,⟨⟨rfl,rfl,rfl,.inr ⟨⟨rfl,rfl,rfl,rfl,rfl,rfl,rfl,rfl,⟨rfl,rfl,rfl,fun h=>h⟩,⟨rfl,rfl,rfl,fun h=>h⟩,trivial⟩,trivial⟩⟩,o5,o5,⟨rfl,rfl,rfl,.inl ⟨rfl,H9 x⟩⟩,⟨rfl,rfl,rfl,.inl ⟨rfl,c6 _⟩⟩,⟨rfl,rfl,rfl,.inl ⟨rfl,c6 _⟩⟩,b7 rfl rfl rfl ?_ rfl,trivial⟩,⟨⟨rfl,rfl,rfl⟩,rfl,⟨rfl,rfl,rfl⟩,rfl,rfl,⟨rfl,rfl,?_,fun h=>h⟩,rfl,rfl,rfl,rfl,rfl,trivial⟩⟩
      ·rw [et];exact a06 (w:=(M8 e k (m'+1),((-1:Int):Rat))) rfl
      ·rw [et];simp [toC]
     by_cases c2:y.dst=x.src
     ·have et:j9 e x.src (m'+1) (k+1)=j9 e x.src (m'+1) k++[(M8 e k (m'+1),((1:Int):Rat))]:=by rw [W4 hy,if_neg c1,if_pos c2]
      conv=>whnf
      have vq:=fun (R:Hp)=>a6k (H:=hpM e x M (m'+1)++R) (e:=e) (L:=M) (r:=4) (o:=5) rfl rfl rfl ⟨(by intro h;cases h),rfl,rfl,rfl⟩ ⟨(by intro h;cases h),rfl,rfl,rfl⟩ ⟨(by intro h;cases h),rfl,rfl,rfl⟩ k (m'+1) n0 (by omega) (by omega)
      repeat' (first|refine zx ?_|refine qp i1 ?_|refine qp im ?_|refine f9 hyt ?_|refine .inl ⟨_,_,vq _,?_⟩|refine o6 lA lC ?_|refine zd ?_ ?_<;>intro h<;>try omega|fail)<;>conv=>whnf
      all_goals try omega
      refine ⟨hkt,trivial,[some 0,some 1,some 2,some 3,some 4,some 5,some 8],rfl,rfl,⟨⟨rfl,rfl,rfl,.inr ⟨⟨rfl,rfl,rfl,rfl,rfl,rfl,rfl,rfl,⟨rfl,rfl,rfl,fun h=>h⟩,⟨rfl,rfl,rfl,fun h=>h⟩,trivial⟩,trivial⟩⟩,o5,o5,⟨rfl,rfl,rfl,.inl ⟨rfl,H9 x⟩⟩,⟨rfl,rfl,rfl,.inl ⟨rfl,c6 _⟩⟩,⟨rfl,rfl,rfl,.inl ⟨rfl,c6 _⟩⟩,b7 rfl rfl rfl ?_ rfl,trivial⟩,⟨⟨rfl,rfl,rfl⟩,rfl,⟨rfl,rfl,rfl⟩,rfl,rfl,⟨rfl,rfl,?_,fun h=>h⟩,rfl,rfl,rfl,rfl,rfl,trivial⟩⟩
      ·rw [et];exact a06 (w:=(M8 e k (m'+1),((1:Int):Rat))) rfl
      ·rw [et];simp [toC]
     ·have et:j9 e x.src (m'+1) (k+1)=j9 e x.src (m'+1) k:=by rw [W4 hy,if_neg c1,if_neg c2]
      conv=>whnf
      repeat' (first|refine zx ?_|refine qp i1 ?_|refine qp im ?_|refine f9 hyt ?_|refine o6 lA lC ?_|refine zd ?_ ?_<;>intro h<;>try omega|fail)<;>conv=>whnf
      all_goals try omega
      refine ⟨hkt,trivial,[some 0,some 1,some 2,some 3,some 4,some 5,some 6],rfl,rfl,⟨⟨rfl,rfl,rfl,.inr ⟨⟨rfl,rfl,rfl,rfl,rfl,rfl,rfl,rfl,⟨rfl,rfl,rfl,fun h=>h⟩,⟨rfl,rfl,rfl,fun h=>h⟩,trivial⟩,trivial⟩⟩,o5,o5,⟨rfl,rfl,rfl,.inl ⟨rfl,H9 x⟩⟩,⟨rfl,rfl,rfl,.inl ⟨rfl,c6 _⟩⟩,⟨rfl,rfl,rfl,.inl ⟨rfl,c6 _⟩⟩,b7 rfl rfl rfl ?_ rfl,trivial⟩,⟨⟨rfl,rfl,rfl⟩,rfl,⟨rfl,rfl,rfl⟩,rfl,rfl,⟨rfl,rfl,?_,fun h=>h⟩,rfl,rfl,rfl,rfl,rfl,trivial⟩⟩
      ·rw [et]
      ·rw [et]
    have hke:k=i+1:=by omega
    subst hke
    conv=>whnf
    repeat' (first|refine zx ?_|refine zd ?_ ?_<;>intro h<;>try omega|fail)<;>conv=>whnf
    all_goals try omega
    refine .inr ⟨[some 0,some 1,some 2,some 3,some 4,some 5],[S.c (C.ptr 0 0 0),a7 .i64 i,J,J,S.c (C.ptr 3 0 0),a7 .i64 K,a7 .i64 (((m'+1):Nat):Int),S.c (C.t (a2c (j9 e x.src (m'+1) (i+1))))]++Jn 17++[a7 .i64 e.mats,a7 .i64 (((m'+1):Nat):Int),J,J,J,J,J,J,J,J,J,S.c (C.t (P8 (e.moves.take (i+1)))),a7 .i64 ((i+1:Nat):Int),a7 .i64 ((i+1:Nat):Int)]++Jn 38,hpM e x M (m'+1),⟨rfl,rfl,⟨⟨rfl,rfl,rfl,.inr ⟨⟨rfl,rfl,rfl,rfl,rfl,rfl,rfl,rfl,⟨rfl,rfl,rfl,fun h=>h⟩,⟨rfl,rfl,rfl,fun h=>h⟩,trivial⟩,trivial⟩⟩,o5,o5,⟨rfl,rfl,rfl,.inl ⟨rfl,H9 x⟩⟩,⟨rfl,rfl,rfl,.inl ⟨rfl,c6 _⟩⟩,⟨rfl,rfl,rfl,.inl ⟨rfl,c6 _⟩⟩,trivial⟩,⟨⟨rfl,rfl,rfl⟩,rfl,⟨rfl,rfl,rfl⟩,rfl,rfl,ad0 (k:=a0X (j9 e x.src (m'+1) (i+1))) rfl rfl (by intro h;cases h) rfl rfl (by rw [lbr]),rfl,rfl,rfl,rfl,rfl,trivial⟩⟩,?_⟩
    have ad:=a3P (H:=hpM e x M (m'+1)) (e:=e) (L:=M) (r:=4) (o:=5) rfl rfl rfl rfl rfl rfl (by decide) (by decide) (by decide) (by omega) (j9 e x.src (m'+1) (i+1)) K ((0:Int):Rat) ⟨0,i,(((m'+1):Nat):Int),-1⟩
    rw [show M++[((⟨j9 e x.src (m'+1) (i+1),K,((0:Int):Rat)⟩:j6),(⟨0,i,(((m'+1):Nat):Int),-1⟩:OrP))]=L++H6 e i x ((m'+1)+1) from hst.symm] at ad
    conv=>whnf
    repeat' (first|refine zx ?_|refine qp i0 ?_|refine .inr ⟨_,_,ad,?_⟩|refine zd ?_ ?_<;>intro h<;>try omega|fail)<;>conv=>whnf
    all_goals try omega
    exact ⟨hlt,trivial,[some 0,some 1,some 2,some 3,some 6,some 7],rfl,rfl,⟨⟨rfl,rfl,rfl,.inr ⟨⟨rfl,rfl,rfl,rfl,rfl,rfl,rfl,rfl,⟨rfl,rfl,rfl,fun h=>h⟩,⟨rfl,rfl,rfl,fun h=>h⟩,trivial⟩,trivial⟩⟩,o5,o5,⟨rfl,rfl,rfl,.inl ⟨rfl,H9 x⟩⟩,⟨rfl,rfl,rfl,.inl ⟨rfl,c6 _⟩⟩,⟨rfl,rfl,rfl,.inl ⟨rfl,c6 _⟩⟩,trivial⟩,⟨⟨rfl,rfl,rfl⟩,rfl,⟨rfl,rfl,rfl⟩,rfl,rfl,rfl,trivial⟩⟩
  ·obtain ⟨m',rfl⟩:∃m',m=m'+1:=⟨m - 1,by omega⟩
   have hme:m'+1=e.mats.toNat:=by omega
   show a0w _ _ _ _ (_,_).1 (_,_).2 _
   conv=>whnf
   repeat' (first|refine zx ?_|refine zd ?_ ?_<;>intro h<;>try omega|fail)<;>conv=>whnf
   all_goals try omega
   rw [← hme]
   exact ⟨⟨[some 0,some 1,some 2,some 4,some 5],rfl,rfl,⟨⟨rfl,rfl,rfl,.inr ⟨⟨rfl,rfl,rfl,rfl,rfl,rfl,rfl,rfl,⟨rfl,rfl,rfl,fun h=>h⟩,⟨rfl,rfl,rfl,fun h=>h⟩,trivial⟩,trivial⟩⟩,o5,o5,⟨rfl,rfl,rfl,.inl ⟨rfl,c6 _⟩⟩,⟨rfl,rfl,rfl,.inl ⟨rfl,c6 _⟩⟩,trivial⟩,trivial⟩⟩
theorem a1X {ρ:List (Option Nat)} {H:Hp} {e:Ev} {r o r' o' n n':Nat} (h1:ρ[r']? =some (some r)) (h2:ρ[o']? =some (some o)) (hn:n=n'):a2f ρ H (mkB e r o n) (mkB e r' o' n'):=
 ⟨rfl,rfl,rfl,.inr ⟨⟨rfl,rfl,rfl,rfl,rfl,rfl,rfl,rfl,⟨h1,rfl,hn,fun h=>h⟩,⟨h2,rfl,hn,fun h=>h⟩,trivial⟩,trivial⟩⟩
theorem C4 {ρ:List (Option Nat)} {H:Hp} {k:Blk} {rows:List (List T)} (h:k.rows=toC rows):a2f ρ H k k:=⟨by unfold a26;cases k.mode<;>simp,rfl,rfl,.inl ⟨rfl,h ▸ c6 rows⟩⟩
theorem b2j (e:Ev) (hs:e.Sized) {i:Nat} {x:j5} (hx:e.moves[i]? =some x) (L:List (j6 × OrP)) (hiv:a3u e x=none):
 a8 Tryz.prog 122 [.c (.ptr 0 0 0),a7 .i64 i] (hp0 e L) (.tup []) (hp0 e L):=by
 have m0:(e.moves.map j5.row).length=e.moves.length:=by simp
 have iv:=ag1 e.certs e.recalls hs.s3 hs.s4 x.scale x.reading x.day
 have fin0:∀R:Hp,Fin 3 (.tup []) (hp0 e L++R) (.tup []) (hp0 e L):=fun R=>⟨[some 0,some 1,some 2],rfl,rfl,⟨a1X rfl rfl rfl,C4 rfl,C4 rfl,trivial⟩,trivial⟩
 by_cases hsc:x.scale=-1
 ·(refine ac Tryz.func122 ?_;(conv=>whnf);repeat ((first|refine b0x ?_|refine zy ?_);conv=>whnf))
  repeat' (first|refine zx ?_|refine f9 hx ?_|refine zd ?_ ?_<;>intro h<;>try omega|fail)<;>conv=>whnf
  all_goals first
   |omega
   |exact fin0 [_]
 ·have hiv2:Q4 e.certs e.recalls x.scale x.reading x.day=none:=by unfold a3u at hiv;rwa [if_neg hsc] at hiv
  rw [hiv2] at iv
  (refine ac Tryz.func122 ?_;(conv=>whnf);repeat ((first|refine b0x ?_|refine zy ?_);conv=>whnf))
  repeat' (first|refine zx ?_|refine qp iv ?_|refine qp (19,20) ?_|refine qp 20 ?_|refine f9 hx ?_|refine bl0 [19,20] ?_|refine bl0 [20] ?_|refine zd ?_ ?_<;>intro h<;>try omega|fail)<;>conv=>whnf
  all_goals first
   |omega
   |exact fin0 [_,_,_]
theorem b1R (e:Ev) (hs:e.Sized) (hm0:0<=e.mats) (hm6:e.mats<=6) {i:Nat} {x:j5} (hx:e.moves[i]? =some x) (hi2:i<=1000) (L:List (j6 × OrP)) (hL:L.length<=100000) {lo hi:Rat} (hiv:a3u e x=some (lo,hi)):
 a8 Tryz.prog 122 [.c (.ptr 0 0 0),a7 .i64 i] (hp0 e L) (.tup []) (hp1 e (L++Y4 e i x)):=by
 have m0:(e.moves.map j5.row).length=e.moves.length:=by simp
 have iv:=ag1 e.certs e.recalls hs.s3 hs.s4 x.scale x.reading x.day
 have hsc:x.scale≠-1:=fun h=>by unfold a3u at hiv;rw [if_pos h] at hiv;cases hiv
 have hiv2:Q4 e.certs e.recalls x.scale x.reading x.day=some (lo,hi):=by unfold a3u at hiv;rwa [if_neg hsc] at hiv
 rw [hiv2] at iv
 obtain ⟨L1,hL1⟩:∃L1:List (j6 × OrP),L1=L++[((⟨a08 e i 1 (-1) 0,0,lo⟩:j6),(⟨1,i,-1,-1⟩:OrP))]:=⟨_,rfl⟩
 obtain ⟨L2,hL2⟩:∃L2:List (j6 × OrP),L2=L1++[((⟨a08 e i 1 (-1) 0,1,hi⟩:j6),(⟨2,i,-1,-1⟩:OrP))]:=⟨_,rfl⟩
 have hW:L++Y4 e i x=L2:=by rw [hL2,hL1];unfold Y4;rw [hiv];simp
 have l1:L1.length<=100001:=by rw [hL1];simp;omega
 rw [hW]
 have s1:=fun (R:Hp)=>a4T (H:=hp0 e L++R) (e:=e) (L:=L) (r:=1) (o:=2) rfl rfl rfl ⟨(by intro h;cases h),rfl,rfl,rfl⟩ ⟨(by intro h;cases h),rfl,rfl,rfl⟩ ⟨(by intro h;cases h),rfl,rfl,rfl⟩ hm0 hm6 i hi2 1 (-1) 0 (by decide) (by decide)
 have a1:=fun (R:Hp)=>a3P (H:=hp0 e L++R) (e:=e) (L:=L) (r:=1) (o:=2) rfl rfl rfl rfl rfl rfl (by decide) (by decide) (by decide) (by omega) (a08 e i 1 (-1) 0) 0 lo ⟨1,i,-1,-1⟩
 rw [← hL1] at a1
 have s2:=fun (k1 k2 k3 k4 k5 k6:Blk)=>a4T (H:=[mkB e 7 8 L1.length,k1,k2,k3,k4,k5,k6,rB L1,oB L1]) (e:=e) (L:=L1) (r:=7) (o:=8) rfl rfl rfl ⟨(by intro h;cases h),rfl,rfl,rfl⟩ ⟨(by intro h;cases h),rfl,rfl,rfl⟩ ⟨(by intro h;cases h),rfl,rfl,rfl⟩ hm0 hm6 i hi2 1 (-1) 0 (by decide) (by decide)
 have a2:=fun (k1 k2 k3 k4 k5 k6:Blk)=>a3P (H:=[mkB e 7 8 L1.length,k1,k2,k3,k4,k5,k6,rB L1,oB L1]) (e:=e) (L:=L1) (r:=7) (o:=8) rfl rfl rfl rfl rfl rfl (by decide) (by decide) (by decide) (by omega) (a08 e i 1 (-1) 0) 1 hi ⟨2,i,-1,-1⟩
 rw [← hL2] at a2
 (refine ac Tryz.func122 ?_;(conv=>whnf);repeat ((first|refine b0x ?_|refine zy ?_);conv=>whnf))
 repeat' (first|refine zx ?_|refine qp iv ?_|refine qp (19,20) ?_|refine qp 20 ?_|refine qp (_,_,_,_) ?_|refine qp (_,_,_,_) ?_|refine f9 hx ?_|refine bl0 [19,20] ?_|refine bl0 [20] ?_|refine .inl ⟨_,_,s1 [_,_,_,_],?_⟩|refine .inr ⟨_,_,a1 [_,_,_,_],?_⟩|refine .inl ⟨_,_,s2 _ _ _ _ _ _,?_⟩|refine .inr ⟨_,_,a2 _ _ _ _ _ _,?_⟩|refine zd ?_ ?_<;>intro h<;>try omega|fail)<;>conv=>whnf
 all_goals first
  |omega
  |exact ⟨⟨[some 0,some 1,some 2,some 9,some 10],rfl,rfl,⟨a1X rfl rfl rfl,o5,o5,C4 rfl,C4 rfl,trivial⟩,trivial⟩⟩
def hpP (e:Ev) (L:List (j6 × OrP)):List (j6 × OrP)->Hp
 |[]=>hp0 e L
 |l=>hp1 e (L++l)
theorem b7d {e:Ev} {L l:List (j6 × OrP)} {a b:j6 × OrP}:hpP e L (l++[a,b])=hp1 e (L++(l++[a,b])):=by
 cases l<;>rfl
theorem b5L {e:Ev} {i k:Nat} {p:w9} {l:List (j6 × OrP)}:l++aN8 e i k p=l++[((⟨a08 e i (-p.least) p.mat 1000,0,((0:Int):Rat)⟩:j6),(⟨3,i,-1,k⟩:OrP)),((⟨a08 e i p.most p.mat (-1000),0,((0:Int):Rat)⟩:j6),(⟨4,i,-1,k⟩:OrP))]:=rfl
theorem b5X (e:Ev) (hm0:0<=e.mats) (hm6:e.mats<=6) {i:Nat} (hi2:i<=1000) (hp:e.purities.length<=1000) (hq:∀p ∈ e.purities,-1000<=p.least∧p.least<=1000∧-1000<=p.most∧p.most<=1000) (L:List (j6 × OrP)) (hL:L.length<=100000):
 a8 Tryz.prog 123 [.c (.ptr 0 0 0),a7 .i64 i] (hp0 e L) (.tup []) (hpP e L (I6 e i e.purities.length)):=by
 have m0:(e.purities.map w9.row).length=e.purities.length:=by simp
 have i0:=H4 0 (by decide) (by decide)
 (refine ac Tryz.func123 ?_;(conv=>whnf);repeat ((first|refine b0x ?_|refine zy ?_);conv=>whnf))
 repeat' (first|refine zx ?_|refine zd ?_ ?_<;>intro h<;>try omega|fail)<;>conv=>whnf
 refine g8 b9 (fun k=>([S.c (C.ptr 0 0 0),a7 .i64 i,J,J,J,J,J,J,J,J,J,S.c (C.t (R0 e.purities)),a7 .i64 e.purities.length,a7 .i64 k]++Jn 36,hpP e L (I6 e i k))) e.purities.length (fun _=>True) [some 0,some 1,some 2] trivial
  ⟨rfl,rfl,⟨a1X rfl rfl rfl,C4 rfl,C4 rfl,trivial⟩,⟨⟨rfl,rfl,rfl⟩,rfl,rfl,c7 (by simp),rfl,trivial⟩⟩ ?_
 intro k hk _
 have pl:=a7B (e:=e) (i:=i) k
 by_cases hlt:k<e.purities.length
 ·obtain ⟨p,hpk⟩:∃p,e.purities[k]? =some p:=⟨_,lbf hlt⟩
  obtain ⟨q1,q2,q3,q4⟩:=hq p (lbm hpk)
  by_cases hmv:p.move=(i:Int)
  ·have hsu:I6 e i (k+1)=I6 e i k++aN8 e i k p:=by rw [I6,hpk];simp only;rw [if_pos hmv]
   show a0w _ _ _ _ (_,hpP e L (I6 e i k)).1 (_,hpP e L (I6 e i k)).2 _
   rw [hsu,b5L,b7d]
   obtain ⟨M,hM⟩:∃M:List (j6 × OrP),M=L++I6 e i k:=⟨_,rfl⟩
   have ml:M.length<=110000:=by rw [hM];simp;omega
   obtain ⟨L1,hL1⟩:∃L1:List (j6 × OrP),L1=M++[((⟨a08 e i (-p.least) p.mat 1000,0,((0:Int):Rat)⟩:j6),(⟨3,i,-1,k⟩:OrP))]:=⟨_,rfl⟩
   obtain ⟨L2,hL2⟩:∃L2:List (j6 × OrP),L2=L1++[((⟨a08 e i p.most p.mat (-1000),0,((0:Int):Rat)⟩:j6),(⟨4,i,-1,k⟩:OrP))]:=⟨_,rfl⟩
   have l1:L1.length<=110001:=by rw [hL1];simp;omega
   have hE:L++(I6 e i k++[((⟨a08 e i (-p.least) p.mat 1000,0,((0:Int):Rat)⟩:j6),(⟨3,i,-1,k⟩:OrP)),((⟨a08 e i p.most p.mat (-1000),0,((0:Int):Rat)⟩:j6),(⟨4,i,-1,k⟩:OrP))])=L2:=by rw [hL2,hL1,hM];simp
   rw [hE]
   cases hl:I6 e i k with
   |nil=>
    have hML:M=L:=by rw [hM,hl,R7]
    subst hML
    have s1:=fun (R:Hp)=>a4T (H:=hp0 e M++R) (e:=e) (L:=M) (r:=1) (o:=2) rfl rfl rfl ⟨(by intro h;cases h),rfl,rfl,rfl⟩ ⟨(by intro h;cases h),rfl,rfl,rfl⟩ ⟨(by intro h;cases h),rfl,rfl,rfl⟩ hm0 hm6 i hi2 (0 - p.least) p.mat 1000 (by omega) (by decide)
    rw [show a08 e i (0 - p.least) p.mat 1000=a08 e i (-p.least) p.mat 1000 by rw [aa8]] at s1
    have a1:=fun (R:Hp)=>a3P (H:=hp0 e M++R) (e:=e) (L:=M) (r:=1) (o:=2) rfl rfl rfl rfl rfl rfl (by decide) (by decide) (by decide) (by omega) (a08 e i (-p.least) p.mat 1000) 0 ((0:Int):Rat) ⟨3,i,-1,k⟩
    rw [← hL1] at a1
    have s2:=fun (k1 k2 k3 k4:Blk)=>a4T (H:=[mkB e 5 6 L1.length,k1,k2,k3,k4,rB L1,oB L1]) (e:=e) (L:=L1) (r:=5) (o:=6) rfl rfl rfl ⟨(by intro h;cases h),rfl,rfl,rfl⟩ ⟨(by intro h;cases h),rfl,rfl,rfl⟩ ⟨(by intro h;cases h),rfl,rfl,rfl⟩ hm0 hm6 i hi2 p.most p.mat (-1000) (by omega) (by decide)
    have a2:=fun (k1 k2 k3 k4:Blk)=>a3P (H:=[mkB e 5 6 L1.length,k1,k2,k3,k4,rB L1,oB L1]) (e:=e) (L:=L1) (r:=5) (o:=6) rfl rfl rfl rfl rfl rfl (by decide) (by decide) (by decide) (by omega) (a08 e i p.most p.mat (-1000)) 0 ((0:Int):Rat) ⟨4,i,-1,k⟩
    rw [← hL2] at a2
    conv=>whnf
    repeat' (first|refine zx ?_|refine qp i0 ?_|refine qp (_,_) ?_|refine qp (_,_) ?_|refine f9 hpk ?_|refine .inl ⟨_,_,s1 [_,_],?_⟩|refine .inr ⟨_,_,a1 [_,_],?_⟩|refine .inl ⟨_,_,s2 _ _ _ _,?_⟩|refine .inr ⟨_,_,a2 _ _ _ _,?_⟩|refine zd ?_ ?_<;>intro h<;>try omega|fail)<;>conv=>whnf
    all_goals first
     |omega
     |exact ⟨hlt,trivial,[some 0,some 1,some 2,some 7,some 8],rfl,rfl,⟨a1X rfl rfl rfl,o5,o5,C4 rfl,C4 rfl,trivial⟩,⟨⟨rfl,rfl,rfl⟩,rfl,rfl,rfl,rfl,trivial⟩⟩
   |cons w rr=>
    have hml:L++w::rr=M:=by rw [hM,hl]
    show a0w _ _ _ _ (_,hp1 e (L++w::rr)).1 (_,hp1 e (L++w::rr)).2 _
    rw [hml]
    have s1:=fun (R:Hp)=>a4T (H:=hp1 e M++R) (e:=e) (L:=M) (r:=3) (o:=4) rfl rfl rfl ⟨(by intro h;cases h),rfl,rfl,rfl⟩ ⟨(by intro h;cases h),rfl,rfl,rfl⟩ ⟨(by intro h;cases h),rfl,rfl,rfl⟩ hm0 hm6 i hi2 (0 - p.least) p.mat 1000 (by omega) (by decide)
    rw [show a08 e i (0 - p.least) p.mat 1000=a08 e i (-p.least) p.mat 1000 by rw [aa8]] at s1
    have a1:=fun (R:Hp)=>a3P (H:=hp1 e M++R) (e:=e) (L:=M) (r:=3) (o:=4) rfl rfl rfl rfl rfl rfl (by decide) (by decide) (by decide) (by omega) (a08 e i (-p.least) p.mat 1000) 0 ((0:Int):Rat) ⟨3,i,-1,k⟩
    rw [← hL1] at a1
    have s2:=fun (k1 k2 k3 k4 k5 k6:Blk)=>a4T (H:=[mkB e 7 8 L1.length,k1,k2,k3,k4,k5,k6,rB L1,oB L1]) (e:=e) (L:=L1) (r:=7) (o:=8) rfl rfl rfl ⟨(by intro h;cases h),rfl,rfl,rfl⟩ ⟨(by intro h;cases h),rfl,rfl,rfl⟩ ⟨(by intro h;cases h),rfl,rfl,rfl⟩ hm0 hm6 i hi2 p.most p.mat (-1000) (by omega) (by decide)
    have a2:=fun (k1 k2 k3 k4 k5 k6:Blk)=>a3P (H:=[mkB e 7 8 L1.length,k1,k2,k3,k4,k5,k6,rB L1,oB L1]) (e:=e) (L:=L1) (r:=7) (o:=8) rfl rfl rfl rfl rfl rfl (by decide) (by decide) (by decide) (by omega) (a08 e i p.most p.mat (-1000)) 0 ((0:Int):Rat) ⟨4,i,-1,k⟩
    rw [← hL2] at a2
    conv=>whnf
    repeat' (first|refine zx ?_|refine qp i0 ?_|refine qp (_,_) ?_|refine qp (_,_) ?_|refine f9 hpk ?_|refine .inl ⟨_,_,s1 [_,_],?_⟩|refine .inr ⟨_,_,a1 [_,_],?_⟩|refine .inl ⟨_,_,s2 _ _ _ _ _ _,?_⟩|refine .inr ⟨_,_,a2 _ _ _ _ _ _,?_⟩|refine zd ?_ ?_<;>intro h<;>try omega|fail)<;>conv=>whnf
    all_goals first
     |omega
     |exact ⟨hlt,trivial,[some 0,some 1,some 2,some 9,some 10],rfl,rfl,⟨a1X rfl rfl rfl,o5,o5,C4 rfl,C4 rfl,trivial⟩,⟨⟨rfl,rfl,rfl⟩,rfl,rfl,rfl,rfl,trivial⟩⟩
  ·have hsu:I6 e i (k+1)=I6 e i k:=by rw [I6,hpk];simp only;rw [if_neg hmv]
   show a0w _ _ _ _ (_,hpP e L (I6 e i k)).1 (_,hpP e L (I6 e i k)).2 _
   rw [hsu]
   cases hl:I6 e i k with
   |nil=>
    conv=>whnf
    repeat' (first|refine zx ?_|refine f9 hpk ?_|refine zd ?_ ?_<;>intro h<;>try omega|fail)<;>conv=>whnf
    all_goals first
     |omega
     |exact ⟨hlt,trivial,[some 0,some 1,some 2],rfl,rfl,⟨a1X rfl rfl rfl,C4 rfl,C4 rfl,trivial⟩,⟨⟨rfl,rfl,rfl⟩,rfl,rfl,rfl,rfl,trivial⟩⟩
   |cons w rr=>
    conv=>whnf
    repeat' (first|refine zx ?_|refine f9 hpk ?_|refine zd ?_ ?_<;>intro h<;>try omega|fail)<;>conv=>whnf
    all_goals first
     |omega
     |exact ⟨hlt,trivial,[some 0,some 1,some 2,some 3,some 4],rfl,rfl,⟨a1X rfl rfl rfl,o5,o5,C4 rfl,C4 rfl,trivial⟩,⟨⟨rfl,rfl,rfl⟩,rfl,rfl,rfl,rfl,trivial⟩⟩
 ·have hke:k=e.purities.length:=by omega
  subst hke
  show a0w _ _ _ _ (_,hpP e L (I6 e i e.purities.length)).1 (_,hpP e L (I6 e i e.purities.length)).2 _
  cases hl:I6 e i e.purities.length with
  |nil=>
   conv=>whnf
   repeat' (first|refine zx ?_|refine zd ?_ ?_<;>intro h<;>try omega|fail)<;>conv=>whnf
   all_goals first
    |omega
    |exact ⟨⟨[some 0,some 1,some 2],rfl,rfl,⟨a1X rfl rfl rfl,C4 rfl,C4 rfl,trivial⟩,trivial⟩⟩
  |cons w rr=>
   conv=>whnf
   repeat' (first|refine zx ?_|refine zd ?_ ?_<;>intro h<;>try omega|fail)<;>conv=>whnf
   all_goals first
    |omega
    |exact ⟨⟨[some 0,some 1,some 2,some 3,some 4],rfl,rfl,⟨a1X rfl rfl rfl,o5,o5,C4 rfl,C4 rfl,trivial⟩,trivial⟩⟩
theorem b9q {g:FuncId} {e:Ev} {L L':List (j6 × OrP)} {n:Int} (T:Blk) (h:a8 Tryz.prog g [.c (.ptr 0 0 0),a7 .i64 n] (hp0 e L) (.tup []) (hp1 e L')):
 a8 Tryz.prog g [.c (.ptr 0 0 0),a7 .i64 n] (hp0 e L++[T]) (.tup []) [mkB e 4 5 L'.length,aJ1,aO4,T,rB L',oB L']:=by
 refine N1 [0,1,2] h rfl rfl rfl (by decide) ?_ ?_ (by simp) rfl rfl (by simp) ?_ ?_
 ·intro i k hk
  match i,hk with
  |0,hk=>injection hk with hk;subst hk;exact ⟨rfl,rfl,by intro r hr;simp at hr;subst hr;rfl,_,rfl,⟨rfl,rfl,rfl,rfl,rfl⟩⟩
  |1,hk=>injection hk with hk;subst hk;exact ⟨rfl,rfl,I5 _,_,rfl,v8 rfl⟩
  |2,hk=>injection hk with hk;subst hk;exact ⟨rfl,rfl,I5 _,_,rfl,v8 rfl⟩
 ·intro k hk
  simp at hk
  rcases hk with rfl|rfl|rfl|rfl|rfl<;>(intro h;cases h)
 ·intro i k hk
  match i,hk with
  |0,hk=>injection hk with hk;subst hk;exact ⟨_,rfl,⟨rfl,rfl,rfl,rfl,rfl⟩⟩
  |1,hk=>injection hk with hk;subst hk;exact ⟨_,rfl,⟨rfl,rfl,rfl,rfl,rfl⟩⟩
  |2,hk=>injection hk with hk;subst hk;exact ⟨_,rfl,⟨rfl,rfl,rfl,rfl,rfl⟩⟩
  |3,hk=>injection hk with hk;subst hk;exact ⟨_,rfl,v8 rfl⟩
  |4,hk=>injection hk with hk;subst hk;exact ⟨_,rfl,v8 rfl⟩
 ·intro j hj hjn
  simp at hjn hj
  have:j=3:=by omega
  subst this;rfl
theorem a35 {H:Hp} {e:Ev} {r o:Nat} {L:List (j6 × OrP)} (h1:H[0]? =some (mkB e r o L.length)) (h2:H[r]? =some (rB L)) (h3:H[o]? =some (oB L)):a2D [some 0,some r,some o] H [some 0,some r,some o] (hp0 e L):=by
 refine ⟨?_,?_,?_,trivial⟩
 ·simp only [h1];exact a1X rfl rfl rfl
 ·simp only [h2];exact C4 rfl
 ·simp only [h3];exact C4 rfl
structure b2c (e:Ev):Prop where
 sz:e.Sized
 m1:1<=e.mats
 m6:e.mats<=6
 mv:e.moves.length<=8
 pu:e.purities.length<=20
 src:∀x ∈ e.moves,0<=x.src∧x.src<e.places.length
 pq:∀p ∈ e.purities,-1000<=p.least∧p.least<=1000∧-1000<=p.most∧p.most<=1000
theorem ag8 {e:Ev} (h:b2c e) {k:Nat} (hk:k<=e.moves.length):(a0V e k).length<=400:=by
 have h1:=a6u h.m6 k
 have h2:k*(8+2*e.purities.length)<=8*48:=lbS (by have:=h.mv;omega) (by have:=h.pu;omega)
 omega
theorem b2e {e:Ev} {k:Nat} {x:j5} (h:e.moves[k]? =some x):a0V e (k+1)=a0V e k++a3o e k x:=by rw [a0V,h]
theorem b2Y (e:Ev) (hE:b2c e):a8 Tryz.prog 51 [evS e] [] (.c (.ptr 0 0 0)) (hp0 e (a05 e)):=by
 have m0:(e.moves.map j5.row).length=e.moves.length:=by simp
 have hm1:=hE.m1
 have hm6:=hE.m6
 have hmv:=hE.mv
 have hpu:=hE.pu
 (refine ac Tryz.func51 ?_;conv=>whnf)
 refine b0x ?_
 conv=>whnf
 repeat' (first|refine zx ?_|refine zd ?_ ?_<;>intro h<;>try omega|fail)<;>conv=>whnf
 refine aF9 (fun k=>([J,S.c (C.t (T.ptr (evT e))),J,S.c (C.ptr 0 0 0),J,J,J,J,J,J,S.c (C.t (P8 e.moves)),a7 .i64 e.moves.length,a7 .i64 k]++Jn 23,hp0 e (a0V e k))) e.moves.length (fun _=>True) [some 0,none,none] trivial
  ⟨rfl,rfl,⟨⟨rfl,rfl,rfl,.inr ⟨⟨rfl,rfl,rfl,rfl,rfl,rfl,rfl,rfl,⟨rfl,rfl,rfl⟩,⟨rfl,rfl,rfl⟩,trivial⟩,trivial⟩⟩,⟨rfl,rfl⟩,⟨rfl,rfl⟩,trivial⟩,⟨rfl,⟨rfl,rfl,rfl⟩,rfl,c7 (by simp),rfl,trivial⟩⟩ ?_
 intro k hk _
 refine x4 b9 ?_
 conv=>whnf
 repeat' (first|refine zx ?_|refine zd ?_ ?_<;>intro h<;>try omega|fail)<;>conv=>whnf
 ·obtain ⟨x,hx⟩:∃x,e.moves[k]? =some x:=⟨_,lbf (by omega)⟩
  have hlt:k<e.moves.length:=by omega
  have ms:=hE.src x (lbm hx)
  obtain ⟨s,hsn⟩:∃s:Nat,x.src=s:=⟨x.src.toNat,by omega⟩
  obtain ⟨pl,hpl⟩:∃pl,e.places[s]? =some pl:=⟨_,lbf (by omega)⟩
  have hkd:F4 e x.src=pl.kind:=by rw [hsn];exact b2y hpl
  have l0:=ag8 hE (k:=k) (by omega)
  obtain ⟨M1,hM1⟩:∃M1:List (j6 × OrP),M1=a0V e k++(if pl.kind=0 then [] else H6 e k x e.mats.toNat):=⟨_,rfl⟩
  have l1:M1.length<=500:=by rw [hM1];split<;>simp [H6]<;>omega
  obtain ⟨M2,hM2⟩:∃M2:List (j6 × OrP),M2=M1++Y4 e k x:=⟨_,rfl⟩
  have l2:M2.length<=502:=by rw [hM2,lbq,aN9];split<;>omega
  have hM3:a0V e (k+1)=M2++I6 e k e.purities.length:=by rw [b2e hx,hM2,hM1];unfold a3o;rw [hkd];simp only [lbD]
  have st:=b9q (mvB x) (b2w e hm1 hm6 (by omega) hx (a0V e k) (by omega))
  have pu:=b5X e (by omega) hm6 (i:=k) (by omega) (by omega) hE.pq M2 (by omega)
  refine x4 b9 ?_
  conv=>whnf
  refine a2C (a3g ?_)
  refine x4 b9 ?_
  conv=>whnf
  repeat' (first|refine zx ?_|refine f9 hx ?_|refine zd ?_ ?_<;>intro h<;>try omega|fail)<;>conv=>whnf
  refine a0U b9 ([J,S.c (C.t (T.ptr (evT e))),J,S.c (C.ptr 0 0 0),a7 .i64 k,J,J,J,J,J,S.c (C.t (P8 e.moves)),a7 .i64 e.moves.length,a7 .i64 k]++Jn 23) (hp0 e M1) ?_ ?_
  ·by_cases hk0:pl.kind=0
   ·have eM:M1=a0V e k:=by rw [hM1,if_pos hk0,R7]
    rw [eM]
    conv=>whnf
    repeat' (first|refine zx ?_|refine p9 hsn hpl ?_|refine zd ?_ ?_<;>intro h<;>try omega|fail)<;>conv=>whnf
    all_goals first
     |omega
     |exact ⟨[some 0,some 1,some 2],rfl,rfl,a35 rfl rfl rfl,⟨rfl,⟨rfl,rfl,rfl⟩,rfl,rfl,rfl,rfl,trivial⟩⟩
   ·have eM:M1=a0V e k++H6 e k x e.mats.toNat:=by rw [hM1,if_neg hk0]
    rw [← eM] at st
    conv=>whnf
    repeat' (first|refine zx ?_|refine p9 hsn hpl ?_|refine .inr ⟨_,_,st,?_⟩|refine zd ?_ ?_<;>intro h<;>try omega|fail)<;>conv=>whnf
    all_goals first
     |omega
     |exact ⟨[some 0,some 4,some 5],rfl,rfl,a35 rfl rfl rfl,⟨rfl,⟨rfl,rfl,rfl⟩,rfl,rfl,rfl,rfl,trivial⟩⟩
  refine a0U b9 ([J,S.c (C.t (T.ptr (evT e))),J,S.c (C.ptr 0 0 0),a7 .i64 k,J,J,J,J,J,S.c (C.t (P8 e.moves)),a7 .i64 e.moves.length,a7 .i64 k]++Jn 23) (hp0 e M2) ?_ ?_
  ·cases hiv:a3u e x with
   |none=>
    have eM:M2=M1:=by rw [hM2];unfold Y4;rw [hiv];simp
    have we:=b2j e hE.sz hx M1 hiv
    rw [eM]
    conv=>whnf
    repeat' (first|refine zx ?_|refine .inr ⟨_,_,we,?_⟩|refine zd ?_ ?_<;>intro h<;>try omega|fail)<;>conv=>whnf
    exact ⟨[some 0,some 1,some 2],rfl,rfl,a35 rfl rfl rfl,⟨rfl,⟨rfl,rfl,rfl⟩,rfl,rfl,rfl,rfl,trivial⟩⟩
   |some pr=>
    obtain ⟨lo,hi⟩:=pr
    have we:=b1R e hE.sz (by omega) hm6 hx (by omega) M1 (by omega) hiv
    rw [← hM2] at we
    conv=>whnf
    repeat' (first|refine zx ?_|refine .inr ⟨_,_,we,?_⟩|refine zd ?_ ?_<;>intro h<;>try omega|fail)<;>conv=>whnf
    exact ⟨[some 0,some 3,some 4],rfl,rfl,a35 rfl rfl rfl,⟨rfl,⟨rfl,rfl,rfl⟩,rfl,rfl,rfl,rfl,trivial⟩⟩
  refine k8 b9 _ ?_
  rw [hM3]
  cases hl:I6 e k e.purities.length with
  |nil=>
   rw [hl] at pu
   conv=>whnf
   repeat' (first|refine zx ?_|refine .inr ⟨_,_,pu,?_⟩|refine zd ?_ ?_<;>intro h<;>try omega|fail)<;>conv=>whnf
   refine k8 b9 _ ?_
   conv=>whnf
   repeat' (first|refine zx ?_|refine zd ?_ ?_<;>intro h<;>try omega|fail)<;>conv=>whnf
   all_goals first
    |omega
    |skip
   rw [R7]
   exact ⟨hlt,trivial,[some 0,some 1,some 2],rfl,rfl,a35 rfl rfl rfl,⟨rfl,⟨rfl,rfl,rfl⟩,rfl,rfl,rfl,trivial⟩⟩
  |cons w rr=>
   rw [hl] at pu
   conv=>whnf
   repeat' (first|refine zx ?_|refine .inr ⟨_,_,pu,?_⟩|refine zd ?_ ?_<;>intro h<;>try omega|fail)<;>conv=>whnf
   refine k8 b9 _ ?_
   conv=>whnf
   repeat' (first|refine zx ?_|refine zd ?_ ?_<;>intro h<;>try omega|fail)<;>conv=>whnf
   all_goals first
    |omega
    |exact ⟨hlt,trivial,[some 0,some 3,some 4],rfl,rfl,a35 rfl rfl rfl,⟨rfl,⟨rfl,rfl,rfl⟩,rfl,rfl,rfl,trivial⟩⟩
 ·have hke:k=e.moves.length:=by omega
  subst hke
  refine x4 b9 ?_
  conv=>whnf
  repeat' (first|refine zx ?_|refine zd ?_ ?_<;>intro h<;>try omega|fail)<;>conv=>whnf
  refine ⟨⟨[some 0,some 1,some 2],rfl,rfl,a35 rfl rfl rfl,⟨rfl,rfl,rfl⟩⟩⟩
theorem b0p (e:Ev) (hE:b2c e) (T:Blk):a8 Tryz.prog 51 [evS e] [T] (.c (.ptr 1 0 0)) [T,mkB e 2 3 (a05 e).length,rB (a05 e),oB (a05 e)]:=by
 refine N1 [] (b2Y e hE) rfl rfl rfl (by decide) ?_ ?_ (by simp) rfl rfl (by simp) ?_ ?_
 ·intro i k hk
  simp at hk
 ·intro k hk
  simp at hk
  rcases hk with rfl|rfl|rfl<;>(intro h;cases h)
 ·intro i k hk
  match i,hk with
  |0,hk=>injection hk with hk;subst hk;exact ⟨_,rfl,⟨rfl,rfl,rfl,rfl,rfl⟩⟩
  |1,hk=>injection hk with hk;subst hk;exact ⟨_,rfl,v8 rfl⟩
  |2,hk=>injection hk with hk;subst hk;exact ⟨_,rfl,v8 rfl⟩
 ·intro j hj _
  simp at hj
  subst hj;rfl
def a5P (e:Ev):f7:=if p7 e≠0 then ⟨0,[]⟩ else A0 e
theorem b4G (L:List (j6 × OrP)):(L.map Prod.fst).map C0=L.map fun w=>C0 w.1:=by rw [Z3];rfl
theorem a4t (e:Ev) (hs:e.Sized) (hE:p7 e=0->b2c e):a8 Tryz.prog 12 [evS e] [] (.tup [Q8 (a5P e),a7 .i64 (p7 e)]) []:=by
 have ck:=a0o e hs
 have m0:(e.moves.map j5.row).length=e.moves.length:=by simp
 by_cases h0:p7 e≠0
 ·have e1:a5P e=⟨0,[]⟩:=by unfold a5P;rw [if_pos h0]
  rw [e1]
  (refine ac Tryz.func12 ?_;(conv=>whnf);repeat ((first|refine b0x ?_|refine zy ?_);conv=>whnf))
  repeat' (first|refine zx ?_|refine qp ck ?_|refine zd ?_ ?_<;>intro h<;>try omega|fail)<;>conv=>whnf
  all_goals first
   |omega
   |exact j2 ⟨⟨rfl,rfl,trivial⟩,rfl,trivial⟩
 ·have h0:p7 e=0:=by omega
  have hE:=hE h0
  have e1:a5P e=A0 e:=by unfold a5P;rw [if_neg (by omega)]
  rw [e1]
  rw [h0] at ck ⊢
  have h1:=hE.m1
  have h6:=hE.m6
  have hmv:=hE.mv
  have n0:0<=(e.moves.length:Int)*e.mats:=lbZ (by omega) (by omega)
  have n1:(e.moves.length:Int)*e.mats<=8*6:=a0P (by omega) h6 (by omega) (by decide)
  have mm:((e.moves.map j5.row).length:Int)*e.mats=(e.moves.length:Int)*e.mats:=by rw [m0]
  have md:=b0p e hE
  (refine ac Tryz.func12 ?_;(conv=>whnf);repeat ((first|refine b0x ?_|refine zy ?_);conv=>whnf))
  repeat' (first|refine zx ?_|refine qp ck ?_|refine qp (0,1,2,3,4,5) ?_|refine bl0 [0,1,2,3,4,5] ?_|refine .inr ⟨_,_,md _,?_⟩|refine zd ?_ ?_<;>intro h<;>try omega|fail)<;>conv=>whnf
  all_goals first
   |omega
   |skip
  refine j2 ⟨⟨by rw [m0];rfl,show VC _ (fun id=>E6 [] id=true) _ _ from p4 rfl rfl (by intro h;cases h) rfl (by show (rB (a05 e)).rows=toC ((List.map Prod.fst (a05 e)).map C0);rw [b4G]) (by simp [A0]),trivial⟩,rfl,trivial⟩
theorem b7n {L:List (j6 × OrP)} {n j:Nat} {w:j6 × OrP} {K:List C->Prop} (e:j=n) (hw:L[n]? =some w) (h:K ((a3t w.2).map C.t)):∃row,(oB L).rows[j]? =some row∧K row:=by
 subst e;exact ⟨_,by simp [toC,hw],h⟩
def ae4 (e:Ev) (i:Int):Option OrP:=if p7 e≠0 then none else if i<0 then none else (a05 e)[i.toNat]?.map Prod.snd
def orZ:OrP:=⟨0,0,0,0⟩
theorem b1D (e:Ev) (hs:e.Sized) (hE:p7 e=0->b2c e) (i:Int):a8 Tryz.prog 111 [evS e,a7 .i64 i] [] (.tup [.agg ((a3t ((ae4 e i).getD orZ)).map C.t),d9 (ae4 e i).isSome]) []:=by
 have ck:=a0o e hs
 by_cases h0:p7 e≠0∨i<0
 ·have e1:ae4 e i=none:=by unfold ae4;split;rfl;rw [if_pos (by omega)]
  rw [e1]
  (refine ac Tryz.func111 ?_;(conv=>whnf);repeat ((first|refine b0x ?_|refine zy ?_);conv=>whnf))
  repeat' (first|refine zx ?_|refine qp ck ?_|refine zd ?_ ?_<;>intro h<;>try omega|fail)<;>conv=>whnf
  all_goals first
   |omega
   |exact j2 ⟨⟨rfl,rfl,rfl,rfl,trivial⟩,rfl,trivial⟩
 ·have h1:p7 e=0:=by omega
  have hE:=hE h1
  obtain ⟨n,hn⟩:∃n:Nat,i=n:=⟨i.toNat,by omega⟩
  subst hn
  rw [h1] at ck
  have e1:ae4 e n=(a05 e)[n]?.map Prod.snd:=by unfold ae4;rw [if_neg (by omega),if_neg (by omega)];rfl
  rw [e1]
  have md:=b0p e hE
  have l0:=ag8 hE (lbQ _)
  cases hw:(a05 e)[n]? with
  |none=>
   have hl:(a05 e).length<=n:=List.getElem?_eq_none_iff.1 hw
   (refine ac Tryz.func111 ?_;(conv=>whnf);repeat ((first|refine b0x ?_|refine zy ?_);conv=>whnf))
   repeat' (first|refine zx ?_|refine qp ck ?_|refine .inr ⟨_,_,md _,?_⟩|refine zd ?_ ?_<;>intro h<;>try omega|fail)<;>conv=>whnf
   all_goals first
    |omega
    |exact j2 ⟨⟨rfl,rfl,rfl,rfl,trivial⟩,rfl,trivial⟩
  |some w=>
   have hl:=(lbe.1 hw).1
   (refine ac Tryz.func111 ?_;(conv=>whnf);repeat ((first|refine b0x ?_|refine zy ?_);conv=>whnf))
   repeat' (first|refine zx ?_|refine qp ck ?_|refine .inr ⟨_,_,md _,?_⟩|refine b7n (by omega) hw ?_|refine zd ?_ ?_<;>intro h<;>try omega|fail)<;>conv=>whnf
   all_goals first
    |omega
    |exact j2 ⟨⟨rfl,rfl,rfl,rfl,trivial⟩,rfl,trivial⟩
def a5h:C->C->Prop
 |.t x,.t y=>∀(w:World) (M:Ms) (v:Value),RT w M x v->RT w M y v
 |a,b=>a=b
def a3B:List C->List C->Prop
 |[],[]=>True
 |a::r,b::q=>a5h a b∧a3B r q
 |_,_=>False
def ao4:S->S->Prop
 |.c a,.c b=>a5h a b
 |.agg l,.agg m=>a3B l m
 |a,b=>a=b
theorem a5h.rc {w:World} {ι:Io} {M:Ms} {x y:C} {v:Value} (h:a5h x y) (hr:RC w ι M x v):RC w ι M y v:=by
 cases x<;>cases y<;>first
  |(cases hr with
    |t hr=>exact .t (h _ _ _ hr))
  |(have e:=h;unfold a5h at e;first|(rw [← e];exact hr)|cases e)
theorem a3B.len:∀{l m:List C},a3B l m->l.length=m.length
 |[],[],_=>rfl
 |[],_::_,h=>h.elim
 |_::_,[],h=>h.elim
 |a::r,b::q,h=>by rw [lbu,lbu,a3B.len h.2]
theorem a3B.get:∀{l m:List C},a3B l m->∀{j:Nat} {b:C},m[j]? =some b->∃a,l[j]? =some a∧a5h a b
 |[],[],_,j,b,hb=>by simp at hb
 |[],_::_,h,_,_,_=>h.elim
 |_::_,[],h,_,_,_=>h.elim
 |a::r,c::q,h,0,b,hb=>by simp at hb;subst hb;exact ⟨a,rfl,h.1⟩
 |a::r,c::q,h,j+1,b,hb=>by
  obtain ⟨x,hx,hl⟩:=a3B.get h.2 (j:=j) (b:=b) (by simpa using hb)
  exact ⟨x,by simpa using hx,hl⟩
theorem ao4.rs {w:World} {ι:Io} {M:Ms} {x y:S} {v:Value} (h:ao4 x y) (hr:RS w ι M x v):RS w ι M y v:=by
 cases x<;>cases y<;>first
  |(cases hr with
    |c hr=>exact .c (a5h.rc h hr))
  |(cases hr with
    |agg vs hl hr=>
     exact .agg vs (hl.trans (a3B.len h)) fun j c hc=>by
      obtain ⟨a,ha,hl2⟩:=a3B.get h hc
      exact a5h.rc hl2 (hr j a ha))
  |(have e:=h;unfold ao4 at e;first|(rw [← e];exact hr)|cases e)
def a59:List S->List S->Prop
 |[],[]=>True
 |a::r,b::q=>ao4 a b∧a59 r q
 |_,_=>False
theorem a59.len:∀{l m:List S},a59 l m->l.length=m.length
 |[],[],_=>rfl
 |[],_::_,h=>h.elim
 |_::_,[],h=>h.elim
 |a::r,b::q,h=>by rw [lbu,lbu,a59.len h.2]
theorem a59.get:∀{l m:List S},a59 l m->∀{j:Nat} {a b:S},l[j]? =some a->m[j]? =some b->ao4 a b
 |[],[],_,j,a,b,ha,hb=>by simp at hb
 |[],_::_,h,_,_,_,_,_=>h.elim
 |_::_,[],h,_,_,_,_,_=>h.elim
 |x::r,c::q,h,0,a,b,ha,hb=>by simp at ha hb;subst ha;subst hb;exact h.1
 |x::r,c::q,h,j+1,a,b,ha,hb=>a59.get h.2 (j:=j) (by simpa using ha) (by simpa using hb)
theorem a5D {P:Program} {g:FuncId} {args args':List S} {H H':Hp} {r:S} (h:a8 P g args' H r H') (hl:a59 args args'):a8 P g args H r H':=
 a5k h (a59.len hl) fun w ι M j s s' v hs hs' hr=>(a59.get hl hs hs').rs hr
theorem V9 (x:C):a5h x x:=by cases x<;>first|exact fun _ _ _ h=>h|rfl
theorem Q7 (x:S):ao4 x x:=by
 cases x with
 |c a=>exact V9 a
 |agg l=>
  show a3B l l
  induction l with
  |nil=>trivial
  |cons a r ih=>exact ⟨V9 a,ih⟩
 |_=>rfl
structure EvT (e:Ev):Prop where
 sz:e.Sized
 sm:p7 e=0->b2c e
 n:(e.moves.length:Int)*e.mats<=10
theorem EvT.t {e:Ev} (h:EvT e) (hc:p7 e=0):F0 (A0 e):=an3 hc (h.sm hc).mv (h.sm hc).pu h.n
theorem EvT.r {e:Ev} (hc:p7 e=0):a5P e=A0 e:=by unfold a5P;rw [if_neg (fun h=>h hc)]
theorem ab5 {e:Ev} (h:EvT e) (hc:p7 e=0) {ps:List E0}:d6 (-1) (((A0 e).n.toNat:Nat):Int) (y9 e ps)=true:=by
 have hn:=O9 (h.t hc).r
 rw [hn]
 by_cases hg:G4 e ps=true
 ·exact aU0 hg
 ·unfold y9;rw [if_neg hg];rfl
theorem ab7 {e:Ev} {ps:List E0} (h:G4 e ps=true):p7 e=0:=by
 unfold G4 at h
 simp only [lbM,lbI] at h
 exact h.1.1
theorem b0a (e:Ev) (hs:e.Sized) (ps:List E0) (hp:ps.length<=100):a8 Tryz.prog 15 [evS e,G7 ps] [] (j1 (y9 e ps)) []:=by
 have g:=aX3 e hs ps hp
 (refine ac Tryz.func15 ?_;(conv=>whnf);repeat ((first|refine b0x ?_|refine zy ?_);conv=>whnf))
 repeat' (first|refine zx ?_|refine qp g ?_|refine zd ?_ ?_<;>intro h<;>try omega|fail)<;>conv=>whnf
 all_goals first
  |exact j2 rfl
theorem ay1 (e:Ev) (h:EvT e) (ps:List E0) (hp:ps.length<=100) (hg:G4 e ps=false):a8 Tryz.prog 18 [evS e,G7 ps] [] (.tup [a0j a7x a7x,a7 .i64 1]) []:=by
 have g:=aX3 e h.sz ps hp
 rw [hg] at g
 (refine ac Tryz.func18 ?_;(conv=>whnf);repeat ((first|refine b0x ?_|refine zy ?_);conv=>whnf))
 repeat' (first|refine zx ?_|refine qp g ?_|refine zd ?_ ?_<;>intro h<;>try omega|fail)<;>conv=>whnf
 all_goals first
  |(exfalso;simp_all;done)
  |exact j2 ⟨⟨rfl,rfl,rfl,rfl,rfl,rfl,rfl,rfl,rfl,rfl,rfl,rfl,rfl,rfl,rfl,rfl,trivial⟩,rfl,trivial⟩
theorem a3K (e:Ev) (h:EvT e) (ps:List E0) (hp:ps.length<=100) (hg:G4 e ps=true):
 ((∀ z,g6 (A0 e) z=false)∧a8 Tryz.prog 18 [evS e,G7 ps] [] (.tup [a0j a7x a7x,a7 .i64 15]) [])∨
 ∃lo hi,a24 (A0 e) (y9 e ps) lo hi∧a8 Tryz.prog 18 [evS e,G7 ps] [] (.tup [a0j lo hi,a7 .i64 0]) []:=by
 have hc:=ab7 hg
 have g:=aX3 e h.sz ps hp
 rw [hg] at g
 have sy:=a4t e h.sz h.sm
 rw [EvT.r hc,hc] at sy
 rcases aM9 (A0 e) (y9 e ps) (h.t hc) (ab5 h hc) (a1E e ps) with ⟨hn,so⟩|⟨lo,hi,hr,so⟩
 ·refine .inl ⟨hn,?_⟩
  (refine ac Tryz.func18 ?_;(conv=>whnf);repeat ((first|refine b0x ?_|refine zy ?_);conv=>whnf))
  repeat' (first|refine zx ?_|refine qp g ?_|refine qp sy ?_|refine qp so ?_|refine zd ?_ ?_<;>intro h<;>try omega|fail)<;>conv=>whnf
  all_goals first
   |(exfalso;simp_all;done)
   |exact j2 ⟨⟨rfl,rfl,rfl,rfl,rfl,rfl,rfl,rfl,rfl,rfl,rfl,rfl,rfl,rfl,rfl,rfl,trivial⟩,rfl,trivial⟩
 ·refine .inr ⟨lo,hi,hr,?_⟩
  (refine ac Tryz.func18 ?_;(conv=>whnf);repeat ((first|refine b0x ?_|refine zy ?_);conv=>whnf))
  repeat' (first|refine zx ?_|refine qp g ?_|refine qp sy ?_|refine qp so ?_|refine zd ?_ ?_<;>intro h<;>try omega|fail)<;>conv=>whnf
  all_goals first
   |(exfalso;simp_all;done)
   |exact j2 ⟨⟨rfl,rfl,rfl,rfl,rfl,rfl,rfl,rfl,rfl,rfl,rfl,rfl,rfl,rfl,rfl,rfl,trivial⟩,rfl,trivial⟩
theorem aL7 {e:Ev} (hc:p7 e=0):G4 e []=true:=by unfold G4;rw [lbH hc];simp [y8,a7l]
theorem a7t {P:Program} {g:FuncId} {H H':Hp} {r a:S} (h:a8 P g [a,G7 []] H r H'):a8 P g [a,.c (.t (.sl 0 .nil []))] H r H':=
 a5D h ⟨Q7 a,(fun w M v hr=>hr.weak rfl),trivial⟩
theorem a54 (e:Ev) (h:EvT e) (hn:p7 e≠0∨∀z,g6 (A0 e) z=false):a8 Tryz.prog 8 [evS e] [] (d9 false) []:=by
 by_cases hc:p7 e=0
 ·rcases a3K e h [] (by simp) (aL7 hc) with ⟨_,so⟩|⟨lo,hi,hr,_⟩
  ·have so:=a7t so
   (refine ac Tryz.func8 ?_;(conv=>whnf);repeat ((first|refine b0x ?_|refine zy ?_);conv=>whnf))
   repeat' (first|refine zx ?_|refine qp so ?_|refine zd ?_ ?_<;>intro h<;>try omega|fail)<;>conv=>whnf
   all_goals first
    |omega
    |exact c9 rfl
  ·exfalso
   rcases hn with hn|hn
   ·exact hn hc
   ·have:=a40 hr.lo hr.l1;rw [hn] at this;cases this
 ·have so:=a7t (ay1 e h [] (by simp) (by unfold G4;rw [lbJ hc];rfl))
  (refine ac Tryz.func8 ?_;(conv=>whnf);repeat ((first|refine b0x ?_|refine zy ?_);conv=>whnf))
  repeat' (first|refine zx ?_|refine qp so ?_|refine zd ?_ ?_<;>intro h<;>try omega|fail)<;>conv=>whnf
  all_goals first
   |omega
   |exact c9 rfl
theorem P4 (e:Ev) (h:EvT e) (hc:p7 e=0) (hz:∃z,g6 (A0 e) z=true):a8 Tryz.prog 8 [evS e] [] (d9 true) []:=by
 rcases a3K e h [] (by simp) (aL7 hc) with ⟨hn,_⟩|⟨lo,hi,hr,so⟩
 ·obtain ⟨z,hz⟩:=hz;rw [hn z] at hz;cases hz
 ·have so:=a7t so
  (refine ac Tryz.func8 ?_;(conv=>whnf);repeat ((first|refine b0x ?_|refine zy ?_);conv=>whnf))
  repeat' (first|refine zx ?_|refine qp so ?_|refine zd ?_ ?_<;>intro h<;>try omega|fail)<;>conv=>whnf
  all_goals first
   |omega
   |exact c9 rfl
theorem ay4 (r:Int):(exW r).Sized:=⟨by simp [exW],by simp [exW],by simp [exW],by simp [exW],by simp [exW]⟩
abbrev pk1:List E0:=[⟨0,0⟩]
abbrev b2U:T:=.sl 1 .any [[S0 pk1]]
theorem b8g (e:Ev) (hs:e.Sized):a8 Tryz.prog 112 [evS e] [] (evS e) []:=by
 have c1:=ah1 e.places (by have:=hs.s1;omega)
 have c2:=b2o e.moves (by have:=hs.s2;omega)
 have c3:=aq1 e.certs (by have:=hs.s3;omega)
 have c4:=a8r e.recalls (by have:=hs.s4;omega)
 have c5:=a8m e.purities (by have:=hs.s5;omega)
 (refine ac Tryz.func112 ?_;(conv=>whnf);repeat (refine zy ?_;conv=>whnf))
 repeat' (first|refine zx ?_|refine qp c1 ?_|refine qp c2 ?_|refine qp c3 ?_|refine qp c4 ?_|refine qp c5 ?_|refine qp (5,8) ?_|refine qp 8 ?_|refine qp 5 ?_|refine bl0 [5,8] ?_|refine bl0 [8] ?_|refine bl0 [5] ?_|refine zd ?_ ?_<;>intro h<;>try omega|fail)<;>conv=>whnf
 all_goals first
  |exact j2 ⟨rfl,rfl,rfl,rfl,rfl,rfl,rfl,rfl,trivial⟩
theorem b5l (x y:Rat) (hx:rl x<=50000) (hy:rl y<=50000):a8 Tryz.prog 116 [aE7 (some x) (some y)] [] (aE7 (some x) (some y)) []:=by
 have n1:=Z1 x (by omega)
 have n2:=Z1 (-x) (by rw [R9];omega)
 have n3:=Z1 y (by omega)
 have n4:=Z1 (-y) (by rw [R9];omega)
 rw [Rat.neg_neg] at n2 n4
 (refine ac Tryz.func116 ?_;(conv=>whnf);repeat (refine zy ?_;conv=>whnf))
 repeat' (first|refine zx ?_|refine qp n1 ?_|refine qp n2 ?_|refine qp n3 ?_|refine qp n4 ?_|refine qp (6,7) ?_|refine qp 7 ?_|refine qp 6 ?_|refine bl0 [6,7] ?_|refine bl0 [7] ?_|refine bl0 [6] ?_|refine zd ?_ ?_<;>intro h<;>try omega|fail)<;>conv=>whnf
 all_goals first
  |exact j2 ⟨rfl,rfl,rfl,rfl,rfl,rfl,rfl,rfl,rfl,rfl,trivial⟩
open Go.RowKit Go.Shelf Go.Lib Go.Sort
theorem aP5 {P:Program} {ρ:Ren} (L:Lays.n189 P ρ) (en:a7S P (ρ.f 189)) (l:List Int) (hl:l.length<=100000):a8 P (ρ.f 189) [.c (.own 0 0 l.length true)] [k9 l] (.tup []) [k9 (y8 l)]:=by
 refine ⟨en,fun w ι M vals hlen hv hH hMB hF=>?_⟩
 obtain ⟨x,rfl⟩:∃x,vals=[x]:=by
  match vals,hlen with
  |[x],_=>exact ⟨x,rfl⟩
 have hx:=hv 0 _ rfl
 simp only [lb5] at hx
 have hb0:∀l0,ι 0=some l0->E7 w ι M (k9 l) l0:=fun l0 h=>hH.blk 0 _ rfl (by intro h;cases h) _ h
 generalize hn:l.length=n at hx
 cases hx with
 |c hx=>
 cases hx with
 |nil hnil=>
  have hvs:l=[]:=lbF hn
  subst hvs
  clear hn
  refine (Any.slices_Sort_int_none L _ _ w).mono ?_
  rintro e w' ⟨rfl,rfl⟩
  have e0:y8 []=[]:=by simp [y8]
  rw [e0]
  exact ⟨_,rfl,ι,M,.tup [] rfl (fun j s h=>by simp at h),hH,hMB,hF,rfl,rfl,rfl,lbQ _,fun _ _ _=>rfl,fun _ _=>rfl,fun _ h=>.inl h,fun _ h=>.inl h,fun _ h=>.inl h,lbQ _⟩
 |@own _ _ _ _ b cap size A cap' h0 h1 h2 h3 h4 h5=>
  subst hn
  obtain ⟨q1,q2,q3,q4,q5,cur,q6,q7,q8⟩:=hb0 _ h0
  have hs1:size=1:=q1.symm
  subst hs1
  obtain ⟨_,hA,hcap⟩:=h5 rfl
  subst hA
  have hle:l.length<=cap:=by omega
  have hblk:=A9 q6
  have hsz:l.length<=cur.size:=by rw [q7];omega
  have cell:∀i,i<l.length->cur[i]? =some (.int .i64 (l.getD i 0)):=fun i hi=>by
   obtain ⟨u,hu,hr⟩:=q8 i 0 (.t (ti (l.getD i 0))) (by
    unfold at2
    rw [show (k9 l).rows=toC (l.map d7) from rfl]
    simp [toC,hi,d7])
   rw [show i*1+0=i by omega] at hu
   rw [hu]
   cases hr with
   |t h=>cases h;rfl
  have hold:Holds (Value.int .i64) w b 0 l.toArray:=by
   intro j hj
   have hj':j<l.length:=by simpa using hj
   have e1:l.toArray[j]! =l.getD j 0:=by
    rw [getElem!_pos _ j hj,lbl,lbf hj'];simp
   rw [e1]
   refine ⟨?_,?_⟩
   ·show w.cell? ⟨b,0+j,none⟩=_
    simp only [World.cell?,q6,D8,cell j hj']
    rfl
   ·simp [World.frozen?,q6]
  refine (Any.slices_Sort_int L b 0 cap' l w hold hblk (by omega)).mono ?_
  rintro e w' ⟨rfl,n,os,rfl⟩
  refine ⟨_,rfl,a5I hH hMB hF h0 rfl rfl (a6X (Value.int .i64) w b 0 n _ os) ?_ (.tup [] rfl (fun j s h=>by simp at h))⟩
  have ml:=V7 l
  refine ⟨rfl,by decide,?_,q4,?_,_,ae9 (Value.int .i64) 0 n _ os q6,by rw [a7I,q7],?_⟩
  ·show (toC _).length<=cap;simp [toC,ml];omega
  ·intro r hr
   simp only [toC,Z3,lbx,Function.comp_def] at hr
   obtain ⟨x,_,rfl⟩:=hr
   rfl
  ·intro i j c hij
   unfold at2 at hij
   rw [show (k9 (y8 l)).rows=toC ((y8 l).map d7) from rfl] at hij
   simp only [toC,Z3,lba] at hij
   cases hk:(y8 l)[i]? with
   |none=>rw [hk] at hij;cases hij
   |some v=>
    rw [hk] at hij
    have hi:=(lbe.1 hk).1
    rcases j with _|j
    ·simp [d7] at hij
     subst hij
     refine ⟨.int .i64 v,?_,.t (.atm rfl)⟩
     have h7:=ai2 (Value.int .i64) (off:=0) (d:=(y8 l).toArray) (cur:=cur) (j:=i) (by simpa using hi) (by omega)
     rw [D8] at h7
     rw [show i*1+0=i by omega]
     have e2:(y8 l).toArray[i]! =v:=by
      rw [getElem!_pos _ i (by simpa using hi)]
      have:=(lbe.1 hk).2
      simpa using this
     rw [e2] at h7
     exact h7
    ·simp [d7] at hij
section
open Go.RowKit Go.Shelf
attribute [local go_sem] Oper.semAt_some
structure E9 (B n:Nat) (w w':World):Prop where
 os:w'.os=w.os
 tape:w'.tape=w.tape
 output:w'.output=w.output
 size:w.heap.size<=w'.heap.size
 block:∀k,k<n->k≠B->w'.heap[k]? =w.heap[k]?
theorem E9.refl (B n:Nat) (w:World):E9 B n w w:=⟨rfl,rfl,rfl,lbQ _,fun _ _ _=>rfl⟩
theorem E9.trans {B n:Nat} {a b c:World} (h:E9 B n a b) (k:E9 B n b c):E9 B n a c:=
 ⟨k.os.trans h.os,k.tape.trans h.tape,k.output.trans h.output,lbR h.size k.size,fun i hi hB=>(k.block i hi hB).trans (h.block i hi hB)⟩
theorem E9.of {B n:Nat} {a b:World} (h:Below n a b):E9 B n a b:=⟨h.os,h.tape,h.output,h.size,fun k hk _=>h.block k hk⟩
theorem E9.cell {B n:Nat} {w w':World} (h:E9 B n w w') {p:Addr} (hp:p.block<n) (hB:p.block≠B):w'.cell? p=w.cell? p:=World.cell?_of_block (w:=w) (h.block p.block hp hB)
theorem E9.low {B n:Nat} {w w':World} (h:E9 B n w w') {m:Nat} (hm:m<=n) (hB:m<=B):Below m w w':=⟨h.os,h.tape,h.output,h.size,fun k hk=>h.block k (by omega) (by omega)⟩
end
open Go.RowKit Go.Shelf
theorem aC3 (w:World) (ι:Io) (M:Ms):j4 w ι M []:=
 ⟨fun id k h=>by simp at h,fun id k h=>by simp at h,fun id k h=>by simp at h,fun id id' k k' h=>by simp at h,fun id id' k k' h=>by simp at h⟩
theorem aG2 {w w':World} {ι:Io} {M:Ms} {s:S} {v:Value} (h:RS w' ι M s v) (hb:Below w.heap.size w w') (hMB:MB w M) (hF:a0R ι 0):E1 w ι M [] s [] v w':=
 ⟨ι,M,h,aC3 _ _ _,fun b hm=>a27 (hMB b hm) hb.size,hF,
   ⟨hb.os,hb.tape,hb.output,hb.size,fun b hb' _=>hb.block b hb',fun _ _=>rfl,fun b h=>.inl h,fun b h=>.inl h,fun b h=>by obtain ⟨id,k,c,s,hk,_⟩:=h;simp at hk,lbQ _⟩⟩
theorem aZ0 {α β:Type} (l:List α) (f:α->List β) (i j:Nat):at2 (l.map f) i j=(l[i]?).bind fun a=>(f a)[j]?:=by
 simp [at2]
 cases l[i]?<;>rfl
section
open Go.RowKit Go.Shelf
attribute [local go_sem] Oper.semAt_some
theorem a9I {β:Type} {X n₀ B:Nat} {w₀:World} (hn:n₀<=w₀.heap.size) (hB:n₀<=B):OwnFrom B (fun (_:β) W=>E9 X n₀ w₀ W):=
 fun _ _ _ _ hs hg hr=>hs.trans ⟨hg.os,hg.tape,hg.output,hg.size,fun k hk _=>hg.block k (by have:=hs.size;omega) (fun e=>by have:=(hr k e.symm).1;omega)⟩
theorem b12 {W:World} {base:Nat} {e:TypeId} {size:Nat} {v:Value} {k:Nat} {xs:List Value} (h:W.ownsRow base e size v k xs):W.ownsRow 0 e size v k xs:=
 ⟨h.1,h.2.imp id fun ⟨g,cap,cur,h1,_,h2⟩=>⟨g,cap,cur,h1,B9 _,h2⟩⟩
theorem b2z {W w1:World} {n₀ B:Nat} {t e:TypeId} {size:Nat} {v v':Value} {k m:Nat} {xs ys:List Value} {tmp:Obj}
 (hv:Boxed W B t v) (hte:t≠e) (hrow:W.ownsRow n₀ e size v k xs) (hn₀:n₀<=W.heap.size)
 (hown':w1.ownsRow n₀ e size v' m ys) (hgrow:(W.alloc tmp).grownBy w1 v.ownBlock):
 Boxed w1 B t v∧Boxed (w1.setCell ⟨B,0,none⟩ v') B t v'∧(w1.setCell ⟨B,0,none⟩ v').ownsRow n₀ e size v' m ys∧KeepsOthers W (w1.setCell ⟨B,0,none⟩ v')∧E9 B n₀ W (w1.setCell ⟨B,0,none⟩ v'):=by
 obtain ⟨h1,h2,_,h4,_⟩:=hv.appended (n₀:=0) hte (b12 hrow) (B9 _) (B9 _) (b12 hown') hgrow
 refine ⟨h1,h2,hown'.kept (grownBy_setCell' w1 B v') (.inr (h1.not_row hte hown').symm),h4,?_⟩
 refine (E9.of (((Below.refl n₀ W).alloc hn₀ tmp).grown hgrow (by simp;omega) fun j ej=>?_)).trans ⟨rfl,rfl,rfl,by simp [World.setCell],fun k _ hk=>Below.heap_setCell _ _ _ _ hk⟩
 rcases hrow.2 with ⟨rfl,_⟩|⟨g,cap,cur,rfl,hb,_,_⟩
 ·simp [Value.ownBlock] at ej
 ·obtain rfl:g=j:=by simpa [Value.ownBlock] using ej
  exact hb
end
section
open Go.RowKit Go.Shelf Go.Lib Go.Sort
attribute [local go_sem] Oper.semAt_some
set_option maxRecDepth 100000 in
theorem b6q (F:Fence) (n:Nat) (hF:F.fn 212) (hro:F.round=none) (hn:1<=n) (l X Bs Bo n₀ b off cap:Nat) (A:Option Addr) (xs:List Int) (hBs:Bs<n₀) (xBs:Bs≠X) (hb:xs≠[]->b<n₀∧b≠X∧A=some ⟨b,off,none⟩) (hl:xs.length<=1000) (hcap:xs.length<=cap)
 (J Jx:List Int->World->Prop)
 (hY:∀pre x W,J pre W->pre.length<xs.length->YieldAt F (n - 1) Tryz.prog l #[.int .i64 x] W fun e W'=>
   (e=.returned (.bool true)∧J (pre++[x]) W'∧E9 X n₀ W W')∨(e=.returned (.bool false)∧Jx (pre++[x]) W'))
 (W:World) (h1:W.cell? ⟨Bs,Bo,none⟩=some (.slice A xs.length cap)) (hc:∀i x,xs[i]? =some x->W.cell? ⟨b,off+i,none⟩=some (.int .i64 x)) (h0:J [] W):
 CallsIn F n Tryz.prog 212 #[.func (.yield l) #[] #[],.pointer (some ⟨Bs,Bo,none⟩)] W fun e W'=>(∃ v,e=.returned v)∧
  ((∃ ys,ys=xs∧J ys W')∨(∃ pre,(pre <+: xs)∧Jx pre W')):=by
 refine callsIn_of_wp Tryz.func212 rfl hF ?_ hro
 simp only [Tryz.ntmps212,a4p,lbu,K5,Nat.reduceAdd,Nat.reduceSub,Array.replicate_succ,Array.replicate_zero,List.push_toArray,List.append_toArray,af2,aJ8]
 gi_wp2
 gi_loopw [7] (fun i wr=>∃k:Nat,k<=xs.length∧i=.int .i64 (k:Int)∧J (xs.take k) wr∧E9 X n₀ W wr)
  (fun i _=>xs.length - (intOf i).toNat)
 case atStart=>exact ⟨0,B9 _,rfl,by simpa using h0,E9.refl _ _ _⟩
 case round=>
  obtain ⟨k,hk,rfl,hJs,hnx⟩:=hrel
  by_cases hlt:k<xs.length
  ·obtain ⟨x,hx⟩:∃x,xs[k]? =some x:=⟨_,lbf hlt⟩
   have hne:xs≠[]:=by intro h;rw [h] at hlt;simp at hlt
   obtain ⟨b1,b2,rfl⟩:=hb hne
   have q1:=(hnx.cell (p:=⟨b,off+k,none⟩) b1 b2).trans (hc k x hx)
   have tk:xs.take (k+1)=xs.take k++[x]:=by rw [lbG,hx];rfl
   obtain ⟨fn,tmps,assign,body,hy,hR⟩:=hY _ x wr hJs (by rw [lbs];omega)
   gi_wp2
   all_goals try omega
   all_goals
    refine hR.mono ?_
    rintro e W3 (⟨rfl,hJ3,hk3⟩|⟨rfl,hJx3⟩)
    ·have hnx3:E9 X n₀ W W3:=hnx.trans hk3
     gi_wp2
     go_roundw
     case rel=>exact ⟨k+1,by omega,rfl,by rw [tk];exact hJ3,hnx3⟩
     case measure=>simp [intOf];omega
    ·gi_wp2
     refine bodyPost_ret (results_none rfl _ _ _) rfl ?_
     exact ⟨⟨_,rfl⟩,.inr ⟨_,by rw [← tk];exact List.take_prefix _ _,hJx3⟩⟩
  ·obtain rfl:k=xs.length:=by omega
   gi_wp2
   all_goals try omega
   go_end0
   exact ⟨⟨_,rfl⟩,.inl ⟨_,rfl,by simpa using hJs⟩⟩
theorem aQ6 (F:Fence) (n:Nat) (hF:F.fn 212) (hro:F.round=none) (hn:1<=n) (X Bs Bo n₀ b off cap:Nat) (A:Option Addr) (xs:List Int) (hBs:Bs<n₀) (xBs:Bs≠X) (hb:xs≠[]->b<n₀∧b≠X∧A=some ⟨b,off,none⟩) (hl:xs.length<=1000) (hcap:xs.length<=cap)
 (w:World) (hn₀:n₀<=w.heap.size) (h1:w.cell? ⟨Bs,Bo,none⟩=some (.slice A xs.length cap)) (hc:∀i x,xs[i]? =some x->w.cell? ⟨b,off+i,none⟩=some (.int .i64 x)):
 SeqStopsK F n Tryz.prog 212 #[.pointer (some ⟨Bs,Bo,none⟩)] (fun i:Int=>#[.int .i64 i]) (E9 X n₀) (fun ys=>ys=xs) (fun pre=>pre <+: xs) xs.length w:=fun l J Jx W hW hJ _ hY h0=>by
 have q1:=(hW.cell (p:=⟨Bs,Bo,none⟩) (by show Bs<w.heap.size;omega)).trans h1
 refine (b6q F n hF hro hn l X Bs Bo n₀ b off cap A xs hBs xBs hb hl hcap J Jx hY W q1 (fun i x hx=>?_) h0).mono ?_
 ·have hne:xs≠[]:=by intro h;rw [h] at hx;simp at hx
  exact (hW.cell (p:=⟨b,off+i,none⟩) (by show b<w.heap.size;have:=(hb hne).1;omega)).trans (hc i x hx)
 ·rintro e W' ⟨he,⟨ys,rfl,hj⟩|⟨pre,hp,hj⟩⟩
  ·exact ⟨he,.inl ⟨_,rfl,hj⟩⟩
  ·exact ⟨he,.inr ⟨_,hp,hj⟩⟩
theorem b8X {W:World} {a b:Nat} {e:TypeId} {size:Nat} {v:Value} {k:Nat} {xs:List Value} (hab:a<=b) (h:W.ownsRow b e size v k xs):W.ownsRow a e size v k xs:=
 ⟨h.1,h.2.imp id fun ⟨g,cap,cur,h1,h2,h3⟩=>⟨g,cap,cur,h1,lbR hab h2,h3⟩⟩
theorem b5N:(Tryz.prog.info? 3).map (fun i=>(i.zero,i.size,i.bytes))=some (some (.int .i64 0),1,8):=by kernel_rfl
set_option maxRecDepth 100000 in
theorem a9m (b off cap:Nat) (A:Option Addr) (xs:List Int) (hl:xs.length<=1000) (hcap:xs.length<=cap) (Bs Bo:Nat) (w:World) (hBs:Bs<w.heap.size) (hb:xs≠[]->b<w.heap.size∧A=some ⟨b,off,none⟩) (h1:w.cell? ⟨Bs,Bo,none⟩=some (.slice A xs.length cap)) (hc:∀i x,xs[i]? =some x->w.cell? ⟨b,off+i,none⟩=some (.int .i64 x)):
 Calls Tryz.prog 262 #[.slice none 0 0,.func (.func 212) #[] #[.pointer (some ⟨Bs,Bo,none⟩)]] w fun ee w'=>∃v,ee=.returned v∧w'.ownsRow w.heap.size 3 1 v xs.length (xs.map (Value.int .i64))∧Below w.heap.size w w':=by
 obtain ⟨i0,hi,hz0,hz1,hz2⟩:=info_parts b5N
 have hml:(1000:Nat)<=maxLen:=by decide
 refine (callsIn_wide (n:=5)).1 ?_
 refine callsIn_of_wp_marks Tryz.func262 rfl trivial ?_ rfl
 simp only [Tryz.ntmps262,a4p,lbu,K5,Nat.reduceAdd,Nat.reduceSub,Array.replicate_succ,Array.replicate_zero,List.push_toArray,List.append_toArray,af2,aJ8]
 have bO:=Boxed.new w 31 (.slice none 0 0)
 have hB1:Below w.heap.size w (w.alloc (.cells #[.slice none 0 0] 31)):=(Below.refl _ _).alloc (lbQ _) _
 have s1:(w.alloc (.cells #[.slice none 0 0] 31)).heap.size=w.heap.size+1:=by simp
 obtain ⟨W1,hW1⟩:∃W1,w.alloc (.cells #[.slice none 0 0] 31)=W1:=⟨_,rfl⟩
 rw [hW1] at bO hB1 s1
 have q1:=(hB1.cell (p:=⟨Bs,Bo,none⟩) hBs).trans h1
 have qc:∀i x,xs[i]? =some x->W1.cell? ⟨b,off+i,none⟩=some (.int .i64 x):=fun i x hx=>by
  have hne:xs≠[]:=by intro h;rw [h] at hx;simp at hx
  exact (hB1.cell (p:=⟨b,off+i,none⟩) (hb hne).1).trans (hc i x hx)
 gi_wp2
 refine wpIn_rangeFunc_ownG (n:=5) rfl (by omega) (gf:=212) (lb:=#[.pointer (some ⟨Bs,Bo,none⟩)]) rfl trivial (enters_of Tryz.func212 (by kernel_rfl) rfl)
  (aQ6 Fence.wide _ trivial rfl (by omega) w.heap.size Bs Bo W1.heap.size b off cap A xs (by omega) (by omega) (fun h=>⟨by have:=(hb h).1;omega,by have:=(hb h).1;omega,(hb h).2⟩) hl hcap W1 (lbQ _) q1 qc)
  E9.trans (fun W l o o' h1 h2 h3 h4=>E9.of (belowK_b (lbQ _) W l o o' h1 h2 h3 h4)) (Below.refl _ _) (fun _=>rfl)
  (fun pre W=>(∃ v,Boxed W w.heap.size 31 v∧W.ownsRow W1.heap.size 3 1 v pre.length (pre.map (Value.int .i64))∧True)∧E9 w.heap.size W1.heap.size W1 W)
  (fun _ _ _=>False)
  (OwnFrom.and (Own.from (holdsRow_own W1.heap.size w.heap.size 31 3 1 (fun pre:List Int=>pre.length) (fun pre:List Int=>pre.map (Value.int .i64)) (fun _ _=>True)) _) (a9I (lbQ _) (lbQ _)))
  (fun _ _ _ _ _ hs _ _=>hs)
  ⟨⟨_,bO,World.ownsRow_nil _ _ _ _,trivial⟩,E9.refl _ _ _⟩
  (fun i=>{ tmps:=#[.slice none 0 0,.func (.func 212) #[] #[.pointer (some ⟨Bs,Bo,none⟩)],.pointer (some ⟨w.heap.size,0,none⟩),undef,.slice none 0 0,.int .i64 i,.func (.func 212) #[] #[.pointer (some ⟨Bs,Bo,none⟩)],.int .i64 i,undef,undef,undef,undef,undef],defers:=[] }) ?assign ?body ?done ?stop
 case assign=>
  intro l i W K hK
  gi_wp2
  exact hK
 case body=>
  rintro l pre i W ⟨⟨v,hv,hrow,-⟩,hB⟩ hlt
  have hcl:=hv.cell
  gi_wp2_with (gi_at_builtin;refine wpListIn_append_own _ rfl _ _ 31 rfl W1.heap.size 3 i0 (.int .i64 0) 1 8 Tryz.underlying31 hi hz0 hz1 hz2 rfl (by decide) _ _ _ rfl (hrow.alloc _) ⟨W.heap.size,0,none⟩ 1 1 [.int .i64 i] rfl rfl (cell_one_new _ _ _) (by simp [Value.oneCell']) (by omega) (by omega) (by have:=hB.size;simp;omega) ?_;intro v' w1 hown' hgrow _;obtain ⟨g',cap',rfl⟩:=ownsRow_succ hown';obtain ⟨hv1,hv2,hr2,hk2,hb2⟩:=b2z hv (by decide) hrow hB.size hown' hgrow;have hc1:=hv1.cell;have hf1:=hv1.frozen)
  exact ⟨hk2.from _,hb2,⟨_,hv2,by rw [lbq,lbC];exact hr2,trivial⟩,hB.trans hb2⟩
 case done=>
  rintro D ys W hD rfl ⟨⟨v,hv,hrow,-⟩,hB⟩ hK
  have hcl:=hv.cell
  gi_wp2
  refine ⟨by simp,.inl ⟨_,_,rfl,run_takeDeferred hK,?_⟩⟩
  have hfin:E9 w.heap.size W1.heap.size W1 (W.putObj D (.deferred none)):=hB.trans (E9.of (belowK_b (w:=W1) (lbQ _) W D _ _ hD hK rfl rfl))
  exact ⟨_,results_tmp rfl _ _ _,v,rfl,b8X (by omega) (ownsRow_putObj hrow _ hK rfl),hB1.trans (hfin.low (by omega) (by omega))⟩
 case stop=>
  rintro D c pre W _ _ h _
  exact h.elim
end
theorem b5p (l:List Int) (hl:l.length<=1000000):a8 Tryz.prog 150 [e8 l,e8 l] [] (d9 true) []:=by
 have m1:(l.map d7).length=l.length:=by simp
 (refine ac Tryz.func150 ?_;(conv=>whnf);repeat ((first|refine b0x ?_|refine zy ?_);conv=>whnf))
 repeat' (first|refine zx ?_|refine zd ?_ ?_<;>intro h<;>try omega|fail)<;>conv=>whnf
 all_goals try omega
 refine g8 b9 (fun k=>([e8 l,e8 l]++Jn 10++[a7 .i64 l.length,a7 .i64 k]++Jn 12,[])) l.length (fun _=>True) [] trivial
  ⟨rfl,rfl,trivial,⟨rfl,rfl,c7 (by omega),rfl,trivial⟩⟩ ?_
 intro k hk _
 by_cases hlt:k<l.length
 ·obtain ⟨x,hx⟩:∃x,l[k]? =some x:=⟨_,lbf hlt⟩
  conv=>whnf
  repeat' (first|refine zx ?_|refine f9 hx ?_|refine zd ?_ ?_<;>intro h<;>try omega|fail)<;>conv=>whnf
  all_goals first
   |omega
   |exact ⟨hlt,trivial,[],rfl,rfl,trivial,⟨rfl,rfl,rfl,c7 (by omega),trivial⟩⟩
 ·have hke:k=l.length:=by omega
  subst hke
  conv=>whnf
  repeat' (first|refine zx ?_|refine zd ?_ ?_<;>intro h<;>try omega|fail)<;>conv=>whnf
  all_goals first
   |omega
   |exact c9 rfl
theorem b1b (b:Bg) (hl:b.dl.length<=1000000):a8 Tryz.prog 82 [bgS b,bgS b] [] (d9 true) []:=by
 have e:=b5p b.dl hl
 (refine ac Tryz.func82 ?_;(conv=>whnf);repeat ((first|refine b0x ?_|refine zy ?_);conv=>whnf))
 repeat' (first|refine zx ?_|refine qp e ?_|refine zd ?_ ?_<;>intro h<;>try omega|fail)<;>conv=>whnf
 all_goals first
  |omega
  |exact c9 rfl
theorem ax5 (f:Fr) (lp:f.p.dl.length<=1000000) (lq:f.q.dl.length<=1000000):a8 Tryz.prog 30 [frS f,frS f] [] (d9 true) []:=by
 have e1:=b1b f.p lp
 have e2:=b1b f.q lq
 (refine ac Tryz.func30 ?_;(conv=>whnf);repeat ((first|refine b0x ?_|refine zy ?_);conv=>whnf))
 repeat' (first|refine zx ?_|refine qp e1 ?_|refine qp e2 ?_|refine zd ?_ ?_<;>intro h<;>try omega|fail)<;>conv=>whnf
 all_goals first
  |omega
  |exact c9 rfl
theorem ao5 (l h:Fr) (a b:Bool) (l1:l.p.dl.length<=1000000) (l2:l.q.dl.length<=1000000) (h1:h.p.dl.length<=1000000) (h2:h.q.dl.length<=1000000)
 (sl:a8 Tryz.prog 60 [frS l,frS l] [] (d9 true) []) (sh:a8 Tryz.prog 60 [frS h,frS h] [] (d9 true) []):
 a8 Tryz.prog 20 [.agg (frC l++frC h++[.t (tb a),.t (tb b)]),.agg (frC l++frC h++[.t (tb a),.t (tb b)])] [] (d9 true) []:=by
 cases a<;>cases b<;>
 ·(refine ac Tryz.func20 ?_;(conv=>whnf);repeat ((first|refine b0x ?_|refine zy ?_);conv=>whnf))
  repeat' (first|refine zx ?_|refine qp sl ?_|refine qp sh ?_|refine zd ?_ ?_<;>intro h<;>try omega|fail)<;>conv=>whnf
  all_goals first
   |omega
   |(exfalso;contradiction)
   |exact c9 rfl
theorem b3Z {x:Rat}:0<sgR x↔0<x:=by unfold sgR;split<;>(try split)<;>simp_all<;>grind
theorem b2T:a8 Tryz.prog 145 [frS M6] [] (d9 true) []:=by
 have e1:M6.p.sg=0:=rfl
 have e2:M6.q.sg=0:=rfl
 have e3:(M6.p.dl.map d7).length=0:=rfl
 have e4:(M6.q.dl.map d7).length=0:=rfl
 (refine ac Tryz.func145 ?_;(conv=>whnf);repeat ((first|refine b0x ?_|refine zy ?_);conv=>whnf))
 repeat' (first|refine zx ?_|refine zd ?_ ?_<;>intro h<;>try omega|fail)<;>conv=>whnf
 all_goals first
  |omega
  |exact c9 rfl
theorem b90 {s:f7} (h:F0 s) (hl:s.rows.length<=78) {Y:List Rat} (hY:Y.length=s.rows.length) (hy:∀v ∈ Y,rl v<=300):b77 s Y:=
 b56 (B:=300) (C:=200) (N:=78) hY (by omega) (by decide) hy (fun w hw=>⟨(W2 h w hw).2.1,(W2 h w hw).2.2⟩) (by decide) (by decide) (by decide)
theorem a5z {s:f7} {l:List (Int × Rat)} {z:List Rat} (h:F0 s) (hl:d6 (-1) ((s.n.toNat:Nat):Int) l=true) (hc:A7 l) (hz:∀v ∈ z,rl v<=15) (k:Nat):rl (j0 (l.take k) z)<=6000:=by
 have h1:=z7 hl
 have h10:=h.n
 have:=aD1 (l:=l) (z:=z) (B:=15) (O0 hc) hz k
 have h2:=lbT (15+4) (show l.length<=10 by omega)
 omega
theorem b95 (s:f7) (g:List (Int × Rat)) (d:List Rat) (hT:F0 s) (hg:d6 (-1) ((s.n.toNat:Nat):Int) g=true) (hw:A7 g) (hd:b6Y s d) (hn:j0 g d<0) (hb:∀v ∈ d,rl v<=15):
 a8 Tryz.prog 146 [Q8 s,j1 g,B4 (d.map fz)] [] (d9 true) []:=by
 have hsn:=O9 hT.r
 have h10:=hT.n
 have hdl:=hd.len
 have hrl:=hT.l
 have m1:((d.map fz).map n7).length=d.length:=by simp
 have m2:(s.rows.map C0).length=s.rows.length:=by simp
 have sb:=a2t hT
 have lr:=S7 s sb
 rw [hT.r] at lr
 have gl:=z7 hg
 have rt:=B8 g s.n (by omega) (fun t ht=>by have:=O0 hw t ht;omega)
 rw [lbH (show 0<=s.n by omega),N9,show d6 (-1) s.n g=true by rw [← hsn];exact hg] at rt
 have va:=a6C g d (by omega) (fun t ht=>by have:=O0 hw t ht;omega) (fun v hv=>by have:=hb v hv;omega) (fun k=>by have:=a5z hT hg hw hb k;omega) (by omega) (by rw [hdl];exact hg)
 have sv:=T8 (j0 g d) (by have:=a5z hT hg hw hb g.length;rw [a4c] at this;omega)
 have sv2:=(a94 (x:=j0 g d)).2 hn
 (refine ac Tryz.func146 ?_;(conv=>whnf);repeat ((first|refine b0x ?_|refine zy ?_);conv=>whnf))
 repeat' (first|refine zx ?_|refine qp lr ?_|refine qp rt ?_|refine zd ?_ ?_<;>intro h<;>try omega|fail)<;>conv=>whnf
 all_goals try omega
 refine g8 b9 (fun k=>([J,j1 g,B4 (d.map fz),S.c (C.t (T.ptr (a1j s)))]++Jn 29++[B4 (d.map fz),a7 .i64 d.length,a7 .i64 k]++Jn 54,[])) d.length (fun _=>True) [] trivial
  ⟨rfl,rfl,trivial,⟨rfl,rfl,rfl,rfl,c7 (by simp),rfl,trivial⟩⟩ ?_
 intro k hk _
 by_cases hlt:k<d.length
 ·obtain ⟨x,hx⟩:∃x,d[k]? =some x:=⟨_,lbf hlt⟩
  have bx:=hb x (lbm hx)
  have px:=hd.pos x (lbm hx)
  have rr:=a6z (fz x) (by have:=K0 x;show bl x.num<=_;omega) (by have:=M3 x;show bl x.den<=_;omega)
  rw [a9E] at rr
  have sg:=T8 x (by omega)
  have sn:¬sgR x<0:=fun h0=>absurd ((a94 (x:=x)).1 h0) (lb2.2 px)
  conv=>whnf
  repeat' (first|refine zx ?_|refine qp rr ?_|refine qp sg ?_|refine f9 (a0y d hx) ?_|refine zd ?_ ?_<;>intro h<;>try omega|fail)<;>conv=>whnf
  all_goals first
   |omega
   |exact ⟨hlt,trivial,[],rfl,rfl,trivial,⟨rfl,rfl,rfl,rfl,rfl,c7 (by omega),trivial⟩⟩
 ·have hke:k=d.length:=by omega
  subst hke
  conv=>whnf
  repeat' (first|refine zx ?_|refine zd ?_ ?_<;>intro h<;>try omega|fail)<;>conv=>whnf
  all_goals try omega
  refine g8 b9 (fun k=>([J,j1 g,B4 (d.map fz)]++Jn 46++[S.c (C.t (R8 s.rows)),a7 .i64 s.rows.length,a7 .i64 k]++Jn 38,[])) s.rows.length (fun _=>True) [] trivial
   ⟨rfl,rfl,trivial,⟨rfl,rfl,rfl,c7 (by simp),rfl,trivial⟩⟩ ?_
  intro k hk _
  by_cases hlt:k<s.rows.length
  ·obtain ⟨w,hw'⟩:∃w,s.rows[k]? =some w:=⟨_,lbf hlt⟩
   obtain ⟨b1,b2,b3⟩:=W2 hT w (lbm hw')
   have hrt:=(a0n hT.r hw').1
   have vw:=a6C w.terms d (by omega) b2 (fun v hv=>by have:=hb v hv;omega) (fun k=>by have:=a5z hT hrt (hT.i _ (lbm hw')).1 hb k;omega) (by omega) (by rw [hdl];exact hrt)
   have sw:=T8 (j0 w.terms d) (by have:=a5z hT hrt (hT.i _ (lbm hw')).1 hb w.terms.length;rw [a4c] at this;omega)
   have s1:w.kind≠0->¬0<sgR (j0 w.terms d):=fun hk h0=>absurd ((b3Z (x:=j0 w.terms d)).1 h0) (lb2.2 (hd.up k w hw' hk))
   have s2:w.kind≠1->¬sgR (j0 w.terms d)<0:=fun hk h0=>absurd ((a94 (x:=j0 w.terms d)).1 h0) (lb2.2 (hd.down k w hw' hk))
   conv=>whnf
   repeat' (first|refine zx ?_|refine qp vw ?_|refine qp sw ?_|refine f9 hw' ?_|refine zd ?_ ?_<;>intro h<;>try omega|fail)<;>conv=>whnf
   all_goals first
    |omega
    |exact ⟨hlt,trivial,[],rfl,rfl,trivial,⟨rfl,rfl,rfl,rfl,c7 (by omega),trivial⟩⟩
  ·have hke:k=s.rows.length:=by omega
   subst hke
   conv=>whnf
   repeat' (first|refine zx ?_|refine qp va ?_|refine qp sv ?_|refine zd ?_ ?_<;>intro h<;>try omega|fail)<;>conv=>whnf
   all_goals first
    |omega
    |exact c9 rfl
theorem aC1 (s:f7) (g:List (Int × Rat)) (o:a0I) (hT:F0 s) (hl:s.rows.length<=78) (hg:d6 (-1) ((s.n.toNat:Nat):Int) g=true) (hw:A7 g) (ho:a60 s g o) (hk:o.kind≠1):
 a8 Tryz.prog 69 [Q8 s,j1 g,ao1 o] [] (d9 true) []:=by
 have hsn:=O9 hT.r
 have h10:=hT.n
 have sb:=a2t hT
 have lr:=S7 s sb
 rw [hT.r] at lr
 have gl:=z7 hg
 have gb:∀t ∈ g,rl t.2<=200:=fun t ht=>by have:=O0 hw t ht;omega
 have rt:=B8 g s.n (by omega) gb
 rw [lbH (show 0<=s.n by omega),N9,show d6 (-1) s.n g=true by rw [← hsn];exact hg] at rt
 have sx:=a40 ho hk
 have bx:=ho.bx
 have xl:=(J8 sx).2
 have hd:=b39 s sb hT.r o.X ⟨fun v hv=>by have:=bx v hv;omega,fun w hw' k=>by
  obtain ⟨i,hi⟩:=List.getElem?_of_mem hw'
  have:=a5z hT (a0n hT.r hi).1 (hT.i w hw').1 bx k
  omega,by omega⟩
 rw [sx] at hd
 have bv:=a5z hT hg hw bx g.length
 rw [a4c] at bv
 obtain ⟨kd,val,X,Y,R⟩:=o
 simp only at hk bx xl hd bv sx
 rcases ho.k with e|e|e
 ·simp only at e
  subst e
  obtain ⟨_,f2,f3,f4,f5,f6⟩:=ho.found rfl
  simp only at f2 f3 f4 f5 f6
  subst f2 f4
  have hYl:Y.length=s.rows.length:=by
   unfold a8O at f5
   simp only [lbM] at f5
   have:=f5.1
   unfold a3r at this
   simp only [lbM,lbI] at this
   exact this.1.1
  have lo:=b40 s sb hT.r (by omega) g (by omega) gb Y (fun v hv=>by have:=ho.by' v hv;omega) (by omega) (fun _=>b90 hT hl hYl ho.by')
  unfold aR4 at lo
  rw [f5,if_pos rfl,f6] at lo
  have va:=a6C g X (by omega) gb (fun v hv=>by have:=bx v hv;omega) (fun k=>by have:=a5z hT hg hw bx k;omega) (by omega) (by rw [show (X.length:Int)=((s.n.toNat:Nat):Int) by omega];exact hg)
  have sm:=ax5 (fz (j0 g X)) (by have:=K0 (j0 g X);show bl (j0 g X).num<=_;omega) (by have:=M3 (j0 g X);show bl (j0 g X).den<=_;omega)
  (refine ac Tryz.func69 ?_;(conv=>whnf);repeat ((first|refine b0x ?_|refine zy ?_);conv=>whnf))
  repeat' (first|refine zx ?_|refine qp lr ?_|refine qp rt ?_|refine qp lo ?_|refine qp va ?_|refine qp hd ?_|refine qp sm ?_|refine zd ?_ ?_<;>intro h<;>try omega|fail)<;>conv=>whnf
  all_goals first
   |(exfalso;(try dsimp only at *);omega)
   |exact c9 rfl
   |(exfalso;simp at h;done)
 ·exact absurd e hk
 ·simp only at e
  subst e
  obtain ⟨_,f2,f3,f4,f5⟩:=ho.free rfl
  simp only at f2 f3 f4 f5
  subst f4 f5
  have ry:=b95 s g R hT hg hw f2 f3 ho.br
  have em:=b2T
  (refine ac Tryz.func69 ?_;(conv=>whnf);repeat ((first|refine b0x ?_|refine zy ?_);conv=>whnf))
  repeat' (first|refine zx ?_|refine qp lr ?_|refine qp rt ?_|refine qp hd ?_|refine qp ry ?_|refine qp em ?_|refine zd ?_ ?_<;>intro h<;>try omega|fail)<;>conv=>whnf
  all_goals first
   |(exfalso;(try dsimp only at *);omega)
   |exact c9 rfl
   |(exfalso;simp at h;done)
end Go.Proofs.YtaejgdbahjjncaaGreat
