/- Chapter 21 in plain Lean: the system of a kind of foreign matter, and its solutions. No program is in sight. -/
import Derived.Test.YtdbogogfeffjlaaGreatSsA7
namespace Go.Proofs.YtdbogogfeffjlaaGreat
set_option linter.unusedVariables false
set_option linter.unusedSimpArgs false
set_option maxRecDepth 100000
open St1 St2 St3 St4 St5 St6
section
open Go.RowKit
def a5s (e:Ev) (m k:Int):Bool:=decide (e.mats≤k) && decide (e.hhs≤6) && decide (e.scs≤6) && decide (e.places.length≤12) && decide ((e.moves.length:Int)≤m) && decide (e.certs.length≤10) && decide (e.recalls.length≤4) && decide (e.purities.length≤6)
theorem b1B (e:Ev) (m k:Int):b9 Tryz.prog 57 [evS e,a9 .i64 m,a9 .i64 k] [] (f7 (a5s e m k)) []:=by
 have m1:(e.places.map I3.row).length=e.places.length:=by simp
 have m2:(e.moves.map n6.row).length=e.moves.length:=by simp
 have m3:(e.certs.map G4.row).length=e.certs.length:=by simp
 have m4:(e.recalls.map z6.row).length=e.recalls.length:=by simp
 have m5:(e.purities.map O8.row).length=e.purities.length:=by simp
 (refine a8 a7 Tryz.func57 rfl (by decide) ?_;(conv=>whnf);repeat ((first|refine b0x ?_|refine zy ?_);conv=>whnf))
 repeat' first|(refine zd ?_ ?_<;>intro h<;>first|exact zc h|(exfalso;omega)|conv=>whnf)|((first|refine zz ?_|refine zy ?_);conv=>whnf)
 all_goals
  refine d8 ?_
  unfold a5s
  simp only [m1,m2,m3,m4,m5] at *
  first
   |(symm;simp only [Bool.and_eq_true,decide_eq_true_eq];omega)
   |(symm;rw [← Bool.not_eq_true];simp only [Bool.and_eq_true,decide_eq_true_eq];omega)
def a0m (t:g9) (m:Int):Bool:=a5s t.ev m 3 && decide (t.ev.hhs≤4) && decide (t.finds.length≤6) && decide (t.cleans.length≤6)
theorem a5x (t:g9) (m:Int):b9 Tryz.prog 15 [trS t,a9 .i64 m] [] (f7 (a0m t m)) []:=by
 have r:=b1B t.ev m 3
 have m1:(t.finds.map H9.row).length=t.finds.length:=by simp
 have m2:(t.cleans.map B8.row).length=t.cleans.length:=by simp
 unfold a0m
 cases hq:a5s t.ev m 3<;>rw [hq] at r<;>
 ·(refine a8 a7 Tryz.func15 rfl (by decide) ?_;(conv=>whnf);repeat ((first|refine b0x ?_|refine zy ?_);conv=>whnf))
  repeat' first|(refine zd ?_ ?_<;>intro h<;>first|exact zc h|(exfalso;omega)|conv=>whnf)|((first|refine zz ?_|refine qp r ?_|refine zy ?_);conv=>whnf)
  all_goals
   refine d8 ?_
   simp only [m1,m2] at *
   first
    |rfl
    |(symm;simp only [Bool.true_and,Bool.and_eq_true,decide_eq_true_eq];omega)
    |(symm;rw [← Bool.not_eq_true];simp only [Bool.and_eq_true,decide_eq_true_eq];omega)
theorem R9 {t:g9} {m:Int} (hm:m≤100) (h:a0m t m=true):t.Sized∧(t.ev.moves.length:Int)≤m∧t.ev.hhs≤4:=by
 unfold a0m a5s at h
 simp only [Bool.and_eq_true,decide_eq_true_eq] at h
 exact ⟨⟨⟨by omega,by omega,by omega,by omega,by omega⟩,by omega,by omega⟩,by omega,by omega⟩
def a9u (z:List Fr) (n:Nat) (d:Int):Bool:=(z.take (n+1)).all (aG2 d) && decide (z.length≤n)
theorem aC9 (z:List Fr) (n:Nat) (d:Int) (hn:n≤1000):b9 Tryz.prog 19 [p8 z,a9 .i64 n,a9 .i64 d] [] (f7 (a9u z n d)) []:=by
 have m1:(z.map m6).length=z.length:=by simp
 (refine a8 a7 Tryz.func19 rfl (by decide) ?_;(conv=>whnf);repeat ((first|refine b0x ?_|refine zy ?_);conv=>whnf))
 repeat' first|(refine zd ?_ ?_<;>intro h<;>first|exact zc h|(exfalso;omega)|conv=>whnf)|((first|refine zz ?_|refine zy ?_);conv=>whnf)
 refine f8 a7 (fun k=>([p8 z,a9 .i64 n,a9 .i64 d,J,J,J,J,a9 .i64 k,J,J,J,J,J,J,J,J,J,J,J,J,J,J,J,J,J,J,J,J,J,J],[])) (n+1) (fun k=>k≤z.length∧(z.take k).all (aG2 d)=true) [] ⟨Nat.zero_le _,rfl⟩
  ⟨rfl,rfl,trivial,⟨rfl,rfl,rfl,rfl,trivial⟩⟩ ?_
 rintro k hk ⟨hle,hI⟩
 by_cases hlt:k<z.length∧k<n+1
 ·obtain ⟨f,hf⟩:∃f,z[k]? =some f:=⟨_,lg0 hlt.1⟩
  have hf2:(z.take (n+1))[k]? =some f:=by rw [List.getElem?_take,if_pos hlt.2];exact hf
  have r:=b4V f d
  cases hff:aG2 d f with
  |true=>
   rw [hff] at r
   conv=>whnf
   repeat' first|(refine zd ?_ ?_<;>intro h<;>first|exact zc h|(exfalso;omega)|conv=>whnf)|((first|refine zz ?_|refine qp r ?_|refine d9 hf ?_|refine zy ?_);conv=>whnf)
   all_goals first
    |(exfalso;omega)
    |exact ⟨hlt.2,⟨by omega,by rw [s7 hf,hI,hff];rfl⟩,[],rfl,rfl,trivial,⟨rfl,rfl,rfl,rfl,trivial⟩⟩
  |false=>
   rw [hff] at r
   have e1:a9u z n d=false:=by unfold a9u;rw [w7 hf2 hff];rfl
   rw [e1]
   conv=>whnf
   repeat' first|(refine zd ?_ ?_<;>intro h<;>first|exact zc h|(exfalso;omega)|conv=>whnf)|((first|refine zz ?_|refine qp r ?_|refine d9 hf ?_|refine zy ?_);conv=>whnf)
   all_goals first
    |(exfalso;omega)
    |exact d8 rfl
 ·have hk2:z.length=k∨k=n+1:=by omega
  have hall:(z.take (n+1)).all (aG2 d)=true:=by
   rcases hk2 with h|h
   ·have e:z.take (n+1)=z.take k:=by rw [lg4 (by omega),lg4 (by omega)]
    rw [e];exact hI
   ·rw [← h];exact hI
  conv=>whnf
  repeat' first|(refine zd ?_ ?_<;>intro h<;>first|exact zc h|(exfalso;omega)|conv=>whnf)|((first|refine zz ?_|refine zy ?_);conv=>whnf)
  all_goals first
   |(exfalso;omega)
   |(refine d8 ?_;unfold a9u;rw [hall];simp;omega)
def at6 (t:g9) (h:Int) (z:List Fr):Bool:=(y0 t.ev h (-1) 0 100000).any fun i=>decide (0≤i) && decide (i<z.length) && decide (0<(z.getD i.toNat E7).p.sg)
theorem b0H (t:g9) (hs:t.Sized) (h:Int) (z:List Fr) (hz:z.length≤1000):b9 Tryz.prog 21 [trS t,a9 .i64 h,p8 z] [] (f7 (at6 t h z)) []:=by
 have li:=am4 t.ev hs.ev h (-1) 0 100000
 have hl:=a2t (t:=t) (h:=h)
 have hm:=hs.ev.s2
 unfold at6
 generalize y0 t.ev h (-1) 0 100000=l at li hl
 have m1:(l.map i5).length=l.length:=by simp
 have m2:(z.map m6).length=z.length:=by simp
 (refine a8 a7 Tryz.func21 rfl (by decide) ?_;(conv=>whnf);repeat ((first|refine b0x ?_|refine zy ?_);conv=>whnf))
 repeat' first|(refine zd ?_ ?_<;>intro h<;>first|exact zc h|(exfalso;omega)|conv=>whnf)|((first|refine zz ?_|refine qp li ?_|refine zy ?_);conv=>whnf)
 refine f8 a7 (fun k=>([J,J,p8 z,J,J,J,J,g6 l,a9 .i64 k,J,J,J,J,J,J,J,J,J,J,J,J,J,J,J,J,J,J,J,J,J,J,J,J,J,J,J,J,J,J,J,J,J,J],[])) l.length (fun k=>(l.take k).any (fun i=>decide (0≤i) && decide (i<z.length) && decide (0<(z.getD i.toNat E7).p.sg))=false) [] rfl
  ⟨rfl,rfl,trivial,⟨rfl,j3 rfl,rfl,trivial⟩⟩ ?_
 intro k hk hI
 by_cases hlt:k<l.length
 ·obtain ⟨i,hi⟩:∃i,l[k]? =some i:=⟨_,lg0 hlt⟩
  have hany:(l.take (k+1)).any (fun i=>decide (0≤i) && decide (i<z.length) && decide (0<(z.getD i.toNat E7).p.sg))=(decide (0≤i) && decide (i<z.length) && decide (0<(z.getD i.toNat E7).p.sg)):=by
   rw [a0L hi,List.any_append,hI];simp
  by_cases hr:0≤i∧i<z.length
  ·obtain ⟨f,hf⟩:∃f,z[i.toNat]? =some f:=⟨_,lg0 (by omega)⟩
   have hfd:z.getD i.toNat E7=f:=by rw [lg3,hf];rfl
   rw [hfd,decide_eq_true hr.1,decide_eq_true hr.2,Bool.true_and,Bool.true_and] at hany
   by_cases hp:0<f.p.sg
   ·rw [decide_eq_true hp] at hany
    have e:l.any (fun i=>decide (0≤i) && decide (i<z.length) && decide (0<(z.getD i.toNat E7).p.sg))=true:=a10 hi (by rw [hfd,decide_eq_true hr.1,decide_eq_true hr.2,decide_eq_true hp];rfl)
    rw [e]
    conv=>whnf
    repeat' first|(refine zd ?_ ?_<;>intro h<;>first|exact zc h|(exfalso;omega)|conv=>whnf)|((first|refine zz ?_|refine d9 hi ?_|refine C1 hr.1 hf ?_|refine zy ?_);conv=>whnf)
    all_goals first
     |(exfalso;omega)
     |exact d8 rfl
   ·rw [decide_eq_false hp] at hany
    conv=>whnf
    repeat' first|(refine zd ?_ ?_<;>intro h<;>first|exact zc h|(exfalso;omega)|conv=>whnf)|((first|refine zz ?_|refine d9 hi ?_|refine C1 hr.1 hf ?_|refine zy ?_);conv=>whnf)
    all_goals first
     |(exfalso;omega)
     |exact ⟨hlt,hany,[],rfl,rfl,trivial,⟨rfl,rfl,rfl,trivial⟩⟩
  ·have hF:(decide (0≤i) && decide (i<z.length) && decide (0<(z.getD i.toNat E7).p.sg))=false:=by
    rw [← Bool.not_eq_true]
    simp only [Bool.and_eq_true,decide_eq_true_eq]
    exact fun h=>hr h.1
   rw [hF] at hany
   conv=>whnf
   repeat' first|(refine zd ?_ ?_<;>intro h<;>first|exact zc h|(exfalso;omega)|conv=>whnf)|((first|refine zz ?_|refine d9 hi ?_|refine zy ?_);conv=>whnf)
   all_goals first
    |(exfalso;omega)
    |exact ⟨hlt,hany,[],rfl,rfl,trivial,⟨rfl,rfl,rfl,trivial⟩⟩
 ·rw [lg4 (by omega)] at hI
  rw [hI]
  conv=>whnf
  repeat' first|(refine zd ?_ ?_<;>intro h<;>first|exact zc h|(exfalso;omega)|conv=>whnf)|((first|refine zz ?_|refine zy ?_);conv=>whnf)
  all_goals first
   |(exfalso;omega)
   |exact d8 rfl
theorem a2Q {Z:List Rat} (hZ:∀v ∈ Z,0≤v):∀l:List Int,0<k7 (a0p l) Z↔∃i ∈ l,0<Z.getD i.toNat 0:=by
 have h0:∀i,0≤Z.getD i 0:=fun i=>by
  by_cases h:i<Z.length
  ·exact hZ _ (lg2 (getD_some h))
  ·rw [lg3,List.getElem?_eq_none (by omega)];exact Rat.le_refl
 intro l
 have pos:∀l,0≤k7 (a0p l) Z:=fun l=>a5m hZ _ fun u hu=>by
  obtain ⟨i,_,rfl⟩:=List.mem_map.1 hu
  show (0:Rat)≤((1:Int):Rat);decide
 have key:∀k,k≤l.length→(0<k7 (a0p (l.take k)) Z↔∃i ∈ l.take k,0<Z.getD i.toNat 0):=by
  intro k
  induction k with
  |zero=>
   intro _
   rw [List.take_zero]
   constructor
   ·intro h
    have:(0:Rat)<0:=h
    exact absurd this (by decide +kernel)
   ·rintro ⟨i,hi,_⟩;cases hi
  |succ k ih=>
   intro hk
   have ih:=ih (by omega)
   have hx:l[k]? =some l[k]:=lg0 (by omega)
   rw [a6T hx,L4,a0L hx]
   have e1:((1:Int):Rat)=1:=rfl
   have a1:=pos (l.take k)
   have a2:=h0 l[k].toNat
   simp only [e1]
   constructor
   ·intro h
    by_cases h2:0<Z.getD l[k].toNat 0
    ·exact ⟨_,List.mem_append_right _ (List.mem_singleton.2 rfl),h2⟩
    ·obtain ⟨i,hi,hp⟩:=ih.1 (by grind)
     exact ⟨i,List.mem_append_left _ hi,hp⟩
   ·rintro ⟨i,hi,hp⟩
    rcases List.mem_append.1 hi with h|h
    ·have:=ih.2 ⟨i,h,hp⟩;grind
    ·rw [List.mem_singleton.1 h] at hp;grind
 have:=key l.length (Nat.le_refl _)
 rwa [List.take_length] at this
theorem a2Y {t:g9} {h i:Int} (hi:i ∈ y0 t.ev h (-1) 0 100000):0≤i∧i<t.ev.moves.length:=by
 obtain ⟨a1,_⟩:=ae4 t.ev h (-1) 0 100000
 obtain ⟨k,hk,he⟩:=List.getElem_of_mem hi
 have:=a1 k i (by rw [lg0 hk,he])
 omega
theorem aV8 {t:g9} {h:Int} {Z:List Rat} (hZ:∀v ∈ Z,0≤v) (hl:Z.length=t.ev.moves.length):at6 t h (Z.map fz)=true↔0<k7 (p6 t h) Z:=by
 unfold at6 p6
 rw [a2Q hZ,List.any_eq_true]
 constructor
 ·rintro ⟨i,hi,hp⟩
  obtain ⟨h1,h2⟩:=a2Y hi
  simp only [Bool.and_eq_true,decide_eq_true_eq] at hp
  refine ⟨i,hi,?_⟩
  have hg:Z[i.toNat]? =some (Z.getD i.toNat 0):=getD_some (by omega)
  have e:(Z.map fz).getD i.toNat E7=fz (Z.getD i.toNat 0):=by rw [lg3,List.getElem?_map,hg];rfl
  have:=hp.2
  rw [e] at this
  exact (am9 _).1 this
 ·rintro ⟨i,hi,hp⟩
  obtain ⟨h1,h2⟩:=a2Y hi
  refine ⟨i,hi,?_⟩
  have hg:Z[i.toNat]? =some (Z.getD i.toNat 0):=getD_some (by omega)
  have e:(Z.map fz).getD i.toNat E7=fz (Z.getD i.toNat 0):=by rw [lg3,List.getElem?_map,hg];rfl
  simp only [Bool.and_eq_true,decide_eq_true_eq]
  refine ⟨⟨h1,by simp;omega⟩,?_⟩
  rw [e];exact (am9 _).2 hp
theorem aw4 {z:List Fr} {n:Nat} {d:Int} (h:a9u z n d=true):z.length≤n∧∀f ∈ z,(f.p.dl.length:Int)≤d∧(f.q.dl.length:Int)≤d:=by
 unfold a9u at h
 simp only [Bool.and_eq_true,decide_eq_true_eq] at h
 obtain ⟨h1,h2⟩:=h
 rw [lg4 (by omega),List.all_eq_true] at h1
 refine ⟨h2,fun f hf=>?_⟩
 have:=h1 f hf
 unfold aG2 at this
 simp only [Bool.and_eq_true,decide_eq_true_eq] at this
 exact this
theorem aG8 {t:g9} {kind:Int} {z:List Fr} (hs:a0m t 8=true) (hm:Q4 t kind z=0):∃(n:Nat) (Z:List Rat),ExP t kind n∧n≤4∧z=Z.map fz∧j4 (f9 t kind) Z=true:=by
 obtain ⟨s1,s2,s3⟩:=R9 (by decide) hs
 have hm0:=hm
 rw [ax6] at hm0
 obtain ⟨Z,rfl,hZ⟩:=hm0
 have hk:m8 t=0∧0≤kind∧kind<8:=by
  unfold Q4 at hm
  by_cases h1:m8 t≠0∨kind<0∨8≤kind
  ·rw [if_pos h1] at hm;cases hm
  ·omega
 obtain ⟨k1,k2,k3⟩:=hk
 have hh:=(sys_holds k1 k2 k3 (by omega)).2 hZ
 have hhs:=(Y1 (z4 k1).1).2.2.1
 exact ⟨t.ev.hhs.toNat,Z,⟨s1,k1,k2,k3,by omega,by omega,aR9 k1 (by omega) hh⟩,by omega,rfl,hh⟩
set_option maxHeartbeats 4000000 in
theorem ak2 (t:g9) (kind:Int) (z:List Fr):b9 Tryz.prog 5 [trS t,a9 .i64 kind,p8 z] [] (f7 true) []:=by
 have sa:=a8W
 have sm:=a5x t 8
 have fp:=aC9 z 10 3 (by decide)
 cases hsm:a0m t 8 with
 |false=>
  rw [hsm] at sm
  (refine a8 a7 Tryz.func5 rfl (by decide) ?_;(conv=>whnf);repeat ((first|refine b0x ?_|refine zy ?_);conv=>whnf))
  repeat' first|(refine zd ?_ ?_<;>intro h<;>first|exact zc h|(exfalso;omega)|conv=>whnf)|((first|refine zz ?_|refine qp sa ?_|refine qp sm ?_|refine zy ?_);conv=>whnf)
  all_goals first
   |(exfalso;omega)
   |(exfalso;contradiction)
   |exact d8 rfl
 |true=>
 rw [hsm] at sm
 cases hfp:a9u z 10 3 with
 |false=>
  rw [hfp] at fp
  (refine a8 a7 Tryz.func5 rfl (by decide) ?_;(conv=>whnf);repeat ((first|refine b0x ?_|refine zy ?_);conv=>whnf))
  repeat' first|(refine zd ?_ ?_<;>intro h<;>first|exact zc h|(exfalso;omega)|conv=>whnf)|((first|refine zz ?_|refine qp sa ?_|refine qp sm ?_|refine qp fp ?_|refine zy ?_);conv=>whnf)
  all_goals first
   |(exfalso;omega)
   |(exfalso;contradiction)
   |exact d8 rfl
 |true=>
 rw [hfp] at fp
 obtain ⟨s1,s2,s3⟩:=R9 (by decide) hsm
 obtain ⟨f1,f2⟩:=aw4 hfp
 have ma:=b1z t kind z s1 (by omega) (fun f hf=>by have:=f2 f hf;omega)
 by_cases hmz:Q4 t kind z≠0
 ·(refine a8 a7 Tryz.func5 rfl (by decide) ?_;(conv=>whnf);repeat ((first|refine b0x ?_|refine zy ?_);conv=>whnf))
  repeat' first|(refine zd ?_ ?_<;>intro h<;>first|exact zc h|(exfalso;omega)|conv=>whnf)|((first|refine zz ?_|refine qp sa ?_|refine qp sm ?_|refine qp fp ?_|refine qp ma ?_|refine zy ?_);conv=>whnf)
  all_goals first
   |(exfalso;omega)
   |(exfalso;contradiction)
   |exact d8 rfl
 have hmz:Q4 t kind z=0:=by omega
 obtain ⟨n,Z,hE,hn4,rfl,hZ⟩:=aG8 hsm hmz
 have ve:=R4 t kind s1 hE.e hE.k0 hE.k1 hE.m n hE.h (by omega) hE.z
 have hh:=hE.h
 have vl:=T6 t kind n
 have m1:((D3 t kind n).map a0J.row).length=n:=by simp [vl]
 (refine a8 a7 Tryz.func5 rfl (by decide) ?_;(conv=>whnf);repeat ((first|refine b0x ?_|refine zy ?_);conv=>whnf))
 repeat' first|(refine zd ?_ ?_<;>intro h<;>first|exact zc h|(exfalso;omega)|conv=>whnf)|((first|refine zz ?_|refine qp sa ?_|refine qp sm ?_|refine qp fp ?_|refine qp ma ?_|refine qp ve ?_|refine qp 5 ?_|refine bl0 [5] ?_|refine zy ?_);conv=>whnf)
 all_goals try (exfalso;omega)
 refine f8 a7 (fun k=>([J,J,p8 (Z.map fz),S.c (C.t (T.ptr (trT t))),J,J,J,f7 true,a7j (D3 t kind n),J,a9 .i64 k,J,J,J,J,J,J,J,J,J,J,J,J,J,J,J,J,J,J,J,J,J,J,J,J,J,J,J,J,J,J,J,J,J,J,J,J,J,J,J,J,J,J,J,J,J,J,J,J,J,J,J,J,J,J,J,J,J,J,J,J,J,J,J,J,J,J],[])) n (fun _=>True) [] trivial
  ⟨rfl,rfl,trivial,⟨rfl,rfl,rfl,rfl,rfl,trivial⟩⟩ ?_
 intro k hk _
 by_cases hlt:k<n
 ·have hv:(D3 t kind n)[k]? =some (x3 (f9 t kind) (p6 t (k:Int)) (k:Int)):=by unfold D3;simp [hlt]
  have so:=b0H t s1 k (Z.map fz) (Nat.le_trans f1 (by decide))
  have hp:=Y3 hZ
  have hl:Z.length=t.ev.moves.length:=by have:=(T8 hZ).2;have:(f9 t kind).n=t.ev.moves.length:=rfl;omega
  have hb:=aV8 (h:=(k:Int)) hp hl
  have hc:=T2 (hE.vd (k:Int)) (k:Int)
  cases hsb:at6 t k (Z.map fz) with
  |true=>
   rw [hsb] at so
   have hne:(x3 (f9 t kind) (p6 t (k:Int)) (k:Int)).state≠0:=fun h=>by
    rcases hc with ⟨h1,_⟩|⟨_,h2⟩|⟨h1,_⟩
    ·omega
    ·have h3:=hb.1 hsb
     rw [h2 Z hZ] at h3
     exact absurd h3 (by decide +kernel)
    ·omega
   generalize x3 (f9 t kind) (p6 t (k:Int)) (k:Int)=v at hv hne
   conv=>whnf
   repeat' first|(refine zd ?_ ?_<;>intro h<;>first|exact zc h|(exfalso;omega)|conv=>whnf)|((first|refine zz ?_|refine qp so ?_|refine d9 hv ?_|refine zy ?_);conv=>whnf)
   all_goals first
    |(exfalso;omega)
    |(exfalso;contradiction)
    |exact ⟨hlt,trivial,[],rfl,rfl,trivial,⟨rfl,rfl,rfl,rfl,rfl,trivial⟩⟩
  |false=>
   rw [hsb] at so
   have hne:(x3 (f9 t kind) (p6 t (k:Int)) (k:Int)).state≠2:=fun h=>by
    rcases hc with ⟨_,h2⟩|⟨h1,_⟩|⟨h1,_⟩
    ·have:=hb.2 (h2 Z hZ)
     rw [this] at hsb;cases hsb
    ·omega
    ·omega
   generalize x3 (f9 t kind) (p6 t (k:Int)) (k:Int)=v at hv hne
   conv=>whnf
   repeat' first|(refine zd ?_ ?_<;>intro h<;>first|exact zc h|(exfalso;omega)|conv=>whnf)|((first|refine zz ?_|refine qp so ?_|refine d9 hv ?_|refine zy ?_);conv=>whnf)
   all_goals first
    |(exfalso;omega)
    |(exfalso;contradiction)
    |exact ⟨hlt,trivial,[],rfl,rfl,trivial,⟨rfl,rfl,rfl,rfl,rfl,trivial⟩⟩
 ·conv=>whnf
  repeat' first|(refine zd ?_ ?_<;>intro h<;>first|exact zc h|(exfalso;omega)|conv=>whnf)|((first|refine zz ?_|refine zy ?_);conv=>whnf)
  all_goals first
   |(exfalso;omega)
   |exact d8 rfl
end
section
open Go.RowKit
def aS1 (base:Nat) (w w':World):Prop:=w.heap.size≤w'.heap.size∧∀(w0:World) (B:Nat),Below B w0 w→B≤base→Below B w0 w'
theorem aS1.below {base B:Nat} {w w' w0:World} (h:aS1 base w w') (hb:Below B w0 w) (hB:B≤base):Below B w0 w':=h.2 w0 B hb hB
theorem aS1.size {base:Nat} {w w':World} (h:aS1 base w w'):w.heap.size≤w'.heap.size:=h.1
end
section
open Go.RowKit
structure a4q (w:World) (b:Nat) (m h s:Int) (A1:Option Addr) (n1 c1:Nat) (A2:Option Addr) (n2 c2:Nat) (A3:Option Addr) (n3 c3:Nat) (A4:Option Addr) (n4 c4:Nat) (A5:Option Addr) (n5 c5:Nat):Prop where
 b0:w.cell? ⟨b,0,none⟩=some (vi m)
 b1:w.cell? ⟨b,1,none⟩=some (vi h)
 b2:w.cell? ⟨b,2,none⟩=some (vi s)
 b3:w.cell? ⟨b,3,none⟩=some (.slice A1 n1 c1)
 b4:w.cell? ⟨b,4,none⟩=some (.slice A2 n2 c2)
 b5:w.cell? ⟨b,5,none⟩=some (.slice A3 n3 c3)
 b6:w.cell? ⟨b,6,none⟩=some (.slice A4 n4 c4)
 b7:w.cell? ⟨b,7,none⟩=some (.slice A5 n5 c5)
section
variable {w w':World} {b:Nat} {m h s:Int} {A1 A2 A3 A4 A5:Option Addr} {n1 n2 n3 n4 n5 c1 c2 c3 c4 c5:Nat}
theorem a4q.lt (h0:a4q w b m h s A1 n1 c1 A2 n2 c2 A3 n3 c3 A4 n4 c4 A5 n5 c5):b<w.heap.size:=a4Q h0.b0
theorem a4q.keep {B:Nat} (h0:a4q w b m h s A1 n1 c1 A2 n2 c2 A3 n3 c3 A4 n4 c4 A5 n5 c5) (hb:Below B w w') (hB:b<B):a4q w' b m h s A1 n1 c1 A2 n2 c2 A3 n3 c3 A4 n4 c4 A5 n5 c5:=
 ⟨(hb.cell (p:=⟨b,0,none⟩) hB).trans h0.b0,(hb.cell (p:=⟨b,1,none⟩) hB).trans h0.b1,(hb.cell (p:=⟨b,2,none⟩) hB).trans h0.b2,(hb.cell (p:=⟨b,3,none⟩) hB).trans h0.b3,
  (hb.cell (p:=⟨b,4,none⟩) hB).trans h0.b4,(hb.cell (p:=⟨b,5,none⟩) hB).trans h0.b5,(hb.cell (p:=⟨b,6,none⟩) hB).trans h0.b6,(hb.cell (p:=⟨b,7,none⟩) hB).trans h0.b7⟩
theorem a4q.later (h0:a4q w b m h s A1 n1 c1 A2 n2 c2 A3 n3 c3 A4 n4 c4 A5 n5 c5) (hb:Below w.heap.size w w'):a4q w' b m h s A1 n1 c1 A2 n2 c2 A3 n3 c3 A4 n4 c4 A5 n5 c5:=h0.keep hb h0.lt
theorem a4q.new (w:World) (m h s:Int) (A1:Option Addr) (n1 c1:Nat) (A2:Option Addr) (n2 c2:Nat) (A3:Option Addr) (n3 c3:Nat) (A4:Option Addr) (n4 c4:Nat) (A5:Option Addr) (n5 c5:Nat) (t:TypeId):
 a4q (w.alloc (.cells #[.int .i64 m,.int .i64 h,.int .i64 s,.slice A1 n1 c1,.slice A2 n2 c2,.slice A3 n3 c3,.slice A4 n4 c4,.slice A5 n5 c5] t)) w.heap.size m h s A1 n1 c1 A2 n2 c2 A3 n3 c3 A4 n4 c4 A5 n5 c5:=by
 have hc:=fun i=>cell_of_row (w.alloc (.cells #[.int .i64 m,.int .i64 h,.int .i64 s,.slice A1 n1 c1,.slice A2 n2 c2,.slice A3 n3 c3,.slice A4 n4 c4,.slice A5 n5 c5] t)) w.heap.size i _ t (0,0) (heap_alloc_new w _)
 exact ⟨hc 0,hc 1,hc 2,hc 3,hc 4,hc 5,hc 6,hc 7⟩
end
end
section
open Go.RowKit Go.ChangeShapes Go.WideShapes Go.Deep
section
variable {H:Type} {enc:TypeId × Value→H} {P:Program}
theorem a9K (hl:laidOutB P=true) {W W':World} {sp:Nat→Bool}:∀{ts:List TypeId} {vs:List Value} {ds:List (DataW H)} {ps:List MemPlace},(∀ t ∈ ts,P.readableRec t=true∧t<P.types.size)→
 DataW.TrodAll enc P W 0 (fun _=>true) true ts vs ds ps→(∀ p ∈ ps,W.sameAt W' p)→(∀ p ∈ ps,sp p.block=true)→DataW.TrodAll enc P W' 0 sp true ts vs ds ps:=by
 intro ts
 induction ts with
 |nil=>
  intro vs ds ps _ h _ _
  obtain ⟨rfl,rfl,rfl⟩:=trodAll_nil h
  exact trodAll_mk0
 |cons t ts ih=>
  intro vs ds ps hr h hsame hs
  obtain ⟨v,vs',d,ds',p,q,rfl,rfl,rfl,h1,h2⟩:=trodAll_cons h
  obtain ⟨ht,hlt⟩:=hr t (by simp)
  exact trodAll_cons_mk (WideElems.Trod_stays hl ht hlt h1 (fun x hx=>hsame x (by simp [hx])) (fun x hx=>hs x (by simp [hx]))) (ih (fun t ht=>hr t (by simp [ht])) h2 (fun x hx=>hsame x (by simp [hx])) (fun x hx=>hs x (by simp [hx])))
theorem a9g {f:Func} {s:ChangeSpec} {fresh handsOn:Bool} {W W':World} {args:Array Value} {ds gs:List (DataW H)} {before:List MemPlace} {tb:TypeId}
 (hW:DataW.Whole enc P f.params.toList s.vars false W args.toList ds gs before) (hl:laidOutB P=true) (hr:∀t ∈ f.params.toList,P.readableRec t=true∧t<P.types.size) (hv:s.vars=[])
 (hfn:s.fn H (ds++gs)={ results:=[.lit (.bool true)],args:=ds }) (hres:f.resultTypes=#[tb]) (hbool:P.underlying tb=some .bool) (hb:Below W.heap.size W W'):
 s.post enc P f false fresh handsOn false W args (.bool true) W':=by
 have hW':=hW
 obtain ⟨p,q,hA,hV,rfl,hfz,hnd⟩:=hW
 rw [hv] at hV
 obtain ⟨rfl,rfl⟩:=trodVars_none hV
 have hlt:∀x ∈ p,x.block<W.heap.size:=fun x hx=>by have:=hW'.lt x (by simpa using hx);simpa using this
 refine ⟨ds,[],p++[],[],p,[],hW',?_,?_,?_,hb.frame _,fun h=>by cases h⟩
 ·rw [hfn,hres]
  exact trodAll_mk1 (shut_bool hbool true)
 ·rw [hfn]
  exact a9K hl hr hA (fun x hx=>hb.same (hlt x hx)) (fun x hx=>by simpa using hlt x hx)
 ·rw [hv,hfn]
  exact rfl
variable {w:World} {base:Nat} {spare:Nat→Bool} {held:Bool}
end
end
section
open Go.RowKit Go.ChangeShapes Go.WideShapes Go.Deep
section
variable {H:Type} {enc:TypeId × Value→H} {w:World} {base:Nat} {spare:Nat→Bool} {held:Bool}
end
theorem ak5:ownKnob Tryz.prog.godebug=none:=by kernel_rfl
theorem a97:laidOutB Tryz.prog=true:=by kernel_rfl
end
section
open Go.RowKit
theorem b3k {w:World} {b:Bool}:RS w (fun _=>none) (fun _=>False) (f7 b) (.bool b):=RS.bool
theorem aF5 {w:World} {n:Int}:RS w (fun _=>none) (fun _=>False) (a9 .i64 n) (.int .i64 n):=RS.int
inductive ac9 (w:World):List S→List Value→Prop
 |nil:ac9 w [] []
 |cons {s:S} {v:Value} {ss:List S} {vs:List Value} (h:RS w (fun _=>none) (fun _=>False) s v) (hs:ac9 w ss vs):ac9 w (s::ss) (v::vs)
theorem ac9.get {w:World} {ss:List S} {vs:List Value} (h:ac9 w ss vs):vs.length=ss.length∧∀(j:Nat) (s:S),ss[j]? =some s→RS w (fun _=>none) (fun _=>False) s (vs.getD j undef):=by
 induction h with
 |nil=>exact ⟨rfl,by simp⟩
 |cons h hs ih=>
  refine ⟨by simp [ih.1],fun j s hj=>?_⟩
  cases j with
  |zero=>simp at hj;subst hj;exact h
  |succ j=>simpa using ih.2 j s (by simpa using hj)
theorem a2o {P:Program} {g:FuncId} {ss:List S} {b:Bool} (h:b9 P g ss [] (f7 b) []) {w:World} {vs:List Value} (ha:ac9 w ss vs):
 Calls P g vs.toArray w fun e w'=>e=.returned (.bool b)∧Below w.heap.size w w':=by
 obtain ⟨h1,h2⟩:=ha.get
 refine Calls.mono (h.2 w (fun _=>none) (fun _=>False) vs h1 h2 ⟨by simp,by simp,by simp,by simp,by simp⟩ (fun _ h=>h.elim) (fun _ _=>rfl)) ?_
 rintro e w' ⟨v,rfl,ι',M',q1,q2,q3,q4,q5⟩
 rw [q1.inv_atm]
 exact ⟨rfl,q5.os,q5.tape,q5.output,q5.size,fun k hk=>q5.keep k hk (by rintro ⟨id,k,_,_,hk,_⟩;simp at hk)⟩
end
section
open Go.RowKit Go.ChangeShapes Go.WideShapes Go.ChangeAt
theorem a6c {P:Program} {f:FuncId} {fn:Func} {s:ChangeSpec} {c:OpenClaim}
 (h1:c.wf (OpenSpec.ofChange s)=true) (h2:laidOutB P=true) (h3:mapsRowed P=true) (h4:fn.params.all (P.readableRec ·)=true) (h5:namedTie P c.named s.vars=true)
 (h6:(c.stops == [])=true) (h7:(P.stops == [])=true) (h8:(c.knobs == [])=true) (h9:(P.stopKnobs == [])=true)
 (h10:(c.inPlace == P.inPlace f)=true) (h11:(c.unfollowed == P.unfollowed f)=true) (h12:(c.recurses == P.recurses f)=true) (h13:(c.named == P.varsNamed f)=true)
 (h14:(c.maps == (fn.params.toList++s.plain.varTypes P).any (P.mapsRec ·))=true) (h15:(c.ifaces == (fn.params.toList++s.plain.varTypes P).any (P.ifacesRec ·))=true) (h16:(c.mapsOut == P.mapsAmong fn.resultTypes.toList)=true)
 (h17:(c.loops == (fn.params.toList++s.plain.varTypes P).any (P.loopsFrom ·))=true) (h18:(c.wideKeys == (fn.params.toList++s.plain.varTypes P++fn.resultTypes.toList).any (P.wideKeysFrom ·))=true)
 (h19:s.vars.all (P.varReadable ·)=true) (h20:fn.resultTypes.all (fun t=>P.readableRec t && decide (t<P.types.size))=true) (h21:(c.ifacesOut == fn.resultTypes.toList.any (P.ifacesRec ·))=true) (h22:(c.loopsOut == fn.resultTypes.toList.any (P.loopsFrom ·))=true)
 (h23:(c.plainKeys == P.plainKeys)=true) (h24:c.shortTexts.isNone=true) (h25:P.stopsHeard=true) (h26:P.mayEnter=true) (h27:(c.lifted == P.liftsFinal)=true) (h28:(P.make == some c.make)=true)
 (h29:c.domain.isEmpty=true) (h29b:(c.kinds == [])=true) (h30:(c.pinned == c.pinnedBy)=true)
 (h31:(c.veiled == (fn.params.toList++s.plain.varTypes P++fn.resultTypes.toList).any (P.veiledRec ·))=true) (h32:c.veiledFits P fn.params.toList (fn.params.toList++s.plain.varTypes P++fn.resultTypes.toList)=true):
 joinedFacts P f fn s c=true:=by
 unfold joinedFacts
 rw [h1,h2,h3,h4,h5,h6,h7,h8,h9,h10,h11,h12,h13,h14,h15,h16,h17,h18,h19,h20,h21,h22,h23,h24,h25,h26,h27,h28,if_pos h29,h29b,h30,h31,h32]
 rfl
theorem aj2:laidOutB Tryz.pinned.checked.prog=true:=by kernel_rfl
theorem ao9:mapsRowed Tryz.pinned.checked.prog=true:=by kernel_rfl
theorem ap7:Tryz.pinned.checked.prog.plainKeys=true:=by kernel_rfl
theorem a87:Tryz.pinned.checked.prog.stopsHeard=true:=by kernel_rfl
theorem a8D:Tryz.pinned.checked.prog.mayEnter=true:=by kernel_rfl
theorem aj9:(Rows.sourceTrueRow.lifted == Tryz.pinned.checked.prog.liftsFinal)=true:=by kernel_rfl
theorem ak4:(Tryz.pinned.checked.prog.make == some Rows.sourceTrueRow.make)=true:=by kernel_rfl
end
section
open Go.RowKit Go.ChangeShapes Go.WideShapes Go.Deep
inductive Sh where
 |int (k:IntKind)
 |bool
 |sl (row:List Sh)
inductive Fit:Sh→T→Prop
 |int {k:IntKind} {n:Int} (h:(Lit.int k n).wf=true):Fit (.int k) (.atm (.int k n))
 |bool {b:Bool}:Fit .bool (.atm (.bool b))
 |sl {row:List Sh} {rows:List (List T)} (hl:∀r ∈ rows,r.length=row.length) (h:∀r ∈ rows,∀(j:Nat) (s:Sh) (t:T),row[j]? =some s→r[j]? =some t→Fit s t):Fit (.sl row) (.sl row.length .any rows)
inductive D5 (P:Program):TypeId→List Sh→Prop
 |int {t:TypeId} {k:IntKind} (h:P.underlying t=some (.int k)):D5 P t [.int k]
 |bool {t:TypeId} (h:P.underlying t=some .bool):D5 P t [.bool]
 |sl {t e:TypeId} {row:List Sh} (h:P.underlying t=some (.slice e)) (hc:P.cellsOf e=row.length) (hp:0<row.length) (he:D5 P e row):D5 P t [.sl row]
 |struct {t:TypeId} {fs:Array Field} (parts:List (List Sh)) (h:P.underlying t=some (.struct fs)) (hl:parts.length=fs.size)
   (ho:∀(i:Nat) (f:Field) (p:List Sh),fs[i]? =some f→parts[i]? =some p→f.offset=(parts.take i).flatten.length∧P.cellsOf f.type=p.length)
   (hc:P.cellsOf t=parts.flatten.length)
   (he:∀(i:Nat) (f:Field) (p:List Sh),fs[i]? =some f→parts[i]? =some p→D5 P f.type p):D5 P t parts.flatten
section
variable {H:Type} {enc:TypeId × Value→H} {P:Program} {w:World} {base:Nat} {spare:Nat→Bool} {held:Bool}
def al3 (w:World) (shs:List Sh) (cs:List Value):Prop:=
 cs.length=shs.length∧∃ts:List T,ts.length=shs.length∧∀(j:Nat) (s:Sh),shs[j]? =some s→∃u t,cs[j]? =some u∧ts[j]? =some t∧RT w (fun _=>False) t u∧Fit s t
theorem a92 {α:Type}:∀(parts:List (List α)) (j:Nat) (x:α),parts.flatten[j]? =some x→∃i p k,parts[i]? =some p∧p[k]? =some x∧j=(parts.take i).flatten.length+k
 |[],j,x,h=>by simp at h
 |p::r,j,x,h=>by
  rw [List.flatten_cons] at h
  by_cases hj:j<p.length
  ·rw [List.getElem?_append_left hj] at h
   exact ⟨0,p,j,rfl,h,by simp⟩
  ·rw [List.getElem?_append_right (by omega)] at h
   obtain ⟨i,q,k,h1,h2,h3⟩:=a92 r _ x h
   exact ⟨i+1,q,k,by simpa using h1,h2,by rw [List.take_succ_cons,List.flatten_cons,List.length_append];omega⟩
theorem a0r {α:Type} {p:Nat→α→Prop}:∀(n:Nat),(∀ i,i<n→∃x,p i x)→∃xs:List α,xs.length=n∧∀i x,xs[i]? =some x→p i x
 |0,_=>⟨[],rfl,by simp⟩
 |n+1,h=>by
  obtain ⟨xs,h1,h2⟩:=a0r n fun i hi=>h i (by omega)
  obtain ⟨x,hx⟩:=h n (by omega)
  refine ⟨xs++[x],by simp [h1],fun i y hy=>?_⟩
  by_cases hi:i<xs.length
  ·rw [List.getElem?_append_left hi] at hy;exact h2 i y hy
  ·rw [List.getElem?_append_right (by omega)] at hy
   have:i=n:=by
    have:=(lg1 hy).1
    simp at this;omega
   subst this
   rw [h1] at hy
   simp at hy
   subst hy
   exact hx
theorem a7X {t:TypeId} {shs:List Sh} (h:D5 P t shs):∀(n:Nat) (cs:List Value) (x:DataW H × List MemPlace),DataW.trod enc P w base spare held n t cs=some x→al3 w shs cs:=by
 induction h with
 |int h=>
  intro n cs x hx
  obtain ⟨a,rfl,_,hw⟩:=DataW.trod_int h hx
  exact ⟨rfl,[.atm (.int _ a)],rfl,fun j s hj=>by
   match j,hj with
   |0,hj=>simp at hj;subst hj;exact ⟨_,_,rfl,rfl,.atm rfl,.int hw⟩⟩
 |bool h=>
  intro n cs x hx
  obtain ⟨a,rfl,_⟩:=DataW.trod_bool h hx
  exact ⟨rfl,[.atm (.bool a)],rfl,fun j s hj=>by
   match j,hj with
   |0,hj=>simp at hj;subst hj;exact ⟨_,_,rfl,rfl,.atm rfl,.bool⟩⟩
 |@sl t e row h hc hp he ih=>
  intro n cs x hx
  have key:∀(rows:List (List T)) (u:Value),cs=[u]→RT w (fun _=>False) (.sl row.length .any rows) u→(∀ r ∈ rows,r.length=row.length)→(∀ r ∈ rows,∀(j:Nat) (s:Sh) (t:T),row[j]? =some s→r[j]? =some t→Fit s t)→al3 w [.sl row] cs:=by
   rintro rows u rfl hu h1 h2
   exact ⟨rfl,[.sl row.length .any rows],rfl,fun j s hj=>by
    match j,hj with
    |0,hj=>simp at hj;subst hj;exact ⟨_,_,rfl,rfl,hu,.sl h1 h2⟩⟩
  rcases open_slice h hx with ⟨h0,_⟩|⟨a,len,cap,m,n,D,Pl,hcs,hb,hl,hm,hmm,hx,hi⟩
  ·exact key [] _ h0 (.sl (b:=0) (off:=0) (fun _ _=>undef) (by simp) (by simp) (by unfold maxLen;omega) (by intro h;cases h) (by intro h;cases h) (by simp) (by simp [at2]) (by simp [at2])) (by simp) (by simp)
  ·by_cases hz:len=0
   ·subst hz
    exact key [] _ hcs (.sl (b:=0) (off:=0) (fun _ _=>undef) (by simp) (by simp) hm (by intro h;cases h) (by intro h;cases h) (by simp) (by simp [at2]) (by simp [at2])) (by simp) (by simp)
   have hlm:len≤m:=by rw [hmm];split<;>omega
   have each:∀i,i<len→∃cs':List Value,(∀ j,j<row.length→w.cell? (a.add (i*row.length+j))=cs'[j]?)∧al3 w row cs':=by
    intro i hil
    obtain ⟨cs',hc',ht'⟩:=hi i (by omega)
    rw [hc] at hc'
    obtain ⟨_,hcl,hat⟩:=World.cells?_some hc'
    exact ⟨cs',fun j hj=>by rw [← Go.Deep.add_add];exact hat j hj,ih n cs' _ ht'⟩
   obtain ⟨css,hcl,hcs2⟩:=a0r len each
   obtain ⟨rows,hrl,hrows⟩:=a0r (α:=List T) (p:=fun i ts=>ts.length=row.length∧∀(j:Nat) (s:Sh),row[j]? =some s→∃u t,(css.getD i [])[j]? =some u∧ts[j]? =some t∧RT w (fun _=>False) t u∧Fit s t) len (fun i hi=>by
    have hg:css[i]? =some (css[i]'(by omega)):=lg0 (by omega)
    obtain ⟨_,_,ts,h1,h2⟩:=hcs2 i _ hg
    refine ⟨ts,h1,?_⟩
    rw [lg3,hg]
    exact h2)
   have hcell:∀i j,i<len→j<row.length→w.cell? (a.add (i*row.length+j))=some ((css.getD i []).getD j undef):=by
    intro i j hi hj
    have hg:css[i]? =some (css[i]'(by omega)):=lg0 (by omega)
    obtain ⟨h1,h2,_⟩:=hcs2 i _ hg
    rw [h1 j hj]
    have hgd:css.getD i []=css[i]'(by omega):=by rw [lg3,hg];rfl
    rw [hgd,lg3,lg0 (by omega)];rfl
   have hspot:a.spot=none:=by
    have:=World.cell?_spot (hcell 0 0 (by omega) hp)
    simpa [Addr.add] using this
   obtain ⟨b,off,sp⟩:=a
   simp only at hspot
   subst hspot
   have hadd:∀k,(⟨b,off,none⟩:Addr).add k=⟨b,off+k,none⟩:=by
    intro k
    unfold Addr.add
    split
    ·subst_vars;rfl
    ·rfl
   have hat:∀i j c,at2 rows i j=some c→i<len∧j<row.length∧∃r s,rows[i]? =some r∧r[j]? =some c∧row[j]? =some s:=by
    intro i j c hc
    obtain ⟨r,q1,q2⟩:=C6 hc
    have hil:i<len:=by rw [← hrl];exact (lg1 q1).1
    have hjl:j<row.length:=by rw [← (hrows i r q1).1];exact (lg1 q2).1
    exact ⟨hil,hjl,r,_,q1,q2,lg0 hjl⟩
   refine key rows (.slice (some ⟨b,off,none⟩) len cap) hcs ?_ ?_ ?_
   ·rw [← hrl]
    refine .sl (b:=b) (off:=off) (fun i j=>(css.getD i []).getD j undef) ?_ (by omega) hm (by intro h;cases h) (by intro h;cases h) (fun _=>rfl) ?_ ?_
    ·intro r hr
     obtain ⟨i,hi⟩:=List.mem_iff_getElem?.1 hr
     exact (hrows i r hi).1
    ·intro i j c hc
     obtain ⟨hil,hjl,_⟩:=hat i j c hc
     have:=hcell i j hil hjl
     rw [hadd] at this
     exact ⟨this,fun h=>h⟩
    ·intro i j c hc
     obtain ⟨hil,hjl,r,s,q1,q2,q3⟩:=hat i j c hc
     obtain ⟨u,t,h1,h2,h3,h4⟩:=(hrows i r q1).2 j s q3
     rw [q2] at h2
     injection h2 with h2
     subst h2
     rw [lg3 (l:=css.getD i []),h1]
     exact h3
   ·intro r hr
    obtain ⟨i,hi⟩:=List.mem_iff_getElem?.1 hr
    exact (hrows i r hi).1
   ·intro r hr j s t hs ht
    obtain ⟨i,hi⟩:=List.mem_iff_getElem?.1 hr
    obtain ⟨u,t',h1,h2,h3,h4⟩:=(hrows i r hi).2 j s hs
    rw [ht] at h2
    injection h2 with h2
    subst h2
    exact h4
 |@struct t fs parts h hl ho hc he ih=>
  intro n cs x hx
  obtain ⟨xs,n',hn',hy,hlen,hyl,hf⟩:=DataW.trod_struct h hx
  have hlen':cs.length=parts.flatten.length:=by rw [hlen,hc]
  have each:∀j,j<parts.flatten.length→∃t,∀s,parts.flatten[j]? =some s→∃u,cs[j]? =some u∧RT w (fun _=>False) t u∧Fit s t:=by
   intro j hj
   obtain ⟨i,p,k,q1,q2,q3⟩:=a92 parts j _ (lg0 hj)
   have hi:i<fs.size:=by rw [← hl];exact (lg1 q1).1
   have hfi:fs[i]? =some fs[i]:=Array.getElem?_eq_getElem hi
   obtain ⟨o1,o2⟩:=ho i _ p hfi q1
   have h1:=hf i _ hfi
   have hxi:xs[i]? =some (xs[i]'(by omega)):=lg0 (by omega)
   obtain ⟨r1,ts,r2,r3⟩:=ih i _ p hfi q1 n' _ _ (h1.trans hxi)
   obtain ⟨u,t,e1,e2,e3,e4⟩:=r3 k _ q2
   refine ⟨t,fun s hs=>⟨u,?_,e3,?_⟩⟩
   ·have hk:k<p.length:=(lg1 q2).1
    rw [List.getElem?_take,o2,if_pos hk,List.getElem?_drop,o1,←q3] at e1
    exact e1
   ·rw [lg0 hj] at hs
    injection hs with hs
    rw [← hs];exact e4
  obtain ⟨ts,t1,t2⟩:=a0r parts.flatten.length each
  refine ⟨hlen',ts,t1,fun j s hj=>?_⟩
  have hjl:=(lg1 hj).1
  have htj:ts[j]? =some (ts[j]'(by omega)):=lg0 (by omega)
  obtain ⟨u,h1,h2,h3⟩:=t2 j _ htj s hj
  exact ⟨u,_,h1,htj,h2,h3⟩
end
theorem Fit.int_inv {k:IntKind} {t:T} (h:Fit (.int k) t):∃n,t=.atm (.int k n)∧(Lit.int k n).wf=true:=by cases h with|int h=>exact ⟨_,rfl,h⟩
theorem Fit.bool_inv {t:T} (h:Fit .bool t):∃b,t=.atm (.bool b):=by cases h with|bool=>exact ⟨_,rfl⟩
theorem at1 {α:Type} {f:α→List T} {p:α→Prop}:∀{rows:List (List T)},(∀ r ∈ rows,∃x,r=f x∧p x)→∃xs:List α,rows=xs.map f∧∀x ∈ xs,p x
 |[],_=>⟨[],rfl,by simp⟩
 |r::rs,h=>by
  obtain ⟨x,rfl,hx⟩:=h r (by simp)
  obtain ⟨xs,rfl,hxs⟩:=at1 (rows:=rs) (f:=f) (p:=p) fun r hr=>h r (List.mem_cons_of_mem _ hr)
  exact ⟨x::xs,rfl,fun y hy=>by rcases List.mem_cons.1 hy with rfl|hy;exact hx;exact hxs y hy⟩
theorem Fit.sl_inv {α:Type} (f:α→List T) (p:α→Prop) {row:List Sh} {t:T} (h:Fit (.sl row) t)
 (hrow:∀r:List T,r.length=row.length→(∀ (j:Nat) (s:Sh) (t:T),row[j]? =some s→r[j]? =some t→Fit s t)→∃x,r=f x∧p x):
 ∃xs:List α,t=.sl row.length .any (xs.map f)∧∀x ∈ xs,p x:=by
 cases h with
 |sl hl h=>
  obtain ⟨xs,rfl,hx⟩:=at1 (f:=f) (p:=p) (fun r hr=>hrow r (hl r hr) (h r hr))
  exact ⟨xs,rfl,hx⟩
end
section
open Go.RowKit Go.ChangeShapes Go.WideShapes Go.Deep
abbrev f6:Sh:=.int .i64
abbrev b27:List Sh:=[f6,.sl [f6]]
abbrev ai5:List Sh:=[f6,.sl [f6],f6,.sl [f6]]
theorem x5:D5 Tryz.prog 3 [f6]:=.int Tryz.underlying3
theorem b0a:D5 Tryz.prog 55 [.sl [f6]]:=.sl Tryz.underlying55 (by kernel_rfl) (by decide) x5
theorem a2S {P:Program} {t:TypeId} {fs:Array Field} {p0 p1:List Sh} (h:P.underlying t=some (.struct fs)) (hl:fs.size=2)
 (h0:∃f,fs[0]? =some f∧f.offset=0∧P.cellsOf f.type=p0.length∧D5 P f.type p0) (h1:∃f,fs[1]? =some f∧f.offset=p0.length∧P.cellsOf f.type=p1.length∧D5 P f.type p1)
 (hc:P.cellsOf t=p0.length+p1.length):D5 P t (p0++p1):=by
 obtain ⟨f0,a1,a2,a3,a4⟩:=h0
 obtain ⟨f1,b1,b2,b3,b4⟩:=h1
 have:=D5.struct (P:=P) (t:=t) (fs:=fs) [p0,p1] h (by simp [hl]) (fun i f p hf hp=>by
  match i,hp with
  |0,hp=>simp at hp;subst hp;rw [a1] at hf;injection hf with hf;subst hf;exact ⟨by simp [a2],a3⟩
  |1,hp=>simp at hp;subst hp;rw [b1] at hf;injection hf with hf;subst hf;exact ⟨by simp [b2],b3⟩
  |n+2,hp=>simp at hp) (by simp [hc]) (fun i f p hf hp=>by
  match i,hp with
  |0,hp=>simp at hp;subst hp;rw [a1] at hf;injection hf with hf;subst hf;exact a4
  |1,hp=>simp at hp;subst hp;rw [b1] at hf;injection hf with hf;subst hf;exact b4
  |n+2,hp=>simp at hp)
 simpa using this
theorem aM7:D5 Tryz.prog 81 b27:=
 a2S (p0:=[f6]) (p1:=[.sl [f6]]) Tryz.underlying81 (by kernel_rfl) ⟨_,rfl,rfl,by kernel_rfl,x5⟩ ⟨_,rfl,rfl,by kernel_rfl,b0a⟩ (by kernel_rfl)
theorem b0I:D5 Tryz.prog 83 ai5:=
 a2S (p0:=b27) (p1:=b27) Tryz.underlying83 (by kernel_rfl) ⟨_,rfl,rfl,by kernel_rfl,aM7⟩ ⟨_,rfl,rfl,by kernel_rfl,aM7⟩ (by kernel_rfl)
theorem aZ2:D5 Tryz.prog 44 [.sl ai5]:=.sl Tryz.underlying44 (by kernel_rfl) (by decide) b0I
theorem aG0:D5 Tryz.prog 54 [f6,f6]:=
 a2S (p0:=[f6]) (p1:=[f6]) Tryz.underlying54 (by kernel_rfl) ⟨_,rfl,rfl,by kernel_rfl,x5⟩ ⟨_,rfl,rfl,by kernel_rfl,x5⟩ (by kernel_rfl)
theorem ar8 {t:T} (h:Fit (.sl [f6]) t):∃l:List Int,t=J0 l:=by
 obtain ⟨xs,rfl,_⟩:=h.sl_inv i5 (fun _=>True) (fun r hl hr=>by
  match r,hl with
  |[u],_=>
   obtain ⟨n,rfl,_⟩:=(hr 0 _ _ rfl rfl).int_inv
   exact ⟨n,rfl,trivial⟩)
 exact ⟨xs,rfl⟩
theorem aB7 {r:List T} (hl:r.length=4) (hr:∀(j:Nat) (s:Sh) (t:T),ai5[j]? =some s→r[j]? =some t→Fit s t):∃f:Fr,r=m6 f:=by
 match r,hl with
 |[a,b,c,d],_=>
  obtain ⟨n,rfl,_⟩:=(hr 0 _ _ rfl rfl).int_inv
  obtain ⟨l,rfl⟩:=ar8 (hr 1 _ _ rfl rfl)
  obtain ⟨m,rfl,_⟩:=(hr 2 _ _ rfl rfl).int_inv
  obtain ⟨k,rfl⟩:=ar8 (hr 3 _ _ rfl rfl)
  exact ⟨⟨⟨n,l⟩,⟨m,k⟩⟩,rfl⟩
theorem aU9 {t:T} (h:Fit (.sl ai5) t):∃l:List Fr,t=T7 l:=by
 obtain ⟨xs,rfl,_⟩:=h.sl_inv m6 (fun _=>True) (fun r hl hr=>by
  obtain ⟨f,rfl⟩:=aB7 hl hr
  exact ⟨f,rfl,trivial⟩)
 exact ⟨xs,rfl⟩
section
variable {H:Type} {enc:TypeId × Value→H} {w:World} {base:Nat} {spare:Nat→Bool} {held:Bool}
theorem a8Y {shs:List Sh} {l:List Value} (h:al3 w shs l):∃ts:List T,ts.length=shs.length∧(∀ (j:Nat) (s:Sh) (t:T),shs[j]? =some s→ts[j]? =some t→Fit s t)∧RS w (fun _=>none) (fun _=>False) (.agg (ts.map C.t)) (.agg ⟨l⟩):=by
 obtain ⟨h0,ts,h1,h2⟩:=h
 refine ⟨ts,h1,fun j s t hs ht=>?_,?_⟩
 ·obtain ⟨u,t',e1,e2,e3,e4⟩:=h2 j s hs
  rw [ht] at e2;injection e2 with e2;subst e2;exact e4
 ·refine .agg l (by simp [h0,h1]) fun j c hc=>?_
  rw [List.getElem?_map] at hc
  obtain ⟨t,ht,rfl⟩:=Option.map_eq_some_iff.1 hc
  have hj:j<shs.length:=by rw [← h1];exact (lg1 ht).1
  obtain ⟨u,t',e1,e2,e3,e4⟩:=h2 j _ (lg0 hj)
  rw [ht] at e2;injection e2 with e2;subst e2
  rw [lg3,e1]
  exact .t e3
end
end
section
open Go.RowKit Go.ChangeShapes Go.WideShapes Go.Deep
def aw3 (P:Program):List Field→List (List Sh)→Nat→Prop
 |[],[],_=>True
 |f::fs,p::ps,o=>(f.offset=o∧P.cellsOf f.type=p.length∧D5 P f.type p)∧aw3 P fs ps (o+p.length)
 |_,_,_=>False
theorem aw3.get {P:Program}:∀{fs:List Field} {ps:List (List Sh)} {o:Nat},aw3 P fs ps o→ps.length=fs.length∧∀(i:Nat) (f:Field) (p:List Sh),fs[i]? =some f→ps[i]? =some p→f.offset=o+(ps.take i).flatten.length∧P.cellsOf f.type=p.length∧D5 P f.type p
 |[],[],o,_=>⟨rfl,by simp⟩
 |f::fs,p::ps,o,h=>by
  obtain ⟨⟨h1,h2,h3⟩,h4⟩:=h
  obtain ⟨l,g⟩:=aw3.get h4
  refine ⟨by simp [l],fun i f' p' hf hp=>?_⟩
  cases i with
  |zero=>simp at hf hp;subst hf hp;exact ⟨by simp [h1],h2,h3⟩
  |succ i=>
   obtain ⟨g1,g2,g3⟩:=g i f' p' (by simpa using hf) (by simpa using hp)
   exact ⟨by rw [g1];simp;omega,g2,g3⟩
 |[],_::_,_,h=>h.elim
 |_::_,[],_,h=>h.elim
theorem P1 {P:Program} {t:TypeId} {fs:Array Field} (parts:List (List Sh)) (h:P.underlying t=some (.struct fs)) (hf:aw3 P fs.toList parts 0) (hc:P.cellsOf t=parts.flatten.length):D5 P t parts.flatten:=by
 obtain ⟨l,g⟩:=hf.get
 refine D5.struct parts h (by simpa using l) (fun i f p hi hp=>?_) hc (fun i f p hi hp=>?_)
 ·obtain ⟨g1,g2,g3⟩:=g i f p (by simpa using hi) hp
  exact ⟨by rw [g1];simp,g2⟩
 ·exact (g i f p (by simpa using hi) hp).2.2
theorem b1d:D5 Tryz.prog 4 [.bool]:=.bool Tryz.underlying4
theorem aX5:D5 Tryz.prog 77 [f6,f6,f6]:=
 P1 [[f6],[f6],[f6]] Tryz.underlying77 ⟨⟨by kernel_rfl,by kernel_rfl,x5⟩,⟨by kernel_rfl,by kernel_rfl,x5⟩,⟨by kernel_rfl,by kernel_rfl,x5⟩,trivial⟩ (by kernel_rfl)
theorem b0r:D5 Tryz.prog 79 [f6,f6,f6,f6,f6,.bool]:=
 P1 [[f6],[f6],[f6],[f6],[f6],[.bool]] Tryz.underlying79 ⟨⟨by kernel_rfl,by kernel_rfl,x5⟩,⟨by kernel_rfl,by kernel_rfl,x5⟩,⟨by kernel_rfl,by kernel_rfl,x5⟩,⟨by kernel_rfl,by kernel_rfl,x5⟩,⟨by kernel_rfl,by kernel_rfl,x5⟩,⟨by kernel_rfl,by kernel_rfl,b1d⟩,trivial⟩ (by kernel_rfl)
theorem b28:D5 Tryz.prog 209 [f6,f6,f6,f6,f6,f6]:=
 P1 [[f6],[f6],[f6],[f6],[f6],[f6]] Tryz.underlying209 ⟨⟨by kernel_rfl,by kernel_rfl,x5⟩,⟨by kernel_rfl,by kernel_rfl,x5⟩,⟨by kernel_rfl,by kernel_rfl,x5⟩,⟨by kernel_rfl,by kernel_rfl,x5⟩,⟨by kernel_rfl,by kernel_rfl,x5⟩,⟨by kernel_rfl,by kernel_rfl,x5⟩,trivial⟩ (by kernel_rfl)
theorem aF6:D5 Tryz.prog 216 [f6,f6,f6,f6]:=
 P1 [[f6],[f6],[f6],[f6]] Tryz.underlying216 ⟨⟨by kernel_rfl,by kernel_rfl,x5⟩,⟨by kernel_rfl,by kernel_rfl,x5⟩,⟨by kernel_rfl,by kernel_rfl,x5⟩,⟨by kernel_rfl,by kernel_rfl,x5⟩,trivial⟩ (by kernel_rfl)
theorem av2:D5 Tryz.prog 34 [f6,f6,f6]:=
 P1 [[f6],[f6],[f6]] Tryz.underlying34 ⟨⟨by kernel_rfl,by kernel_rfl,x5⟩,⟨by kernel_rfl,by kernel_rfl,x5⟩,⟨by kernel_rfl,by kernel_rfl,x5⟩,trivial⟩ (by kernel_rfl)
theorem ab6:D5 Tryz.prog 36 [f6,f6]:=
 P1 [[f6],[f6]] Tryz.underlying36 ⟨⟨by kernel_rfl,by kernel_rfl,x5⟩,⟨by kernel_rfl,by kernel_rfl,x5⟩,trivial⟩ (by kernel_rfl)
theorem aF8:D5 Tryz.prog 22 [.sl [f6,f6,f6]]:=.sl Tryz.underlying22 (by kernel_rfl) (by decide) aX5
theorem aY3:D5 Tryz.prog 23 [.sl [f6,f6,f6,f6,f6,.bool]]:=.sl Tryz.underlying23 (by kernel_rfl) (by decide) b0r
theorem b06:D5 Tryz.prog 24 [.sl [f6,f6,f6,f6,f6,f6]]:=.sl Tryz.underlying24 (by kernel_rfl) (by decide) b28
theorem au9:D5 Tryz.prog 25 [.sl [f6,f6]]:=.sl Tryz.underlying25 (by kernel_rfl) (by decide) aG0
theorem ap2:D5 Tryz.prog 26 [.sl [f6,f6,f6,f6]]:=.sl Tryz.underlying26 (by kernel_rfl) (by decide) aF6
theorem aV2:D5 Tryz.prog 29 [.sl [f6,f6,f6]]:=.sl Tryz.underlying29 (by kernel_rfl) (by decide) av2
theorem aE2:D5 Tryz.prog 30 [.sl [f6,f6]]:=.sl Tryz.underlying30 (by kernel_rfl) (by decide) ab6
abbrev b5H:List Sh:=[f6,f6,f6,.sl [f6,f6,f6],.sl [f6,f6,f6,f6,f6,.bool],.sl [f6,f6,f6,f6,f6,f6],.sl [f6,f6],.sl [f6,f6,f6,f6]]
theorem b5O:D5 Tryz.prog 28 b5H:=
 P1 [[f6],[f6],[f6],[.sl [f6,f6,f6]],[.sl [f6,f6,f6,f6,f6,.bool]],[.sl [f6,f6,f6,f6,f6,f6]],[.sl [f6,f6]],[.sl [f6,f6,f6,f6]]] Tryz.underlying28
  ⟨⟨by kernel_rfl,by kernel_rfl,x5⟩,⟨by kernel_rfl,by kernel_rfl,x5⟩,⟨by kernel_rfl,by kernel_rfl,x5⟩,⟨by kernel_rfl,by kernel_rfl,aF8⟩,⟨by kernel_rfl,by kernel_rfl,aY3⟩,⟨by kernel_rfl,by kernel_rfl,b06⟩,⟨by kernel_rfl,by kernel_rfl,au9⟩,⟨by kernel_rfl,by kernel_rfl,ap2⟩,trivial⟩ (by kernel_rfl)
abbrev ba8:List Sh:=b5H++[.sl [f6,f6,f6],.sl [f6,f6]]
theorem b54:D5 Tryz.prog 32 ba8:=
 P1 [b5H,[.sl [f6,f6,f6]],[.sl [f6,f6]]] Tryz.underlying32
  ⟨⟨by kernel_rfl,by kernel_rfl,b5O⟩,⟨by kernel_rfl,by kernel_rfl,aV2⟩,⟨by kernel_rfl,by kernel_rfl,aE2⟩,trivial⟩ (by kernel_rfl)
theorem y9 {t:T} (h:Fit f6 t):∃n,t=ti n:=by obtain ⟨n,h,_⟩:=h.int_inv;exact ⟨n,h⟩
section
variable {α:Type} {t:T}
theorem aC5 (h:Fit (.sl [f6,f6,f6]) t):∃l:List I3,t=a3Y l:=by
 obtain ⟨xs,rfl,_⟩:=h.sl_inv I3.row (fun _=>True) (fun r hl hr=>by
  match r,hl with
  |[a,b,c],_=>
   obtain ⟨a,rfl⟩:=y9 (hr 0 _ _ rfl rfl)
   obtain ⟨b,rfl⟩:=y9 (hr 1 _ _ rfl rfl)
   obtain ⟨c,rfl⟩:=y9 (hr 2 _ _ rfl rfl)
   exact ⟨⟨a,b,c⟩,rfl,trivial⟩)
 exact ⟨xs,rfl⟩
theorem aZ6 (h:Fit (.sl [f6,f6,f6]) t):∃l:List H9,t=a9d l:=by
 obtain ⟨xs,rfl,_⟩:=h.sl_inv H9.row (fun _=>True) (fun r hl hr=>by
  match r,hl with
  |[a,b,c],_=>
   obtain ⟨a,rfl⟩:=y9 (hr 0 _ _ rfl rfl)
   obtain ⟨b,rfl⟩:=y9 (hr 1 _ _ rfl rfl)
   obtain ⟨c,rfl⟩:=y9 (hr 2 _ _ rfl rfl)
   exact ⟨⟨a,b,c⟩,rfl,trivial⟩)
 exact ⟨xs,rfl⟩
theorem aG5 (h:Fit (.sl [f6,f6]) t):∃l:List B8,t=a50 l:=by
 obtain ⟨xs,rfl,_⟩:=h.sl_inv B8.row (fun _=>True) (fun r hl hr=>by
  match r,hl with
  |[a,b],_=>
   obtain ⟨a,rfl⟩:=y9 (hr 0 _ _ rfl rfl)
   obtain ⟨b,rfl⟩:=y9 (hr 1 _ _ rfl rfl)
   exact ⟨⟨a,b⟩,rfl,trivial⟩)
 exact ⟨xs,rfl⟩
theorem av4 (h:Fit (.sl [f6,f6]) t):∃l:List z6,t=J3 l:=by
 obtain ⟨xs,rfl,_⟩:=h.sl_inv z6.row (fun _=>True) (fun r hl hr=>by
  match r,hl with
  |[a,b],_=>
   obtain ⟨a,rfl⟩:=y9 (hr 0 _ _ rfl rfl)
   obtain ⟨b,rfl⟩:=y9 (hr 1 _ _ rfl rfl)
   exact ⟨⟨a,b⟩,rfl,trivial⟩)
 exact ⟨xs,rfl⟩
theorem ak7 (h:Fit (.sl [f6,f6,f6,f6]) t):∃l:List O8,t=a0z l:=by
 obtain ⟨xs,rfl,_⟩:=h.sl_inv O8.row (fun _=>True) (fun r hl hr=>by
  match r,hl with
  |[a,b,c,d],_=>
   obtain ⟨a,rfl⟩:=y9 (hr 0 _ _ rfl rfl)
   obtain ⟨b,rfl⟩:=y9 (hr 1 _ _ rfl rfl)
   obtain ⟨c,rfl⟩:=y9 (hr 2 _ _ rfl rfl)
   obtain ⟨d,rfl⟩:=y9 (hr 3 _ _ rfl rfl)
   exact ⟨⟨a,b,c,d⟩,rfl,trivial⟩)
 exact ⟨xs,rfl⟩
theorem aU6 (h:Fit (.sl [f6,f6,f6,f6,f6,f6]) t):∃l:List G4,t=Y4 l:=by
 obtain ⟨xs,rfl,_⟩:=h.sl_inv G4.row (fun _=>True) (fun r hl hr=>by
  match r,hl with
  |[a,b,c,d,e,f],_=>
   obtain ⟨a,rfl⟩:=y9 (hr 0 _ _ rfl rfl)
   obtain ⟨b,rfl⟩:=y9 (hr 1 _ _ rfl rfl)
   obtain ⟨c,rfl⟩:=y9 (hr 2 _ _ rfl rfl)
   obtain ⟨d,rfl⟩:=y9 (hr 3 _ _ rfl rfl)
   obtain ⟨e,rfl⟩:=y9 (hr 4 _ _ rfl rfl)
   obtain ⟨f,rfl⟩:=y9 (hr 5 _ _ rfl rfl)
   exact ⟨⟨a,b,c,d,e,f⟩,rfl,trivial⟩)
 exact ⟨xs,rfl⟩
theorem aY9 (h:Fit (.sl [f6,f6,f6,f6,f6,.bool]) t):∃l:List n6,t=a2k l:=by
 obtain ⟨xs,rfl,_⟩:=h.sl_inv n6.row (fun _=>True) (fun r hl hr=>by
  match r,hl with
  |[a,b,c,d,e,f],_=>
   obtain ⟨a,rfl⟩:=y9 (hr 0 _ _ rfl rfl)
   obtain ⟨b,rfl⟩:=y9 (hr 1 _ _ rfl rfl)
   obtain ⟨c,rfl⟩:=y9 (hr 2 _ _ rfl rfl)
   obtain ⟨d,rfl⟩:=y9 (hr 3 _ _ rfl rfl)
   obtain ⟨e,rfl⟩:=y9 (hr 4 _ _ rfl rfl)
   obtain ⟨f,rfl⟩:=(hr 5 _ _ rfl rfl).bool_inv
   exact ⟨⟨a,b,c,d,e,f⟩,rfl,trivial⟩)
 exact ⟨xs,rfl⟩
end
section
variable {H:Type} {enc:TypeId × Value→H} {w:World} {base:Nat} {spare:Nat→Bool} {held:Bool}
theorem open_fracs {v:Value} {d:DataW H} {p:List MemPlace} {r:Reach} {b0:Nat} (hv:Value.okWide Tryz.prog w r b0 44 v) (h:DataW.Trod enc Tryz.prog w base spare held 44 v d p):∃l,RS w (fun _=>none) (fun _=>False) (p8 l) v:=by
 obtain ⟨a,len,cap,rfl⟩:=okWide_slice Tryz.underlying44 hv
 obtain ⟨fuel,hf⟩:=h
 obtain ⟨_,ts,h1,h2⟩:=a7X aZ2 fuel _ _ hf
 obtain ⟨u,t,e1,e2,e3,e4⟩:=h2 0 _ rfl
 obtain ⟨hh,rfl⟩:=aU9 e4
 injection e1 with e1
 subst e1
 exact ⟨hh,.c (.t e3)⟩
theorem open_find {v:Value} {d:DataW H} {p:List MemPlace} {r:Reach} {b0:Nat} (hv:Value.okWide Tryz.prog w r b0 34 v) (h:DataW.Trod enc Tryz.prog w base spare held 34 v d p):∃x:H9,RS w (fun _=>none) (fun _=>False) (.agg (x.row.map .t)) v:=by
 obtain ⟨⟨l⟩,rfl,_⟩:=okWide_struct Tryz.underlying34 hv
 obtain ⟨fuel,hf⟩:=h
 obtain ⟨ts,h1,h2,h3⟩:=a8Y (a7X av2 fuel _ _ hf)
 match ts,h1 with
 |[a,b,c],_=>
  obtain ⟨a,rfl⟩:=y9 (h2 0 _ _ rfl rfl)
  obtain ⟨b,rfl⟩:=y9 (h2 1 _ _ rfl rfl)
  obtain ⟨c,rfl⟩:=y9 (h2 2 _ _ rfl rfl)
  exact ⟨⟨a,b,c⟩,h3⟩
theorem open_clean {v:Value} {d:DataW H} {p:List MemPlace} {r:Reach} {b0:Nat} (hv:Value.okWide Tryz.prog w r b0 36 v) (h:DataW.Trod enc Tryz.prog w base spare held 36 v d p):∃x:B8,RS w (fun _=>none) (fun _=>False) (.agg (x.row.map .t)) v:=by
 obtain ⟨⟨l⟩,rfl,_⟩:=okWide_struct Tryz.underlying36 hv
 obtain ⟨fuel,hf⟩:=h
 obtain ⟨ts,h1,h2,h3⟩:=a8Y (a7X ab6 fuel _ _ hf)
 match ts,h1 with
 |[a,b],_=>
  obtain ⟨a,rfl⟩:=y9 (h2 0 _ _ rfl rfl)
  obtain ⟨b,rfl⟩:=y9 (h2 1 _ _ rfl rfl)
  exact ⟨⟨a,b⟩,h3⟩
theorem open_trace {v:Value} {d:DataW H} {p:List MemPlace} {r:Reach} {b0:Nat} (hv:Value.okWide Tryz.prog w r b0 32 v) (h:DataW.Trod enc Tryz.prog w base spare held 32 v d p):∃t:g9,RS w (fun _=>none) (fun _=>False) (trS t) v:=by
 obtain ⟨⟨l⟩,rfl,_⟩:=okWide_struct Tryz.underlying32 hv
 obtain ⟨fuel,hf⟩:=h
 obtain ⟨ts,h1,h2,h3⟩:=a8Y (a7X b54 fuel _ _ hf)
 match ts,h1 with
 |[a,b,c,d,e,f,g,h,i,j],_=>
  obtain ⟨a,rfl⟩:=y9 (h2 0 _ _ rfl rfl)
  obtain ⟨b,rfl⟩:=y9 (h2 1 _ _ rfl rfl)
  obtain ⟨c,rfl⟩:=y9 (h2 2 _ _ rfl rfl)
  obtain ⟨d,rfl⟩:=aC5 (h2 3 _ _ rfl rfl)
  obtain ⟨e,rfl⟩:=aY9 (h2 4 _ _ rfl rfl)
  obtain ⟨f,rfl⟩:=aU6 (h2 5 _ _ rfl rfl)
  obtain ⟨g,rfl⟩:=av4 (h2 6 _ _ rfl rfl)
  obtain ⟨h,rfl⟩:=ak7 (h2 7 _ _ rfl rfl)
  obtain ⟨i,rfl⟩:=aZ6 (h2 8 _ _ rfl rfl)
  obtain ⟨j,rfl⟩:=aG5 (h2 9 _ _ rfl rfl)
  exact ⟨⟨⟨a,b,c,d,e,f,g,h⟩,i,j⟩,h3⟩
end
end
section
open Go.RowKit Go.ChangeShapes Go.WideShapes Go.ChangeAt
set_option maxRecDepth 100000 in
theorem a5L (os:Os) (started:os.Started) (H:Type) (enc:TypeId × Value→H):
 ReturnsInHanded {} Tryz.checked os 5 .any (Rows.sourceTrueSpec.pre6 enc Tryz.prog Tryz.f5 Rows.sourceTrueRow.domain false) (Rows.sourceTrueSpec.post enc Tryz.prog Tryz.f5 false true false false):=by
 refine returnsInHanded_of_change (C:=Tryz.checked) ak5 started (by kernel_rfl) Tryz.func5
  (ChangeSpec.witness6 (enc:=enc) (C:=Tryz.checked) false ⟨#[],#[.agg #[.int .i64 0,.int .i64 0,.int .i64 0,.slice none 0 0,.slice none 0 0,.slice none 0 0,.slice none 0 0,.slice none 0 0,.slice none 0 0,.slice none 0 0],.int .i64 0,.slice none 0 0],[]⟩ 12 (by kernel_rfl) (by kernel_rfl) (by kernel_rfl) (by kernel_rfl)) ?_
 intro W base args ds gs before hval0 hW hcnd _
 have hval:∀(j:Nat) t v,Tryz.f5.params[j]? =some t→args[j]? =some v→Value.okWide Tryz.prog W .any base t v:=hval0
 have hW':=hW
 obtain ⟨p,q,hA0,hV,rfl,hfz,hnd⟩:=hW
 have hA:DataW.TrodAll enc Tryz.prog W 0 (fun _=>true) true Tryz.f5.params.toList args.toList ds p:=hA0
 rw [Tryz.params5] at hA hval
 obtain ⟨v0,vs0,d0,ds0,p0,q0,hargs,rfl,rfl,h0,r0⟩:=trodAll_cons hA
 obtain ⟨v1,vs1,d1,ds1,p1,q1,rfl,rfl,rfl,h1,r1⟩:=trodAll_cons r0
 obtain ⟨v2,vs2,d2,ds2,p2,q2,rfl,rfl,rfl,h2,r2⟩:=trodAll_cons r1
 obtain ⟨rfl,rfl,rfl⟩:=trodAll_nil r2
 obtain rfl:args=#[v0,v1,v2]:=by cases args;simp_all
 obtain ⟨rfl,rfl⟩:=trodVars_none hV
 obtain ⟨a0,t0⟩:=Go.Proofs.YtdbogogfeffjlaaGreat.open_trace (hval 0 32 v0 rfl rfl) h0
 obtain ⟨a1,rfl,rfl,rfl,w1⟩:=open_int Tryz.underlying3 (hval 1 3 v1 rfl rfl) h1
 obtain ⟨a2,t2⟩:=Go.Proofs.YtdbogogfeffjlaaGreat.open_fracs (hval 2 44 v2 rfl rfl) h2
 refine (a2o (ak2 a0 a1 a2) (.cons (t0) (.cons (aF5) (.cons (t2) (.nil))))).mono fun ee W' ⟨he,hg⟩=>?_
 subst he
 exact ⟨_,rfl,a9g hW' a97 (by rw [Tryz.params5];intro t ht;simp at ht;rcases ht with rfl|rfl|rfl<;>exact ⟨by kernel_rfl,of_decide_eq_true (by kernel_rfl)⟩) rfl rfl (by kernel_rfl) Tryz.underlying4 hg⟩
theorem a6E:(Rows.sourceTrueRow.inPlace == Tryz.pinned.checked.prog.inPlace 5)=true:=by kernel_rfl
theorem a9y:(Rows.sourceTrueRow.unfollowed == Tryz.pinned.checked.prog.unfollowed 5)=true:=by kernel_rfl
theorem a8B:(Rows.sourceTrueRow.recurses == Tryz.pinned.checked.prog.recurses 5)=true:=by kernel_rfl
theorem a6a:(Rows.sourceTrueRow.named == Tryz.pinned.checked.prog.varsNamed 5)=true:=by kernel_rfl
theorem a6f:(Rows.sourceTrueRow.loops == (Tryz.f5.params.toList++Rows.sourceTrueSpec.plain.varTypes Tryz.pinned.checked.prog).any (Tryz.pinned.checked.prog.loopsFrom ·))=true:=by kernel_rfl
set_option maxRecDepth 100000 in
theorem a5r:joinedFacts Tryz.pinned.checked.prog 5 Tryz.f5 Rows.sourceTrueSpec Rows.sourceTrueRow=true:=a6c (by kernel_rfl) aj2 ao9 (by kernel_rfl) (by kernel_rfl) (by kernel_rfl) (by kernel_rfl) (by kernel_rfl) (by kernel_rfl) a6E a9y a8B a6a (by kernel_rfl) (by kernel_rfl) (by kernel_rfl) a6f (by kernel_rfl) (by kernel_rfl) (by kernel_rfl) (by kernel_rfl) (by kernel_rfl) ap7 (by kernel_rfl) a87 a8D aj9 ak4 (by kernel_rfl) (by kernel_rfl) (by kernel_rfl) (by kernel_rfl) (by kernel_rfl)
theorem sourceTrue_holds:Rows.SourceTrueSaid:=
 OpenClaim.holds_of_wide 5 Tryz.f5 rfl rfl rfl rfl rfl rfl rfl ⟨rfl,rfl,rfl,rfl,rfl⟩ rfl rfl rfl rfl rfl (by kernel_rfl) Tryz.func5 a5r
  (of_decide_eq_true (by kernel_rfl)) (by unfold Func.isWrapper;first|(rw [if_pos (by decide +kernel)];kernel_rfl)|(rw [if_neg (by decide +kernel)];exact ⟨rfl,rfl⟩))
  (fun os started H enc _=>a5L os started H enc)
end
section
open Go.RowKit
def fOn (kind x:Int) (f:H9):Bool:=decide (f.kind=kind) && decide (f.mv=x)
def cOn (kind x:Int) (c:B8):Bool:=decide (c.kind=kind) && decide (c.mv=x)
def a83 (t:g9) (kind h:Int):Bool:=(y0 t.ev h (-1) 0 100000).any fun x=>t.finds.any (fOn kind x)
def a91 (t:g9) (kind h:Int):Bool:=(y0 t.ev h (-1) 0 100000).all fun x=>t.cleans.any (cOn kind x)
theorem a5M {α:Type} {l:List α} {f:α→Bool} {k:Nat} {x:α} (h:l[k]? =some x):(l.take (k+1)).any f=((l.take k).any f || f x):=by
 rw [a0L h,List.any_append];simp
theorem b1O {α:Type} {l:List α} {f:α→Bool} {k:Nat} {x:α} (h:l[k]? =some x):(l.take (k+1)).all f=((l.take k).all f && f x):=by
 rw [a0L h,List.all_append];simp
set_option maxHeartbeats 4000000 in
theorem b25 (t:g9) (hs:t.Sized) (kind h:Int):b9 Tryz.prog 18 [trS t,a9 .i64 kind,a9 .i64 h] [] (.tup [f7 (a83 t kind h),f7 (a91 t kind h)]) []:=by
 have li:=am4 t.ev hs.ev h (-1) 0 100000
 have hl:=a2t (t:=t) (h:=h)
 have hm:=hs.ev.s2
 have hf:=hs.f
 have hc:=hs.c
 have n1:(t.finds.map H9.row).length=t.finds.length:=by simp
 have n2:(t.cleans.map B8.row).length=t.cleans.length:=by simp
 unfold a83 a91
 generalize y0 t.ev h (-1) 0 100000=l at li hl
 have m1:(l.map i5).length=l.length:=by simp
 obtain ⟨fK,hfK⟩:∃fK:Nat→Bool,fK=fun k=>(l.take k).any fun x=>t.finds.any (fOn kind x):=⟨_,rfl⟩
 obtain ⟨aK,haK⟩:∃aK:Nat→Bool,aK=fun k=>(l.take k).all fun x=>t.cleans.any (cOn kind x):=⟨_,rfl⟩
 have f0:fK 0=false:=by rw [hfK];rfl
 have a0:aK 0=true:=by rw [haK];rfl
 have fE:l.any (fun x=>t.finds.any (fOn kind x))=fK l.length:=by rw [hfK];simp
 have aE:l.all (fun x=>t.cleans.any (cOn kind x))=aK l.length:=by rw [haK];simp
 rw [fE,aE]
 (refine a8 a7 Tryz.func18 rfl (by decide) ?_;(conv=>whnf);repeat ((first|refine b0x ?_|refine zy ?_);conv=>whnf))
 repeat' first|(refine zd ?_ ?_<;>intro h<;>first|exact zc h|(exfalso;omega)|conv=>whnf)|((first|refine zz ?_|refine qp li ?_|refine zy ?_);conv=>whnf)
 refine f8 a7 (fun k=>([J,a9 .i64 kind,J,S.c (C.t (T.ptr (trT t))),J,J,J,J,g6 l,f7 (fK k),f7 (aK k),a9 .i64 k,J,J,J,J,J,J,J,J,J,J,J,J,J,J,J,J,J,J,J,J,J,J,J,J,J,J,J,J,J,J,J,J,J,J,J,J,J,J,J,J,J,J,J,J,J,J,J,J,J,J,J,J,J,J,J,J,J,J,J,J,J,J,J,J,J,J,J,J,J,J,J,J,J,J,J,J,J,J,J,J,J],[])) l.length (fun _=>True) [] trivial
  ⟨rfl,rfl,trivial,⟨rfl,rfl,j3 rfl,by rw [f0];exact rfl,by rw [a0];exact rfl,rfl,trivial⟩⟩ ?_
 intro k hk _
 by_cases hlt:k<l.length
 ·obtain ⟨x,hx⟩:∃x,l[k]? =some x:=⟨_,lg0 hlt⟩
  have fS:fK (k+1)=(fK k || t.finds.any (fOn kind x)):=by rw [hfK];exact a5M hx
  have aS:aK (k+1)=(aK k && t.cleans.any (cOn kind x)):=by rw [haK];exact b1O hx
  rw [fS,aS]
  generalize fK k=fk
  generalize aK k=ak
  conv=>whnf
  repeat' first|(refine zd ?_ ?_<;>intro h<;>first|exact zc h|(exfalso;omega)|conv=>whnf)|((first|refine zz ?_|refine zy ?_);conv=>whnf)
  all_goals try (exfalso;omega)
  refine f8 a7 (fun j=>([J,a9 .i64 kind,J,S.c (C.t (T.ptr (trT t))),J,J,J,J,g6 l,f7 (fk || (t.finds.take j).any (fOn kind x)),f7 ak,a9 .i64 k,f7 false,a9 .i64 j,J,J,J,J,J,J,J,J,J,J,J,J,J,J,J,J,J,J,J,J,J,J,J,J,J,J,J,J,J,J,J,J,J,J,J,J,J,J,J,J,J,J,J,J,J,J,J,J,J,J,J,J,J,J,J,J,J,J,J,J,J,J,J,J,J,J,J,J,J,J,J,J,J,J,J,J,J,J,J],[])) t.finds.length (fun _=>True) [] trivial
   ⟨rfl,rfl,trivial,⟨rfl,rfl,rfl,by simp;exact rfl,rfl,rfl,rfl,rfl,trivial⟩⟩ ?_
  intro j hj _
  by_cases hjl:j<t.finds.length
  ·obtain ⟨f,hf⟩:∃f,t.finds[j]? =some f:=⟨_,lg0 hjl⟩
   have eS:(fk || (t.finds.take (j+1)).any (fOn kind x))=((fk || (t.finds.take j).any (fOn kind x)) || fOn kind x f):=by rw [a5M hf,Bool.or_assoc]
   rw [eS]
   generalize (fk || (t.finds.take j).any (fOn kind x))=b
   cases hq:fOn kind x f with
   |true=>
    unfold fOn at hq
    simp only [Bool.and_eq_true,decide_eq_true_eq] at hq
    obtain ⟨q1,q2⟩:=hq
    cases b<;>
    ·conv=>whnf
     repeat' first|(refine zd ?_ ?_<;>intro h<;>first|exact zc h|(exfalso;omega)|conv=>whnf)|((first|refine zz ?_|refine d9 hf ?_|refine d9 hx ?_|refine zy ?_);conv=>whnf)
     all_goals first
      |(exfalso;omega)
      |(exfalso;contradiction)
      |exact ⟨hjl,trivial,[],rfl,rfl,trivial,⟨rfl,rfl,rfl,rfl,rfl,rfl,rfl,rfl,trivial⟩⟩
   |false=>
    have hq2:¬(f.kind=kind∧f.mv=x):=fun h=>by
     unfold fOn at hq
     rw [decide_eq_true h.1,decide_eq_true h.2] at hq
     cases hq
    cases b<;>
    ·conv=>whnf
     repeat' first|(refine zd ?_ ?_<;>intro h<;>first|exact zc h|(exfalso;omega)|conv=>whnf)|((first|refine zz ?_|refine d9 hf ?_|refine d9 hx ?_|refine zy ?_);conv=>whnf)
     all_goals first
      |(exfalso;omega)
      |(exfalso;contradiction)
      |exact ⟨hjl,trivial,[],rfl,rfl,trivial,⟨rfl,rfl,rfl,rfl,rfl,rfl,rfl,rfl,trivial⟩⟩
  ·have eF:t.finds.take j=t.finds:=lg4 (by omega)
   rw [eF]
   generalize (fk || t.finds.any (fOn kind x))=fk2
   conv=>whnf
   repeat' first|(refine zd ?_ ?_<;>intro h<;>first|exact zc h|(exfalso;omega)|conv=>whnf)|((first|refine zz ?_|refine zy ?_);conv=>whnf)
   all_goals try (exfalso;omega)
   refine f8 a7 (fun j=>([J,a9 .i64 kind,J,S.c (C.t (T.ptr (trT t))),J,J,J,J,g6 l,f7 fk2,f7 ak,a9 .i64 k,f7 ((t.cleans.take j).any (cOn kind x)),J,a9 .i64 j,J,J,J,J,J,J,J,J,J,J,J,J,J,J,J,J,J,J,J,J,J,J,J,J,J,J,J,J,J,J,J,J,J,J,J,J,J,J,J,J,J,J,J,J,J,J,J,J,J,J,J,J,J,J,J,J,J,J,J,J,J,J,J,J,J,J,J,J,J,J,J,J,J,J,J,J,J,J],[])) t.cleans.length (fun _=>True) [] trivial
    ⟨rfl,rfl,trivial,⟨rfl,rfl,rfl,rfl,rfl,rfl,rfl,rfl,trivial⟩⟩ ?_
   intro i hi _
   by_cases hil:i<t.cleans.length
   ·obtain ⟨c,hc⟩:∃c,t.cleans[i]? =some c:=⟨_,lg0 hil⟩
    rw [a5M hc]
    generalize (t.cleans.take i).any (cOn kind x)=b
    cases hq:cOn kind x c with
    |true=>
     unfold cOn at hq
     simp only [Bool.and_eq_true,decide_eq_true_eq] at hq
     obtain ⟨q1,q2⟩:=hq
     cases b<;>
     ·conv=>whnf
      repeat' first|(refine zd ?_ ?_<;>intro h<;>first|exact zc h|(exfalso;omega)|conv=>whnf)|((first|refine zz ?_|refine d9 hc ?_|refine d9 hx ?_|refine zy ?_);conv=>whnf)
      all_goals first
       |(exfalso;omega)
       |(exfalso;contradiction)
       |exact ⟨hil,trivial,[],rfl,rfl,trivial,⟨rfl,rfl,rfl,rfl,rfl,rfl,rfl,rfl,trivial⟩⟩
    |false=>
     have hq2:¬(c.kind=kind∧c.mv=x):=fun h=>by
      unfold cOn at hq
      rw [decide_eq_true h.1,decide_eq_true h.2] at hq
      cases hq
     cases b<;>
     ·conv=>whnf
      repeat' first|(refine zd ?_ ?_<;>intro h<;>first|exact zc h|(exfalso;omega)|conv=>whnf)|((first|refine zz ?_|refine d9 hc ?_|refine d9 hx ?_|refine zy ?_);conv=>whnf)
      all_goals first
       |(exfalso;omega)
       |(exfalso;contradiction)
       |exact ⟨hil,trivial,[],rfl,rfl,trivial,⟨rfl,rfl,rfl,rfl,rfl,rfl,rfl,rfl,trivial⟩⟩
   ·have eC:t.cleans.take i=t.cleans:=lg4 (by omega)
    rw [eC]
    generalize t.cleans.any (cOn kind x)=cl
    cases ak<;>cases cl<;>
    ·conv=>whnf
     repeat' first|(refine zd ?_ ?_<;>intro h<;>first|exact zc h|(exfalso;omega)|conv=>whnf)|((first|refine zz ?_|refine zy ?_);conv=>whnf)
     all_goals first
      |(exfalso;omega)
      |(exfalso;contradiction)
      |exact ⟨hlt,trivial,[],rfl,rfl,trivial,⟨rfl,rfl,rfl,rfl,rfl,rfl,trivial⟩⟩
 ·have hke:k=l.length:=by omega
  subst hke
  conv=>whnf
  repeat' first|(refine zd ?_ ?_<;>intro h<;>first|exact zc h|(exfalso;omega)|conv=>whnf)|((first|refine zz ?_|refine zy ?_);conv=>whnf)
  all_goals first
   |(exfalso;omega)
   |exact k8 ⟨rfl,rfl,trivial⟩
end

section
open Go.RowKit
theorem ExP.poss {t:g9} {kind:Int} {n:Nat} (h:ExP t kind n) {z:List Rat} (hz:j4 (f9 t kind) z=true):a2M t kind z:=(sys_holds h.e h.k0 h.k1 (by have:=h.m;omega)).1 hz
theorem ExP.sol {t:g9} {kind:Int} {n:Nat} (h:ExP t kind n) {z:List Rat} (hz:a2M t kind z):j4 (f9 t kind) z=true:=(sys_holds h.e h.k0 h.k1 (by have:=h.m;omega)).2 hz
theorem aD7 {t:g9} {kind:Int} {n:Nat} (h:ExP t kind n) (i:Nat) (hf:a83 t kind i=true):(x3 (f9 t kind) (p6 t (i:Int)) (i:Int)).state=2:=a7K h i fun z hz=>by
 obtain ⟨x,hx,hf⟩:=List.any_eq_true.1 hf
 obtain ⟨f,hf,hon⟩:=List.any_eq_true.1 hf
 unfold fOn at hon
 simp only [Bool.and_eq_true,decide_eq_true_eq] at hon
 obtain ⟨h1,h2⟩:=a2Y hx
 have hp:=h.poss hz
 obtain ⟨m,hm⟩:∃m,t.ev.moves[x.toNat]? =some m:=⟨_,lg0 (by omega)⟩
 have:=(hp.step x.toNat m hm).2.fin f.grams (by
  unfold i6
  exact List.mem_map.2 ⟨f,List.mem_filter.2 ⟨hf,by simp [hon.1];omega⟩,rfl⟩)
 have hg:=K2 (z4 h.e).2.2.2.1 f hf
 refine (a2Q (Y3 hz) _).2 ⟨x,hx,?_⟩
 have h1:((1:Int):Rat)≤(f.grams:Rat):=by exact_mod_cast hg.2.2.2.2.1
 have e1:((1:Int):Rat)=1:=rfl
 rw [e1] at h1
 grind
theorem aZ4 {t:g9} {kind:Int} {n:Nat} (h:ExP t kind n) (i:Nat) (hf:a91 t kind i=true):(x3 (f9 t kind) (p6 t (i:Int)) (i:Int)).state=0:=aF3 h i fun z hz=>by
 have h0:=a5m (Y3 hz) _ (a6Q t (i:Int))
 have hp:=h.poss hz
 by_cases hz0:0<k7 (p6 t (i:Int)) z
 ·obtain ⟨x,hx,hp0⟩:=(a2Q (Y3 hz) _).1 hz0
  have:=List.all_eq_true.1 hf x hx
  obtain ⟨c,hc,hon⟩:=List.any_eq_true.1 this
  unfold cOn at hon
  simp only [Bool.and_eq_true,decide_eq_true_eq] at hon
  obtain ⟨h1,h2⟩:=a2Y hx
  obtain ⟨m,hm⟩:∃m,t.ev.moves[x.toNat]? =some m:=⟨_,lg0 (by omega)⟩
  have:=(hp.step x.toNat m hm).2.cln (by
   unfold j9
   exact List.length_pos_of_mem (List.mem_filter.2 ⟨hc,by simp [hon.1];omega⟩))
  rw [this] at hp0
  exact absurd hp0 (by decide +kernel)
 ·grind
def a73 (t:g9) (kind:Int):Bool:=t.finds.any fun f=>decide (f.kind=kind)
theorem a9T {t:g9} {kind:Int} {n:Nat} (h:ExP t kind n) (hs:a73 t kind=false) (i:Nat):(x3 (f9 t kind) (p6 t (i:Int)) (i:Int)).state≠2:=fun hst=>by
 have hno:∀j,i6 t.finds kind j=[]:=fun j=>by
  unfold i6
  rw [List.map_eq_nil_iff,List.filter_eq_nil_iff]
  intro f hf hc
  simp only [Bool.and_eq_true,decide_eq_true_eq] at hc
  have:a73 t kind=true:=List.any_eq_true.2 ⟨f,hf,decide_eq_true hc.1⟩
  rw [hs] at this;cases this
 have hz:=h.poss (h.vd (i:Int)).has
 generalize j2 (f9 t kind) []=z at hz
 have hzero:a2M t kind (List.replicate t.ev.moves.length 0):=by
  have hb:=aX1 (w:=List.replicate t.ev.moves.length 0) (s:=0) hz Rat.le_refl (by decide +kernel) (by rw [hz.len];simp) fun j hj=>by
   simp [lg3,hj]
  refine ⟨h.e,h.k0,h.k1,by simp,fun j x hx=>?_⟩
  obtain ⟨b1,b2⟩:=hb.step j x hx
  exact ⟨b1,b2.cap,fun g hg=>(by rw [hno j] at hg;cases hg),b2.cln⟩
 have hsol:=h.sol hzero
 rcases T2 (h.vd (i:Int)) (i:Int) with ⟨_,h2⟩|⟨h2,_⟩|⟨h2,_⟩
 ·have h3:=h2 _ hsol
  obtain ⟨x,hx,hp0⟩:=(a2Q (Y3 hsol) _).1 h3
  have e:(List.replicate t.ev.moves.length (0:Rat)).getD x.toNat 0=0:=by
   obtain ⟨h1,h2⟩:=a2Y hx
   have:x.toNat<t.ev.moves.length:=by omega
   simp [lg3,this]
  rw [e] at hp0
  exact absurd hp0 (by decide +kernel)
 ·omega
 ·omega
theorem aR3 {f:Nat→Rat}:∀{n:Nat},0<g7 f n→∃j,j<n∧0<f j
 |0,h=>absurd (show (0:Rat)<0 from h) (by decide +kernel)
 |n+1,h=>by
  simp only [g7] at h
  by_cases h1:0<f n
  ·exact ⟨n,by omega,h1⟩
  ·obtain ⟨j,hj,hp⟩:=aR3 (f:=f) (n:=n) (by grind)
   exact ⟨j,by omega,hp⟩
theorem aa7 {t:g9} {kind:Int} {n:Nat} (h:ExP t kind n) (hs:a73 t kind=true) {z:List Rat} (hz:j4 (f9 t kind) z=true):∃i,i<n∧0<k7 (p6 t (i:Int)) z:=by
 obtain ⟨f,hf,hk⟩:=List.any_eq_true.1 hs
 have hk:=of_decide_eq_true hk
 have hp:=h.poss hz
 obtain ⟨q1,q2,q3,q4,q5⟩:=z4 h.e
 have hg:=K2 q4 f hf
 obtain ⟨x,hx⟩:∃x,t.ev.moves[f.mv.toNat]? =some x:=⟨_,lg0 (by omega)⟩
 have h1:=b0D hp hx hf (by omega) hk
 have h2:((1:Int):Rat)≤(f.grams:Rat):=by exact_mod_cast hg.2.2.2.2.1
 have e1:((1:Int):Rat)=1:=rfl
 rw [e1] at h2
 obtain ⟨j,hj,hlj⟩:=aR3 (f:=a0I t.ev z) (n:=f.mv.toNat+1) (by grind)
 unfold a0I at hlj
 cases hm:t.ev.moves[j]? with
 |none=>rw [hm] at hlj;exact absurd (show (0:Rat)<0 from hlj) (by decide +kernel)
 |some m=>
  rw [hm] at hlj
  simp only at hlj
  by_cases hb:t7 t.ev m.src=0
  ·rw [if_pos hb] at hlj
   have hmo:=F6 q1 (lg2 hm)
   have ms:=M3 hmo
   obtain ⟨p,hpl⟩:∃p,t.ev.places[m.src.toNat]? =some p:=⟨_,lg0 (by omega)⟩
   have hk0:p.kind=0:=by
    have:=a6R hpl
    rw [show ((m.src.toNat:Nat):Int)=m.src by omega,hb] at this
    exact this.symm
   have hpo:=List.all_eq_true.1 (Y1 q1).2.2.2.2.1 p (lg2 hpl)
   unfold P7 at hpo
   rw [if_pos hk0] at hpo
   simp only [Bool.and_eq_true,idx,decide_eq_true_eq] at hpo
   have hd:=aZ3 q1 (lg2 hm)
   have hn:=h.h
   have eh:((p.hh.toNat:Nat):Int)=p.hh:=by omega
   refine ⟨p.hh.toNat,by omega,?_⟩
   refine (a2Q (Y3 hz) _).2 ⟨(j:Int),?_,by simpa using hlj⟩
   refine (aX2 q1).2 ⟨j,m,hm,?_,rfl⟩
   unfold a0R
   rw [hpl]
   have hb2:btw m.day 0 100000=true:=S4.2 hd
   simp only [hb2,Bool.and_true]
   rw [eh]
   simp [hk0]
  ·rw [if_neg hb] at hlj
   exact absurd hlj (by decide +kernel)
def cnt (p:Nat→Bool):Nat→Nat
 |0=>0
 |k+1=>cnt p k+if p k then 1 else 0
theorem b2m {p q:Nat→Bool} (h:∀i,p i=true→q i=true):∀n,cnt p n≤cnt q n
 |0=>Nat.le_refl _
 |n+1=>by
  have ih:=b2m h n
  have:=h n
  unfold cnt
  split<;>split<;>first|omega|(rename_i a b;exact absurd (this a) b)
theorem aH2 (p:Nat→Bool):∀n,cnt p n≤n
 |0=>Nat.le_refl _
 |n+1=>by have:=aH2 p n;unfold cnt;split<;>omega
theorem a7M {p:Nat→Bool} {i:Nat} (hp:p i=true):∀n,i<n→0<cnt p n
 |0,h=>by omega
 |n+1,h=>by
  unfold cnt
  by_cases hi:i=n
  ·subst hi;rw [if_pos hp];omega
  ·have:=a7M hp n (by omega);omega
theorem au5 {p:Nat→Bool}:∀n,(∀ i,i<n→p i=false)→cnt p n=0
 |0,_=>rfl
 |n+1,h=>by unfold cnt;rw [au5 n fun i hi=>h i (by omega),h n (by omega)];rfl
theorem aq2 {p:Nat→Bool} {i j:Nat} (hi:p i=true) (hj:p j=true) (hij:i<j):∀n,j<n→2≤cnt p n
 |0,h=>by omega
 |n+1,h=>by
  unfold cnt
  by_cases hjn:j=n
  ·subst hjn;rw [if_pos hj];have:=a7M hi j hij;omega
  ·have:=aq2 hi hj hij n (by omega);omega
noncomputable def s8 (t:g9) (kind:Int) (i:Nat):Int:=(x3 (f9 t kind) (p6 t (i:Int)) (i:Int)).state
theorem aw9 {t:g9} {kind:Int} {n:Nat} (h:ExP t kind n) (hs:a73 t kind=true):0<cnt (fun i=>decide (s8 t kind i≠0)) n∧(1<cnt (fun i=>decide (s8 t kind i≠0)) n∨cnt (fun i=>decide (s8 t kind i=2)) n=1):=by
 have ne:∀i z,j4 (f9 t kind) z=true→0<k7 (p6 t ((i:Nat):Int)) z→s8 t kind i≠0:=fun i z hz hp hst=>by
  rcases T2 (h.vd (i:Int)) (i:Int) with ⟨h2,_⟩|⟨_,h2⟩|⟨h2,_⟩
  ·unfold s8 at hst;omega
  ·rw [h2 z hz] at hp;exact absurd hp (by decide +kernel)
  ·unfold s8 at hst;omega
 have h0:=(h.vd 0).has
 obtain ⟨i,hi,hv⟩:=aa7 h hs h0
 have hi0:=ne i _ h0 hv
 refine ⟨a7M (i:=i) (decide_eq_true hi0) n hi,?_⟩
 by_cases h1:1<cnt (fun i=>decide (s8 t kind i≠0)) n
 ·exact .inl h1
 ·refine .inr ?_
  have hm:s8 t kind i=2:=a7K h i fun z hz=>by
   obtain ⟨j,hj,hvj⟩:=aa7 h hs hz
   have hj0:=ne j z hz hvj
   have:i=j:=by
    rcases Nat.lt_trichotomy i j with hlt|he|hlt
    ·have:=aq2 (p:=fun i=>decide (s8 t kind i≠0)) (decide_eq_true hi0) (decide_eq_true hj0) hlt n hj;omega
    ·exact he
    ·have:=aq2 (p:=fun i=>decide (s8 t kind i≠0)) (decide_eq_true hj0) (decide_eq_true hi0) hlt n hi;omega
   rw [this];exact hvj
  have l1:=a7M (p:=fun i=>decide (s8 t kind i=2)) (i:=i) (decide_eq_true hm) n hi
  have l2:=b2m (p:=fun i=>decide (s8 t kind i=2)) (q:=fun i=>decide (s8 t kind i≠0)) (fun i hi=>by
   have:=of_decide_eq_true hi
   exact decide_eq_true (by omega)) n
  omega
theorem ar1 {t:g9} {kind:Int} (hs:t.Sized) (ht:m8 t=0) (hm:t.ev.moves.length≤8) (hh:t.ev.hhs≤4):
 (a1B t kind≠0)∨(∃ r,0≤kind∧kind<8∧I6 (f9 t kind) []=.row r)∨∃n,ExP t kind n∧n≤4:=by
 by_cases hk:0≤kind∧kind<8
 ·have p:=B6 (kind:=kind) ht hm (g:=[]) rfl (fun t ht=>by cases ht)
  have hh0:=(Y1 (z4 ht).1).2.2.1
  rcases ao4 p.o.r with h|⟨r,h⟩
  ·exact .inr (.inr ⟨t.ev.hhs.toNat,⟨hs,ht,hk.1,hk.2,hm,by omega,h⟩,by omega⟩)
  ·exact .inr (.inl ⟨r,hk.1,hk.2,h⟩)
 ·refine .inl ?_
  unfold a1B
  rw [if_pos (by omega)]
  decide
set_option maxHeartbeats 8000000 in
theorem a9N (t:g9) (kind:Int):b9 Tryz.prog 4 [trS t,a9 .i64 kind] [] (f7 true) []:=by
 have sa:=a8W
 have sm:=a5x t 8
 cases hsm:a0m t 8 with
 |false=>
  rw [hsm] at sm
  (refine a8 a7 Tryz.func4 rfl (by decide) ?_;(conv=>whnf);repeat ((first|refine b0x ?_|refine zy ?_);conv=>whnf))
  repeat' first|(refine zd ?_ ?_<;>intro h<;>first|exact zc h|(exfalso;omega)|conv=>whnf)|((first|refine zz ?_|refine qp sa ?_|refine qp sm ?_|refine zy ?_);conv=>whnf)
  all_goals first
   |(exfalso;omega)
   |(exfalso;contradiction)
   |exact d8 rfl
 |true=>
 rw [hsm] at sm
 obtain ⟨s1,s2,s3⟩:=R9 (by decide) hsm
 have ck:=a1E t s1
 by_cases ht:m8 t≠0
 ·(refine a8 a7 Tryz.func4 rfl (by decide) ?_;(conv=>whnf);repeat ((first|refine b0x ?_|refine zy ?_);conv=>whnf))
  repeat' first|(refine zd ?_ ?_<;>intro h<;>first|exact zc h|(exfalso;omega)|conv=>whnf)|((first|refine zz ?_|refine qp sa ?_|refine qp sm ?_|refine qp ck ?_|refine zy ?_);conv=>whnf)
  all_goals first
   |(exfalso;omega)
   |(exfalso;contradiction)
   |exact d8 rfl
 have ht:m8 t=0:=by omega
 rcases ar1 (kind:=kind) s1 ht (by omega) s3 with he|⟨r,k0,k1,hr⟩|⟨n,hE,hn4⟩
 ·have ve:=V7 t kind s1 he
  (refine a8 a7 Tryz.func4 rfl (by decide) ?_;(conv=>whnf);repeat ((first|refine b0x ?_|refine zy ?_);conv=>whnf))
  repeat' first|(refine zd ?_ ?_<;>intro h<;>first|exact zc h|(exfalso;omega)|conv=>whnf)|((first|refine zz ?_|refine qp sa ?_|refine qp sm ?_|refine qp ck ?_|refine qp ve ?_|refine qp 5 ?_|refine bl0 [5] ?_|refine zy ?_);conv=>whnf)
  all_goals first
   |(exfalso;omega)
   |(exfalso;contradiction)
   |exact d8 rfl
 ·have ve:=L0 t kind s1 ht k0 k1 (by omega) r hr
  (refine a8 a7 Tryz.func4 rfl (by decide) ?_;(conv=>whnf);repeat ((first|refine b0x ?_|refine zy ?_);conv=>whnf))
  repeat' first|(refine zd ?_ ?_<;>intro h<;>first|exact zc h|(exfalso;omega)|conv=>whnf)|((first|refine zz ?_|refine qp sa ?_|refine qp sm ?_|refine qp ck ?_|refine qp ve ?_|refine qp 5 ?_|refine bl0 [5] ?_|refine zy ?_);conv=>whnf)
  all_goals first
   |(exfalso;omega)
   |(exfalso;contradiction)
   |exact d8 rfl
 have ve:=R4 t kind s1 hE.e hE.k0 hE.k1 hE.m n hE.h (by omega) hE.z
 have vl:=T6 t kind n
 have m1:((D3 t kind n).map a0J.row).length=n:=by simp [vl]
 have m2:(t.finds.map H9.row).length=t.finds.length:=by simp
 have lf:=s1.f
 have cn:∀(hs:a73 t kind=true),_:=fun hs=>aw9 hE hs
 have cz:a73 t kind=false→cnt (fun i=>decide (s8 t kind i=2)) n=0:=fun hs=>au5 n fun i _=>decide_eq_false (a9T hE hs i)
 (refine a8 a7 Tryz.func4 rfl (by decide) ?_;(conv=>whnf);repeat ((first|refine b0x ?_|refine zy ?_);conv=>whnf))
 repeat' first|(refine zd ?_ ?_<;>intro h<;>first|exact zc h|(exfalso;omega)|conv=>whnf)|((first|refine zz ?_|refine qp sa ?_|refine qp sm ?_|refine qp ck ?_|refine qp ve ?_|refine qp 5 ?_|refine bl0 [5] ?_|refine zy ?_);conv=>whnf)
 all_goals try (exfalso;omega)
 all_goals try (exfalso;contradiction)
 refine f8 a7 (fun k=>([J,a9 .i64 kind,S.c (C.t (T.ptr (trT t))),J,J,f7 true,a7j (D3 t kind n),J,f7 ((t.finds.take k).any fun f=>decide (f.kind=kind)),a9 .i64 k,J,J,J,J,J,J,J,J,J,J,J,J,J,J,J,J,J,J,J,J,J,J,J,J,J,J,J,J,J,J,J,J,J,J,J,J,J,J,J,J,J,J,J,J,J,J,J,J,J,J,J,J,J,J,J,J,J,J,J,J,J,J,J,J,J,J,J,J,J,J,J,J,J,J,J,J,J,J,J,J,J,J,J,J,J,J,J,J,J,J,J,J,J,J,J,J,J,J,J,J,J,J,J,J,J,J,J,J,J,J,J],[])) t.finds.length (fun _=>True) [] trivial
  ⟨rfl,rfl,trivial,⟨rfl,rfl,rfl,rfl,rfl,rfl,trivial⟩⟩ ?_
 intro k hk _
 by_cases hlt:k<t.finds.length
 ·obtain ⟨f,hf⟩:∃f,t.finds[k]? =some f:=⟨_,lg0 hlt⟩
  rw [a5M hf]
  generalize ((t.finds.take k).any fun f=>decide (f.kind=kind))=b
  by_cases hq:f.kind=kind
  ·rw [decide_eq_true hq]
   cases b<;>
   ·conv=>whnf
    repeat' first|(refine zd ?_ ?_<;>intro h<;>first|exact zc h|(exfalso;omega)|conv=>whnf)|((first|refine zz ?_|refine d9 hf ?_|refine zy ?_);conv=>whnf)
    all_goals first
     |(exfalso;omega)
     |(exfalso;contradiction)
     |exact ⟨hlt,trivial,[],rfl,rfl,trivial,⟨rfl,rfl,rfl,rfl,rfl,rfl,trivial⟩⟩
  ·rw [decide_eq_false hq]
   cases b<;>
   ·conv=>whnf
    repeat' first|(refine zd ?_ ?_<;>intro h<;>first|exact zc h|(exfalso;omega)|conv=>whnf)|((first|refine zz ?_|refine d9 hf ?_|refine zy ?_);conv=>whnf)
    all_goals first
     |(exfalso;omega)
     |(exfalso;contradiction)
     |exact ⟨hlt,trivial,[],rfl,rfl,trivial,⟨rfl,rfl,rfl,rfl,rfl,rfl,trivial⟩⟩
 ·have eF:t.finds.take k=t.finds:=lg4 (by omega)
  rw [eF]
  have eS:(t.finds.any fun f=>decide (f.kind=kind))=a73 t kind:=rfl
  rw [eS]
  generalize a73 t kind=sF at cn cz
  conv=>whnf
  repeat' first|(refine zd ?_ ?_<;>intro h<;>first|exact zc h|(exfalso;omega)|conv=>whnf)|((first|refine zz ?_|refine zy ?_);conv=>whnf)
  all_goals try (exfalso;omega)
  clear hk hlt eF eS
  refine f8 a7 (fun k=>([J,a9 .i64 kind,S.c (C.t (T.ptr (trT t))),J,J,f7 true,a7j (D3 t kind n),J,f7 sF,J,a9 .i64 (cnt (fun i=>decide (s8 t kind i≠0)) k),a9 .i64 (cnt (fun i=>decide (s8 t kind i=2)) k),a9 .i64 k,J,J,J,J,J,J,J,J,J,J,J,J,J,J,J,J,J,J,J,J,J,J,J,J,J,J,J,J,J,J,J,J,J,J,J,J,J,J,J,J,J,J,J,J,J,J,J,J,J,J,J,J,J,J,J,J,J,J,J,J,J,J,J,J,J,J,J,J,J,J,J,J,J,J,J,J,J,J,J,J,J,J,J,J,J,J,J,J,J,J,J,J,J,J,J,J,J,J,J,J,J,J,J,J,J,J,J,J],[])) n (fun _=>True) [] trivial
   ⟨rfl,rfl,trivial,⟨rfl,rfl,rfl,rfl,rfl,rfl,rfl,rfl,trivial⟩⟩ ?_
  intro k hk _
  by_cases hlt:k<n
  ·have hv:(D3 t kind n)[k]? =some (x3 (f9 t kind) (p6 t (k:Int)) (k:Int)):=by unfold D3;simp [hlt]
   have mk:=b25 t s1 kind k
   have c1:a83 t kind k=true→s8 t kind k=2:=aD7 hE k
   have c2:a91 t kind k=true→s8 t kind k=0:=aZ4 hE k
   have l1:=aH2 (fun i=>decide (s8 t kind i≠0)) k
   have l2:=aH2 (fun i=>decide (s8 t kind i=2)) k
   have eA:cnt (fun i=>decide (s8 t kind i≠0)) (k+1)=cnt (fun i=>decide (s8 t kind i≠0)) k+if s8 t kind k≠0 then 1 else 0:=by
    show cnt _ k+(if decide (s8 t kind k≠0)=true then 1 else 0)=_
    simp only [decide_eq_true_eq]
   have eB:cnt (fun i=>decide (s8 t kind i=2)) (k+1)=cnt (fun i=>decide (s8 t kind i=2)) k+if s8 t kind k=2 then 1 else 0:=by
    show cnt _ k+(if decide (s8 t kind k=2)=true then 1 else 0)=_
    simp only [decide_eq_true_eq]
   rw [eA,eB]
   have eV:s8 t kind k=(x3 (f9 t kind) (p6 t (k:Int)) (k:Int)).state:=rfl
   rw [eV] at c1 c2 ⊢
   generalize cnt (fun i=>decide (s8 t kind i≠0)) k=nA at l1
   generalize cnt (fun i=>decide (s8 t kind i=2)) k=nB at l2
   generalize x3 (f9 t kind) (p6 t (k:Int)) (k:Int)=v at hv c1 c2
   generalize a83 t kind k=fB at mk c1
   generalize a91 t kind k=cB at mk c2
   clear eA eB eV cn cz
   cases fB<;>cases cB<;>
   ·(try have d1:=c1 rfl)
    (try have d2:=c2 rfl)
    conv=>whnf
    repeat' first|(refine zd ?_ ?_<;>intro h<;>first|exact zc h|(exfalso;omega)|conv=>whnf)|((first|refine zz ?_|refine qp mk ?_|refine qp 5 ?_|refine d9 hv ?_|refine bl0 [5] ?_|refine zy ?_);conv=>whnf)
    all_goals first
     |(exfalso;omega)
     |(exfalso;contradiction)
     |exact ⟨hlt,trivial,[],rfl,rfl,trivial,⟨rfl,rfl,rfl,rfl,rfl,e7 (by split<;>omega),e7 (by split<;>omega),rfl,trivial⟩⟩
  ·have hke:k=n:=by omega
   subst hke
   cases sF with
   |false=>
    have cz:=cz rfl
    rw [cz]
    generalize cnt (fun i=>decide (s8 t kind i≠0)) k=nA
    conv=>whnf
    repeat' first|(refine zd ?_ ?_<;>intro h<;>first|exact zc h|(exfalso;omega)|conv=>whnf)|((first|refine zz ?_|refine zy ?_);conv=>whnf)
    all_goals first
     |(exfalso;omega)
     |(exfalso;contradiction)
     |exact d8 rfl
   |true=>
    obtain ⟨d1,d2⟩:=cn rfl
    generalize cnt (fun i=>decide (s8 t kind i≠0)) k=nA at d1 d2
    generalize cnt (fun i=>decide (s8 t kind i=2)) k=nB at d2
    conv=>whnf
    repeat' first|(refine zd ?_ ?_<;>intro h<;>first|exact zc h|(exfalso;omega)|conv=>whnf)|((first|refine zz ?_|refine zy ?_);conv=>whnf)
    all_goals first
     |(exfalso;omega)
     |(exfalso;contradiction)
     |exact d8 rfl
end
section
open Go.RowKit Go.ChangeShapes Go.WideShapes Go.ChangeAt
set_option maxRecDepth 100000 in
theorem a4F (os:Os) (started:os.Started) (H:Type) (enc:TypeId × Value→H):
 ReturnsInHanded {} Tryz.checked os 4 .any (Rows.sourceFindsSpec.pre6 enc Tryz.prog Tryz.f4 Rows.sourceFindsRow.domain false) (Rows.sourceFindsSpec.post enc Tryz.prog Tryz.f4 false true false false):=by
 refine returnsInHanded_of_change (C:=Tryz.checked) ak5 started (by kernel_rfl) Tryz.func4
  (ChangeSpec.witness6 (enc:=enc) (C:=Tryz.checked) false ⟨#[],#[.agg #[.int .i64 0,.int .i64 0,.int .i64 0,.slice none 0 0,.slice none 0 0,.slice none 0 0,.slice none 0 0,.slice none 0 0,.slice none 0 0,.slice none 0 0],.int .i64 0],[]⟩ 12 (by kernel_rfl) (by kernel_rfl) (by kernel_rfl) (by kernel_rfl)) ?_
 intro W base args ds gs before hval0 hW hcnd _
 have hval:∀(j:Nat) t v,Tryz.f4.params[j]? =some t→args[j]? =some v→Value.okWide Tryz.prog W .any base t v:=hval0
 have hW':=hW
 obtain ⟨p,q,hA0,hV,rfl,hfz,hnd⟩:=hW
 have hA:DataW.TrodAll enc Tryz.prog W 0 (fun _=>true) true Tryz.f4.params.toList args.toList ds p:=hA0
 rw [Tryz.params4] at hA hval
 obtain ⟨v0,vs0,d0,ds0,p0,q0,hargs,rfl,rfl,h0,r0⟩:=trodAll_cons hA
 obtain ⟨v1,vs1,d1,ds1,p1,q1,rfl,rfl,rfl,h1,r1⟩:=trodAll_cons r0
 obtain ⟨rfl,rfl,rfl⟩:=trodAll_nil r1
 obtain rfl:args=#[v0,v1]:=by cases args;simp_all
 obtain ⟨rfl,rfl⟩:=trodVars_none hV
 obtain ⟨a0,t0⟩:=Go.Proofs.YtdbogogfeffjlaaGreat.open_trace (hval 0 32 v0 rfl rfl) h0
 obtain ⟨a1,rfl,rfl,rfl,w1⟩:=open_int Tryz.underlying3 (hval 1 3 v1 rfl rfl) h1
 refine (a2o (a9N a0 a1) (.cons (t0) (.cons (aF5) (.nil)))).mono fun ee W' ⟨he,hg⟩=>?_
 subst he
 exact ⟨_,rfl,a9g hW' a97 (by rw [Tryz.params4];intro t ht;simp at ht;rcases ht with rfl|rfl<;>exact ⟨by kernel_rfl,of_decide_eq_true (by kernel_rfl)⟩) rfl rfl (by kernel_rfl) Tryz.underlying4 hg⟩
theorem a5A:(Rows.sourceFindsRow.inPlace == Tryz.pinned.checked.prog.inPlace 4)=true:=by kernel_rfl
theorem a7p:(Rows.sourceFindsRow.unfollowed == Tryz.pinned.checked.prog.unfollowed 4)=true:=by kernel_rfl
theorem a7s:(Rows.sourceFindsRow.recurses == Tryz.pinned.checked.prog.recurses 4)=true:=by kernel_rfl
theorem a5q:(Rows.sourceFindsRow.named == Tryz.pinned.checked.prog.varsNamed 4)=true:=by kernel_rfl
theorem a54:(Rows.sourceFindsRow.loops == (Tryz.f4.params.toList++Rows.sourceFindsSpec.plain.varTypes Tryz.pinned.checked.prog).any (Tryz.pinned.checked.prog.loopsFrom ·))=true:=by kernel_rfl
set_option maxRecDepth 100000 in
theorem a4E:joinedFacts Tryz.pinned.checked.prog 4 Tryz.f4 Rows.sourceFindsSpec Rows.sourceFindsRow=true:=a6c (by kernel_rfl) aj2 ao9 (by kernel_rfl) (by kernel_rfl) (by kernel_rfl) (by kernel_rfl) (by kernel_rfl) (by kernel_rfl) a5A a7p a7s a5q (by kernel_rfl) (by kernel_rfl) (by kernel_rfl) a54 (by kernel_rfl) (by kernel_rfl) (by kernel_rfl) (by kernel_rfl) (by kernel_rfl) ap7 (by kernel_rfl) a87 a8D aj9 ak4 (by kernel_rfl) (by kernel_rfl) (by kernel_rfl) (by kernel_rfl) (by kernel_rfl)
theorem sourceFinds_holds:Rows.SourceFindsSaid:=
 OpenClaim.holds_of_wide 4 Tryz.f4 rfl rfl rfl rfl rfl rfl rfl ⟨rfl,rfl,rfl,rfl,rfl⟩ rfl rfl rfl rfl rfl (by kernel_rfl) Tryz.func4 a4E
  (of_decide_eq_true (by kernel_rfl)) (by unfold Func.isWrapper;first|(rw [if_pos (by decide +kernel)];kernel_rfl)|(rw [if_neg (by decide +kernel)];exact ⟨rfl,rfl⟩))
  (fun os started H enc _=>a4F os started H enc)
end
section
open Go.RowKit
abbrev bc8 (t:g9):Blk:={ mode:=.live,elem:=32,size:=10,rows:=[(trT t).map .t],box:=true }
def R0 (t:g9) (f:H9) (c:B8) (cl:Bool):g9:=if cl then b4i t c else b4j t f
theorem aP8 {t:g9} {f:H9} {c:B8} {cl:Bool}:(R0 t f c cl).ev=t.ev:=by cases cl<;>rfl
theorem ag2 {t:g9} {f:H9} {c:B8} {cl:Bool} {kind:Int} {z:List Rat} (h0:m8 t=0) (h:a2M (R0 t f c cl) kind z):a2M t kind z:=by
 cases cl with
 |true=>exact aE1 h0 h
 |false=>exact aJ5 h0 h
theorem ah6 {t:g9} {f:H9} {c:B8} {cl:Bool} (h:Int):p6 (R0 t f c cl) h=p6 t h:=by unfold p6;rw [aP8]
theorem aK9 {t:g9} {f:H9} {c:B8} {cl:Bool} {kind:Int} {n:Nat} (h1:ExP t kind n) (h2:ExP (R0 t f c cl) kind n) (i:Nat):s8 t kind i=1∨s8 (R0 t f c cl) kind i=s8 t kind i:=by
 have sub:∀z,j4 (f9 (R0 t f c cl) kind) z=true→j4 (f9 t kind) z=true:=fun z hz=>h1.sol (ag2 h1.e (h2.poss hz))
 rcases T2 (h1.vd (i:Int)) (i:Int) with ⟨s1,h⟩|⟨s1,h⟩|⟨s1,_⟩
 ·refine .inr ?_
  show _=(x3 _ _ _).state
  rw [s1]
  exact a7K h2 i fun z hz=>by rw [ah6];exact h z (sub z hz)
 ·refine .inr ?_
  show _=(x3 _ _ _).state
  rw [s1]
  exact aF3 h2 i fun z hz=>by rw [ah6];exact h z (sub z hz)
 ·exact .inl s1
set_option maxHeartbeats 8000000 in
theorem ap0 (t:g9) (kind:Int) (f:H9) (c:B8) (cl:Bool) (hf:t.finds.length≤1048576) (hc:t.cleans.length≤1048576):b9 Tryz.prog 3 [trS t,a9 .i64 kind,.agg (f.row.map .t),.agg (c.row.map .t),f7 cl] [] (f7 true) []:=by
 have sa:=a8W
 have m1:(t.finds.map H9.row).length=t.finds.length:=by simp
 have m2:(t.cleans.map B8.row).length=t.cleans.length:=by simp
 (refine a3K a7 Tryz.func3 rfl (by decide) ?_;refine E3 a7 ?_;(conv=>whnf);repeat ((first|refine b0x ?_|refine zy ?_);conv=>whnf))
 (refine E3 a7 ?_;conv=>whnf)
 repeat' first|(refine zd ?_ ?_<;>intro h<;>first|exact zc h|(exfalso;omega)|conv=>whnf)|((first|refine zz ?_|refine qp sa ?_|refine zy ?_);conv=>whnf)
 (refine E3 a7 ?_;conv=>whnf)
 repeat' first|(refine zd ?_ ?_<;>intro h<;>first|exact zc h|(exfalso;omega)|conv=>whnf)|((first|refine zz ?_|refine zy ?_);conv=>whnf)
 refine Z7 a7 ([J,a9 .i64 kind,J,J,J,S.c (C.t (T.ptr (trT t))),J,J,J,J,J,f7 true,S.c (C.ptr 0 0 0),J,J,J,J,J,J,J,J,J,J,J,J,J,J,J,J,J,J,J,J,J,J,J,J,J,J,J,J,J,J,J,J,J,J,J,J,J,J,J,J,J,J,J,J,J,J,J,J,J,J,J,J,J,J,J,J,J,J,J,J,J,J,J,J,J,J,J,J,J,J,J,J,J,J,J,J,J,J,J,J,J,J,J,J,J,J,J,J,J,J,J,J,J]) [bc8 (R0 t f c cl)] ?_ ?_
 ·cases cl with
  |true=>
   conv=>whnf
   repeat' first|(refine zd ?_ ?_<;>intro h<;>first|exact zc h|(exfalso;omega)|conv=>whnf)|((first|refine zz ?_|refine qp toC ?_|refine qp (toC,C4) ?_|refine qp toC ?_|refine a1d rfl (by simp [toC];omega) ?_|refine v7 (by simp [toC,C4]) (by simp [toC];omega) ?_|refine zy ?_);conv=>whnf)
   all_goals first
    |(exfalso;omega)
    |(exfalso;contradiction)
    |exact ⟨[some 0],rfl,rfl,⟨⟨rfl,rfl,rfl,.inr ⟨⟨rfl,rfl,rfl,rfl,rfl,rfl,rfl,rfl,rfl,show aG6 [some 0] _ _ _ from show VC _ (fun id=>K3 [some 0] id=true) _ _ from v5 (rows:=(t.cleans++[c]).map B8.row) rfl rfl (by intro h;cases h) rfl (by simp [toC,C4];exact ⟨lg4 (by simp),rfl⟩) (by simp [toC]),trivial⟩,trivial⟩⟩,trivial⟩,⟨rfl,rfl,rfl,⟨rfl,rfl,rfl⟩,trivial⟩⟩
  |false=>
   conv=>whnf
   repeat' first|(refine zd ?_ ?_<;>intro h<;>first|exact zc h|(exfalso;omega)|conv=>whnf)|((first|refine zz ?_|refine qp toC ?_|refine qp (toC,C4) ?_|refine qp toC ?_|refine a1d rfl (by simp [toC];omega) ?_|refine v7 (by simp [toC,C4]) (by simp [toC];omega) ?_|refine zy ?_);conv=>whnf)
   all_goals first
    |(exfalso;omega)
    |(exfalso;contradiction)
    |exact ⟨[some 0],rfl,rfl,⟨⟨rfl,rfl,rfl,.inr ⟨⟨rfl,rfl,rfl,rfl,rfl,rfl,rfl,rfl,show aG6 [some 0] _ _ _ from show VC _ (fun id=>K3 [some 0] id=true) _ _ from v5 (rows:=(t.finds++[f]).map H9.row) rfl rfl (by intro h;cases h) rfl (by simp [toC,C4];exact ⟨lg4 (by simp),rfl⟩) (by simp [toC]),rfl,trivial⟩,trivial⟩⟩,trivial⟩,⟨rfl,rfl,rfl,⟨rfl,rfl,rfl⟩,trivial⟩⟩
 have s1:=a5x t 7
 have s2:=a5x (R0 t f c cl) 7
 refine x6 a7 _ ?_
 cases h1:a0m t 7 with
 |false=>
  rw [h1] at s1
  conv=>whnf
  repeat' first|(refine zd ?_ ?_<;>intro h<;>first|exact zc h|(exfalso;omega)|conv=>whnf)|((first|refine zz ?_|refine qp s1 ?_|refine zy ?_);conv=>whnf)
  all_goals first
   |(exfalso;omega)
   |(exfalso;contradiction)
   |exact d8 rfl
 |true=>
 rw [h1] at s1
 cases h2:a0m (R0 t f c cl) 7 with
 |false=>
  rw [h2] at s2
  conv=>whnf
  repeat' first|(refine zd ?_ ?_<;>intro h<;>first|exact zc h|(exfalso;omega)|conv=>whnf)|((first|refine zz ?_|refine qp s1 ?_|refine qp s2 ?_|refine zy ?_);conv=>whnf)
  all_goals first
   |(exfalso;omega)
   |(exfalso;contradiction)
   |exact d8 rfl
 |true=>
 rw [h2] at s2
 obtain ⟨z1,z2,z3⟩:=R9 (by decide) h1
 obtain ⟨y1,y2,y3⟩:=R9 (by decide) h2
 have c1:=a1E t z1
 have c2:=a1E (R0 t f c cl) y1
 by_cases h3:m8 t≠0
 ·conv=>whnf
  repeat' first|(refine zd ?_ ?_<;>intro h<;>first|exact zc h|(exfalso;omega)|conv=>whnf)|((first|refine zz ?_|refine qp s1 ?_|refine qp s2 ?_|refine qp c1 ?_|refine zy ?_);conv=>whnf)
  all_goals first
   |(exfalso;omega)
   |(exfalso;contradiction)
   |exact d8 rfl
 have h3:m8 t=0:=by omega
 by_cases h4:m8 (R0 t f c cl)≠0
 ·conv=>whnf
  repeat' first|(refine zd ?_ ?_<;>intro h<;>first|exact zc h|(exfalso;omega)|conv=>whnf)|((first|refine zz ?_|refine qp s1 ?_|refine qp s2 ?_|refine qp c1 ?_|refine qp c2 ?_|refine zy ?_);conv=>whnf)
  all_goals first
   |(exfalso;omega)
   |(exfalso;contradiction)
   |exact d8 rfl
 have h4:m8 (R0 t f c cl)=0:=by omega
 rcases ar1 (kind:=kind) z1 h3 (by omega) z3 with he|⟨r,k0,k1,hr⟩|⟨n,hE,hn4⟩
 ·have v1:=V7 t kind z1 he
  have he2:a1B (R0 t f c cl) kind≠0:=by
   have hk:¬(0≤kind∧kind<8):=fun hk=>he (by unfold a1B;rw [if_neg (by omega)])
   unfold a1B
   rw [if_pos (by omega)]
   decide
  have v2:=V7 (R0 t f c cl) kind y1 he2
  conv=>whnf
  repeat' first|(refine zd ?_ ?_<;>intro h<;>first|exact zc h|(exfalso;omega)|conv=>whnf)|((first|refine zz ?_|refine qp s1 ?_|refine qp s2 ?_|refine qp c1 ?_|refine qp c2 ?_|refine qp v1 ?_|refine qp v2 ?_|refine qp 5 ?_|refine bl0 [5] ?_|refine zy ?_);conv=>whnf)
  all_goals first
   |(exfalso;omega)
   |(exfalso;contradiction)
   |exact d8 rfl
 ·have v1:=L0 t kind z1 h3 k0 k1 (by omega) r hr
  obtain ⟨r2,hr2⟩:=b1s (t:=R0 t f c cl) (kind:=kind) h4 (by omega) fun z=>by
   cases hz:j4 (f9 (R0 t f c cl) kind) z with
   |false=>rfl
   |true=>
    have hp:=ag2 h3 ((sys_holds h4 k0 k1 (by omega)).1 hz)
    have:=(sys_holds h3 k0 k1 (by omega)).2 hp
    rw [a7H hr z] at this;cases this
  have v2:=L0 (R0 t f c cl) kind y1 h4 k0 k1 (by omega) r2 hr2
  conv=>whnf
  repeat' first|(refine zd ?_ ?_<;>intro h<;>first|exact zc h|(exfalso;omega)|conv=>whnf)|((first|refine zz ?_|refine qp s1 ?_|refine qp s2 ?_|refine qp c1 ?_|refine qp c2 ?_|refine qp v1 ?_|refine qp v2 ?_|refine qp 5 ?_|refine bl0 [5] ?_|refine zy ?_);conv=>whnf)
  all_goals first
   |(exfalso;omega)
   |(exfalso;contradiction)
   |exact d8 rfl
 have v1:=R4 t kind z1 h3 hE.k0 hE.k1 hE.m n hE.h (by omega) hE.z
 rcases ar1 (kind:=kind) y1 h4 (by omega) y3 with he|⟨r,k0,k1,hr⟩|⟨n2,hE2,hn4'⟩
 ·exfalso
  exact he (by unfold a1B;have:=hE.k0;have:=hE.k1;rw [if_neg (by omega)])
 ·have v2:=L0 (R0 t f c cl) kind y1 h4 k0 k1 (by omega) r hr
  conv=>whnf
  repeat' first|(refine zd ?_ ?_<;>intro h<;>first|exact zc h|(exfalso;omega)|conv=>whnf)|((first|refine zz ?_|refine qp s1 ?_|refine qp s2 ?_|refine qp c1 ?_|refine qp c2 ?_|refine qp v1 ?_|refine qp v2 ?_|refine qp 5 ?_|refine bl0 [5] ?_|refine zy ?_);conv=>whnf)
  all_goals first
   |(exfalso;omega)
   |(exfalso;contradiction)
   |exact d8 rfl
 have hnn:n2=n:=by
  have a1:=hE.h
  have a2:=hE2.h
  rw [aP8] at a2
  omega
 subst hnn
 have v2:=R4 (R0 t f c cl) kind y1 h4 hE2.k0 hE2.k1 hE2.m n2 hE2.h (by omega) hE2.z
 have st:=aK9 hE hE2
 have n1:((D3 t kind n2).map a0J.row).length=n2:=by simp [T6]
 have n3:((D3 (R0 t f c cl) kind n2).map a0J.row).length=n2:=by simp [T6]
 generalize R0 t f c cl=M at s2 c2 h4 hE2 v2 st n3
 conv=>whnf
 repeat' first|(refine zd ?_ ?_<;>intro h<;>first|exact zc h|(exfalso;omega)|conv=>whnf)|((first|refine zz ?_|refine qp s1 ?_|refine qp s2 ?_|refine qp c1 ?_|refine qp c2 ?_|refine qp v1 ?_|refine qp v2 ?_|refine qp 5 ?_|refine bl0 [5] ?_|refine zy ?_);conv=>whnf)
 all_goals try (exfalso;omega)
 all_goals try (exfalso;contradiction)
 refine f8 a7 (fun k=>([J,J,J,J,J,J,J,J,J,J,J,f7 true,J,a7j (D3 t kind n2),J,a7j (D3 M kind n2),J,a9 .i64 k,J,J,J,J,J,J,J,J,J,J,J,J,J,J,J,J,J,J,J,J,J,J,J,J,J,J,J,J,J,J,J,J,J,J,J,J,J,J,J,J,J,J,J,J,J,J,J,J,J,J,J,J,J,J,J,J,J,J,J,J,J,J,J,J,J,J,J,J,J,J,J,J,J,J,J,J,J,J,J,J,J,J,J,J,J,J,J,J],[])) n2 (fun _=>True) [] trivial
  ⟨rfl,rfl,trivial,⟨rfl,rfl,rfl,rfl,trivial⟩⟩ ?_
 intro k hk _
 by_cases hlt:k<n2
 ·have w1:(D3 t kind n2)[k]? =some (x3 (f9 t kind) (p6 t (k:Int)) (k:Int)):=by unfold D3;simp [hlt]
  have w2:(D3 M kind n2)[k]? =some (x3 (f9 M kind) (p6 M (k:Int)) (k:Int)):=by unfold D3;simp [hlt]
  have sk:=st k
  unfold s8 at sk
  generalize x3 (f9 t kind) (p6 t (k:Int)) (k:Int)=a at w1 sk
  generalize x3 (f9 M kind) (p6 M (k:Int)) (k:Int)=b at w2 sk
  conv=>whnf
  repeat' first|(refine zd ?_ ?_<;>intro h<;>first|exact zc h|(exfalso;omega)|conv=>whnf)|((first|refine zz ?_|refine d9 w1 ?_|refine d9 w2 ?_|refine zy ?_);conv=>whnf)
  all_goals first
   |(exfalso;omega)
   |(exfalso;contradiction)
   |exact ⟨hlt,trivial,[],rfl,rfl,trivial,⟨rfl,rfl,rfl,rfl,trivial⟩⟩
 ·conv=>whnf
  repeat' first|(refine zd ?_ ?_<;>intro h<;>first|exact zc h|(exfalso;omega)|conv=>whnf)|((first|refine zz ?_|refine zy ?_);conv=>whnf)
  all_goals first
   |(exfalso;omega)
   |exact d8 rfl
end
section
open Go.RowKit Go.ChangeShapes Go.WideShapes Go.Deep
theorem b16 {H:Type} (d:DataW H):1≤Rows.uptoBulk d:=by
 cases d with
 |lit l=>cases l<;>simp [Rows.uptoBulk]
 |nil=>simp [Rows.uptoBulk]
 |ptr d=>simp [Rows.uptoBulk]
 |slice elems spare=>simp [Rows.uptoBulk]
 |agg parts=>simp [Rows.uptoBulk]
 |iface t d=>simp [Rows.uptoBulk]
 |map entries=>simp [Rows.uptoBulk]
 |held h=>simp [Rows.uptoBulk]
theorem ag8 {H:Type} {d:DataW H} {l:List (DataW H)} (h:d ∈ l):Rows.uptoBulk d≤Rows.uptoBulkAll l:=by
 induction l with
 |nil=>cases h
 |cons x r ih=>
  simp only [Rows.uptoBulkAll]
  cases List.mem_cons.1 h with
  |inl e=>subst e;omega
  |inr e=>have:=ih e;omega
theorem b0b {H:Type} (l:List (DataW H)):l.length≤Rows.uptoBulkAll l:=by
 induction l with
 |nil=>simp [Rows.uptoBulkAll]
 |cons x r ih=>have:=b16 x;simp only [Rows.uptoBulkAll,List.length_cons];omega
theorem a8d {H:Type} {enc:TypeId × Value→H} {P:Program} {w:World} {base n:Nat} {spare:Nat→Bool} {held:Bool} {t e:TypeId} {A:Option Addr} {len cap:Nat} {x:DataW H × List MemPlace}
 (ht:P.underlying t=some (.slice e)) (h:DataW.trod enc P w base spare held n t [.slice A len cap]=some x):len≤Rows.uptoBulk x.1:=by
 rcases DataW.trod_slice ht h with ⟨e1,_⟩|⟨a,len',cap',elems,rest,k,_,e1,e2,_,_,_,e3,_⟩
 ·injection e1 with e1 _
  injection e1 with _ e1 _
  omega
 ·injection e1 with e1 _
  injection e1 with _ e1 _
  have h7:=b0b (elems.map (·.1))
  rw [List.length_map] at h7
  have h8:Rows.uptoBulk x.1=Rows.uptoBulkAll (elems.map (·.1))+Rows.uptoBulkAll (rest.map (·.1))+1:=by rw [e2];simp [Rows.uptoBulk]
  omega
theorem a82 {w:World} {ι:Io} {M:Ms} {n:Nat} {k:SK} {rows:List (List T)} {v:Value} (h:RC w ι M (.t (.sl n k rows)) v):∃A c,v=.slice A rows.length c:=by
 cases h with
 |t h=>cases h with
  |sl f=>exact ⟨_,_,rfl⟩
theorem b4P {w:World} {ι:Io} {M:Ms} {n:Int} {v:Value} (h:RC w ι M (.t (ti n)) v):v=.int .i64 n:=by
 cases h with
 |t h=>cases h with
  |atm h=>rfl
theorem b2D {H:Type} {enc:TypeId × Value→H} {w:World} {base:Nat} {spare:Nat→Bool} {held:Bool} {d:DataW H} {p:List MemPlace} {ι:Io} {M:Ms} {t:g9} {v:Value}
 (hr:RS w ι M (trS t) v) (ht:DataW.Trod enc Tryz.prog w base spare held 32 v d p):t.finds.length≤Rows.uptoBulk d∧t.cleans.length≤Rows.uptoBulk d:=by
 cases hr with
 |agg vs hl hr=>
  match vs,hl with
  |[u0,u1,u2,u3,u4,u5,u6,u7,u8,u9],_=>
   obtain rfl:=b4P (hr 0 _ rfl)
   obtain rfl:=b4P (hr 1 _ rfl)
   obtain rfl:=b4P (hr 2 _ rfl)
   obtain ⟨A3,c3,rfl⟩:=a82 (hr 3 _ rfl)
   obtain ⟨A4,c4,rfl⟩:=a82 (hr 4 _ rfl)
   obtain ⟨A5,c5,rfl⟩:=a82 (hr 5 _ rfl)
   obtain ⟨A6,c6,rfl⟩:=a82 (hr 6 _ rfl)
   obtain ⟨A7,c7,rfl⟩:=a82 (hr 7 _ rfl)
   obtain ⟨A8,c8,rfl⟩:=a82 (hr 8 _ rfl)
   obtain ⟨A9,c9,rfl⟩:=a82 (hr 9 _ rfl)
   obtain ⟨fuel,hf⟩:=ht
   obtain ⟨xs,n,_,hx,_,hlen,hg⟩:=DataW.trod_struct Tryz.underlying32 hf
   have hc1:Tryz.prog.cellsOf 29=1:=by kernel_rfl
   have hc2:Tryz.prog.cellsOf 30=1:=by kernel_rfl
   have h1:=hg 1 _ rfl
   have h2:=hg 2 _ rfl
   have hl3:xs.length=3:=hlen
   injection hx with hd _
   have hd2:Rows.uptoBulk d=Rows.uptoBulkAll (xs.map (·.1))+1:=by rw [hd];simp [Rows.uptoBulk]
   obtain ⟨x1,hx1⟩:∃x,xs[1]? =some x:=⟨_,lg0 (by omega)⟩
   obtain ⟨x2,hx2⟩:∃x,xs[2]? =some x:=⟨_,lg0 (by omega)⟩
   rw [hx1] at h1
   rw [hx2] at h2
   change DataW.trod enc Tryz.prog w base spare held n 29 (List.take (Tryz.prog.cellsOf 29) _)=some x1 at h1
   change DataW.trod enc Tryz.prog w base spare held n 30 (List.take (Tryz.prog.cellsOf 30) _)=some x2 at h2
   rw [hc1] at h1
   rw [hc2] at h2
   have b1:=a8d Tryz.underlying29 h1
   have b2:=a8d Tryz.underlying30 h2
   have p1:=ag8 (List.mem_map.2 ⟨x1,lg2 hx1,rfl⟩:x1.1 ∈ xs.map (·.1))
   have p2:=ag8 (List.mem_map.2 ⟨x2,lg2 hx2,rfl⟩:x2.1 ∈ xs.map (·.1))
   have q1:(t.finds.map H9.row).length=t.finds.length:=by simp
   have q2:(t.cleans.map B8.row).length=t.cleans.length:=by simp
   omega
end
section
open Go.RowKit Go.ChangeShapes Go.WideShapes Go.ChangeAt
set_option maxRecDepth 100000 in
theorem a5Y (os:Os) (started:os.Started) (H:Type) (enc:TypeId × Value→H) (F:Stop.Interp):
 ReturnsInHanded {} Tryz.checked os 3 .any ((Rows.OpenSpec.upto Rows.sourceMoreSpec).pre6 enc Tryz.prog Tryz.f3 Rows.sourceMoreUptoRow.domain false) (((Rows.OpenSpec.upto Rows.sourceMoreSpec).at F).post enc Tryz.prog Tryz.f3 false true false false):=by
 refine returnsInHanded_of_cond (C:=Tryz.checked) (s:=Rows.OpenSpec.upto Rows.sourceMoreSpec) (k:=Rows.uptoSmall) rfl ak5 started (by kernel_rfl) Tryz.func3
  (OpenSpec.witness (enc:=enc) (C:=Tryz.checked) (s:=Rows.OpenSpec.upto Rows.sourceMoreSpec) (k:=Rows.uptoSmall) rfl false ⟨#[],#[.agg #[.int .i64 0,.int .i64 0,.int .i64 0,.slice none 0 0,.slice none 0 0,.slice none 0 0,.slice none 0 0,.slice none 0 0,.slice none 0 0,.slice none 0 0],.int .i64 0,.agg #[.int .i64 0,.int .i64 0,.int .i64 0],.agg #[.int .i64 0,.int .i64 0],.bool false],[]⟩ 12 (by kernel_rfl) (by kernel_rfl) (by kernel_rfl) (by kernel_rfl)
    (x:=([.agg [.agg [.lit (.int .i64 0),.lit (.int .i64 0),.lit (.int .i64 0),.nil,.nil,.nil,.nil,.nil],.nil,.nil],.lit (.int .i64 0),.agg [.lit (.int .i64 0),.lit (.int .i64 0),.lit (.int .i64 0)],.agg [.lit (.int .i64 0),.lit (.int .i64 0)],.lit (.bool false)],[],[])) (by kernel_rfl) rfl (by kernel_rfl)) ?_
 intro W base args ds gs before hval0 hW hcnd hk _
 have hval:∀(j:Nat) t v,Tryz.f3.params[j]? =some t→args[j]? =some v→Value.okWide Tryz.prog W .any base t v:=hval0
 have hW':=hW
 obtain ⟨p,q,hA0,hV,rfl,hfz,hnd⟩:=hW
 have hA:DataW.TrodAll enc Tryz.prog W 0 (fun _=>true) true Tryz.f3.params.toList args.toList ds p:=hA0
 rw [Tryz.params3] at hA hval
 obtain ⟨v0,vs0,d0,ds0,p0,q0,hargs,rfl,rfl,h0,r0⟩:=trodAll_cons hA
 obtain ⟨v1,vs1,d1,ds1,p1,q1,rfl,rfl,rfl,h1,r1⟩:=trodAll_cons r0
 obtain ⟨v2,vs2,d2,ds2,p2,q2,rfl,rfl,rfl,h2,r2⟩:=trodAll_cons r1
 obtain ⟨v3,vs3,d3,ds3,p3,q3,rfl,rfl,rfl,h3,r3⟩:=trodAll_cons r2
 obtain ⟨v4,vs4,d4,ds4,p4,q4,rfl,rfl,rfl,h4,r4⟩:=trodAll_cons r3
 obtain ⟨rfl,rfl,rfl⟩:=trodAll_nil r4
 obtain rfl:args=#[v0,v1,v2,v3,v4]:=by cases args;simp_all
 obtain ⟨rfl,rfl⟩:=trodVars_none hV
 obtain ⟨a0,t0⟩:=Go.Proofs.YtdbogogfeffjlaaGreat.open_trace (hval 0 32 v0 rfl rfl) h0
 obtain ⟨a1,rfl,rfl,rfl,w1⟩:=open_int Tryz.underlying3 (hval 1 3 v1 rfl rfl) h1
 obtain ⟨a2,t2⟩:=Go.Proofs.YtdbogogfeffjlaaGreat.open_find (hval 2 34 v2 rfl rfl) h2
 obtain ⟨a3,t3⟩:=Go.Proofs.YtdbogogfeffjlaaGreat.open_clean (hval 3 36 v3 rfl rfl) h3
 obtain ⟨a4,rfl,rfl,rfl⟩:=open_bool Tryz.underlying4 (hval 4 4 v4 rfl rfl) h4
 have h9:Rows.uptoBulkAll ([d0,.lit (.int .i64 a1),d2,d3,.lit (.bool a4)]++[])≤1048576:=of_decide_eq_true hk
 simp only [List.cons_append,List.nil_append,Rows.uptoBulkAll] at h9
 have h8:=b2D t0 h0
 have hf:a0.finds.length≤1048576:=by omega
 have hc:a0.cleans.length≤1048576:=by omega
 refine (a2o (ap0 a0 a1 a2 a3 a4 hf hc) (.cons (t0) (.cons (aF5) (.cons (t2) (.cons (t3) (.cons (b3k) (.nil))))))).mono fun ee W' ⟨he,hg⟩=>?_
 subst he
 exact ⟨_,rfl,a9g hW' a97 (by rw [Tryz.params3];intro t ht;simp at ht;first|(rcases ht with rfl|rfl|rfl|rfl|rfl<;>exact ⟨by kernel_rfl,of_decide_eq_true (by kernel_rfl)⟩)|(rcases ht with rfl|rfl|rfl|rfl|rfl<;>exact ⟨by kernel_rfl,of_decide_eq_true (by kernel_rfl)⟩)) rfl rfl (by kernel_rfl) Tryz.underlying4 hg⟩
theorem a6o:(Rows.sourceMoreUptoRow.inPlace == Tryz.pinned.checked.prog.inPlace 3)=true:=by kernel_rfl
theorem a84:(Rows.sourceMoreUptoRow.unfollowed == Tryz.pinned.checked.prog.unfollowed 3)=true:=by kernel_rfl
theorem a9s:(Rows.sourceMoreUptoRow.recurses == Tryz.pinned.checked.prog.recurses 3)=true:=by kernel_rfl
theorem a65:(Rows.sourceMoreUptoRow.named == Tryz.pinned.checked.prog.varsNamed 3)=true:=by kernel_rfl
theorem a6S:(Rows.sourceMoreUptoRow.loops == (Tryz.f3.params.toList++(Rows.OpenSpec.upto Rows.sourceMoreSpec).bare.plain.varTypes Tryz.pinned.checked.prog).any (Tryz.pinned.checked.prog.loopsFrom ·))=true:=by kernel_rfl
set_option maxRecDepth 100000 in
theorem a5F:joinedFacts Tryz.pinned.checked.prog 3 Tryz.f3 ((Rows.OpenSpec.upto Rows.sourceMoreSpec).bare) Rows.sourceMoreUptoRow=true:=a6c (by kernel_rfl) aj2 ao9 (by kernel_rfl) (by kernel_rfl) (by kernel_rfl) (by kernel_rfl) (by kernel_rfl) (by kernel_rfl) a6o a84 a9s a65 (by kernel_rfl) (by kernel_rfl) (by kernel_rfl) a6S (by kernel_rfl) (by kernel_rfl) (by kernel_rfl) (by kernel_rfl) (by kernel_rfl) ap7 (by kernel_rfl) a87 a8D aj9 ak4 (by kernel_rfl) (by kernel_rfl) (by kernel_rfl) (by kernel_rfl) (by kernel_rfl)
theorem sourceMore_holds:Rows.SourceMoreUptoSaid:=
 OpenClaim.holds_of_cond 3 Tryz.f3 rfl rfl rfl rfl rfl rfl rfl ⟨rfl,rfl,rfl,rfl,rfl⟩ rfl rfl rfl rfl rfl (by kernel_rfl) Tryz.func3 a5F
  (of_decide_eq_true (by kernel_rfl)) (by unfold Func.isWrapper;first|(rw [if_pos (by decide +kernel)];kernel_rfl)|(rw [if_neg (by decide +kernel)];exact ⟨rfl,rfl⟩))
  (fun os started H enc _ F=>a5Y os started H enc F)
end
end Go.Proofs.YtdbogogfeffjlaaGreat
