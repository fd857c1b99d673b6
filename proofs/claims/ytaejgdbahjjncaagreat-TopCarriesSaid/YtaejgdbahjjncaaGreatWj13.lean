/- Part 13. -/
import Derived.Lib.SlKeysI
import Derived.Shelf.Slices.CompactI
import Derived.ProofKit
import Derived.OpenShut
import Derived.Deep.Slices
import Derived.Deep.Fields
import Derived.Test.YtaejgdbahjjncaaGreatRows
import Derived.Deep.DeepMust
import Derived.BigQuiet
import Derived.Deep.Light
import Derived.Test.YtaejgdbahjjncaaGreatWj12
namespace Go.Proofs.YtaejgdbahjjncaaGreat
set_option linter.unusedVariables false
set_option linter.unusedSimpArgs false
set_option maxRecDepth 100000
set_option maxHeartbeats 8000000
open Go.RowKit
open St1 St2 St3 St4 St5 St6 St7 St8 StA StB
open Go.RowKit Go.Shelf
theorem b3k:EqS Tryz.prog 54 2:=by
 refine ⟨by kernel_rfl,fun us vs w h1 h2=>?_⟩
 match us,vs,h1,h2 with
 |[a,b],[a',b'],_,_=>
  have u3:=Tryz.underlying3
  have a3:=Tryz.isAgg3
  have z3:=Tryz.sizeOf3
  have hS:Tryz.prog.underlying 54=some (.struct (Tryz.prog.fieldsOf 54)):=by kernel_rfl
  have hp:Tryz.prog.stoodInHeld 54=false:=by kernel_rfl
  show (Op.equalIn 10000 54 (.agg #[.int .i64 a,.int .i64 b]) (.agg #[.int .i64 a',.int .i64 b'])).run Tryz.prog w=_
  rw [show (10000:Nat)=9999+1 from rfl,run_equalIn_agg w 9999 54 _ _ hS hp]
  simp only [Program.fieldsOf,Tryz.underlying54]
  go_simp
  by_cases h1:a=a'<;>by_cases h2:b=b'<;>simp [h1,h2]
theorem b19 {P:Program} {t:TypeId} {n m:Nat} {K:Prop} (h:EqS P t n) (hl:m=n) (k:K):(EqS P t n∧m=n)∧K:=⟨⟨h,hl⟩,k⟩
def eqP (p q:E0):Bool:=[p.mv,p.mat] == [q.mv,q.mat]
theorem b4S (l:List E0) (p:E0) (hl:l.length<=1000000):a8 Tryz.prog 139 [G7 l,.agg (p.row.map C.t)] [] (a7 .i64 (E4 (eqP p) l 0)) []:=by
 have m1:(l.map E0.row).length=l.length:=by simp
 (refine ac Tryz.func139 ?_;(conv=>whnf);repeat ((first|refine b0x ?_|refine zy ?_);conv=>whnf))
 repeat' (first|refine zx ?_|refine zd ?_ ?_<;>intro h<;>try omega|fail)<;>conv=>whnf
 refine g8 b9 (fun k=>([G7 l,J,J,S.c (C.t (T.ptr p.row)),J,J,J,a7 .i64 l.length,a7 .i64 k]++Jn 10,[])) l.length (fun k=>E4 (eqP p) (l.drop k) k=E4 (eqP p) l 0) [] rfl
  ⟨rfl,rfl,trivial,⟨rfl,rfl,c7 (by omega),rfl,trivial⟩⟩ ?_
 intro k hk hI
 by_cases hlt:k<l.length
 ·obtain ⟨r,hr⟩:∃r,l[k]? =some r:=⟨_,lbf hlt⟩
  have hd:l.drop k=r::l.drop (k+1):=by
   rw [a52 hlt]
   rw [lbf hlt] at hr
   injection hr with hr
   rw [hr]
  rw [hd] at hI
  have hI:(if eqP p r then (k:Int) else E4 (eqP p) (l.drop (k+1)) (k+1))=E4 (eqP p) l 0:=hI
  have hq:([p.mv,p.mat] == [r.mv,r.mat])=eqP p r:=rfl
  conv=>whnf
  repeat' (first|refine zx ?_|refine f9 hr ?_|refine b19 b3k rfl ?_|refine zd ?_ ?_<;>intro h<;>try omega|fail)<;>conv=>whnf
  all_goals first
   |omega
   |(rw [if_pos (hq.symm.trans h)] at hI;exact A6 hI)
   |(rw [if_neg (by rw [← hq,h];decide)] at hI;exact ⟨hlt,hI,[],rfl,rfl,trivial,⟨rfl,rfl,rfl,c7 (by omega),trivial⟩⟩)
 ·have hke:k=l.length:=by omega
  subst hke
  rw [lbo (lbQ _)] at hI
  conv=>whnf
  repeat' (first|refine zx ?_|refine zd ?_ ?_<;>intro h<;>try omega|fail)<;>conv=>whnf
  all_goals first
   |omega
   |exact A6 hI
theorem b0b (l:List E0) (p:E0) (hl:l.length<=1000000):a8 Tryz.prog 67 [G7 l,.agg (p.row.map C.t)] [] (d9 (l.any (eqP p))) []:=by
 have ix:=b4S l p hl
 have an:=a3b (eqP p) l 0
 (refine ac Tryz.func67 ?_;(conv=>whnf);repeat ((first|refine b0x ?_|refine zy ?_);conv=>whnf))
 repeat' (first|refine zx ?_|refine qp ix ?_|refine zd ?_ ?_<;>intro h<;>try omega|fail)<;>conv=>whnf
 all_goals first
  |(refine c9 ?_;rw [← an];simp;omega)
theorem b6e {w:World} {M:Ms} {b0:Nat} {v:Value} {ss:List Int} (h:w.ownsRow b0 3 1 v ss.length (ss.map (Value.int .i64))) (hM:∀k,M k->k<b0):RT w M (M4 ss) v:=by
 have at1:∀i j t,at2 (ss.map d7) i j=some t->∃x,ss[i]? =some x∧j=0∧t=ti x:=fun i j t h=>by
  rw [aZ0] at h
  cases hx:ss[i]? with
  |none=>rw [hx] at h;simp at h
  |some x=>
   rw [hx] at h
   cases j with
   |zero=>simp [d7] at h;exact ⟨x,rfl,rfl,h.symm⟩
   |succ j=>simp [d7] at h
 have ml:(ss.map d7).length=ss.length:=by simp
 have size1:∀r ∈ ss.map d7,r.length=1:=by
  intro r hr'
  obtain ⟨q,hq,rfl⟩:=lbx.1 hr'
  rfl
 rcases h.2 with ⟨rfl,h0⟩|⟨g,cap1,cur,rfl,hg,hcur,hcap1,hcm,hcs,htake⟩
 ·have e1:Value.slice none 0 0=.slice none (ss.map d7).length 0:=by rw [ml,h0]
  rw [e1]
  refine .sl (b:=0) (off:=0) (fun _ _=>undef) size1 (by rw [ml];omega) (B9 _) (fun h=>by cases h) (fun h=>by cases h) (fun h=>absurd (lbF (ml.trans h0)) h) (fun i j t h=>?_) (fun i j t h=>?_)
  ·obtain ⟨x,hx,_⟩:=at1 i j t h
   have:=(lbe.1 hx).1;omega
  ·obtain ⟨x,hx,_⟩:=at1 i j t h
   have:=(lbe.1 hx).1;omega
 ·have e1:Value.slice (some ⟨g,0,none⟩) ss.length cap1=.slice (some ⟨g,0,none⟩) (ss.map d7).length cap1:=by rw [ml]
  rw [e1]
  refine .sl (b:=g) (off:=0) (fun i _=>.int .i64 (ss.getD i 0)) size1 (by rw [ml];exact hcap1) hcm (fun h=>by cases h) (fun h=>by cases h) (fun _=>rfl) (fun i j t h=>?_) (fun i j t h=>?_)
  ·obtain ⟨x,hx,rfl,rfl⟩:=at1 i j t h
   have hi:=(lbe.1 hx).1
   refine ⟨?_,fun h=>by have:=hM _ h;omega⟩
   have h5:cur[i]? =some (.int .i64 (ss.getD i 0)):=by
    have:=congrArg (·[i]?) htake
    simp only [lbi,lba,Nat.mul_one] at this
    rw [if_pos hi,hx] at this
    rw [lbl,hx]
    simpa using this
   simp [World.cell?,hcur,h5]
  ·obtain ⟨x,hx,rfl,rfl⟩:=at1 i j t h
   have e:ss.getD i 0=x:=by rw [lbl,hx];rfl
   show RT _ _ _ (.int .i64 (ss.getD i 0))
   rw [e]
   exact .atm rfl
theorem aE6 (b off cap:Nat) (A:Option Addr) (xs:List Int) (hl:xs.length<=1000) (hcap:xs.length<=cap) (Bs Bo:Nat) (w:World) (hBs:Bs<w.heap.size) (hb:xs≠[]->b<w.heap.size∧A=some ⟨b,off,none⟩) (h1:w.cell? ⟨Bs,Bo,none⟩=some (.slice A xs.length cap)) (hc:∀i x,xs[i]? =some x->w.cell? ⟨b,off+i,none⟩=some (.int .i64 x)):
 Calls Tryz.prog 140 #[.func (.func 212) #[] #[.pointer (some ⟨Bs,Bo,none⟩)]] w fun ee w'=>∃v,ee=.returned v∧w'.ownsRow w.heap.size 3 1 v (y8 xs).length ((y8 xs).map (Value.int .i64))∧Below w.heap.size w w':=by
 have hcol:Calls Tryz.prog 211 #[.func (.func 212) #[] #[.pointer (some ⟨Bs,Bo,none⟩)]] w fun ee w'=>∃v,ee=.returned v∧w'.ownsRow w.heap.size 3 1 v xs.length (xs.map (Value.int .i64))∧Below w.heap.size w w':=by
  have hap:=a9m b off cap A xs hl hcap Bs Bo w hBs hb h1 hc
  go_enter Tryz.func211,Tryz.ntmps211
  go_wp2_with (go_at_call 262;refine hap.mono ?_;rintro e w' ⟨v,rfl,hrow,hB⟩)
  go_ret
  exact ⟨v,rfl,hrow,hB⟩
 go_enter Tryz.func140,Tryz.ntmps140
 go_wp2_with (go_at_call 211;refine hcol.mono ?_;rintro e W ⟨v,rfl,hrow,hB⟩)
 rcases hrow.2 with ⟨rfl,hz⟩|⟨gb,cap1,cur,rfl,hbase,hgb,r1,r2,r3,r4⟩
 ·have hss:xs=[]:=lbF hz
  subst hss
  have cN:=Any.slices_Sort_int_none a81 none 0 W
  change Calls Tryz.prog 179 _ _ _ at cN
  go_wp2_with (go_at_call 179;refine cN.mono ?_;rintro e w' ⟨rfl,rfl⟩)
  go_ret
  exact ⟨_,rfl,by rw [show y8 []=[] by simp [y8]];exact hrow,hB⟩
 ·have hH:=holds_of_block_i hgb (by simpa using r4)
  have hgl:gb<W.heap.size:=(lb4.1 hgb).1
  have cS:=Any.slices_Sort_int a81 gb 0 cap1 xs W hH hgl (by omega)
  change Calls Tryz.prog 179 _ _ _ at cS
  go_wp2_with (go_at_call 179;refine cS.mono ?_;rintro e w' ⟨rfl,nn,os,rfl⟩)
  go_ret
  refine ⟨_,rfl,?_,hB.grown (grownBy_sorted_i _) hB.size (fun j hj=>by cases hj;exact hbase)⟩
  rw [V7]
  exact ownsRow_sorted_i (V7 xs) hbase hgb r1 r2 r3
theorem b30 (xs:List Int) (hl:xs.length<=1000):a8 Tryz.prog 140 [.c (.t (T.fn (Fn.func 212) [T.ptr [M4 xs]]))] [] (e8 (y8 xs)) []:=by
 refine ⟨⟨_,Tryz.func140,rfl,by decide⟩,fun w ι M vals hlen hv hH hMB hF=>?_⟩
 obtain ⟨x,rfl⟩:∃x,vals=[x]:=by
  match vals,hlen with
  |[x],_=>exact ⟨x,rfl⟩
 have hx:=hv 0 _ rfl
 simp only [lb5] at hx
 cases hx with|c hx=>cases hx with|t hx=>cases hx with|@fn _ _ vs hl' hr=>
 obtain ⟨p,rfl⟩:∃p,vs=[p]:=by
  match vs,hl' with
  |[p],_=>exact ⟨p,rfl⟩
 have hp:=hr 0 _ rfl
 simp only [lb5] at hp
 cases hp with|@ptr _ b0 o0 f hc0 hr0=>
 have c0:=(hc0 0 _ rfl).1
 have r0:=hr0 0 _ rfl
 rw [a7v] at c0
 generalize f 0=sv at c0 r0
 cases r0 with|@sl _ _ _ b off cap A f' hrow hcap hmax hk hn hA hcc hr' hx'=>
 have ml:(xs.map d7).length=xs.length:=by simp
 rw [ml] at c0 hcap
 have cells:∀i x,xs[i]? =some x->w.cell? ⟨b,off+i,none⟩=some (.int .i64 x):=fun i x hx=>by
  have h1:at2 (xs.map d7) i 0=some (ti x):=by rw [aZ0,hx];rfl
  have h2:=(hcc i 0 _ h1).1
  have h3:=hr' i 0 _ h1
  rw [show off+(i*1+0)=off+i by omega] at h2
  rw [h2]
  generalize f' i 0=u at h3
  cases h3;rfl
 refine (aE6 b off cap A xs hl hcap b0 o0 w (a9h c0) (fun hne=>⟨?_,hA (by simpa using hne)⟩) c0 cells).mono ?_
 ·obtain ⟨x,r,rfl⟩:=List.exists_cons_of_ne_nil hne
  exact a9h (cells 0 x rfl)
 ·rintro ee w' ⟨v,rfl,hrow',hB⟩
  exact ⟨v,rfl,aG2 (.c (.t (b6e hrow' (fun k h=>hMB k h)))) hB hMB hF⟩
theorem b3p:∀{l:List Int},l.Pairwise (·<=·)->a7l l=true->l.Pairwise (·<·)
 |[],_,_=>.nil
 |[x],_,_=>List.pairwise_singleton _ _
 |x::y::r,h,ha=>by
  unfold a7l at ha
  rw [lbM,lbI] at ha
  have ih:=b3p h.tail ha.2
  refine .cons (fun z hz=>?_) ih
  have h1:=List.rel_of_pairwise_cons h (K9 (a:=y) (l:=r))
  rcases lbA.1 hz with rfl|hz'
  ·have:=ha.1;omega
  ·have h2:=List.rel_of_pairwise_cons ih hz'
   omega
theorem b1o {e:Ev} {ps:List E0} (h:G4 e ps=true) {k:Nat} {p:E0} (hp:ps[k]? =some p):(ps.take k).any (eqP p)=false:=by
 unfold G4 at h
 simp only [lbM,lbI] at h
 have h1:=b3p (a0W _) h.2
 have nd:(ps.map (O5 e)).Nodup:=(a0e _).nodup_iff.1 (h1.imp fun h=>by omega)
 rw [List.any_eq_false]
 intro q hq hE
 unfold eqP at hE
 have hE:[p.mv,p.mat]=[q.mv,q.mat]:=by simpa using hE
 injection hE with e1 e2
 injection e2 with e2 _
 obtain ⟨i,hi,hqi⟩:=Y0 hq
 rw [lbs] at hi
 have hk:=(lbe.1 hp).1
 have g1:(ps.map (O5 e))[i]'(by rw [lbr];omega)=(ps.map (O5 e))[k]'(by rw [lbr];exact hk):=by
  rw [av0,av0]
  rw [List.getElem_take] at hqi
  rw [hqi,(lbe.1 hp).2]
  unfold O5
  rw [e1,e2]
 exact af8.1 nd i k _ _ (by omega) g1
theorem b3f (l:List Int):a8 Tryz.prog 141 [e8 l] [] (.c (.t (T.fn (Fn.func 212) [T.ptr [M4 l]]))) []:=by
 (refine ac Tryz.func141 ?_;(conv=>whnf);repeat ((first|refine b0x ?_|refine zy ?_);conv=>whnf))
 repeat' (first|refine zx ?_|refine zd ?_ ?_<;>intro h<;>try omega|fail)<;>conv=>whnf
 all_goals first
  |exact j2 rfl
theorem b8t (l:List (Int × Rat)) (hr:d6 (-1) 1500 l=true) (hb:∀t ∈ l,rl t.2<=200):a8 Tryz.prog 70 [j1 l] [] (j1 (a0r l)) []:=by
 have i1:=H4 (-1) (by decide) (by decide)
 have ti:=az0 l ((-1:Int):Rat) (by decide) hr hb (by have:=b4g;omega)
 (refine ac Tryz.func70 ?_;(conv=>whnf);repeat ((first|refine b0x ?_|refine zy ?_);conv=>whnf))
 repeat' (first|refine zx ?_|refine qp i1 ?_|refine qp ti ?_|refine zd ?_ ?_<;>intro h<;>try omega|fail)<;>conv=>whnf
 all_goals exact j2 rfl
theorem b8R (l:List Int) (hl:l.length<=1000):a8 Tryz.prog 68 [e8 l] [] (j1 (q9 (y8 l))) []:=by
 have va:=b3f l
 have so:=b30 l hl
 have i1:=H4 1 (by decide) (by decide)
 have sl:=V7 l
 have m1:((y8 l).map d7).length=l.length:=by rw [lbr,sl]
 (refine ac Tryz.func68 ?_;(conv=>whnf);repeat ((first|refine b0x ?_|refine zy ?_);conv=>whnf))
 repeat' (first|refine zx ?_|refine qp va ?_|refine qp so ?_|refine zd ?_ ?_<;>intro h<;>try omega|fail)<;>conv=>whnf
 generalize hv:y8 l=v at *
 refine g8 b9 (fun k=>([J,J,J,S.c (C.own 0 0 k true),J,J,J,J,J,e8 v,a7 .i64 l.length,a7 .i64 k]++Jn 11,[E3 (q9 (v.take k))])) l.length (fun _=>True) [none] trivial
  ⟨rfl,rfl,⟨⟨rfl,rfl⟩,trivial⟩,⟨⟨rfl,rfl,rfl⟩,rfl,c7 (by omega),rfl,trivial⟩⟩ ?_
 intro k hk _
 by_cases hlt:k<l.length
 ·obtain ⟨x,hx⟩:∃x,v[k]? =some x:=⟨_,lbf (by omega)⟩
  have ek:(q9 (v.take k)).length=k:=by simp [q9];omega
  have lA:k<=(E3 (q9 (v.take k))).rows.length:=by show k<=(toC _).length;rw [toC,lbr,lbr,ek];exact lbQ _
  have sn:q9 (v.take (k+1))=q9 (v.take k)++[(x,((1:Int):Rat))]:=by rw [lbG,hx];simp [q9]
  conv=>whnf
  repeat' (first|refine zx ?_|refine qp i1 ?_|refine qp toC ?_|refine f9 hx ?_|refine o6 lA (by simp [toC];omega) ?_|refine zd ?_ ?_<;>intro h<;>try omega|fail)<;>conv=>whnf
  all_goals first
   |omega
   |(refine ⟨hlt,trivial,[some 1],rfl,rfl,⟨b7 (rows:=(q9 (v.take (k+1))).map i8) rfl rfl rfl ?_ rfl,trivial⟩,⟨⟨rfl,rfl,rfl,fun h=>h⟩,rfl,rfl,c7 (by omega),trivial⟩⟩
     rw [sn]
     exact L0 (f:=i8) (x:=(x,((1:Int):Rat))) ek.symm)
 ·have hke:k=l.length:=by omega
  subst hke
  rw [lbn (by omega)]
  conv=>whnf
  repeat' (first|refine zx ?_|refine zd ?_ ?_<;>intro h<;>try omega|fail)<;>conv=>whnf
  all_goals first
   |omega
   |exact K6 rfl (fun h=>h) rfl rfl (by simp [q9];omega)
def b7z (o:a0I):List T:=ti o.kind::n7 o.value++[H5 (o.X.map fz),H5 (o.Y.map fz),H5 (o.R.map fz)]
abbrev ad7 (s:f7):Blk:={ mode:=.live,elem:=48,size:=2,rows:=[[.t (ti s.n),.t (R8 s.rows)]],box:=true }
theorem a0k (s:f7):C9 (ad7 s).rows:=by simp [C9,C.isT]
theorem b5j (e:Ev) (hE:EvT e) (ps:List E0) (hp:ps.length<=100) (hg:G4 e ps=true) (hl:(A0 e).rows.length<=78) (lo hi:a0I) (hr:a24 (A0 e) (y9 e ps) lo hi):
 a8 Tryz.prog 25 [evS e,G7 ps,a0j lo hi] [] (d9 true) []:=by
 have hc:=ab7 hg
 have hT:=hE.t hc
 have sy:=a4t e hE.sz hE.sm
 rw [EvT.r hc,hc] at sy
 have hcb:=F2 hc
 have m1:(ps.map E0.row).length=ps.length:=by simp
 have m2:(e.moves.map j5.row).length=e.moves.length:=by simp
 have eg:y9 e ps=q9 (y8 (ps.map (O5 e))):=by unfold y9;rw [if_pos hg]
 have gr:=ab5 hE hc (ps:=ps)
 have gw:=a1E e ps
 have sm:=b8R (ps.map (O5 e)) (by rw [lbr];omega)
 rw [← eg] at sm
 have hsn:=O9 hT.r
 have h10:=hT.n
 have op:=b8t (y9 e ps) (W6 (by omega) gr) (fun t ht=>by have:=O0 gw t ht;omega)
 have c1:=aC1 (A0 e) (y9 e ps) lo hT hl gr gw hr.lo hr.l1
 have c2:=aC1 (A0 e) (a0r (y9 e ps)) hi hT hl (L9 gr) (a4B gw) hr.hi hr.h1
 have k1:=hr.l1
 have k2:=hr.h1
 have hall:ps.all (a1u e)=true:=by
  unfold G4 at hg
  simp only [lbM] at hg
  exact hg.1.2
 (refine ac Tryz.func25 ?_;(conv=>whnf);repeat ((first|refine b0x ?_|refine zy ?_);conv=>whnf))
 repeat' (first|refine zx ?_|refine qp sy ?_|refine B3 _ (by decide +kernel) rfl ?_|refine zd ?_ ?_<;>intro h<;>try omega|fail)<;>conv=>whnf
 all_goals try omega
 refine g8 b9 (fun k=>([J,G7 ps,J,S.c (C.t (T.ptr (evT e))),J,S.c (C.t (T.ptr (b7z lo++b7z hi))),J,S.c (C.ptr 0 0 0),J,S.c (C.own 1 0 k true)]++Jn 22++[G7 ps,a7 .i64 ps.length,a7 .i64 k]++Jn 61,[ad7 (A0 e),k9 ((ps.take k).map (O5 e))])) ps.length (fun _=>True) [some 0,none] trivial
  ⟨rfl,rfl,⟨⟨rfl,rfl,rfl,.inl ⟨rfl,a0k _⟩⟩,⟨rfl,rfl⟩,trivial⟩,⟨rfl,rfl,rfl,⟨rfl,rfl,rfl⟩,⟨rfl,rfl,rfl⟩,rfl,c7 (by omega),rfl,trivial⟩⟩ ?_
 intro k hk _
 by_cases hlt:k<ps.length
 ·obtain ⟨p,hpk⟩:∃p,ps[k]? =some p:=⟨_,lbf hlt⟩
  have hok:=lbv.1 hall p (lbm hpk)
  have hyes:0<=p.mv∧p.mv<e.moves.length∧0<=p.mat∧p.mat<e.mats:=by
   unfold a1u at hok
   simpa [and_assoc] using hok
  have ct:=b0b (ps.take k) p (by rw [lbs];omega)
  rw [b1o hg hpk] at ct
  have ct:a8 Tryz.prog 67 [.c (.t (.sl 2 .any ((ps.map E0.row).take k))),.agg (p.row.map C.t)] [] (d9 false) []:=by rw [← a7O];exact ct
  have ek:((ps.take k).map (O5 e)).length=k:=by simp;omega
  have lA:k<=(k9 ((ps.take k).map (O5 e))).rows.length:=by show k<=(toC _).length;rw [toC,lbr,lbr,ek];exact lbQ _
  have hm:0<=p.mv*e.mats∧p.mv*e.mats<=1000000*1000:=⟨lbZ (by omega) (by omega),a0P (by omega) (by omega) (by omega) (by omega)⟩
  have sn:(ps.take (k+1)).map (O5 e)=(ps.take k).map (O5 e)++[p.mv*e.mats+p.mat]:=by rw [lbG,hpk];simp [O5]
  have sl:(0:Int)<=0∧(0:Int)<=(k:Int)∧(k:Int)<=((ps.map E0.row).length:Int):=by omega
  conv=>whnf
  repeat' (first|refine zx ?_|refine qp ct ?_|refine qp toC ?_|refine f9 hpk ?_|refine o6 lA (by simp [toC];omega) ?_|refine ⟨sl,?_⟩|refine zd ?_ ?_<;>intro h<;>try omega|fail)<;>conv=>whnf
  all_goals first
   |omega
   |(refine ⟨hlt,trivial,[some 0,some 3],rfl,rfl,⟨⟨rfl,rfl,rfl,.inl ⟨rfl,a0k _⟩⟩,b7 (rows:=((ps.take (k+1)).map (O5 e)).map d7) rfl rfl rfl ?_ rfl,trivial⟩,⟨rfl,rfl,rfl,⟨rfl,rfl,rfl⟩,⟨rfl,rfl,rfl,fun h=>h⟩,rfl,rfl,c7 (by omega),trivial⟩⟩
     rw [sn]
     exact L0 (f:=d7) (x:=p.mv*e.mats+p.mat) ek.symm)
 ·have hke:k=ps.length:=by omega
  subst hke
  rw [lbn (lbQ _)]
  conv=>whnf
  repeat' (first|refine zx ?_|refine qp op ?_|refine qp c1 ?_|refine qp c2 ?_|refine qp 1 ?_|refine .inr ⟨_,_,x8 [1] sm ⟨a2a (p4 (k:=k9 (ps.map (O5 e))) (by simp) rfl (fun h=>h) rfl rfl (by simp)),trivial⟩ rfl,?_⟩|refine B3 _ (by decide +kernel) rfl ?_|refine zd ?_ ?_<;>intro h<;>try omega|fail)<;>conv=>whnf
  all_goals first
   |omega
   |exact c9 rfl
theorem a6E {l:List Int} (h:l.Pairwise (·<=·)):y8 l=l:=
 List.Perm.eq_of_pairwise (le:=(·<=·)) (fun a b _ _ h1 h2=>by omega) (a0W l) h (a0e l)
theorem aY8:∀{l:List Int},l.Pairwise (·<·)->a7l l=true
 |[],_=>rfl
 |[_],_=>rfl
 |a::b::r,h=>by
  rw [a9G] at h
  have:=h.1 b (by simp)
  show (decide (a≠b) && a7l (b::r))=true
  rw [aY8 h.2,lbH (by omega)];rfl
def m9 (l:List Int) (m:Nat):List E0:=l.map fun i=>⟨i,m⟩
theorem a4Q {e:Ev} (h0:p7 e=0) {l:List Int} {m:Nat} (hm:(m:Int)<e.mats) (hp:l.Pairwise (·<·)) (hb:∀x ∈ l,0<=x∧x<e.moves.length):G4 e (m9 l m)=true:=by
 have h1:=(F2 h0).1
 have ev:(m9 l m).map (O5 e)=l.map fun i=>i*e.mats+m:=by unfold m9;rw [Z3];rfl
 have asc:(l.map fun i=>i*e.mats+(m:Int)).Pairwise (·<·):=by
  rw [List.pairwise_map]
  refine hp.imp fun {a b} hab=>?_
  have:(a+1)*e.mats<=b*e.mats:=lbW (by omega) (by omega)
  rw [a44] at this
  omega
 unfold G4
 rw [lbH h0,N9,ev,a6E (asc.imp fun h=>by omega),aY8 asc,a7M,lbv]
 intro p hp
 obtain ⟨i,hi,rfl⟩:=lbx.1 hp
 have:=hb i hi
 unfold a1u
 simp only [lbM,lbI]
 omega
theorem a7H (z:List Rat) (e:Ev) (m:Nat) (q:Nat->j5->Bool):∀(l:List j5) (k:Nat),b4T z ((l9 q k l).map fun i=>i*e.mats+(m:Int))=i6 (fun j=>match l[j]? with
 |some x=>if q (k+j) x=true then z.getD (M8 e (k+j) m).toNat 0 else 0
 |none=>0) l.length
 |[],k=>rfl
 |x::r,k=>by
  have ih:=a7H z e m q r (k+1)
  have e1:i6 (fun j=>match (x::r)[j]? with
   |some y=>if q (k+j) y=true then z.getD (M8 e (k+j) m).toNat 0 else 0
   |none=>0) (x::r).length=(if q k x=true then z.getD (M8 e k m).toNat 0 else 0)+i6 (fun j=>match r[j]? with
   |some y=>if q (k+1+j) y=true then z.getD (M8 e (k+1+j) m).toNat 0 else 0
   |none=>0) r.length:=by
   rw [lbu,a0i]
   congr 1
   exact d8 fun j hj=>by rw [List.getElem?_cons_succ,show k+(j+1)=k+1+j by omega]
  rw [e1,←ih]
  have e2:l9 q k (x::r)=if q k x=true then (k:Int)::l9 q (k+1) r else l9 q (k+1) r:=rfl
  rw [e2]
  by_cases h:q k x=true
  ·rw [if_pos h,if_pos h];rfl
  ·rw [if_neg h,if_neg h];show _=(0:Rat)+_;grind
theorem a9w (z:List Rat) (e:Ev) (p:Int) (m:Nat) (hne:∀x ∈ e.moves,x.src≠x.dst):∀k,k<=e.moves.length->j0 (j9 e p m k) z=
 i6 (fun j=>match e.moves[j]? with
  |some x=>if x.dst=p then z.getD (M8 e j m).toNat 0 else 0
  |none=>0) k - i6 (fun j=>match e.moves[j]? with
  |some x=>if x.src=p then z.getD (M8 e j m).toNat 0 else 0
  |none=>0) k
 |0,_=>by show ((0:Int):Rat)=((0:Int):Rat) - ((0:Int):Rat);have:((0:Int):Rat)=0:=rfl;rw [this];grind
 |k+1,hk=>by
  have ih:=a9w z e p m hne k (by omega)
  obtain ⟨x,hx⟩:∃x,e.moves[k]? =some x:=⟨_,lbf (by omega)⟩
  have hn:=hne x (lbm hx)
  show j0 (j9 e p m (k+1)) z=(i6 _ k+_) - (i6 _ k+_)
  have e3:j9 e p m (k+1)=if x.src=p then j9 e p m k++[(M8 e k m,((-1:Int):Rat))] else if x.dst=p then j9 e p m k++[(M8 e k m,((1:Int):Rat))] else j9 e p m k:=by rw [j9,hx]
  rw [e3]
  simp only [hx]
  have o1:((1:Int):Rat)=1:=rfl
  have o2:((-1:Int):Rat)=-1:=rfl
  by_cases h1:x.src=p
  ·have h2:x.dst≠p:=fun h=>hn (h1.trans h.symm)
   rw [if_pos h1,if_neg h2,if_pos h1,L8,ih]
   show _+((-1:Int):Rat)*_=_
   rw [o2];grind
  ·by_cases h2:x.dst=p
   ·rw [if_neg h1,if_pos h2,if_pos h2,if_neg h1,L8,ih]
    show _+((1:Int):Rat)*_=_
    rw [o1];grind
   ·rw [if_neg h1,if_neg h2,if_neg h2,if_neg h1,ih];grind
theorem aW6 {e:Ev} (h0:p7 e=0) (h8:e.moves.length<=8) (hp20:e.purities.length<=20) {p:Int} (hs:a0L e p=false) {last:Nat} {x:j5} (hx:e.moves[last]? =some x) (hsrc:x.src=p) (hall:x.all=true)
 (hin:∀j y,e.moves[j]? =some y->y.dst=p->j<=last) (hout:∀j y,e.moves[j]? =some y->y.src=p->j<=last) {m:Nat} (hm:(m:Int)<e.mats) {z:List Rat} (hz:g6 (A0 e) z=true):
 j0 (y9 e (m9 (a3z e p e.moves.length) m)) z=j0 (y9 e (m9 (a1V e p e.moves.length) m)) z:=by
 have hlt:last<e.moves.length:=(lbe.1 hx).1
 have hne:∀x ∈ e.moves,x.src≠x.dst:=fun x hx=>by
  have:=a07 h0 hx
  unfold X7 at this
  simp only [lbM,lbI] at this
  exact this.1.1.1.1.1.2
 have hk0:F4 e x.src≠0:=by
  have hmo:=a9u (a07 h0 (lbm hx))
  unfold a0L at hs
  rw [lbH h0,N9] at hs
  intro h
  rw [← hsrc,lbH h,a7M] at hs
  have:idx x.src e.places.length=true:=by unfold idx;simp only [lbM,lbI];omega
  rw [this] at hs;cases hs
 have hrow:(a2W e last x m) ∈ a3o e last x:=by
  unfold a3o
  rw [if_neg hk0]
  refine lbz.2 (.inl (lbz.2 (.inl ?_)))
  exact lbx.2 ⟨m,lbB.2 (by omega),rfl⟩
 have hw:((a05 e).map Prod.fst).all (fun w=>N2 w z)=true:=by
  unfold g6 at hz
  simp only [lbM] at hz
  exact hz.2
 rw [List.all_map] at hw
 have h1:=(aD5 (e:=e) (q:=fun w=>N2 w.1 z) e.moves.length (lbQ _)).1 hw last x hlt hx
 have h2:=lbv.1 h1 _ hrow
 have h3:j0 (j9 e p m (last+1)) z=((0:Int):Rat):=by
  have h4:(a2W e last x m).1=⟨j9 e p m (last+1),2,((0:Int):Rat)⟩:=by unfold a2W;rw [hall,hsrc];rfl
  have h5:N2 (a2W e last x m).1 z=true:=h2
  rw [h4] at h5
  exact b1W.1 h5
 rw [a9w z e p m hne (last+1) (by omega)] at h3
 have tail:∀(f:Nat->Rat),(∀ j,last<j->j<e.moves.length->f j=0)->i6 f e.moves.length=i6 f (last+1):=fun f hf=>by
  obtain ⟨d,hd⟩:∃d,e.moves.length=last+1+d:=⟨e.moves.length - (last+1),by omega⟩
  rw [hd] at hf ⊢
  clear hd
  induction d with
  |zero=>rfl
  |succ d ih=>
   show i6 f (last+1+d)+f (last+1+d)=_
   rw [ih fun j h1 h2=>hf j h1 (by omega),hf _ (by omega) (by omega)];grind
 have ai:=U4 (fun k (m:j5)=>decide ((k:Int)<(e.moves.length:Nat)) && decide (m.dst=p)) e.moves 0
 have ao:=U4 (fun k (m:j5)=>decide ((k:Int)<(e.moves.length:Nat)) && decide (m.src=p)) e.moves 0
 have ei:a3z e p e.moves.length=l9 (fun k (m:j5)=>decide ((k:Int)<(e.moves.length:Nat)) && decide (m.dst=p)) 0 e.moves:=by unfold a3z;rw [if_pos h0]
 have eo:a1V e p e.moves.length=l9 (fun k (m:j5)=>decide ((k:Int)<(e.moves.length:Nat)) && decide (m.src=p)) 0 e.moves:=by unfold a1V;rw [if_pos h0]
 have bnd:∀q:Nat->j5->Bool,∀x ∈ l9 q 0 e.moves,0<=x∧x<e.moves.length:=fun q x hx=>by
  obtain ⟨i,m,hm,_,rfl⟩:=a10.1 hx
  have:=(lbe.1 hm).1
  omega
 have vv:∀l:List Int,(m9 l m).map (O5 e)=l.map fun i=>i*e.mats+(m:Int):=fun l=>by unfold m9;rw [Z3];rfl
 rw [ei,eo,aD3 (a4Q h0 hm ai (bnd _)),aD3 (a4Q h0 hm ao (bnd _)),vv,vv,a7H,a7H]
 rw [tail _ fun j h1 h2=>?_,tail _ fun j h1 h2=>?_]
 ·have c1:i6 (fun j=>match e.moves[j]? with
   |some x=>if (decide (((0+j:Nat):Int)<(e.moves.length:Nat)) && decide (x.dst=p))=true then z.getD (M8 e (0+j) m).toNat 0 else 0
   |none=>0) (last+1)=i6 (fun j=>match e.moves[j]? with
   |some x=>if x.dst=p then z.getD (M8 e j m).toNat 0 else 0
   |none=>0) (last+1):=d8 fun j hj=>by
   obtain ⟨y,hy⟩:∃y,e.moves[j]? =some y:=⟨_,lbf (by omega)⟩
   rw [hy,D8]
   simp only
   rw [lbH (show (j:Int)<(e.moves.length:Nat) by omega),N9]
   simp only [lbI]
  have c2:i6 (fun j=>match e.moves[j]? with
   |some x=>if (decide (((0+j:Nat):Int)<(e.moves.length:Nat)) && decide (x.src=p))=true then z.getD (M8 e (0+j) m).toNat 0 else 0
   |none=>0) (last+1)=i6 (fun j=>match e.moves[j]? with
   |some x=>if x.src=p then z.getD (M8 e j m).toNat 0 else 0
   |none=>0) (last+1):=d8 fun j hj=>by
   obtain ⟨y,hy⟩:∃y,e.moves[j]? =some y:=⟨_,lbf (by omega)⟩
   rw [hy,D8]
   simp only
   rw [lbH (show (j:Int)<(e.moves.length:Nat) by omega),N9]
   simp only [lbI]
  rw [c1,c2]
  have:((0:Int):Rat)=0:=rfl
  rw [this] at h3
  grind
 ·obtain ⟨y,hy⟩:∃y,e.moves[j]? =some y:=⟨_,lbf h2⟩
  rw [hy]
  simp only
  rw [if_neg]
  intro h
  simp only [lbM,lbI] at h
  have:=hout j y hy h.2
  omega
 ·obtain ⟨y,hy⟩:∃y,e.moves[j]? =some y:=⟨_,lbf h2⟩
  rw [hy]
  simp only
  rw [if_neg]
  intro h
  simp only [lbM,lbI] at h
  have:=hin j y hy h.2
  omega
theorem a6G:EvT (exW 23):=⟨ay4 23,fun _=>⟨ay4 23,by decide,by decide,by decide,by decide,by decide,by decide⟩,by decide⟩
theorem ac7:G4 (exW 23) pk1=true:=by
 unfold G4
 rw [lbH I8.1]
 have:y8 (pk1.map (O5 (exW 23)))=[0]:=a6E (by decide)
 rw [this]
 decide
theorem a8h:y9 (exW 23) pk1=[(0,((1:Int):Rat))]:=by
 unfold y9
 rw [if_pos ac7]
 have:y8 (pk1.map (O5 (exW 23)))=[0]:=a6E (by decide)
 rw [this];rfl
theorem al7:∃lo hi,a24 (A0 (exW 23)) (y9 (exW 23) pk1) lo hi∧a2S (y9 (exW 23) pk1) lo=some 21∧a1q (y9 (exW 23) pk1) hi=some 22∧a8 Tryz.prog 18 [evS (exW 23),G7 pk1] [] (.tup [a0j lo hi,a7 .i64 0]) []∧a8 Tryz.prog 21 [a0j lo hi] [] (aE7 (some 21) (some 22)) []:=by
 have hT:=a6G.t I8.1
 have gr:=ab5 a6G I8.1 (ps:=pk1)
 have gw:=a1E (exW 23) pk1
 rcases a3K (exW 23) a6G pk1 (by decide) ac7 with ⟨hn,_⟩|⟨lo,hi,hr,so⟩
 ·have:=hn [21,21];rw [a9k] at this;cases this
 ·have b:=a6b hT gr gw hr
  have lk:=b22 hr.lo (b3g (exW 23) pk1) hr.l1
  obtain ⟨f1,_,f3,_⟩:=hr.lo.found lk
  have e1:a2S (y9 (exW 23) pk1) lo=some 21:=by
   unfold a2S
   rw [if_pos lk]
   have h1:=f3 _ a9k
   have h2:=(aG9 f1).1
   rw [a8h] at h1 ⊢
   rw [v0] at h1
   congr 1;grind
  have hk:hi.kind=0:=by
   rcases hr.hi.k with e|e|e
   ·exact e
   ·exact absurd e hr.h1
   ·exfalso
    obtain ⟨g1,g2,g3,_⟩:=hr.hi.free e
    have hu:=g2.up 1 ⟨[(0,((1:Int):Rat))],1,22⟩ (by rw [a7C];rfl) (by decide)
    rw [P5 (s:=A0 (exW 23)) (g:=y9 (exW 23) pk1),a8h] at g3
    have hu:j0 [(0,((1:Int):Rat))] hi.R<=0:=hu
    grind
  have e2:a1q (y9 (exW 23) pk1) hi=some 22:=by
   rw [aH0 hr hk]
   obtain ⟨g1,_,g3,_⟩:=hr.hi.found hk
   have h1:=g3 _ b3l
   have h2:=(aG9 g1).2
   rw [P5 (s:=A0 (exW 23)) (g:=y9 (exW 23) pk1),P5 (s:=A0 (exW 23)) (g:=y9 (exW 23) pk1)] at h1
   rw [a8h] at h1 ⊢
   rw [v0] at h1
   congr 1;grind
  rw [e1,e2] at b
  exact ⟨lo,hi,hr,e1,e2,so,b⟩
theorem b74:pk1[0]? =some ⟨0,0⟩:=rfl
theorem b7S:[S0 pk1][0]? =some (S0 pk1):=rfl
theorem b5t:a8 Tryz.prog 113 [evS (exW 23),G7 pk1] [] (d9 true) []:=by
 have ct:=b0b [] ⟨0,0⟩ (by decide)
 (refine ac Tryz.func113 ?_;(conv=>whnf);repeat ((first|refine b0x ?_|refine zy ?_);conv=>whnf))
 repeat' (first|refine zx ?_|refine zd ?_ ?_<;>intro h<;>try omega|fail)<;>conv=>whnf
 refine g8 b9 (fun k=>([J,G7 pk1,S.c (C.t (T.ptr (evT (exW 23)))),J,J,J,J,G7 pk1,a7 .i64 1,a7 .i64 k]++Jn 35,[])) 1 (fun _=>True) [] trivial
  ⟨rfl,rfl,trivial,⟨rfl,rfl,rfl,rfl,rfl,trivial⟩⟩ ?_
 intro k hk _
 by_cases hlt:k<1
 ·have hk0:k=0:=by omega
  subst hk0
  have m2:((exW 23).moves.map j5.row).length=2:=rfl
  have m3:(exW 23).mats=1:=rfl
  conv=>whnf
  repeat' (first|refine zx ?_|refine qp ct ?_|refine f9 b74 ?_|refine ⟨⟨by decide,by decide,by decide⟩,?_⟩|refine zd ?_ ?_<;>intro h<;>try omega|fail)<;>conv=>whnf
  all_goals first
   |(exfalso;(try dsimp only at *);omega)
   |exact ⟨by decide,trivial,[],rfl,rfl,trivial,⟨rfl,rfl,rfl,rfl,c7 (by decide),trivial⟩⟩
 ·have hke:k=1:=by omega
  subst hke
  conv=>whnf
  repeat' (first|refine zx ?_|refine zd ?_ ?_<;>intro h<;>try omega|fail)<;>conv=>whnf
  all_goals first
   |omega
   |exact c9 rfl
theorem b3K:a8 Tryz.prog 191 [evS (exW 23),G7 pk1] [] (aE7 (some 21) (some 22)) []:=by
 obtain ⟨lo,hi,_,_,_,so,b⟩:=al7
 (refine ac Tryz.func191 ?_;(conv=>whnf);repeat ((first|refine b0x ?_|refine zy ?_);conv=>whnf))
 repeat' (first|refine zx ?_|refine qp so ?_|refine qp b ?_|refine B3 _ (by decide +kernel) rfl ?_|refine zd ?_ ?_<;>intro h<;>try omega|fail)<;>conv=>whnf
 all_goals first
  |exact j2 ⟨rfl,rfl,rfl,rfl,rfl,rfl,rfl,rfl,rfl,rfl,trivial⟩
def Y1:List T:=n7 (fz 21)++n7 (fz 22)++[tb true,tb true]
theorem b07:[Y1][0]? =some Y1:=rfl
abbrev b0u:T:=.sl 10 .any [Y1]
def aQ1 (q b p:T):List T:=evT (exW 23)++[q,b,p]
abbrev aZ2 (l:List (List T)):Blk:={ mode:=.live,elem:=67,size:=10,rows:=toC l,box:=false }
abbrev b4Q (q b p:C):Blk:={ mode:=.live,elem:=220,size:=11,rows:=[(evT (exW 23)).map C.t++[q,b,p]],box:=true }
abbrev b2k (l:List (List E0)):Blk:={ mode:=.live,elem:=52,size:=1,rows:=toC (l.map fun x=>[S0 x]),box:=false }
abbrev b8f:Blk:=b4Q (.own 1 0 1 true) (.t (.sl 0 .nil [])) (.t (tb false))
theorem av2 {ρ:List (Option Nat)} {H:Hp} {q r:Nat} {b p:T} (h1:ρ[r]? =some (some q)):a2f ρ H (b4Q (.own q 0 1 true) (.t b) (.t p)) (b4Q (.own r 0 1 true) (.t b) (.t p)):=
 ⟨rfl,rfl,rfl,.inr ⟨⟨rfl,rfl,rfl,rfl,rfl,rfl,rfl,rfl,⟨h1,rfl,rfl,fun h=>h⟩,W5 b,W5 p,trivial⟩,trivial⟩⟩
theorem b8O {K:List C->Prop} (h:K [C.t (S0 pk1)]):∃row,(b2k [pk1]).rows[0+(((0:Nat):Int)).toNat]? =some row∧K row:=⟨_,rfl,h⟩
theorem b6F:a8 Tryz.prog 115 [.c (.ptr 0 0 0),evS (exW 23)] [b8f,b2k [pk1]] (.tup [.c (.own 2 0 1 true),d9 true]) [b8f,b2k [pk1],aZ2 [Y1]]:=by
 have po:=P4 (exW 23) a6G I8.1 ⟨_,a9k⟩
 have bo:=b3K
 (refine ac Tryz.func115 ?_;(conv=>whnf);repeat ((first|refine b0x ?_|refine zy ?_);conv=>whnf))
 repeat' (first|refine zx ?_|refine qp po ?_|refine zd ?_ ?_<;>intro h<;>try omega|fail)<;>conv=>whnf
 all_goals try omega
 refine g8 b9 (fun k=>([J,J,J,S.c (C.t (T.ptr (evT (exW 23)))),J,J,S.c (C.own 2 0 k true),J,J,J,J,J,J,J,J,S.c (C.own 1 0 1 true),a7 .i64 1,a7 .i64 k]++Jn 11,[b8f,b2k [pk1],aZ2 ([Y1].take k)])) 1 (fun _=>True) [some 0,some 1,none] trivial
  ⟨rfl,rfl,⟨av2 rfl,b7 (rows:=[[S0 pk1]]) rfl rfl rfl rfl rfl,⟨rfl,rfl⟩,trivial⟩,⟨rfl,⟨rfl,rfl,rfl⟩,⟨rfl,rfl,rfl,fun h=>h⟩,rfl,rfl,trivial⟩⟩ ?_
 intro k hk _
 by_cases hlt:k<1
 ·have hk0:k=0:=by omega
  subst hk0
  conv=>whnf
  repeat' (first|refine zx ?_|refine qp bo ?_|refine b8O ?_|refine o6 (B9 _) (by decide) ?_|refine zd ?_ ?_<;>intro h<;>try omega|fail)<;>conv=>whnf
  all_goals first
   |omega
   |exact ⟨by decide,trivial,[some 0,some 1,some 3],rfl,rfl,⟨av2 rfl,b7 (rows:=[[S0 pk1]]) rfl rfl rfl rfl rfl,b7 (rows:=[Y1]) rfl rfl rfl rfl rfl,trivial⟩,⟨rfl,⟨rfl,rfl,rfl,fun h=>h⟩,⟨rfl,rfl,rfl,fun h=>h⟩,rfl,c7 (by decide),trivial⟩⟩
 ·have hke:k=1:=by omega
  subst hke
  conv=>whnf
  repeat' (first|refine zx ?_|refine zd ?_ ?_<;>intro h<;>try omega|fail)<;>conv=>whnf
  all_goals first
   |omega
   |exact ⟨[some 0,some 1,some 2],rfl,rfl,⟨av2 rfl,b7 (rows:=[[S0 pk1]]) rfl rfl rfl rfl rfl,b7 (rows:=[Y1]) rfl rfl rfl rfl rfl,trivial⟩,⟨⟨rfl,rfl,rfl,fun h=>h⟩,rfl,trivial⟩⟩
theorem b1C (q:T):a8 Tryz.prog 43 [.c (.t (T.ptr (aQ1 q b0u (tb true))))] [] (.tup [.c (.t b0u),a7 .i64 0]) []:=by
 have fr:=b5l 21 22 (by decide +kernel) (by decide +kernel)
 (refine ac Tryz.func43 ?_;(conv=>whnf);repeat ((first|refine b0x ?_|refine zy ?_);conv=>whnf))
 repeat' (first|refine zx ?_|refine zd ?_ ?_<;>intro h<;>try omega|fail)<;>conv=>whnf
 all_goals try omega
 all_goals try (exfalso;contradiction)
 refine g8 b9 (fun k=>([J,J,J,J,S.c (C.own 0 0 k true)]++Jn 10++[S.c (C.t b0u),a7 .i64 1,a7 .i64 k]++Jn 10,[aZ2 ([Y1].take k)])) 1 (fun _=>True) [none] trivial
  ⟨rfl,rfl,⟨⟨rfl,rfl⟩,trivial⟩,⟨⟨rfl,rfl,rfl⟩,rfl,rfl,rfl,trivial⟩⟩ ?_
 intro k hk _
 by_cases hlt:k<1
 ·have hk0:k=0:=by omega
  subst hk0
  conv=>whnf
  repeat' (first|refine zx ?_|refine qp fr ?_|refine f9 (f:=fun x:List T=>x) b07 ?_|refine o6 (B9 _) (by decide) ?_|refine zd ?_ ?_<;>intro h<;>try omega|fail)<;>conv=>whnf
  all_goals first
   |omega
   |exact ⟨by decide,trivial,[some 2],rfl,rfl,⟨b7 (rows:=[Y1]) rfl rfl rfl rfl rfl,trivial⟩,⟨⟨rfl,rfl,rfl,fun h=>h⟩,rfl,rfl,c7 (by decide),trivial⟩⟩
 ·have hke:k=1:=by omega
  subst hke
  conv=>whnf
  repeat' (first|refine zx ?_|refine zd ?_ ?_<;>intro h<;>try omega|fail)<;>conv=>whnf
  all_goals first
   |omega
   |exact j2 ⟨show VC _ (fun id=>E6 [] id=true) _ _ from p4 (rows:=[Y1]) rfl rfl (by intro h;cases h) rfl rfl rfl,rfl,trivial⟩
theorem aO3 {P:Program} {f:FuncId} {args:List S} {H1:Hp} {x y a b:S} (h:a8 P f args [] (.tup [x,y]) H1) (hx:VYS H1 (fun id=>E6 [] id=true) x a) (hy:VYS H1 (fun id=>E6 [] id=true) y b):a8 P f args [] (.tup [a,b]) []:=by
 refine ⟨h.1,fun w ι M vals hl hr hH hM hF=>?_⟩
 refine Calls.mono (h.2 w ι M vals hl hr hH hM hF) ?_
 rintro e w' ⟨v,rfl,ι',M',h4,hH',hM',hF',hst⟩
 obtain ⟨g1,g2,g3⟩:=a2D.all (ρ:=[]) (H':=[]) (n0:=0) rfl rfl trivial rfl hM hH' hst
 refine ⟨v,rfl,M7 [] ι',_,?_,g1,fun b hb=>hM' b hb.1,g2,g3⟩
 have key:∀{s t:S} {u:Value},VYS H1 (fun id=>E6 [] id=true) s t->RS w' ι' M' s u->RS w' (M7 [] ι') (a5c [] H1 ι' M') t u:=fun hs hu=>
  hs.rs hH' (fun b hb=>hb.1) (fun id k b cap size hp hk hd hi hb=>hb.2 ⟨id,k,cap,size,hp,hk,hd,hi⟩) hu
 cases h4 with
 |tup vs hl2 hr2=>
  refine .tup vs (by simpa using hl2) fun j s hj=>?_
  match j,hj with
  |0,hj=>injection hj with hj;subst hj;exact key hx (hr2 0 x rfl)
  |1,hj=>injection hj with hj;subst hj;exact key hy (hr2 1 y rfl)
theorem b6k:a8 Tryz.prog 42 [evS (exW 23),.c (.t b2U)] [] (.tup [.c (.ptr 0 0 0),a7 .i64 0]) [b4Q (.own 1 0 1 true) (.own 2 0 1 true) (.t (tb true)),b2k [pk1],aZ2 [Y1]]:=by
 have ck:=a0o (exW 23) (ay4 23)
 rw [I8.1] at ck
 have ow:=b8g (exW 23) (ay4 23)
 have ri:=b5t
 have cp:=b27 pk1 (by decide)
 have m1:([[S0 pk1]]:List (List T)).length=1:=rfl
 (refine ac Tryz.func42 ?_;(conv=>whnf);repeat ((first|refine b0x ?_|refine zy ?_);conv=>whnf))
 repeat' (first|refine zx ?_|refine qp ck ?_|refine qp ow ?_|refine zd ?_ ?_<;>intro h<;>try omega|fail)<;>conv=>whnf
 all_goals try omega
 refine g8 b9 (fun k=>([J,J,S.c (C.t (T.ptr (evT (exW 23)))),J,J,J,S.c (C.ptr 0 0 0)]++Jn 14++[S.c (C.t b2U),a7 .i64 1,a7 .i64 k]++Jn 35,[b4Q (.own 1 0 k true) (.t (.sl 0 .nil [])) (.t (tb false)),b2k ([pk1].take k)])) 1 (fun _=>True) [some 0,none] trivial
  ⟨rfl,rfl,⟨⟨rfl,rfl,rfl,.inr ⟨⟨rfl,rfl,rfl,rfl,rfl,rfl,rfl,rfl,⟨rfl,rfl,rfl⟩,rfl,rfl,trivial⟩,trivial⟩⟩,⟨rfl,rfl⟩,trivial⟩,⟨rfl,⟨rfl,rfl,rfl⟩,rfl,rfl,rfl,trivial⟩⟩ ?_
 intro k hk _
 by_cases hlt:k<1
 ·have hk0:k=0:=by omega
  subst hk0
  conv=>whnf
  repeat' (first|refine zx ?_|refine qp ri ?_|refine qp cp ?_|refine qp x ?_|refine f9 (f:=fun x:T=>[x]) b7S ?_|refine o6 (B9 _) (by decide) ?_|refine B3 _ (by decide +kernel) rfl ?_|refine zd ?_ ?_<;>intro h<;>try omega|fail)<;>conv=>whnf
  all_goals first
   |omega
   |exact ⟨by decide,trivial,[some 0,some 2],rfl,rfl,⟨⟨rfl,rfl,rfl,.inr ⟨⟨rfl,rfl,rfl,rfl,rfl,rfl,rfl,rfl,⟨rfl,rfl,rfl,fun h=>h⟩,rfl,rfl,trivial⟩,trivial⟩⟩,b7 (rows:=[[S0 pk1]]) rfl rfl rfl rfl rfl,trivial⟩,⟨rfl,⟨rfl,rfl,rfl⟩,rfl,rfl,c7 (by decide),trivial⟩⟩
 ·have hke:k=1:=by omega
  subst hke
  conv=>whnf
  repeat' (first|refine zx ?_|refine .inr ⟨_,_,b6F,?_⟩|refine B3 _ (by decide +kernel) rfl ?_|refine zd ?_ ?_<;>intro h<;>try omega|fail)<;>conv=>whnf
  all_goals first
   |omega
   |exact ⟨[some 0,some 1,some 2],rfl,rfl,⟨⟨rfl,rfl,rfl,.inr ⟨⟨rfl,rfl,rfl,rfl,rfl,rfl,rfl,rfl,⟨rfl,rfl,rfl,fun h=>h⟩,⟨rfl,rfl,rfl,fun h=>h⟩,rfl,trivial⟩,trivial⟩⟩,b7 (rows:=[[S0 pk1]]) rfl rfl rfl rfl rfl,b7 (rows:=[Y1]) rfl rfl rfl rfl rfl,trivial⟩,⟨⟨rfl,rfl,rfl⟩,rfl,trivial⟩⟩
theorem b6H {H:Hp} {p:Nat->Prop} {q b c:C} {q' b' c':T} (h1:VY H p q q') (h2:VY H p b b') (h3:VY H p c c'):VYL H p ((evT (exW 23)).map C.t++[q,b,c]) (aQ1 q' b' c'):=
 ⟨a5X,a5X,a5X,a5X,a5X,a5X,a5X,a5X,h1,h2,h3,trivial⟩
theorem b8e:a8 Tryz.prog 42 [evS (exW 23),.c (.t b2U)] [] (.tup [.c (.t (T.ptr (aQ1 b2U b0u (tb true)))),a7 .i64 0]) []:=
 aO3 b6k (a88 (r:=0) rfl rfl (fun h=>h) rfl (b6H (.vc (p4 (rows:=[[S0 pk1]]) rfl rfl (fun h=>h) rfl rfl rfl)) (.vc (p4 (rows:=[Y1]) rfl rfl (fun h=>h) rfl rfl rfl)) a5X)) a5X
open Go.RowKit Go.Shelf Go.Lib Go.Sort
def av1 (l:List Int):List Int:=Lib.compact l++List.replicate (l.length - (Lib.compact l).length) 0
theorem b4e {l:List Int} (h:(Lib.compact l).length<=l.length):(av1 l).length=l.length:=by simp [av1];omega
theorem ai8 {P:Program} {ρ:Ren} (L:Lays2.n20 P ρ) (en:a7S P (ρ.f 20)) (l:List Int) (hl:l.length<=100000) (hcl:(Lib.compact l).length<=l.length):a8 P (ρ.f 20) [.c (.own 0 0 l.length true)] [k9 l] (.c (.own 0 0 (Lib.compact l).length true)) [k9 (av1 l)]:=by
 refine ⟨en,fun w ι M vals hlen hv hH hMB hF=>?_⟩
 obtain ⟨x,rfl⟩:∃x,vals=[x]:=by
  match vals,hlen with
  |[x],_=>exact ⟨x,rfl⟩
 have hx:=hv 0 _ rfl
 simp only [lb5] at hx
 have hb0:∀l0,ι 0=some l0->E7 w ι M (k9 l) l0:=fun l0 h=>hH.blk 0 _ rfl (by intro h;cases h) _ h
 generalize hn:l.length=n at hx
 cases hx with
 |c hx=>
 cases hx with
 |nil hnil=>
  have hvs:l=[]:=lbF hn
  subst hvs
  clear hn
  refine (Any.slices_Compact_int_empty L _ _ w).mono ?_
  rintro e w' ⟨rfl,rfl⟩
  exact ⟨_,rfl,ι,M,.c (.nil hnil),hH,hMB,hF,rfl,rfl,rfl,lbQ _,fun _ _ _=>rfl,fun _ _=>rfl,fun _ h=>.inl h,fun _ h=>.inl h,fun _ h=>.inl h,lbQ _⟩
 |@own _ _ _ _ b cap size A cap' h0 h1 h2 h3 h4 h5=>
  subst hn
  obtain ⟨q1,q2,q3,q4,q5,cur,q6,q7,q8⟩:=hb0 _ h0
  have hs1:size=1:=q1.symm
  subst hs1
  obtain ⟨_,hA,hcap⟩:=h5 rfl
  subst hA
  have hle:l.length<=cap:=by omega
  have hblk:=A9 q6
  have hsz:l.length<=cur.size:=by rw [q7];omega
  have cell:∀i,i<l.length->cur[i]? =some (.int .i64 (l.getD i 0)):=fun i hi=>by
   obtain ⟨u,hu,hr⟩:=q8 i 0 (.t (ti (l.getD i 0))) (by
    unfold at2
    rw [show (k9 l).rows=toC (l.map d7) from rfl]
    simp [toC,hi,d7])
   rw [show i*1+0=i by omega] at hu
   rw [hu]
   cases hr with
   |t h=>cases h;rfl
  have hold:Holds (Value.int .i64) w b 0 l.toArray:=by
   intro j hj
   have hj':j<l.length:=by simpa using hj
   have e1:l.toArray[j]! =l.getD j 0:=by
    rw [getElem!_pos _ j hj,lbl,lbf hj'];simp
   rw [e1]
   refine ⟨?_,?_⟩
   ·show w.cell? ⟨b,0+j,none⟩=_
    simp only [World.cell?,q6,D8,cell j hj']
    rfl
   ·simp [World.frozen?,q6]
  refine (Any.slices_Compact_int L b 0 cap' l w hold (by omega) (by omega)).mono ?_
  rintro e w' ⟨rfl,n,rfl⟩
  rw [← grow_empty (putRow _ _ _ _ _)]
  refine ⟨_,rfl,a5I hH hMB hF h0 rfl rfl (a6X (Value.int .i64) w b 0 n _ #[]) ?_ (.c (.own h0 (by omega) (fun _=>rfl) (by omega) h4 (fun _=>⟨rfl,rfl,hcap⟩)))⟩
  have ml:=b4e hcl
  refine ⟨rfl,by decide,?_,q4,?_,_,ae9 (Value.int .i64) 0 n _ #[] q6,by rw [a7I,q7],?_⟩
  ·show (toC _).length<=cap;simp [toC,ml];omega
  ·intro r hr
   simp only [toC,Z3,lbx,Function.comp_def] at hr
   obtain ⟨x,_,rfl⟩:=hr
   rfl
  ·intro i j c hij
   unfold at2 at hij
   rw [show (k9 (av1 l)).rows=toC ((av1 l).map d7) from rfl] at hij
   simp only [toC,Z3,lba] at hij
   cases hk:(av1 l)[i]? with
   |none=>rw [hk] at hij;cases hij
   |some v=>
    rw [hk] at hij
    have hi:=(lbe.1 hk).1
    rcases j with _|j
    ·simp [d7] at hij
     subst hij
     refine ⟨.int .i64 v,?_,.t (.atm rfl)⟩
     have h7:=ai2 (Value.int .i64) (off:=0) (d:=(av1 l).toArray) (cur:=cur) (j:=i) (by simpa using hi) (by omega)
     rw [D8] at h7
     rw [show i*1+0=i by omega]
     have e2:(av1 l).toArray[i]! =v:=by
      rw [getElem!_pos _ i (by simpa using hi)]
      have:=(lbe.1 hk).2
      simpa using this
     rw [e2] at h7
     exact h7
    ·simp [d7] at hij
theorem am7 {α:Type} {l:List α} {k:Nat} {x:α} (h:l[k]? =some x):l.take (k+1)=l.take k++[x]:=by
 rw [lbG,h];rfl
theorem aV0 (a b:List Int) (ha:a.length<=1000000) (hb:b.length<=1000000):a8 Tryz.prog 44 [e8 a,e8 b] [] (d9 (decide (a=b))) []:=by
 have l1:(a.map d7).length=a.length:=by simp
 have l2:(b.map d7).length=b.length:=by simp
 (refine ac Tryz.func44 ?_;(conv=>whnf);repeat (refine zy ?_;conv=>whnf))
 repeat' (first|refine zx ?_|refine zd ?_ ?_<;>intro h<;>try omega|fail)<;>conv=>whnf
 ·refine c9 (lbJ ?_).symm
  intro hab;subst hab;exact h rfl
 have hab:a.length=b.length:=by omega
 refine g8 b9 (fun k=>([e8 a,e8 b,J,J,J,a7 .i64 k]++Jn 20,[])) a.length (fun k=>a.take k=b.take k) [] rfl
  ⟨rfl,rfl,trivial,⟨g9 rfl,g9 rfl,c7 rfl,trivial⟩⟩ ?_
 intro k hk hI
 conv=>whnf
 repeat' (first|refine zx ?_|refine zd ?_ ?_<;>intro h<;>try omega|fail)<;>conv=>whnf
 ·have hlt:k<a.length:=by omega
  obtain ⟨x,hx⟩:∃x,a[k]? =some x:=⟨_,lbf hlt⟩
  obtain ⟨y,hy⟩:∃y,b[k]? =some y:=⟨_,lbf (by omega)⟩
  repeat' (first|refine zx ?_|refine f9 hx ?_|refine f9 hy ?_|refine zd ?_ ?_<;>intro h<;>try omega|fail)<;>conv=>whnf
  ·have hne:x≠y:=‹x≠y›
   refine c9 (lbJ ?_).symm
   intro hq;subst hq;rw [hx] at hy;injection hy with hy;exact hne hy
  ·have hxy:x=y:=by omega
   refine ⟨hlt,?_,[],rfl,rfl,trivial,⟨g9 rfl,g9 rfl,rfl,trivial⟩⟩
   rw [am7 hx,am7 hy,hI,hxy]
 ·refine c9 (lbH ?_).symm
  rw [lbn (by omega),lbn (by omega)] at hI
  exact hI
theorem b3e (l:List Int) (n:Int) (ha:l.length<=1000000):a8 Tryz.prog 240 [e8 l,a7 .i64 n] [] (a7 .i64 (if (l.any fun x=>decide (x=n)) then (l.findIdx fun x=>decide (x=n)) else -1)) []:=by
 have l1:(l.map d7).length=l.length:=by simp
 (refine ac Tryz.func240 ?_;(conv=>whnf);repeat (refine zy ?_;conv=>whnf))
 refine g8 b9 (fun k=>([e8 l,a7 .i64 n,J,J,J,J,e8 l,a7 .i64 l.length,a7 .i64 k]++Jn 10,[])) l.length (fun k=>(l.take k).any (fun x=>decide (x=n))=false) [] rfl
  ⟨rfl,rfl,trivial,⟨g9 rfl,rfl,g9 rfl,c7 (by simp),c7 rfl,trivial⟩⟩ ?_
 intro k hk hI
 conv=>whnf
 repeat' (first|refine zx ?_|refine zd ?_ ?_<;>intro h<;>try omega|fail)<;>conv=>whnf
 ·have hlt:k<l.length:=by omega
  obtain ⟨x,hx⟩:∃x,l[k]? =some x:=⟨_,lbf hlt⟩
  have hxg:l[k]=x:=(lbe.1 hx).2
  repeat' (first|refine zx ?_|refine f9 hx ?_|refine zd ?_ ?_<;>intro h<;>try omega|fail)<;>conv=>whnf
  ·have hxn:x=n:=by omega
   refine A6 ?_
   rw [if_pos (ab8 hx (by simpa using hxn)),(List.findIdx_eq hlt).2 ⟨by simp [hxg,hxn],fun j hj=>?_⟩]
   rw [List.any_eq_false] at hI
   have:=hI l[j] (List.mem_take_iff_getElem.2 ⟨j,by omega,rfl⟩)
   simpa using this
  ·have hne:¬x=n:=by omega
   refine ⟨hlt,?_,[],rfl,rfl,trivial,⟨rfl,rfl,rfl,rfl,rfl,trivial⟩⟩
   rw [a5b hx,hI]
   simpa using hne
 ·refine A6 ?_
  rw [lbn (by omega)] at hI
  rw [hI];rfl
theorem a8y (l:List Int) (n:Int) (ha:l.length<=1000000):a8 Tryz.prog 185 [e8 l,a7 .i64 n] [] (d9 (l.any fun x=>decide (x=n))) []:=by
 (refine ac Tryz.func185 ?_;(conv=>whnf);repeat (refine zy ?_;conv=>whnf))
 repeat' (first|refine zx ?_|refine qp (b3e _ _ ha) ?_|refine zd ?_ ?_<;>intro h<;>try omega|fail)<;>conv=>whnf
 all_goals
  refine c9 ?_
  cases hb:(l.any fun x=>decide (x=n)) with
  |true=>simp_all
  |false=>simp_all
noncomputable def a2s (s:f7) (Y:List Rat):f7:=⟨s.n,s.rows.mapIdx fun i w=>if yN Y i=0 then ⟨[],2,0⟩ else w⟩
theorem a6t {s:f7} {Y:List Rat} {i:Nat}:(a2s s Y).rows[i]? =(s.rows[i]?).map fun w=>if yN Y i=0 then ⟨[],2,0⟩ else w:=by
 unfold a2s
 rw [List.getElem?_mapIdx]
theorem aa7 {s:f7} {Y:List Rat}:(a2s s Y).rows.length=s.rows.length:=by unfold a2s;simp
theorem aP7 {s:f7} {Y:List Rat} (h:i7 s=true):i7 (a2s s Y)=true:=by
 unfold i7 at h ⊢
 simp only [lbM,lbI] at h ⊢
 refine ⟨⟨h.1.1,by rw [aa7];exact h.1.2⟩,?_⟩
 rw [lbv] at h ⊢
 intro w hw
 obtain ⟨i,hi⟩:=List.getElem?_of_mem hw
 rw [a6t] at hi
 obtain ⟨x,hx,rfl⟩:=a2V.1 hi
 have:=h.2 x (lbm hx)
 split
 ·rfl
 ·exact this
theorem a9z {s:f7} {Y:List Rat} (i:Nat):(∀ l,yN Y i*B7 (o8 (a2s s Y) i).terms l=yN Y i*B7 (o8 s i).terms l)∧yN Y i*(o8 (a2s s Y) i).value=yN Y i*(o8 s i).value:=by
 unfold o8
 rw [lbl,lbl,a6t]
 cases s.rows[i]? with
 |none=>exact ⟨fun _=>rfl,rfl⟩
 |some w=>
  by_cases h:yN Y i=0
  ·exact ⟨fun l=>by rw [h];grind,by rw [h];grind⟩
  ·simp only [V5,ad9]
   rw [if_neg h];exact ⟨fun _=>rfl,rfl⟩
theorem b2s {s:f7} {Y:List Rat} (hr:i7 s=true) (h:aT5 s Y=true) (z:List Rat):g6 (a2s s Y) z=false:=by
 cases hz:g6 (a2s s Y) z with
 |false=>rfl
 |true=>
  exfalso
  unfold aT5 at h
  rw [lbM,lbI] at h
  have hl:=b7o hr h.1
  have hn:(a2s s Y).n=s.n:=rfl
  have hL:b2u (a2s s Y) (B7 []) (yN Y) (a4Y s (yN Y)):=by
   refine ⟨fun i w hw=>?_,fun l hl2=>?_,?_⟩
   ·rw [a6t] at hw
    obtain ⟨x,hx,rfl⟩:=a2V.1 hw
    have:=hl.sign i x hx
    split
    ·exact ⟨fun e=>absurd e (show ¬(2:Int)=0 by decide),fun e=>absurd e (show ¬(2:Int)=1 by decide)⟩
    ·exact this
   ·have e:L6 (a2s s Y) (yN Y) l=L6 s (yN Y) l:=by
     unfold L6
     rw [aa7]
     exact d8 fun i _=>(a9z i).1 l
    rw [e];exact hl.mix l hl2
   ·unfold a4Y
    rw [aa7]
    exact d8 fun i _=>(a9z i).2
  have hb:=b1v (g:=[]) hL hz
  rw [p6 fun j hj=>by show (0:Rat)*_=0;grind] at hb
  have:=h.2
  grind
def ptW (c:Nat):List Rat:=if c=1 then [25,25] else if c=2 then [20,25] else [20,20]
def b2a (i:Nat):j6:=(wR 23 27).getD i ⟨[],2,0⟩
theorem wRow_holds:∀c,c<4->1<=c->∀i,i<5->i≠c->N2 (b2a i) (ptW c)=true:=by decide +kernel
theorem at8:∀i,i<5->p5 2 (b2a i)=true:=by decide +kernel
def O8 (L:List Nat):f7:=⟨2,L.map b2a⟩
theorem a3O {L:List Nat} (h:∀i ∈ L,i<5) (hl:L.length<=5):i7 (O8 L)=true:=by
 unfold i7
 simp only [lbM,lbI]
 refine ⟨⟨⟨show (0:Int)<=2 by decide,show (2:Int)<=1500 by decide⟩,by show (L.map b2a).length<=6000;rw [lbr];omega⟩,?_⟩
 rw [lbv]
 intro w hw
 obtain ⟨i,hi,rfl⟩:=lbx.1 hw
 exact at8 i (h i hi)
theorem b55 {L:List Nat} (h:∀i ∈ L,i<5) (hl:L.length<=5) {Y:List Rat} (hY:aT5 (O8 L) Y=true) {c:Nat} (c0:1<=c) (c1:c<4):∃k:Nat,L[k]? =some c∧yN Y k≠0:=by
 apply lb9
 intro hno
 have hz:g6 (a2s (O8 L) Y) (ptW c)=true:=by
  refine W7.2 ⟨aP7 (a3O h hl),?_,?_,fun w hw=>aL5.1 ?_⟩
  ·show ((ptW c).length:Int)=2;unfold ptW;split
   ·rfl
   ·split<;>rfl
  ·have:∀c,c<4->1<=c->∀v ∈ ptW c,0<=v:=by decide +kernel
   exact this c c1 c0
  ·obtain ⟨k,hk⟩:=List.getElem?_of_mem hw
   rw [a6t] at hk
   obtain ⟨x,hx,rfl⟩:=a2V.1 hk
   have hx2:((L.map b2a)[k]?)=some x:=hx
   rw [lba] at hx2
   obtain ⟨i,hi,rfl⟩:=a2V.1 hx2
   split
   ·have:∀c,c<4->1<=c->N2 ⟨[],2,0⟩ (ptW c)=true:=by decide +kernel
    exact this c c1 c0
   ·rename_i hy
    by_cases hic:i=c
    ·subst hic;exact absurd ⟨k,hi,hy⟩ hno
    ·exact wRow_holds c c1 c0 i (h i (lbm hi)) hic
 rw [b2s (a3O h hl) hY] at hz
 cases hz
theorem aA5 {L:List Nat} (h1:1 ∈ L) (h2:2 ∈ L) (h3:3 ∈ L) (z:List Rat):g6 (O8 L) z=false:=
 aK2 (lbx.2 ⟨1,h1,rfl⟩) (lbx.2 ⟨2,h2,rfl⟩) (lbx.2 ⟨3,h3,rfl⟩) z
theorem b7y:A0 (exW 25)=O8 [0,1,2,3,4]:=ap7
theorem a78 {H:Hp} {p:Nat->Prop} {id:Nat} {l:List Int} (hp:p id) (hk:H[id]? =some (k9 l)):VC H p (.own id 0 l.length true) (M4 l):=
 p4 (k:=k9 l) hp hk (fun h=>h) rfl rfl (by simp)
def a6A (q:Int->Bool) (xs:List Int) (i0:Nat):Nat->List Int × Nat
 |0=>(xs,i0)
 |m+1=>if q (xs.getD (i0+1+m) 0)=true then a6A q xs i0 m else ((a6A q xs i0 m).1.set (a6A q xs i0 m).2 (xs.getD (i0+1+m) 0),(a6A q xs i0 m).2+1)
structure ba5 (q:Int->Bool) (xs:List Int) (j:Nat) (r:List Int) (i:Nat):Prop where
 len:r.length=xs.length
 lt:i<j
 tk:r.take i=(xs.take j).filter fun x=>!q x
 dr:r.drop j=xs.drop j
theorem am6 {q:Int->Bool} {xs:List Int} {i0:Nat} (h0:i0<xs.length) (h1:(xs.take i0).filter (fun x=>!q x)=xs.take i0) (h2:q (xs.getD i0 0)=true):
 ∀m,i0+1+m<=xs.length->ba5 q xs (i0+1+m) (a6A q xs i0 m).1 (a6A q xs i0 m).2
 |0,hm=>by
  refine ⟨rfl,by show i0<_;omega,?_,rfl⟩
  show xs.take i0=_
  rw [a7v,lbG,lb7,h1,lbf h0]
  rw [lbl,lbf h0] at h2
  simp at h2
  simp [h2]
 |m+1,hm=>by
  have ih:=am6 h0 h1 h2 m (by omega)
  obtain ⟨a1,a2,a3,a4⟩:=ih
  unfold a6A
  generalize hj:i0+1+m=j at *
  have ej:i0+1+(m+1)=j+1:=by omega
  rw [ej]
  have hjl:j<xs.length:=by omega
  generalize a6A q xs i0 m=p at *
  obtain ⟨r,i⟩:=p
  simp only at a1 a2 a3 a4 ⊢
  have hx:xs.getD j 0=xs[j]:=by rw [lbl,lbf hjl];rfl
  rw [hx]
  have ht:xs.take (j+1)=xs.take j++[xs[j]]:=by rw [lbG,lbf hjl];rfl
  by_cases hq:q xs[j]=true
  ·rw [if_pos hq]
   refine ⟨a1,by show i<_;omega,?_,?_⟩
   ·show r.take i=_
    rw [a3,ht,lb7];simp [hq]
   ·show r.drop (j+1)=_
    rw [← a9l,a4,a9l]
  ·rw [if_neg hq]
   refine ⟨by simp [a1],by show i+1<_;omega,?_,?_⟩
   ·show (r.set i xs[j]).take (i+1)=_
    rw [lbG,List.take_set_of_le (lbQ _),List.getElem?_set_self (by omega),a3,ht,lb7]
    have:q xs[j]=false:=by simpa using hq
    simp [this]
   ·show (r.set i xs[j]).drop (j+1)=_
    rw [b5d (by omega),←a9l,a4,a9l]
theorem a8B {q:Int->Bool}:∀(xs:List Int) (k:Nat),(E4 q xs k=-1∧xs.filter (fun x=>!q x)=xs)∨∃i,E4 q xs k=((k+i:Nat):Int)∧i<xs.length∧(xs.take i).filter (fun x=>!q x)=xs.take i∧q (xs.getD i 0)=true
 |[],k=>.inl ⟨rfl,rfl⟩
 |x::r,k=>by
  unfold E4
  cases h:q x with
  |true=>exact .inr ⟨0,by simp,by simp,rfl,by simpa using h⟩
  |false=>
   rcases a8B (q:=q) r (k+1) with ⟨h1,h2⟩|⟨i,h1,h2,h3,h4⟩
   ·exact .inl ⟨by simpa using h1,by simp [h,h2]⟩
   ·refine .inr ⟨i+1,?_,by simp;omega,by simp [h,h3],by simpa using h4⟩
    show (if false=true then (k:Int) else E4 q r (k+1))=_
    rw [if_neg (by decide),h1];congr 1;omega
theorem aS3 (xs:List Int) (hl:xs.length<=1000000) (fg:FuncId) (caps:List T) (q:Int->Bool) (hg:∀x ∈ xs,a8 Tryz.prog fg (a7 .i64 x::caps.map fun x=>.c (.t x)) [] (d9 (q x)) []):
 a8 Tryz.prog 239 [e8 xs,.c (.t (.fn (.func fg) caps))] [] (a7 .i64 (E4 q xs 0)) []:=by
 have l1:(xs.map d7).length=xs.length:=by simp
 (refine ac Tryz.func239 ?_;(conv=>whnf);repeat (refine zy ?_;conv=>whnf))
 repeat' (first|refine zx ?_|refine zd ?_ ?_<;>intro h<;>try omega|fail)<;>conv=>whnf
 refine g8 b9 (fun k=>([e8 xs,S.c (C.t (T.fn (.func fg) caps)),J,J,J,J,J,a7 .i64 xs.length,a7 .i64 k]++Jn 10,[])) xs.length (fun k=>E4 q (xs.drop k) k=E4 q xs 0) [] rfl
  ⟨rfl,rfl,trivial,⟨g9 rfl,g9 rfl,c7 (by simp),rfl,trivial⟩⟩ ?_
 intro k hk hI
 by_cases hlt:k<xs.length
 ·obtain ⟨r,hr⟩:∃r,xs[k]? =some r:=⟨_,lbf hlt⟩
  have hd:xs.drop k=r::xs.drop (k+1):=by
   rw [a52 hlt]
   rw [lbf hlt] at hr
   injection hr with hr
   rw [hr]
  have hgr:=hg r (lbm hr)
  have ha:(a7 .i64 r::caps.map fun x=>S.c (C.t x)).all S.isT=true:=by simp [S.isT,C.isT,a7]
  rw [hd] at hI
  have hI:(if q r then (k:Int) else E4 q (xs.drop (k+1)) (k+1))=E4 q xs 0:=hI
  cases hq:q r with
  |true=>
   rw [hq] at hgr hI
   conv=>whnf
   repeat' (first|refine zx ?_|refine .inl ⟨_,_,D9 hgr ha rfl,?_⟩|refine f9 hr ?_|refine zd ?_ ?_<;>intro h<;>try omega|fail)<;>conv=>whnf
   all_goals first
    |omega
    |exact A6 hI
  |false=>
   rw [hq] at hgr hI
   conv=>whnf
   repeat' (first|refine zx ?_|refine .inl ⟨_,_,D9 hgr ha rfl,?_⟩|refine f9 hr ?_|refine zd ?_ ?_<;>intro h<;>try omega|fail)<;>conv=>whnf
   all_goals first
    |omega
    |exact ⟨hlt,by simpa using hI,[],rfl,rfl,trivial,⟨rfl,rfl,rfl,rfl,trivial⟩⟩
 ·have hke:k=xs.length:=by omega
  subst hke
  rw [lbo (lbQ _)] at hI
  conv=>whnf
  repeat' (first|refine zx ?_|refine zd ?_ ?_<;>intro h<;>try omega|fail)<;>conv=>whnf
  all_goals first
   |omega
   |exact A6 hI
theorem a98 {l:List Int} {n:Nat} {v:Int} {K:List C->Prop} (h:l[n]? =some v) (k:K [C.t (ti v)]):∃row,(k9 l).rows[n]? =some row∧K row:=⟨_,by show (toC (l.map d7))[n]? =_;simp [toC,d7,h],k⟩
theorem al8 {l:List Int} {i n:Nat} {v:Int} (h:n=i):w6 (k9 l) ((k9 l).rows.set n [C.t (ti v)])=k9 (l.set i v):=by
 subst h
 unfold w6
 show ({ mode:=_,elem:=_,size:=_,rows:=(toC (l.map d7)).set n _,box:=_,app:=_ }:Blk)=_
 have:(toC (l.map d7)).set n [C.t (ti v)]=toC ((l.set n v).map d7):=by
  unfold toC
  rw [a2Z,a2Z];rfl
 rw [this]
theorem aP8 (xs:List Int) (hl:xs.length<=1000000) (fg:FuncId) (caps:List T) (q:Int->Bool) (hg:∀x ∈ xs,a8 Tryz.prog fg (a7 .i64 x::caps.map fun x=>.c (.t x)) [] (d9 (q x)) []):
 ∃zs,zs.take (xs.filter fun x=>!q x).length=(xs.filter fun x=>!q x)∧zs.length=xs.length∧a8 Tryz.prog 183 [.c (.own 0 0 xs.length true),.c (.t (.fn (.func fg) caps))] [k9 xs] (.c (.own 0 0 (xs.filter fun x=>!q x).length true)) [k9 zs]:=by
 have ix:=aS3 xs hl fg caps q hg
 have ha:(caps.map fun x=>S.c (C.t x)).all S.isT=true:=by simp [S.isT,C.isT]
 rcases a8B (q:=q) xs 0 with ⟨h1,h2⟩|⟨i0,h1,h2,h3,h4⟩
 ·rw [h1] at ix
  rw [h2]
  refine ⟨xs,lbn (lbQ _),rfl,?_⟩
  (refine ac Tryz.func183 ?_;(conv=>whnf);repeat (refine zy ?_;conv=>whnf))
  repeat' (first|refine zx ?_|refine .inl ⟨_,_,a9X ix ⟨a2a (a78 trivial rfl),ah8,trivial⟩ rfl,?_⟩|refine zd ?_ ?_<;>intro h<;>try omega|fail)<;>conv=>whnf
  all_goals first
   |omega
   |exact ⟨⟨[some 0],rfl,rfl,⟨g7 (c6 _),trivial⟩,⟨rfl,rfl,rfl,fun h=>h⟩⟩⟩
 ·rw [h1,D8] at ix
  have hD:=am6 h2 h3 h4
  obtain ⟨n,hn⟩:∃n,i0+1+n=xs.length:=⟨xs.length - (i0+1),by omega⟩
  have hE:=hD n (by omega)
  generalize hF:a6A q xs i0 n=rn at hE
  obtain ⟨rs,i⟩:=rn
  obtain ⟨e1,e2,e3,e4⟩:=hE
  simp only at e1 e2 e3 e4
  rw [hn,lbn (lbQ _)] at e3
  have e5:(rs.take i).length=i:=by rw [lbs];omega
  have hz:rs.take i++List.replicate (xs.length - i) (0:Int)=rs.take i++List.replicate (xs.length - i) (0:Int):=rfl
  refine ⟨rs.take i++List.replicate (xs.length - i) 0,?_,by rw [lbq,e5,aP0];omega,?_⟩
  ·rw [← e3,List.take_append_of_le_length (by omega),e5,List.take_take,Nat.min_self]
  have eC:C7 (0+(i:Int).toNat) ((xs.length:Int) - (i:Int)).toNat (toC (rs.map d7)) (List.replicate ((xs.length:Int) - (i:Int)).toNat [C.t (ti 0)])=toC ((rs.take i++List.replicate (xs.length - i) 0).map d7):=by
   have x1:0+(i:Int).toNat=i:=by omega
   have x2:((xs.length:Int) - (i:Int)).toNat=xs.length - i:=by omega
   rw [x1,x2]
   unfold C7 toC
   rw [lbn (l:=List.replicate _ _) (by simp),aP0,lbo (by simp;omega)]
   simp [d7,a7O]
  have eL:(xs.filter fun x=>!q x).length=i:=by rw [← e3];exact e5
  rw [eL]
  have hcl:=fun x hx=>hg x hx
  (refine ac Tryz.func183 ?_;(conv=>whnf);repeat (refine zy ?_;conv=>whnf))
  repeat' (first|refine zx ?_|refine .inl ⟨_,_,a9X ix ⟨a2a (a78 trivial rfl),ah8,trivial⟩ rfl,?_⟩|refine zd ?_ ?_<;>intro h<;>try omega|fail)<;>conv=>whnf
  refine g8 b9 (fun m=>([S.c (C.own 0 0 xs.length true),S.c (C.t (T.fn (.func fg) caps)),J,J,J,a7 .i64 (a6A q xs i0 m).2,a7 .i64 (i0+1+m)]++Jn 35,[k9 (a6A q xs i0 m).1])) n (fun _=>True) [some 0] trivial
   ⟨rfl,rfl,⟨g7 (c6 _),trivial⟩,⟨⟨rfl,rfl,rfl,fun h=>h⟩,g9 rfl,rfl,c7 (by omega),trivial⟩⟩ ?_
  intro m hm _
  have hDm:=hD m (by omega)
  generalize hG:a6A q xs i0 m=p at hDm
  obtain ⟨r,k⟩:=p
  obtain ⟨d1,d2,d3,d4⟩:=hDm
  simp only at d1 d2 d3 d4 ⊢
  by_cases hlt:m<n
  ·obtain ⟨v,hv⟩:∃v,xs[i0+1+m]? =some v:=⟨_,lbf (by omega)⟩
   have hvd:xs.getD (i0+1+m) 0=v:=by rw [lbl,hv];rfl
   have hrv:r[i0+1+m]? =some v:=by
    have:=congrArg (fun l=>l[0]?) d4
    simpa [lbj,hv] using this
   have gv:r[0+((i0+1+m:Nat):Int).toNat]? =some v:=by rw [D8,lbX];exact hrv
   have hgv:=hg v (lbm hv)
   have ha2:(a7 .i64 v::caps.map fun x=>S.c (C.t x)).all S.isT=true:=by simp [S.isT,C.isT,a7]
   have eG:a6A q xs i0 (m+1)=if q v=true then (r,k) else (r.set k v,k+1):=by
    conv=>lhs;unfold a6A
    rw [hG,hvd]
   rw [eG]
   cases hq:q v with
   |true=>
    rw [hq] at hgv
    rw [if_pos rfl]
    conv=>whnf
    repeat' (first|refine zx ?_|refine .inl ⟨_,_,D9 hgv ha2 rfl,?_⟩|refine a98 gv ?_|refine zd ?_ ?_<;>intro h<;>try omega|fail)<;>conv=>whnf
    all_goals first
     |omega
     |exact ⟨hlt,trivial,[some 0],rfl,rfl,⟨g7 (c6 _),trivial⟩,⟨⟨rfl,rfl,rfl,fun h=>h⟩,rfl,rfl,c7 (by omega),trivial⟩⟩
   |false=>
    rw [hq] at hgv
    rw [if_neg (by decide)]
    have eB:=al8 (l:=r) (v:=v) (show 0+(k:Int).toNat=k by omega)
    obtain ⟨u,hu⟩:∃u,r[0+(k:Int).toNat]? =some u:=⟨_,lbf (by omega)⟩
    conv=>whnf
    repeat' (first|refine zx ?_|refine .inl ⟨_,_,D9 hgv ha2 rfl,?_⟩|refine a98 gv ?_|refine a98 hu ?_|refine zd ?_ ?_<;>intro h<;>try omega|fail)<;>conv=>whnf
    all_goals first
     |omega
     |exact ⟨hlt,trivial,[some 0],rfl,rfl,⟨⟨rfl,rfl,rfl,.inl ⟨congrArg Blk.rows eB,(congrArg Blk.rows eB) ▸ c6 _⟩⟩,trivial⟩,⟨⟨rfl,rfl,rfl,fun h=>h⟩,rfl,c7 (by omega),c7 (by omega),trivial⟩⟩
  ·have hme:m=n:=by omega
   subst hme
   rw [hG] at hF
   injection hF with f1 f2
   subst f1 f2
   have rl2:(toC (r.map d7)).length=xs.length:=by simp [toC,d1]
   have s1:(0:Int)<=(k:Int)∧(k:Int)<=(xs.length:Int)∧(xs.length:Int)<=(xs.length:Int):=by omega
   have s2:(0:Int)<=0∧(0:Int)<=(k:Int)∧(k:Int)<=(xs.length:Int):=by omega
   have s3:0+(k:Int).toNat+((xs.length:Int) - (k:Int)).toNat<=(k9 r).rows.length:=by show _<=(toC (r.map d7)).length;omega
   conv=>whnf
   repeat' (first|refine zx ?_|refine ⟨s1,?_⟩|refine ⟨s2,?_⟩|refine ⟨s3,?_⟩|refine zd ?_ ?_<;>intro h<;>try omega|fail)<;>conv=>whnf
   all_goals first
    |omega
    |exact ⟨⟨[some 0],rfl,rfl,⟨b7 (rows:=(r.take k++List.replicate (xs.length - k) (0:Int)).map d7) rfl rfl rfl eC rfl,trivial⟩,⟨rfl,rfl,by show ((k:Int) - 0).toNat=k;omega,fun h=>h⟩⟩⟩
theorem b0d {H:Hp} {p:Nat->Prop} {id n:Nat} {l m:List Int} (hp:p id) (hk:H[id]? =some (k9 l)) (hm:l.take n=m) (hn:m.length=n):VC H p (.own id 0 n true) (M4 m):=by
 refine ⟨hp,k9 l,hk,fun h=>h,rfl,?_,?_⟩
 ·show 0+n<=(toC (l.map d7)).length
  have:=lbs (i:=n) (l:=l)
  rw [hm] at this
  simp [toC];omega
 ·show ((toC (l.map d7)).drop 0).take n=toC (m.map d7)
  rw [a6c,←hm]
  simp [toC,a7O]
def nI (L:List Nat):List Int:=L.map fun i=>((i:Nat):Int)
theorem a5r (L:List Nat):(nI L).length=L.length:=by simp [nI]
theorem ay7 {L:List Nat} {k i:Nat} (h:L[k]? =some i):(nI L)[k]? =some (i:Int):=by simp [nI,h]
theorem aC0 (x:Rat) (hx:rl x<=60000):a8 Tryz.prog 315 [frS (fz x)] [] (frS (fz x)) []:=by
 have c1:=a4w (fz x).p.dl (by have:=K0 x;show bl x.num<=_;omega)
 have c2:=a4w (fz x).q.dl (by have:=M3 x;show bl x.den<=_;omega)
 (refine ac Tryz.func315 ?_;(conv=>whnf);repeat (refine zy ?_;conv=>whnf))
 repeat' (first|refine zx ?_|refine qp c1 ?_|refine qp c2 ?_|refine qp 6 ?_|refine qp 7 ?_|refine qp 3 ?_|refine bl0 [6] ?_|refine bl0 [7] ?_|refine bl0 [3] ?_|refine zd ?_ ?_<;>intro h<;>try omega|fail)<;>conv=>whnf
 all_goals first
  |exact b0C rfl
def aE5 (L:List Nat) (k:Nat):Int:=if k=0 then -1 else ((L.getD (k - 1) 0:Nat):Int)
theorem b2S (L:List Nat) (n:Nat) (hp:L.Pairwise (·<·)) (hn:∀i ∈ L,i<n) (hl:L.length<=100000):a8 Tryz.prog 291 [e8 (nI L),a7 .i64 n] [] (d9 true) []:=by
 have m1:((nI L).map d7).length=L.length:=by simp [nI]
 (refine ac Tryz.func291 ?_;(conv=>whnf);repeat ((first|refine b0x ?_|refine zy ?_);conv=>whnf))
 repeat' (first|refine zx ?_|refine zd ?_ ?_<;>intro h<;>try omega|fail)<;>conv=>whnf
 refine g8 b9 (fun k=>([J,a7 .i64 n,J,J,J,a7 .i64 (aE5 L k),J,J,e8 (nI L),a7 .i64 L.length,a7 .i64 k]++Jn 13,[])) L.length (fun _=>True) [] trivial
  ⟨rfl,rfl,trivial,⟨rfl,rfl,rfl,c7 (by rw [m1]),rfl,trivial⟩⟩ ?_
 intro k hk _
 by_cases hlt:k<L.length
 ·obtain ⟨x,hx⟩:∃x,L[k]? =some x:=⟨_,lbf hlt⟩
  have h1:=hn x (lbm hx)
  have h2:aE5 L k<x:=by
   unfold aE5
   split
   ·omega
   ·have hk1:k - 1<L.length:=by omega
    have:=af8.1 hp (k - 1) k hk1 hlt (by omega)
    rw [lbf hlt] at hx
    injection hx with hx
    rw [lbl,lbf hk1,←hx]
    show ((L[k - 1]:Nat):Int)<_
    omega
  have h3:aE5 L (k+1)=x:=by
   unfold aE5
   rw [if_neg (by omega),lbl,aF8,hx];rfl
  conv=>whnf
  repeat' (first|refine zx ?_|refine f9 (ay7 hx) ?_|refine zd ?_ ?_<;>intro h<;>try omega|fail)<;>conv=>whnf
  all_goals first
   |omega
   |exact ⟨hlt,trivial,[],rfl,rfl,trivial,⟨rfl,c7 h3.symm,rfl,rfl,c7 (by omega),trivial⟩⟩
 ·have hke:k=L.length:=by omega
  subst hke
  conv=>whnf
  repeat' (first|refine zx ?_|refine zd ?_ ?_<;>intro h<;>try omega|fail)<;>conv=>whnf
  all_goals first
   |omega
   |exact c9 rfl
open Go.RowKit Go.Shelf
theorem b7q (l:List Int) (hl:l.length<=100000):a8 Tryz.prog 179 [.c (.own 0 0 l.length true)] [k9 l] (.tup []) [k9 (y8 l)]:=
 aP5 a81 ⟨_,Tryz.func179,rfl,by decide⟩ l hl
theorem b9e (l:List Int) (hl:l.length<=100000) (hcl:(Lib.compact l).length<=l.length):a8 Tryz.prog 180 [.c (.own 0 0 l.length true)] [k9 l] (.c (.own 0 0 (Lib.compact l).length true)) [k9 (av1 l)]:=
 ai8 aF6 ⟨_,Tryz.func180,rfl,by decide⟩ l hl hcl
theorem a13 (r:Int):(exW r).Sized:=⟨by simp [exW],by simp [exW],by simp [exW],by simp [exW],by simp [exW]⟩
theorem aQ8:aP9.Sized:=⟨by decide,by decide,by decide,by decide,by decide⟩
theorem b86:y8 [0,0]=[0,0]:=a6E (by decide)
theorem b9X:∀k,k<2->∃x,(exW 25).moves[k]? =some x∧x.scale=0:=fun k hk=>by
 match k,hk with
 |0,_=>exact ⟨_,rfl,rfl⟩
 |1,_=>exact ⟨_,rfl,rfl⟩
theorem b4W:a8 Tryz.prog 108 [evS (exW 25)] [] (e8 [0]) []:=by
 have ck:=a0o (exW 25) (a13 25)
 rw [I8.2.1] at ck
 have so:=b7q [0,0] (by decide)
 rw [b86] at so
 have co:=b9e [0,0] (by decide) (by decide)
 have so:a8 Tryz.prog 179 [.c (.own 0 0 2 true)] [k9 [0,0]] (.tup []) [k9 [0,0]]:=so
 have co:a8 Tryz.prog 180 [.c (.own 0 0 2 true)] [k9 [0,0]] (.c (.own 0 0 1 true)) [k9 [0,0]]:=co
 (refine ac Tryz.func108 ?_;(conv=>whnf);repeat ((first|refine b0x ?_|refine zy ?_);conv=>whnf))
 repeat' (first|refine zx ?_|refine qp ck ?_|refine zd ?_ ?_<;>intro h<;>try omega|fail)<;>conv=>whnf
 all_goals try omega
 refine g8 b9 (fun k=>([J,J,J,S.c (C.own 0 0 k true),J,J,J,J,J,J,S.c (C.t (P8 (exW 25).moves)),a7 .i64 2,a7 .i64 k]++Jn 16,[k9 (([0,0]:List Int).take k)])) 2 (fun _=>True) [none] trivial
  ⟨rfl,rfl,⟨⟨rfl,rfl⟩,trivial⟩,⟨⟨rfl,rfl,rfl⟩,rfl,rfl,rfl,trivial⟩⟩ ?_
 intro k hk _
 by_cases hlt:k<2
 ·obtain ⟨x,hx,hx0⟩:=b9X k hlt
  have lA:k<=(k9 (([0,0]:List Int).take k)).rows.length:=by show k<=(toC _).length;simp [toC];omega
  have e1:([0,0]:List Int).take (k+1)=([0,0]:List Int).take k++[x.scale]:=by
   rw [hx0]
   match k,hlt with
   |0,_=>rfl
   |1,_=>rfl
  have lk:(([0,0]:List Int).take k).length=k:=by simp;omega
  conv=>whnf
  repeat' (first|refine zx ?_|refine qp toC ?_|refine f9 hx ?_|refine o6 lA (by simp [toC];omega) ?_|refine zd ?_ ?_<;>intro h<;>try omega|fail)<;>conv=>whnf
  all_goals first
   |omega
   |(refine ⟨hlt,trivial,[some 2],rfl,rfl,⟨b7 (rows:=(([0,0]:List Int).take (k+1)).map d7) rfl rfl rfl ?_ rfl,trivial⟩,⟨⟨rfl,rfl,rfl,fun h=>h⟩,rfl,rfl,c7 (by omega),trivial⟩⟩
     rw [e1]
     exact (congrArg (fun n'=>List.take n' (toC ((([0,0]:List Int).take k).map d7))++toC [d7 x.scale]) lk.symm).trans aw5)
 ·have hke:k=2:=by omega
  subst hke
  conv=>whnf
  repeat' (first|refine zx ?_|refine .inr ⟨_,_,so,?_⟩|refine .inr ⟨_,_,co,?_⟩|refine zd ?_ ?_<;>intro h<;>try omega|fail)<;>conv=>whnf
  all_goals first
   |omega
   |exact j2 (show VC _ (fun id=>E6 [] id=true) _ _ from b0d (l:=[0,0]) rfl rfl rfl rfl)
abbrev evX (e:Ev) (id len:Nat):Blk:={ mode:=.live,elem:=28,size:=8,rows:=[[.t (ti e.mats),.t (ti e.hhs),.t (ti e.scs),.t (a1W e.places),.own id 0 len true,.t (a0G e.certs),.t (M5 e.recalls),.t (R0 e.purities)]],box:=true }
abbrev b9C:Blk:={ mode:=.live,elem:=28,size:=8,rows:=[[.t (ti 0),.t (ti 0),.t (ti 0),.t (.sl 0 .nil []),.t (.sl 0 .nil []),.t (.sl 0 .nil []),.t (.sl 0 .nil []),.t (.sl 0 .nil [])]],box:=true }
def mvW (k:Nat):List j5:=if k=0 then (exW 25).moves else if k=1 then [⟨3,0,1,-1,0,false⟩,⟨5,1,2,0,25,true⟩] else aP9.moves
theorem b64:∀k,k<2->∃x,(mvW k)[k]? =some x∧x.scale=0∧(mvW k).set k { x with scale:=-1,reading:=0 }=mvW (k+1):=fun k hk=>by
 match k,hk with
 |0,_=>exact ⟨_,rfl,rfl,rfl⟩
 |1,_=>exact ⟨_,rfl,rfl,rfl⟩
theorem b6p:∀k,k<3->(mvW k).length=2:=by decide
theorem b1a {ρ:List (Option Nat)} {H:Hp} {e:Ev} {r r' len:Nat} (h1:ρ[r']? =some (some r)):a2f ρ H (evX e r len) (evX e r' len):=
 ⟨rfl,rfl,rfl,.inr ⟨⟨rfl,rfl,rfl,rfl,⟨h1,rfl,rfl,fun h=>h⟩,rfl,rfl,rfl,trivial⟩,trivial⟩⟩
theorem b6n {l:List j5} {n m:Nat} {x:j5} {K:List C->Prop} (e:n=m) (h:l[m]? =some x) (k:K (x.row.map C.t)):∃row,(toC (l.map j5.row))[n]? =some row∧K row:=by
 subst e;exact ⟨_,by simp [toC,h],k⟩
theorem b3P:C9 b9C.rows:=by simp [C9,C.isT]
theorem b3O {rows:List (List C)} {n m:Nat} {v:List C} {K:List C->Prop} (e:n=m) (hl:m<rows.length) (h:K v):∃row,(rows.set n v)[n]? =some row∧K row:=by
 subst e;exact ⟨v,by simp [hl],h⟩
theorem aZ9 (l:List j5) (n:Nat) (y:j5):w6 (a1N l) ((a1N l).rows.set n (y.row.map C.t))=a1N (l.set n y):=by
 show ({ mode:=_,elem:=_,size:=_,rows:=(toC (l.map j5.row)).set n _,box:=_,app:=_ }:Blk)=_
 have:(toC (l.map j5.row)).set n (y.row.map C.t)=toC ((l.set n y).map j5.row):=by simp [toC,a2Z]
 rw [this]
theorem aH8:a8 Tryz.prog 181 [evS (exW 25),e8 [0]] [] (evS aP9) []:=by
 have ck:=a0o (exW 25) (a13 25)
 rw [I8.2.1] at ck
 have c1:=ah1 (exW 25).places (by decide)
 have c2:=al6 (exW 25).moves (by decide)
 have c3:=aq1 (exW 25).certs (by decide)
 have c4:=a8r (exW 25).recalls (by decide)
 have c5:=a8m (exW 25).purities (by decide)
 have c2:a8 Tryz.prog 187 [.c (.t (P8 (exW 25).moves))] [] (.c (.own 0 0 2 true)) [a1N (exW 25).moves]:=c2
 have cn:=a8y [0] 0 (by decide)
 (refine ac Tryz.func181 ?_;(conv=>whnf);repeat (refine zy ?_;conv=>whnf))
 repeat' (first|refine zx ?_|refine qp ck ?_|refine qp c1 ?_|refine qp c3 ?_|refine qp c4 ?_|refine qp c5 ?_|refine qp (5,8) ?_|refine qp 8 ?_|refine qp 5 ?_|refine .inl ⟨_,_,a12 c2 rfl rfl (c6 _),?_⟩|refine bl0 [5,8] ?_|refine bl0 [8] ?_|refine bl0 [5] ?_|refine zd ?_ ?_<;>intro h<;>try omega|fail)<;>conv=>whnf
 all_goals try omega
 refine g8 b9 (fun k=>([J,e8 [0],S.c (C.ptr 0 0 0),J,S.c (C.ptr 1 0 0)]++Jn 27++[S.c (C.own 2 0 2 true),a7 .i64 2,a7 .i64 k]++Jn 25,[evX (exW 25) 2 2,b9C,a1N (mvW k)])) 2 (fun _=>True) [some 0,some 1,some 2] trivial
  ⟨rfl,rfl,⟨b1a rfl,⟨rfl,rfl,rfl,.inl ⟨rfl,b3P⟩⟩,g7 (c6 _),trivial⟩,⟨rfl,⟨rfl,rfl,rfl⟩,⟨rfl,rfl,rfl⟩,⟨rfl,rfl,rfl,fun h=>h⟩,rfl,rfl,trivial⟩⟩ ?_
 intro k hk _
 by_cases hlt:k<2
 ·obtain ⟨x,hx,hx0,hx1⟩:=b64 k hlt
  have ml:=b6p k (by omega)
  have cx:a8 Tryz.prog 185 [e8 [0],a7 .i64 x.scale] [] (d9 true) []:=by rw [hx0];exact cn
  have i0:0+(k:Int).toNat=k:=by omega
  have il:k<(toC ((mvW k).map j5.row)).length:=by simp [toC];omega
  have eB:=(congrArg (fun B:Blk=>w6 B (B.rows.set (0+(k:Int).toNat) (({ x with scale:=-1,reading:=0 }:j5).row.map C.t))) (aZ9 (mvW k) (0+(k:Int).toNat) { x with scale:=-1 })).trans
   ((aZ9 ((mvW k).set (0+(k:Int).toNat) { x with scale:=-1 }) (0+(k:Int).toNat) { x with scale:=-1,reading:=0 }).trans (congrArg a1N (show ((mvW k).set (0+(k:Int).toNat) { x with scale:=-1 }).set (0+(k:Int).toNat) { x with scale:=-1,reading:=0 }=mvW (k+1) by rw [List.set_set,i0];exact hx1)))
  conv=>whnf
  repeat' (first|refine zx ?_|refine qp cx ?_|refine b6n i0 hx ?_|refine b3O i0 il ?_|refine B3 _ (by decide +kernel) rfl ?_|refine zd ?_ ?_<;>intro h<;>try omega|fail)<;>conv=>whnf
  all_goals first
   |omega
   |exact ⟨hlt,trivial,[some 0,some 1,some 2],rfl,rfl,⟨b1a rfl,⟨rfl,rfl,rfl,.inl ⟨rfl,b3P⟩⟩,⟨rfl,rfl,rfl,.inl ⟨congrArg Blk.rows eB,Eq.mpr (congrArg (fun b=>C9 (Blk.rows b)) eB) (c6 _)⟩⟩,trivial⟩,⟨rfl,⟨rfl,rfl,rfl⟩,⟨rfl,rfl,rfl⟩,⟨rfl,rfl,rfl,fun h=>h⟩,rfl,c7 (by omega),trivial⟩⟩
 ·have hke:k=2:=by omega
  subst hke
  conv=>whnf
  repeat' (first|refine zx ?_|refine zd ?_ ?_<;>intro h<;>try omega|fail)<;>conv=>whnf
  all_goals first
   |omega
   |exact j2 ⟨rfl,rfl,rfl,rfl,show VC _ (fun id=>E6 [] id=true) _ _ from p4 rfl rfl (by intro h;cases h) rfl rfl (by rfl),rfl,rfl,rfl,trivial⟩
abbrev cpB (id:Nat) (w:j6):Blk:={ mode:=.live,elem:=192,size:=6,rows:=[.own id 0 w.terms.length true::.t (ti w.kind)::frC (fz w.value)],box:=true }
abbrev cpZ:Blk:={ mode:=.live,elem:=192,size:=6,rows:=[.t (.sl 0 .nil [])::.t (ti 0)::frC M6],box:=true }
theorem b9x:C9 cpZ.rows:=by simp [C9,C.isT]
theorem b5a {ρ:List (Option Nat)} {H:Hp} {w:j6} {r r':Nat} (h1:ρ[r']? =some (some r)):a2f ρ H (cpB r w) (cpB r' w):=
 ⟨rfl,rfl,rfl,.inr ⟨⟨⟨h1,rfl,rfl,fun h=>h⟩,rfl,rfl,rfl,rfl,rfl,trivial⟩,trivial⟩⟩
theorem aM2 {l:List (Int × Rat)} {n k:Nat} {t:Int × Rat} {row:List C} (e:n=k) (h:l[k]? =some t) (hr:row=(i8 t).map C.t):w6 (E3 l) ((E3 l).rows.set n row)=E3 l:=by
 subst e hr
 unfold w6
 have:(toC (l.map i8)).set n ((i8 t).map C.t)=toC (l.map i8):=b4u (by simp [toC,h])
 show ({ mode:=_,elem:=_,size:=_,rows:=(toC (l.map i8)).set n _,box:=_,app:=_ }:Blk)=_
 rw [this]
theorem b3h (w:j6) (hl:w.terms.length<=100) (hb:∀t ∈ w.terms,rl t.2<=200) (hv:rl w.value<=200):a8 Tryz.prog 292 [b6g w] [] (b6g w) []:=by
 have cl:=b1F w.terms (by omega)
 have m1:(w.terms.map i8).length=w.terms.length:=by simp
 have fv:=aC0 w.value (by omega)
 (refine ac Tryz.func292 ?_;(conv=>whnf);repeat (refine zy ?_;conv=>whnf))
 repeat' (first|refine zx ?_|refine .inl ⟨_,_,a12 cl rfl rfl (c6 _),?_⟩|refine zd ?_ ?_<;>intro h<;>try omega|fail)<;>conv=>whnf
 all_goals try omega
 refine g8 b9 (fun k=>([J,S.c (C.ptr 0 0 0),S.c (C.ptr 1 0 0),J,J,J,J,J,J,J,S.c (C.own 2 0 w.terms.length true),a7 .i64 w.terms.length,a7 .i64 k]++Jn 18,[cpB 2 w,cpZ,E3 w.terms])) w.terms.length (fun _=>True) [some 0,some 1,some 2] trivial
  ⟨rfl,rfl,⟨b5a rfl,⟨rfl,rfl,rfl,.inr ⟨⟨rfl,rfl,rfl,rfl,rfl,rfl,trivial⟩,trivial⟩⟩,g7 (c6 _),trivial⟩,⟨⟨rfl,rfl,rfl⟩,⟨rfl,rfl,rfl⟩,⟨rfl,rfl,rfl,fun h=>h⟩,c7 (by omega),rfl,trivial⟩⟩ ?_
 intro k hk _
 by_cases hlt:k<w.terms.length
 ·obtain ⟨t,ht⟩:∃t,w.terms[k]? =some t:=⟨_,lbf hlt⟩
  have ft:=aC0 t.2 (by have:=hb t (lbm ht);omega)
  have gt:w.terms[0+(k:Int).toNat]? =some t:=by rw [D8,lbX];exact ht
  have eB:=aM2 (l:=w.terms) (n:=0+(k:Int).toNat) (k:=k) (t:=t) (row:=(i8 t).map C.t) (by omega) ht rfl
  conv=>whnf
  repeat' (first|refine zx ?_|refine qp ft ?_|refine a6e (m:=0+(k:Int).toNat) rfl gt ?_|refine zd ?_ ?_<;>intro h<;>try omega|fail)<;>conv=>whnf
  all_goals first
   |omega
   |exact ⟨hlt,trivial,[some 0,some 1,some 2],rfl,rfl,⟨b5a rfl,⟨rfl,rfl,rfl,.inl ⟨rfl,b9x⟩⟩,⟨rfl,rfl,rfl,.inl ⟨congrArg Blk.rows eB,Eq.mpr (congrArg (fun b=>C9 (Blk.rows b)) eB) (c6 _)⟩⟩,trivial⟩,⟨⟨rfl,rfl,rfl⟩,⟨rfl,rfl,rfl⟩,⟨rfl,rfl,rfl,fun h=>h⟩,rfl,c7 (by omega),trivial⟩⟩
 ·have hke:k=w.terms.length:=by omega
  subst hke
  conv=>whnf
  repeat' (first|refine zx ?_|refine qp fv ?_|refine zd ?_ ?_<;>intro h<;>try omega|fail)<;>conv=>whnf
  all_goals first
   |omega
   |exact j2 ⟨show VC _ (fun id=>E6 [] id=true) _ _ from p4 rfl rfl (by intro h;cases h) rfl rfl (by simp),rfl,rfl,rfl,rfl,rfl,trivial⟩
abbrev b7C:Blk:={ mode:=.live,elem:=48,size:=2,rows:=[[.t (ti 0),.t (.sl 0 .nil [])]],box:=true }
theorem aZ6:C9 b7C.rows:=by simp [C9,C.isT]
def a3k (s:f7) (L:List Nat):f7:=⟨s.n,L.map (o8 s)⟩
theorem aX2 {s:f7} {L:List Nat} {k i:Nat} (h:L[k]? =some i):(a3k s (L.take (k+1))).rows=(a3k s (L.take k)).rows++[o8 s i]:=by
 unfold a3k;rw [lbG,h];simp
theorem b7L (s:f7) (hT:F0 s) (L:List Nat) (hp:L.Pairwise (·<·)) (hn:∀i ∈ L,i<s.rows.length) (hl:L.length<=1000):a8 Tryz.prog 238 [Q8 s,e8 (nI L)] [] (Q8 (a3k s L)) []:=by
 have sb:=a2t hT
 have lr:=S7 s sb
 rw [hT.r] at lr
 have m1:((nI L).map d7).length=L.length:=by simp [nI]
 have m2:(s.rows.map C0).length=s.rows.length:=by simp
 have cr:=b2S L s.rows.length hp hn (by omega)
 have cr2:a8 Tryz.prog 291 [e8 (nI L),a7 .i64 ((s.rows.map C0).length:Nat)] [] (d9 true) []:=by rw [m2];exact cr
 (refine ac Tryz.func238 ?_;(conv=>whnf);repeat ((first|refine b0x ?_|refine zy ?_);conv=>whnf))
 repeat' (first|refine zx ?_|refine qp lr ?_|refine qp cr ?_|refine qp cr2 ?_|refine zd ?_ ?_<;>intro h<;>try omega|fail)<;>conv=>whnf
 all_goals try omega
 refine g8 b9 (fun k=>([J,J,S.c (C.t (T.ptr (a1j s))),J,S.c (C.ptr 0 0 0),S.c (C.ptr 1 0 0)]++Jn 17++[e8 (nI L),a7 .i64 L.length,a7 .i64 k]++Jn 16,[b7C,bb5 s.n 2 k,b7G (a3k s (L.take k)).rows])) L.length (fun _=>True) [some 0,some 1,none] trivial
  ⟨rfl,rfl,⟨⟨rfl,rfl,rfl,.inl ⟨rfl,aZ6⟩⟩,⟨rfl,rfl,rfl,.inr ⟨⟨rfl,⟨rfl,rfl,rfl⟩,trivial⟩,trivial⟩⟩,⟨rfl,rfl⟩,trivial⟩,⟨rfl,⟨rfl,rfl,rfl⟩,⟨rfl,rfl,rfl⟩,rfl,c7 (by omega),rfl,trivial⟩⟩ ?_
 intro k hk _
 by_cases hlt:k<L.length
 ·obtain ⟨i,hi⟩:∃i,L[k]? =some i:=⟨_,lbf hlt⟩
  have hin:=hn i (lbm hi)
  obtain ⟨w,hw⟩:∃w,s.rows[i]? =some w:=⟨_,lbf hin⟩
  have ew:o8 s i=w:=by unfold o8;rw [lbl,hw];rfl
  obtain ⟨b1,b2,b3⟩:=W2 hT w (lbm hw)
  have cp:=b3h w b1 b2 b3
  have lk:(a3k s (L.take k)).rows.length=k:=by simp [a3k];omega
  have lA:k<=(b7G (a3k s (L.take k)).rows).rows.length:=by show k<=(toC _).length;simp only [toC,lbr];omega
  conv=>whnf
  repeat' (first|refine zx ?_|refine qp cp ?_|refine qp toC ?_|refine f9 (ay7 hi) ?_|refine F6 (by omega) hw ?_|refine o6 lA (by simp [toC];omega) ?_|refine zd ?_ ?_<;>intro h<;>try omega|fail)<;>conv=>whnf
  all_goals first
   |omega
   |(refine ⟨hlt,trivial,[some 0,some 1,some 3],rfl,rfl,⟨⟨rfl,rfl,rfl,.inl ⟨rfl,aZ6⟩⟩,⟨rfl,rfl,rfl,.inr ⟨⟨rfl,⟨rfl,rfl,rfl,fun h=>h⟩,trivial⟩,trivial⟩⟩,b7 (rows:=(a3k s (L.take (k+1))).rows.map C0) rfl rfl rfl ?_ rfl,trivial⟩,⟨rfl,⟨rfl,rfl,rfl⟩,⟨rfl,rfl,rfl⟩,rfl,rfl,c7 (by omega),trivial⟩⟩
     rw [aX2 hi,ew]
     exact b1Z lk.symm)
 ·have hke:k=L.length:=by omega
  subst hke
  rw [lbn (lbQ _)]
  have lk:(a3k s L).rows.length=L.length:=by simp [a3k]
  conv=>whnf
  repeat' (first|refine zx ?_|refine zd ?_ ?_<;>intro h<;>try omega|fail)<;>conv=>whnf
  all_goals first
   |omega
   |exact j2 ⟨rfl,show VC _ (fun id=>E6 [] id=true) _ _ from p4 rfl rfl (by intro h;cases h) rfl rfl (by simp only [lbr];omega),trivial⟩
def T3 (L:List Nat) (Y:List Rat):Nat->List Int
 |0=>[]
 |k+1=>if yN Y k=0 then T3 L Y k else T3 L Y k++[((L.getD k 0:Nat):Int)]
theorem a7k (L:List Nat) (Y:List Rat):∀k,(T3 L Y k).length<=k
 |0=>lbQ _
 |k+1=>by
  have:=a7k L Y k
  unfold T3
  split
  ·omega
  ·rw [lbq];simp;omega
theorem al4 {L:List Nat} {Y:List Rat} {c k:Nat} (h:L[k]? =some c) (hy:yN Y k≠0):∀n,k<n->(c:Int) ∈ T3 L Y n
 |0,hn=>by omega
 |n+1,hn=>by
  unfold T3
  rcases K4 k n with hk|hk
  ·have:=al4 h hy n hk
   split
   ·exact this
   ·exact List.mem_append_left _ this
  ·have:k=n:=by omega
   subst this
   rw [if_neg hy]
   refine List.mem_append_right _ ?_
   rw [lbl,h];simp
theorem b96 {L:List Nat} (h:∀i ∈ L,i<5):a3k (O8 [0,1,2,3,4]) L=O8 L:=
 congrArg (f7.mk 2) (lbp fun i hi=>by
  have:=h i hi
  match i,this with
  |0,_=>rfl
  |1,_=>rfl
  |2,_=>rfl
  |3,_=>rfl
  |4,_=>rfl)
theorem b5f {L:List Nat} {Y:List Rat} {k:Nat} (h:yN Y k=0):T3 L Y (k+1)=T3 L Y k:=by
 show (if _ then _ else _)=_
 rw [if_pos h]
theorem b1Y {L:List Nat} {Y:List Rat} {k:Nat} (h:yN Y k≠0):T3 L Y (k+1)=T3 L Y k++[((L.getD k 0:Nat):Int)]:=by
 show (if _ then _ else _)=_
 rw [if_neg h]
theorem a3A {L:List Nat} (h:∀i ∈ L,i<5) (hl:L.length<=5):F0 (O8 L) where
 r:=a3O h hl
 i:=fun w hw=>by
  obtain ⟨i,hi,rfl⟩:=lbx.1 hw
  have h5:=h i hi
  have hs:=aE3.i
  rw [b7y] at hs
  refine hs _ (lbx.2 ⟨i,?_,rfl⟩)
  simp;omega
 n:=by show (2:Int)<=10;decide
 l:=by show (L.map b2a).length<=999;rw [lbr];omega
theorem al9 (L:List Nat) (hp:L.Pairwise (·<·)) (h5:∀i ∈ L,i<5) (hl:L.length<=5):
 ((∃ z,g6 (O8 L) z=true)∧a8 Tryz.prog 182 [Q8 (O8 [0,1,2,3,4]),e8 (nI L)] [] (.tup [.c (.t (.sl 0 .nil [])),d9 false]) [])∨
 ∃Y,aT5 (O8 L) Y=true∧Y.length=L.length∧a8 Tryz.prog 182 [Q8 (O8 [0,1,2,3,4]),e8 (nI L)] [] (.tup [e8 (T3 L Y L.length),d9 true]) []:=by
 have hP:=b7L (O8 [0,1,2,3,4]) (a3A (by decide) (by decide)) L hp (fun i hi=>h5 i hi) (by omega)
 rw [b96 h5] at hP
 have hS:=a3A h5 hl
 have hle:=a1n (g:=[]) hS rfl a00
 rcases b5O hS.r with ho|⟨r,ho⟩
 ·have so:=a9A _ _ _ hle ho (fun v hv=>by have:=aE2 hS rfl a00 v hv;omega)
  refine .inl ⟨⟨_,(a2w hS.r rfl ho).1⟩,?_⟩
  (refine ac Tryz.func182 ?_;(conv=>whnf);repeat ((first|refine b0x ?_|refine zy ?_);conv=>whnf))
  repeat' (first|refine zx ?_|refine qp hP ?_|refine qp so ?_|refine qp 8 ?_|refine bl0 [8] ?_|refine zd ?_ ?_<;>intro h<;>try omega|fail)<;>conv=>whnf
  all_goals first
   |omega
   |exact j2 ⟨rfl,rfl,trivial⟩
 ·have so:=ak2 _ _ _ r hle ho
  have ot:=a9p (g:=[]) (g':=[]) hS rfl a00 ho
  obtain ⟨_,_,_,_,hB⟩:=ot.none rfl
  have hy:=ot.by'
  simp only at hB hy
  rw [← ab4] at so
  have zl:(zOf (O8 L).rows.length (Y3 (O8 L) (m8 (O8 L) []) r)).length=L.length:=by rw [a4I];simp [O8]
  generalize zOf (O8 L).rows.length (Y3 (O8 L) (m8 (O8 L) []) r)=Y at *
  refine .inr ⟨Y,hB,zl,?_⟩
  have m1:((Y.map fz).map n7).length=L.length:=by simp [zl]
  have m2:((nI L).map d7).length=L.length:=by simp [nI]
  (refine ac Tryz.func182 ?_;(conv=>whnf);repeat ((first|refine b0x ?_|refine zy ?_);conv=>whnf))
  repeat' (first|refine zx ?_|refine qp hP ?_|refine qp so ?_|refine qp 8 ?_|refine bl0 [8] ?_|refine zd ?_ ?_<;>intro h<;>try omega|fail)<;>conv=>whnf
  all_goals try omega
  refine g8 b9 (fun k=>([J,e8 (nI L),J,J,J,J,J,J,J,S.c (C.own 0 0 (T3 L Y k).length true)]++Jn 11++[B4 (Y.map fz),a7 .i64 L.length,a7 .i64 k]++Jn 16,[k9 (T3 L Y k)])) L.length (fun _=>True) [none] trivial
   ⟨rfl,rfl,⟨⟨rfl,rfl⟩,trivial⟩,⟨rfl,⟨rfl,rfl,rfl⟩,rfl,c7 (by omega),rfl,trivial⟩⟩ ?_
  intro k hk _
  by_cases hlt:k<L.length
  ·obtain ⟨i,hi⟩:∃i,L[k]? =some i:=⟨_,lbf hlt⟩
   obtain ⟨y,hyk⟩:∃y,Y[k]? =some y:=⟨_,lbf (by omega)⟩
   have ey:yN Y k=y:=by unfold yN;rw [lbl,hyk];rfl
   have ei:L.getD k 0=i:=by rw [lbl,hi];rfl
   have sg:=T8 y (by have:=hy y (lbm hyk);omega)
   have sz:=a2J (x:=y)
   by_cases h0:y=0
   ·have e1:T3 L Y (k+1)=T3 L Y k:=b5f (by rw [ey];exact h0)
    have h9:=sz.2 h0
    rw [e1]
    conv=>whnf
    repeat' (first|refine zx ?_|refine qp sg ?_|refine f9 (a0y Y hyk) ?_|refine F6 (by omega) (ay7 hi) ?_|refine zd ?_ ?_<;>intro h<;>try omega|fail)<;>conv=>whnf
    all_goals first
     |omega
     |exact ⟨hlt,trivial,[some 0],rfl,rfl,⟨g7 (c6 _),trivial⟩,⟨rfl,⟨rfl,rfl,rfl,fun h=>h⟩,rfl,rfl,c7 (by omega),trivial⟩⟩
   ·have e1:T3 L Y (k+1)=T3 L Y k++[(i:Int)]:=by rw [b1Y (by rw [ey];exact h0),ei]
    have h9:sgR y≠0:=fun h=>h0 (sz.1 h)
    have ul:=a7k L Y k
    have lA:(T3 L Y k).length<=(k9 (T3 L Y k)).rows.length:=by show _<=(toC _).length;simp [toC]
    rw [e1]
    conv=>whnf
    repeat' (first|refine zx ?_|refine qp sg ?_|refine qp toC ?_|refine f9 (a0y Y hyk) ?_|refine F6 (by omega) (ay7 hi) ?_|refine o6 lA (by simp [toC];omega) ?_|refine zd ?_ ?_<;>intro h<;>try omega|fail)<;>conv=>whnf
    all_goals first
     |omega
     |exact ⟨hlt,trivial,[some 2],rfl,rfl,⟨b7 (rows:=(T3 L Y k++[(i:Int)]).map d7) rfl rfl rfl aw5 rfl,trivial⟩,⟨rfl,⟨rfl,rfl,by rw [lbq];rfl,fun h=>h⟩,rfl,rfl,c7 (by omega),trivial⟩⟩
  ·have hke:k=L.length:=by omega
   subst hke
   conv=>whnf
   repeat' (first|refine zx ?_|refine zd ?_ ?_<;>intro h<;>try omega|fail)<;>conv=>whnf
   all_goals first
    |omega
    |exact j2 ⟨show VC _ (fun id=>E6 [] id=true) _ _ from p4 rfl rfl (by intro h;cases h) rfl rfl (by simp),rfl,trivial⟩
def N0 (k:Nat):List Nat:=if k=0 then [0,1,2,3,4] else if k<5 then [1,2,3,4] else [1,2,3]
def a3l (k:Nat):List Nat:=(N0 k).filter fun i=>decide (i≠k)
theorem a6i:∀k,k<6->(N0 k).Pairwise (·<·)∧(∀ i ∈ N0 k,i<5)∧(N0 k).length<=5∧1 ∈ N0 k∧2 ∈ N0 k∧3 ∈ N0 k:=by decide
theorem b4i:∀k,k<5->(a3l k).Pairwise (·<·)∧(∀ i ∈ a3l k,i<5)∧(a3l k).length<=5:=by decide
theorem b2A:∀k,k<5->(k=0∨k=4)->N0 (k+1)=a3l k∧1 ∈ a3l k∧2 ∈ a3l k∧3 ∈ a3l k:=by decide
theorem b2G:∀k,k<5->(k=1∨k=2∨k=3)->N0 (k+1)=N0 k∧¬(k ∈ a3l k):=by decide
theorem b2m (L:List Nat) (k:Nat):((nI L).filter fun x=>!decide (x=(k:Int)))=nI (L.filter fun i=>decide (i≠k)):=by
 unfold nI
 rw [List.filter_map]
 congr 1
 refine List.filter_congr fun i _=>?_
 simp
 omega
theorem b7Q {L:List Nat} {Y:List Rat} (h5:∀i ∈ L,i<5) (hl:L.length<=5) (hB:aT5 (O8 L) Y=true) (hY:Y.length=L.length):∀c:Nat,1<=c->c<4->(c:Int) ∈ T3 L Y L.length:=fun c c0 c1=>by
 obtain ⟨k,h1,h2⟩:=b55 h5 hl hB c0 c1
 exact al4 h1 h2 _ (lbe.1 h1).1
theorem b0H {L:List Nat} (hp:L.Pairwise (·<·)) (h5:∀i ∈ L,i<5) (hl:L.length<=5) (h1:1 ∈ L) (h2:2 ∈ L) (h3:3 ∈ L):
 ∃U,U.length<=5∧(∀ c:Nat,1<=c->c<4->(c:Int) ∈ U)∧a8 Tryz.prog 182 [Q8 (O8 [0,1,2,3,4]),e8 (nI L)] [] (.tup [e8 U,d9 true]) []:=by
 rcases al9 L hp h5 hl with ⟨⟨z,hz⟩,_⟩|⟨Y,hB,hY,h⟩
 ·rw [aA5 h1 h2 h3] at hz;cases hz
 ·exact ⟨_,by have:=a7k L Y L.length;omega,b7Q h5 hl hB hY,h⟩
theorem b8W {L:List Nat} (hp:L.Pairwise (·<·)) (h5:∀i ∈ L,i<5) (hl:L.length<=5) {c:Nat} (c0:1<=c) (c1:c<4) (hc:c ∉ L):
 a8 Tryz.prog 182 [Q8 (O8 [0,1,2,3,4]),e8 (nI L)] [] (.tup [.c (.t (.sl 0 .nil [])),d9 false]) []:=by
 rcases al9 L hp h5 hl with ⟨_,h⟩|⟨Y,hB,hY,_⟩
 ·exact h
 ·obtain ⟨k,h1,_⟩:=b55 h5 hl hB c0 c1
  exact absurd (lbm h1) hc
theorem b9W (k:Nat) (x:Int):a8 Tryz.prog 184 (a7 .i64 x::[a5H k].map fun x=>.c (.t x)) [] (d9 (decide (x=(k:Int)))) []:=by
 (refine ac Tryz.func184 ?_;(conv=>whnf);repeat ((first|refine b0x ?_|refine zy ?_);conv=>whnf))
 repeat' (first|refine zx ?_|refine zd ?_ ?_<;>intro h<;>try omega|fail)<;>conv=>whnf
 all_goals first
  |(refine c9 ?_;simp_all;done)
theorem b84 (k:Nat) (hk:k<5):∃zs,zs.take (a3l k).length=nI (a3l k)∧a8 Tryz.prog 183 [.c (.own 0 0 (N0 k).length true),.c (.t (.fn (.func 184) [a5H k]))] [k9 (nI (N0 k))] (.c (.own 0 0 (a3l k).length true)) [k9 zs]:=by
 obtain ⟨zs,z1,_,h⟩:=aP8 (nI (N0 k)) (by rw [a5r];have:=(a6i k (by omega)).2.2.1;omega) 184 [a5H k] (fun x=>decide (x=(k:Int))) (fun x _=>b9W k x)
 rw [b2m] at z1 h
 rw [a5r,a5r] at h
 rw [a5r] at z1
 exact ⟨zs,z1,h⟩
def aI0 (k:Nat):List Int:=(List.range 5).map fun i=>if i<k then (i:Int) else 0
theorem b4D:∀k,k<5->(aI0 k).set k (k:Int)=aI0 (k+1):=by decide
theorem b2F:∀k,k<5->(aI0 k)[k]? =some 0:=by decide
theorem b3E:aI0 5=nI (N0 0):=by decide
abbrev w5:f7:=O8 [0,1,2,3,4]
structure b5s (U:List Int):Prop where
 l:U.length<=5
 m:∀c:Nat,1<=c->c<4->(c:Int) ∈ U
theorem aU8:a8 Tryz.prog 110 [Q8 w5] [] (.tup [e8 [1,2,3],a7 .i64 0]) []:=by
 have hS:F0 w5:=a3A (by decide) (by decide)
 have lr:=S7 w5 (a2t hS)
 rw [hS.r] at lr
 obtain ⟨U0,u1,u2,r0⟩:=b0H (a6i 0 (by decide)).1 (a6i 0 (by decide)).2.1 (a6i 0 (by decide)).2.2.1 (by decide) (by decide) (by decide)
 have rS:∀k,a8 Tryz.prog 164 [e8 (nI (N0 k))] [] (.c (.own 0 0 (N0 k).length true)) [k9 (nI (N0 k))]:=fun k=>by
  have:=aN2 (nI (N0 k)) (by rw [a5r];unfold N0;split<;>(try split)<;>decide)
  rwa [a5r] at this
 (refine ac Tryz.func110 ?_;conv=>whnf)
 refine b0x ?_
 conv=>whnf
 repeat' (first|refine zx ?_|refine qp lr ?_|refine ⟨by decide,?_⟩|refine zd ?_ ?_<;>intro h<;>try omega|fail)<;>conv=>whnf
 all_goals try omega
 refine g8 b9 (fun k=>([J,S.c (C.t (T.ptr (a1j w5))),J,J,S.c (C.own 0 0 5 true)]++Jn 15++[a7 .i64 5,a7 .i64 k]++Jn 41,[k9 (aI0 k)])) 5 (fun _=>True) [some 0] trivial
  ⟨rfl,rfl,⟨b7 (rows:=(aI0 0).map d7) rfl rfl rfl rfl rfl,trivial⟩,⟨rfl,⟨rfl,rfl,rfl,fun h=>h⟩,rfl,rfl,trivial⟩⟩ ?_
 intro k hk _
 by_cases hlt:k<5
 ·have gv:(aI0 k)[0+(k:Int).toNat]? =some 0:=by rw [D8,lbX];exact b2F k hlt
  have eB:=(al8 (l:=aI0 k) (v:=(k:Int)) (show 0+(k:Int).toNat=k by omega)).trans (congrArg k9 (b4D k hlt))
  conv=>whnf
  repeat' (first|refine zx ?_|refine a98 gv ?_|refine zd ?_ ?_<;>intro h<;>try omega|fail)<;>conv=>whnf
  all_goals first
   |omega
   |exact ⟨hlt,trivial,[some 0],rfl,rfl,⟨⟨rfl,rfl,rfl,.inl ⟨congrArg Blk.rows eB,Eq.mpr (congrArg (fun b=>C9 (Blk.rows b)) eB) (c6 _)⟩⟩,trivial⟩,⟨rfl,⟨rfl,rfl,rfl,fun h=>h⟩,rfl,c7 (by omega),trivial⟩⟩
 ·have hke:k=5:=by omega
  subst hke
  rw [b3E]
  conv=>whnf
  repeat' (first|refine zx ?_|refine qp 0 ?_|refine .inr ⟨_,_,x8 [0] r0 ⟨b3W (a1j w5),a2a (a78 (l:=nI (N0 0)) (by simp) rfl),trivial⟩ rfl,?_⟩|refine B3 _ (by decide +kernel) rfl ?_|refine zd ?_ ?_<;>intro h<;>try omega|fail)<;>conv=>whnf
  all_goals try omega
  refine a2l (σ:={x:Nat × List Int // x.1<=5∧b5s x.2}) (fun x=>([J,S.c (C.t (T.ptr (a1j w5))),J,J,e8 (nI (N0 x.1.1)),J,e8 x.1.2]++Jn 32++[a7 .i64 5,a7 .i64 x.1.1]++Jn 22,[])) (fun x=>5 - x.1.1) ⟨(0,U0),B9 _,u1,u2⟩ []
   ⟨rfl,rfl,trivial,⟨rfl,ad0 rfl rfl (fun h=>h) rfl rfl rfl,rfl,rfl,rfl,trivial⟩⟩ ?_
  rintro ⟨⟨k,U⟩,hk,hU⟩
  have hk:k<=5:=hk
  have hU:b5s U:=hU
  refine x4 b9 ?_
  conv=>whnf
  repeat' (first|refine zx ?_|refine zd ?_ ?_<;>intro h<;>try omega|fail)<;>conv=>whnf
  ·have h:(k:Int)<5:=h
   have hlt:k<5:=by omega
   obtain ⟨zs,z1,de⟩:=b84 k hlt
   have cl:=rS k
   have cn:=a8y U k (by have:=hU.l;omega)
   obtain ⟨l1,l2,l3⟩:=b4i k hlt
   refine x4 b9 ?_
   conv=>whnf
   refine a2C (a3g ?_)
   refine S9 b9 ([J,S.c (C.t (T.ptr (a1j w5))),J,J,e8 (nI (N0 k)),J,e8 U,J,S.c (C.t (T.ptr [ti k]))]++Jn 30++[a7 .i64 5,a7 .i64 k]++Jn 22) [] ?_ ?_
   ·conv=>whnf
    repeat' (first|refine zx ?_|refine zd ?_ ?_<;>intro h<;>try omega|fail)<;>conv=>whnf
    all_goals first
     |exact ⟨[],rfl,rfl,trivial,⟨.inl rfl,.inl rfl,.inl rfl,.inr (a88 (r:=0) rfl rfl (fun h=>h) rfl (b5o [ti (k:Int)])),.inl rfl,.inl rfl,trivial⟩⟩
   refine S9 b9 ([J,S.c (C.t (T.ptr (a1j w5))),J,J,e8 (nI (N0 k)),J,e8 U,J,S.c (C.t (T.ptr [ti k])),e8 (nI (a3l k))]++Jn 29++[a7 .i64 5,a7 .i64 k]++Jn 22) [] ?_ ?_
   ·conv=>whnf
    repeat' (first|refine zx ?_|refine .inl ⟨_,_,a12 cl rfl rfl (c6 _),?_⟩|refine .inr ⟨_,_,de,?_⟩|refine zd ?_ ?_<;>intro h<;>try omega|fail)<;>conv=>whnf
    all_goals first
     |exact ⟨[],rfl,rfl,trivial,⟨.inl rfl,.inl rfl,.inl rfl,.inl rfl,.inr (.vc (b0d rfl rfl z1 (by rw [a5r]))),.inl rfl,.inl rfl,trivial⟩⟩
   refine k8 b9 _ ?_
   by_cases hk1:k=0∨k=4
   ·obtain ⟨o1,o2,o3,o4⟩:=b2A k hlt hk1
    cases hb:(U.any fun x=>decide (x=(k:Int))) with
    |false=>
     rw [hb] at cn
     conv=>whnf
     repeat' (first|refine zx ?_|refine qp cn ?_|refine zd ?_ ?_<;>intro h<;>try omega|fail)<;>conv=>whnf
     all_goals try omega
     all_goals try (exfalso;contradiction)
     all_goals first
     |(refine k8 b9 _ ?_
       (conv=>whnf)
       repeat' (first|refine zx ?_|refine zd ?_ ?_<;>intro h<;>try omega|fail)<;>conv=>whnf
       exact ⟨[],⟨(k+1,U),by show k+1<=5;omega,hU⟩,⟨rfl,rfl,trivial,⟨rfl,g9 (by show _=M4 (nI (N0 (k+1)));rw [o1]),rfl,rfl,c7 (by show _=((k+1:Nat):Int);omega),trivial⟩⟩,by show 5 - (k+1)<5 - k;omega⟩)
    |true=>
     rw [hb] at cn
     obtain ⟨U2,v1,v2,rf⟩:=b0H l1 l2 l3 o2 o3 o4
     have hU2:b5s U2:=⟨v1,v2⟩
     conv=>whnf
     repeat' (first|refine zx ?_|refine qp cn ?_|refine qp rf ?_|refine B3 _ (by decide +kernel) rfl ?_|refine zd ?_ ?_<;>intro h<;>try omega|fail)<;>conv=>whnf
     all_goals try omega
     all_goals try (exfalso;contradiction)
     all_goals first
     |(refine k8 b9 _ ?_
       (conv=>whnf)
       repeat' (first|refine zx ?_|refine zd ?_ ?_<;>intro h<;>try omega|fail)<;>conv=>whnf
       exact ⟨[],⟨(k+1,U2),by show k+1<=5;omega,hU2⟩,⟨rfl,rfl,trivial,⟨rfl,g9 (by show _=M4 (nI (N0 (k+1)));rw [o1]),rfl,rfl,c7 (by show _=((k+1:Nat):Int);omega),trivial⟩⟩,by show 5 - (k+1)<5 - k;omega⟩)
   ·obtain ⟨o1,o2⟩:=b2G k hlt (by omega)
    have hb:(U.any fun x=>decide (x=(k:Int)))=true:=lbw.2 ⟨k,hU.m k (by omega) (by omega),by simp⟩
    rw [hb] at cn
    have rf:=b8W l1 l2 l3 (c:=k) (by omega) (by omega) o2
    conv=>whnf
    repeat' (first|refine zx ?_|refine qp cn ?_|refine qp rf ?_|refine B3 _ (by decide +kernel) rfl ?_|refine zd ?_ ?_<;>intro h<;>try omega|fail)<;>conv=>whnf
    all_goals try omega
    all_goals try (exfalso;contradiction)
    all_goals first
     |(refine k8 b9 _ ?_
       (conv=>whnf)
       repeat' (first|refine zx ?_|refine zd ?_ ?_<;>intro h<;>try omega|fail)<;>conv=>whnf
       exact ⟨[],⟨(k+1,U),by show k+1<=5;omega,hU⟩,⟨rfl,rfl,trivial,⟨rfl,g9 (by show _=M4 (nI (N0 (k+1)));rw [o1]),rfl,rfl,c7 (by show _=((k+1:Nat):Int);omega),trivial⟩⟩,by show 5 - (k+1)<5 - k;omega⟩)
  ·have h:¬(k:Int)<5:=h
   have hke:k=5:=by omega
   subst hke
   refine k8 b9 _ ?_
   conv=>whnf
   repeat' (first|refine zx ?_|refine zd ?_ ?_<;>intro h<;>try omega|fail)<;>conv=>whnf
   all_goals first
    |omega
    |exact j2 ⟨rfl,rfl,trivial⟩
open Go.RowKit Go.Shelf
theorem b37 {e:Ev} (hs:e.Sized) (h1:e.mats=1) (hm:e.moves.length=2) (hp:e.purities=[]) (hsrc:∀x ∈ e.moves,0<=x.src∧x.src<e.places.length):EvT e:=
 ⟨hs,fun _=>⟨hs,by omega,by omega,by omega,by rw [hp];decide,hsrc,by rw [hp];intro p h;cases h⟩,by rw [hm,h1];decide⟩
theorem b3c (r:Int):EvT (exW r):=b37 (a13 r) rfl rfl rfl (by simp [exW])
theorem b7Z:EvT aP9:=b37 aQ8 rfl rfl rfl (by decide)
abbrev b4Z:T:=.sl 1 .any [[M4 [0]]]
theorem b3J:a8 Tryz.prog 164 [.c (.t (.sl 0 .nil []))] [] (.c (.t (.sl 0 .nil []))) []:=by
 (refine ac Tryz.func164 ?_;(conv=>whnf);repeat (refine zy ?_;conv=>whnf))
 repeat' (first|refine zx ?_|refine zd ?_ ?_<;>intro h<;>try omega|fail)<;>conv=>whnf
 all_goals first
  |exact j2 rfl
theorem aR2 (x:T):a8 Tryz.prog 109 [evS (exW 25),e8 [0],.c (.t x),a7 .i64 0] [] (.c (.t b4Z)) []:=by
 have wo:=aH8
 have po:=P4 aP9 b7Z I8.2.2 ⟨_,b3C⟩
 have cl:=b4n [0] (by decide)
 (refine ac Tryz.func109 ?_;(conv=>whnf);repeat ((first|refine b0x ?_|refine zy ?_);conv=>whnf))
 repeat' (first|refine zx ?_|refine qp wo ?_|refine qp po ?_|refine qp cl ?_|refine zd ?_ ?_<;>intro h<;>try omega|fail)<;>conv=>whnf
 all_goals first
  |omega
  |exact j2 rfl
abbrev bb8 (l:List (List Int)):Blk:={ mode:=.live,elem:=31,size:=1,rows:=toC (l.map fun x=>[M4 x]),box:=false }
theorem aQ4:a8 Tryz.prog 109 [evS (exW 25),.c (.t (.sl 0 .nil [])),e8 [0],a7 .i64 1] [] (.c (.t b4Z)) []:=by
 have cn:=b3J
 (refine ac Tryz.func109 ?_;(conv=>whnf);repeat ((first|refine b0x ?_|refine zy ?_);conv=>whnf))
 repeat' (first|refine zx ?_|refine zd ?_ ?_<;>intro h<;>try omega|fail)<;>conv=>whnf
 all_goals try omega
 refine g8 b9 (fun k=>([J,S.c (C.t (T.sl 0 .nil [])),e8 [0],a7 .i64 1,S.c (C.t (T.ptr (evT (exW 25)))),J,J,J,J,S.c (C.own 0 0 k true)]++Jn 11++[e8 [0],a7 .i64 1,a7 .i64 k]++Jn 21,[bb8 (([[0]]:List (List Int)).take k)])) 1 (fun _=>True) [none] trivial
  ⟨rfl,rfl,⟨⟨rfl,rfl⟩,trivial⟩,⟨rfl,rfl,rfl,rfl,⟨rfl,rfl,rfl⟩,rfl,rfl,rfl,trivial⟩⟩ ?_
 intro k hk _
 by_cases hlt:k<1
 ·have hk0:k=0:=by omega
  subst hk0
  conv=>whnf
  repeat' (first|refine zx ?_|refine qp cn ?_|refine qp 0 ?_|refine qp 0 ?_|refine qp 1 ?_|refine qp 0 ?_|refine f9 (show ([0]:List Int)[0]? =some 0 from rfl) ?_|refine ⟨show _*(8+1)<=_ by decide,?_⟩|refine ⟨⟨by decide,by decide,by decide⟩,?_⟩|refine E8 rfl (by decide) ?_|refine o6 (B9 _) (by decide) ?_|refine .inr ⟨_,_,x8 [1] (aR2 _) ⟨b3W (evT (exW 25)),a2a (a78 (l:=[0]) (by simp) rfl),ah8,ah8,trivial⟩ rfl,?_⟩|refine B3 _ (by decide +kernel) rfl ?_|refine zd ?_ ?_<;>intro h<;>try omega|fail)<;>conv=>whnf
  all_goals first
   |omega
   |exact ⟨by decide,trivial,[some 2],rfl,rfl,⟨b7 (rows:=[[M4 [0]]]) rfl rfl rfl rfl rfl,trivial⟩,⟨rfl,rfl,rfl,rfl,⟨rfl,rfl,rfl,fun h=>h⟩,rfl,rfl,c7 (by decide),trivial⟩⟩
 ·have hke:k=1:=by omega
  subst hke
  conv=>whnf
  repeat' (first|refine zx ?_|refine zd ?_ ?_<;>intro h<;>try omega|fail)<;>conv=>whnf
  all_goals first
   |omega
   |exact j2 (show VC _ (fun id=>E6 [] id=true) _ _ from p4 rfl rfl (by intro h;cases h) rfl rfl rfl)
theorem as9:a8 Tryz.prog 40 [evS (exW 25)] [] (.tup [.c (.t b4Z),a7 .i64 0]) []:=by
 have us:=b4W
 have ck:=a0o (exW 25) (a13 25)
 rw [I8.2.1] at ck
 have po:=a54 (exW 25) (b3c 25) (.inr aQ3)
 have s1:=aQ4
 have m1:(([0]:List Int).map d7).length=1:=rfl
 have m2:([[M4 [0]]]:List (List T)).length=1:=rfl
 (refine ac Tryz.func40 ?_;(conv=>whnf);repeat ((first|refine b0x ?_|refine zy ?_);conv=>whnf))
 repeat' (first|refine zx ?_|refine qp us ?_|refine qp ck ?_|refine qp po ?_|refine zd ?_ ?_<;>intro h<;>try omega|fail)<;>conv=>whnf
 all_goals try omega
 refine g8 b9 (fun k=>([J,S.c (C.t (T.ptr (evT (exW 25)))),J,J,e8 [0],a7 .i64 ((k:Int)+1)]++Jn 28,[])) 1 (fun k=>k=0) [] rfl
  ⟨rfl,rfl,trivial,⟨rfl,rfl,c7 (by omega),trivial⟩⟩ ?_
 intro k hk hk0
 subst hk0
 conv=>whnf
 repeat' (first|refine zx ?_|refine qp s1 ?_|refine zd ?_ ?_<;>intro h<;>try omega|fail)<;>conv=>whnf
 all_goals first
  |omega
  |exact j2 ⟨rfl,rfl,trivial⟩
def orW:List OrP:=[(ae4 (exW 25) 1).getD orZ,(ae4 (exW 25) 2).getD orZ,(ae4 (exW 25) 3).getD orZ]
theorem b6c:∀k:Nat,k<3->([1,2,3]:List Int)[k]? =some ((k:Int)+1)∧orW.take (k+1)=orW.take k++[(ae4 (exW 25) ((k:Int)+1)).getD orZ]:=fun k hk=>by
 match k,hk with
 |0,_=>exact ⟨rfl,rfl⟩
 |1,_=>exact ⟨rfl,rfl⟩
 |2,_=>exact ⟨rfl,rfl⟩
abbrev b9o (l:List OrP):Blk:={ mode:=.live,elem:=114,size:=4,rows:=toC (l.map a3t),box:=false }
abbrev bb9 (l:List OrP):T:=.sl 4 .any (l.map a3t)
theorem b2n:a8 Tryz.prog 41 [evS (exW 25)] [] (.tup [.c (.t (bb9 orW)),a7 .i64 0]) []:=by
 have sy:=a4t (exW 25) (a13 25) (b3c 25).sm
 rw [EvT.r I8.2.1,I8.2.1,b7y] at sy
 have co:=aU8
 (refine ac Tryz.func41 ?_;(conv=>whnf);repeat ((first|refine b0x ?_|refine zy ?_);conv=>whnf))
 repeat' (first|refine zx ?_|refine qp sy ?_|refine qp co ?_|refine B3 _ (by decide +kernel) rfl ?_|refine zd ?_ ?_<;>intro h<;>try omega|fail)<;>conv=>whnf
 all_goals try omega
 refine g8 b9 (fun k=>([J,S.c (C.t (T.ptr (evT (exW 25)))),J,J,J,J,J,S.c (C.own 0 0 k true)]++Jn 19++[e8 [1,2,3],a7 .i64 3,a7 .i64 k]++Jn 15,[b9o (orW.take k)])) 3 (fun _=>True) [none] trivial
  ⟨rfl,rfl,⟨⟨rfl,rfl⟩,trivial⟩,⟨rfl,⟨rfl,rfl,rfl⟩,rfl,rfl,rfl,trivial⟩⟩ ?_
 intro k hk _
 by_cases hlt:k<3
 ·obtain ⟨g1,g2⟩:=b6c k hlt
  have og:=b1D (exW 25) (a13 25) (b3c 25).sm ((k:Int)+1)
  have lk:(orW.take k).length=k:=by rw [lbs];show min k 3=k;omega
  have lA:k<=(b9o (orW.take k)).rows.length:=by show k<=(toC _).length;rw [toC,lbr,lbr,lk];exact lbQ _
  conv=>whnf
  repeat' (first|refine zx ?_|refine qp og ?_|refine qp toC ?_|refine f9 g1 ?_|refine o6 lA (by simp [toC];omega) ?_|refine B3 _ (by decide +kernel) rfl ?_|refine zd ?_ ?_<;>intro h<;>try omega|fail)<;>conv=>whnf
  all_goals first
   |omega
   |(refine ⟨hlt,trivial,[some 2],rfl,rfl,⟨b7 (rows:=(orW.take (k+1)).map a3t) rfl rfl rfl ?_ rfl,trivial⟩,⟨rfl,⟨rfl,rfl,rfl,fun h=>h⟩,rfl,rfl,c7 (by omega),trivial⟩⟩
     rw [g2]
     exact L0 (f:=a3t) (x:=(ae4 (exW 25) ((k:Int)+1)).getD orZ) lk.symm)
 ·have hke:k=3:=by omega
  subst hke
  conv=>whnf
  repeat' (first|refine zx ?_|refine zd ?_ ?_<;>intro h<;>try omega|fail)<;>conv=>whnf
  all_goals first
   |omega
   |exact j2 ⟨show VC _ (fun id=>E6 [] id=true) _ _ from p4 (rows:=orW.map a3t) rfl rfl (by intro h;cases h) rfl rfl rfl,rfl,trivial⟩
theorem b66:EqS Tryz.prog 114 4:=by
 refine ⟨by kernel_rfl,fun us vs w h1 h2=>?_⟩
 match us,vs,h1,h2 with
 |[a,b,c,d],[a',b',c',d'],_,_=>
  have u3:=Tryz.underlying3
  have a3:=Tryz.isAgg3
  have z3:=Tryz.sizeOf3
  have hS:Tryz.prog.underlying 114=some (.struct (Tryz.prog.fieldsOf 114)):=by kernel_rfl
  have hp:Tryz.prog.stoodInHeld 114=false:=by kernel_rfl
  show (Op.equalIn 10000 114 (.agg #[.int .i64 a,.int .i64 b,.int .i64 c,.int .i64 d]) (.agg #[.int .i64 a',.int .i64 b',.int .i64 c',.int .i64 d'])).run Tryz.prog w=_
  rw [show (10000:Nat)=9999+1 from rfl,run_equalIn_agg w 9999 114 _ _ hS hp]
  simp only [Program.fieldsOf,Tryz.underlying114]
  go_simp
  by_cases h1:a=a'<;>by_cases h2:b=b'<;>by_cases h3:c=c'<;>by_cases h4:d=d'<;>simp [h1,h2,h3,h4]
theorem b7e:[M4 [0]][0]? =some (M4 [0]):=rfl
theorem b9v:orW[0]? =some ⟨2,0,-1,-1⟩:=by rfl
theorem a6T:a8 Tryz.prog 6 [] [] (d9 true) []:=by
 have e3:=ad5 23
 have e5:=ad5 25
 obtain ⟨lo,hi,hr,_,_,so,sb⟩:=al7
 have su:=as9
 have bl:=b2n
 have ne:=b8e
 have ra:=b1C b2U
 have pr:=b5j (exW 23) a6G pk1 (by decide) ac7 (by rw [a7C];decide) lo hi hr
 have i1:a8 Tryz.prog 17 [a7 .i64 21] [] (frS (fz 21)) []:=H4 21 (by decide) (by decide)
 have i2:a8 Tryz.prog 17 [a7 .i64 22] [] (frS (fz 22)) []:=H4 22 (by decide) (by decide)
 have s1:=ax5 (fz 21) (by decide +kernel) (by decide +kernel)
 have s2:=ax5 (fz 22) (by decide +kernel) (by decide +kernel)
 have r1:=a96 (fz 21) (by decide +kernel) (by decide +kernel)
 have r2:=a96 (fz 22) (by decide +kernel) (by decide +kernel)
 have sB:=ao5 (fz 21) (fz 22) true true (by decide +kernel) (by decide +kernel) (by decide +kernel) (by decide +kernel) r1 r2
 have sI:=aV0 [0] [0] (by decide) (by decide)
 rw [lbH rfl] at sI
 have l1:([[M4 [0]]]:List (List T)).length=1:=rfl
 have l2:(orW.map a3t).length=3:=rfl
 have l3:([Y1]:List (List T)).length=1:=rfl
 have hu:Tryz.prog.underlying 105=some (.pointer (Tryz.prog.pointee 105)):=by kernel_rfl
 refine ac Tryz.func6 ?_
 conv=>whnf
 repeat' (first|refine zz ?_|refine qp e3 ?_|refine qp e5 ?_|refine qp so ?_|refine qp sb ?_|refine qp su ?_|refine qp bl ?_|refine qp ne ?_|refine qp ra ?_|refine qp pr ?_|refine qp i1 ?_|refine qp i2 ?_|refine qp s1 ?_|refine qp s2 ?_|refine qp sB ?_|refine qp sI ?_|refine qp x ?_|refine b19 b66 rfl ?_|refine ⟨hu,?_⟩|refine f9 (f:=fun x:List T=>x) b07 ?_|refine f9 (f:=fun x:T=>[x]) b7e ?_|refine f9 b9v ?_|refine a90.weak ?_|refine B3 _ (by decide +kernel) rfl ?_|refine zd ?_ ?_<;>intro h<;>try omega|refine zy ?_|fail)<;>conv=>whnf
 all_goals first
  |omega
  |exact c9 rfl
theorem a6f {e:Ev} {ps:List E0} {m:Int} (h:a56 e ps m 2=true) (hm:m<=5):EvT e∧e.places.length<=12∧(e.moves.length:Int)<=m∧ps.length<=20∧e.purities.length<=3:=by
 unfold a56 a6j at h
 simp only [lbM,lbI] at h
 have hs:e.Sized:=⟨by omega,by omega,by omega,by omega,by omega⟩
 refine ⟨⟨hs,fun hc=>?_,?_⟩,by omega,by omega,by omega,by omega⟩
 ·obtain ⟨b1,b2,b3,b4⟩:=F2 hc
  refine ⟨hs,b1,b2,by omega,by omega,fun x hx=>?_,fun p hp=>?_⟩
  ·have:=a07 hc hx
   unfold X7 idx at this
   simp only [lbM,lbI] at this
   omega
  ·have hs:=(a32 hc).2.2.2.2.2.2
   unfold a1o at hs
   simp only [lbM] at hs
   have:=lbv.1 hs.2 p hp
   unfold a1d idx at this
   simp only [lbM,lbI] at this
   omega
 ·have h1:e.mats<=2:=by omega
  have h2:=lbV h1 (show (0:Int)<=(e.moves.length:Int) by omega)
  omega
abbrev av4:C:=C8 (Value.slice none 0 0)
abbrev b6L:List C:=[C8 (Value.int .i64 0),C8 (Value.int .i64 0),av4,C8 (Value.int .i64 0),av4,av4,av4,av4]
theorem S3 {n:Nat}:a5h av4 (.t (.sl n .any [])):=fun w M v hr=>hr.weak rfl
theorem b2g {P:Program} {g:FuncId} {H H':Hp} {r a b c d:S} (h:a8 P g [a,b,a0j a7x a7x,c,d] H r H'):a8 P g [a,b,.agg (b6L++b6L),c,d] H r H':=
 a5D h ⟨Q7 a,Q7 b,⟨V9 _,V9 _,S3,V9 _,S3,S3,S3,S3,V9 _,V9 _,S3,V9 _,S3,S3,S3,S3,trivial⟩,Q7 c,Q7 d,trivial⟩

end Go.Proofs.YtaejgdbahjjncaaGreat
