/- Part 10. -/
import Derived.Test.YtikokmdpigploaaGreatSk9
namespace Go.Proofs.YtikokmdpigploaaGreat
set_option linter.all false
set_option maxRecDepth 100000
set_option maxHeartbeats 8000000
open Go.RowKit
open St1 St2 St3 St4 St5 St6 St7 St8 StA StB StC
def b8T (e:Ev) (hs:e.Sized) (n:Int) (g:FuncId) (caps:List T) (q:A8->Bool) (hg:∀(k:Nat) (m:A8),e.moves[k]? =some m->E6 e=0->ec g (b3f m::caps.map fun x=>.c (.t x)) [] (i9 (q m)) []):
 ec 144 [evS e,eI n,.c (.t (.fn (.func g) caps))] [] (k9 (if E6 e=0 then w5 (fun k m=>decide ((k:Int)<n) && q m) 0 e.moves else [])) []:=by
 have l1:=hs.s2;have l2:(e.moves.map A8.row).length=e.moves.length:=zq;refine ac Tryz.func144 ?_;conv=>whnf
 repeat' (first|refine zx ?_|refine qp (b2T _ hs) ?_|apply zD<;>intro h<;>try omega)<;>conv=>whnf
 ·refine m9 ?_;rw [if_neg h];exact rfl
 have h0:E6 e=0:=om;rw [if_pos h0]
 let P:Nat->A8->Bool:=fun k m=>decide ((k:Int)<n) && q m
 refine j3 d7 (fun k=>([J,eI n,S.c (C.t (T.fn (.func g) caps)),sP 0 0 0,J,J,J,a0K 1 (R3 P e.moves k),J,J,J,J,J,J,S.c (C.t (a4m e.moves)),eI e.moves.length,eI k]++Jn 18,[evB e,x9 (R3 P e.moves k)])) e.moves.length (fun k=>True) [some 0,none] trivial
  ⟨rfl,rfl,⟨⟨rfl,rfl,rfl,.inl ⟨rfl,A7 e⟩⟩,rz⟩,⟨rfl,rfl,rz,rz,l9 rfl,e7 zq,e7 rfl,trivial⟩⟩ ?_
 intro k hk hI;conv=>whnf
 repeat' (first|refine zx ?_|apply zD<;>intro h<;>try omega)<;>conv=>whnf
 ·have hlt:k<e.moves.length:=by omega
  obtain ⟨x,hx⟩:∃x,e.moves[k]? =some x:=⟨_,lbf hlt⟩;refine i6 hx ?_;conv=>whnf
  have hpl:=a6G P e.moves k;have ha:(b3f x::caps.map fun x=>S.c (C.t x)).all S.isT=true:=by simp [S.isT,C.isT,A8.cs,A8.row]
  repeat' (first|refine zx ?_|refine .inl ⟨_,_,L2 (hg k x hx h0) ha rfl,?_⟩|refine zz ?_|refine w6 zt zu ?_|apply zD<;>intro h<;>try omega)<;>conv=>whnf
  ·have hP:P k x=true:=by simp [P,h];omega
   refine ⟨hlt,trivial,[some 0,some 3],rfl,rfl,⟨⟨rfl,rfl,rfl,.inl ⟨rfl,A7 e⟩⟩,e8 rfl rfl rfl ?_ rfl,trivial⟩,⟨rfl,rfl,rz,o8 rfl ?_,rz⟩⟩
   ·rw [a4t P hx hP,lbB];exact (congrArg (fun n=>List.take n (toC ((R3 P e.moves k).map k6))++toC [[ti k]]) zq).trans aV0
   ·rw [a4t P hx hP];simp [toC]
  all_goals
   have hP:P k x=false:=by simp [P];first|(intro hq;omega)|(intro _;assumption)
   refine ⟨hlt,trivial,[some 0,some 1],rfl,rfl,⟨⟨rfl,rfl,rfl,.inl ⟨rfl,A7 e⟩⟩,e8 rfl rfl rfl ?_ rfl,trivial⟩,⟨rfl,rfl,rz,o8 rfl ?_,rz⟩⟩
   ·rw [a1K P hx hP]
   ·rw [a1K P hx hP]
 ·have hk':w5 P 0 e.moves=R3 P e.moves k:=(ak0 P om).symm;show Fin 0 _ _ (k9 (w5 P 0 e.moves)) [];rw [hk'];exact L7 rfl zi rfl rfl zq
abbrev a5F (n:Int):T:=.ptr [ti n]
def b3v (e:Ev) (hs:e.Sized) (h0:E6 e=0) (m:A8) (hm:m ∈ e.moves) (hh mat lo hi:Int):
 ec 145 (b3f m::[T.ptr (evT e),a5F hh,a5F mat,a5F lo,a5F hi].map fun x=>.c (.t x)) [] (i9 (a4E e hh mat lo hi m)) []:=by
 have l1:=hs.s1;have l2:(e.places.map X4.row).length=e.places.length:=zq;have hmk:=V9 h0 hm;have h1:=a1T hmk;obtain ⟨x,hx⟩:∃x,e.places[m.src.toNat]? =some x:=⟨_,lbf om⟩;refine ac Tryz.func145 ?_;conv=>whnf
 repeat' (first|refine zx ?_|refine qp (a3v _ _ _) ?_|refine G7 h1.1 hx ?_|apply zD<;>intro<;>try omega)<;>conv=>whnf
 all_goals (refine d9 ?_;unfold a4E;rw [hx];simp_all;done)
def b7C (e:Ev) (hs:e.Sized) (hh mat lo hi:Int):ec 78 [evS e,eI hh,eI mat,eI lo,eI hi] [] (k9 (E7 e hh mat lo hi)) []:=by
 have l1:=hs.s2;have l2:(e.moves.map A8.row).length=e.moves.length:=zq
 (refine ac Tryz.func78 ?_;(conv=>whnf);repeat (refine zy ?_;conv=>whnf))
 refine .inr ⟨_,_,y4 [0,1,2,3,4] (b8T e hs (e.moves.map A8.row).length 145 [T.ptr (evT e),a5F hh,a5F mat,a5F lo,a5F hi] (a4E e hh mat lo hi) fun k m hm h0=>b3v e hs h0 m (lbm hm) hh mat lo hi)
  ⟨bv2 e,aN2,a1z (bu4 ?_),trivial⟩ rfl,?_⟩
 ·refine a68 (aj3 zq rfl zi rfl rfl) (a68 (aj3 zq rfl zi rfl rfl) (a68 (aj3 zq rfl zi rfl rfl) (a68 (aj3 zq rfl zi rfl rfl) (a68 (aj3 zq rfl zi rfl rfl) b7v))))
 conv=>whnf
 repeat' (first|refine zx ?_|apply zD<;>intro h<;>try omega|fail)<;>conv=>whnf
 refine m9 ?_;have:(if E6 e=0 then w5 (fun k m=>decide ((k:Int)<(e.moves.map A8.row).length) && a4E e hh mat lo hi m) 0 e.moves else [])=E7 e hh mat lo hi:=by
  unfold E7;split
  ·refine ai7 _ e.moves.length (fun k m hk=>?_) 0 om;simp;intro _;omega
  ·rfl
 rw [← this];exact rfl
def aX5 (A:Nat->List T) (g:Nat->LI) (B:Nat->List T) (id:Nat) (i:Nat):List C:=(A i).map .t++.own id 0 (g i).length true::(B i).map .t
def a3t (n:Nat) (A:Nat->List T) (g:Nat->LI) (B:Nat->List T):List (List C):=(List.range n).map fun i=>aX5 A g B (i+1) i
def bf6 (el:TypeId) (size n:Nat) (A:Nat->List T) (g:Nat->LI) (B:Nat->List T):Blk:={ mode:=.live,elem:=el,size:=size,rows:=a3t n A g B,box:=false }
def a0c (el:TypeId) (size n:Nat) (A:Nat->List T) (g:Nat->LI) (B:Nat->List T):Hp:=bf6 el size n A g B::(List.range n).map fun i=>x9 (g i)
def a0W {n:Nat} {A:Nat->List T} {g:Nat->LI} {B:Nat->List T}:(a3t n A g B).length=n:=by simp [a3t]
def a3F {n i:Nat} {A:Nat->List T} {g:Nat->LI} {B:Nat->List T} (h:i<n):(a3t n A g B)[i]? =some (aX5 A g B (i+1) i):=by simp [a3t,h]
def a8E {el:TypeId} {size n:Nat} {A:Nat->List T} {g:Nat->LI} {B:Nat->List T}:(a0c el size n A g B).length=n+1:=by simp [a0c]
def aa1 (n j N:Nat):List (Option Nat):=(List.range (n+1)).map fun i=>some (if i=j+1 then N else i)
def a08 {n j N i:Nat} (h:i<n+1):(aa1 n j N)[i]? =some (some (if i=j+1 then N else i)):=by simp [aa1,h]
def aC4 {n j N:Nat}:(aa1 n j N).length=n+1:=by simp [aa1]
def T3 {ρ:List (Option Nat)} {H:Hp}:∀l:List T,a49 ρ H (l.map C.t) (l.map C.t)
 |[]=>trivial
 |x::r=>⟨a0L x,T3 r⟩
def a5a {ρ:List (Option Nat)} {H:Hp}:∀{a b c d:List C},a49 ρ H a b->a49 ρ H c d->a49 ρ H (a++c) (b++d)
 |[],[],_,_,_,h=>h
 |x::a,y::b,_,_,h1,h2=>⟨h1.1,a5a h1.2 h2⟩
 |[],_::_,_,_,h,_=>h.elim
 |_::_,[],_,_,h,_=>h.elim
def a7D {ρ:List (Option Nat)} {H:Hp}:∀{xs ys:List (List C)},xs.length=ys.length->(∀ (i:Nat) (x y:List C),xs[i]? =some x->ys[i]? =some y->a49 ρ H x y)->a6B ρ H xs ys
 |[],[],_,_=>trivial
 |[],_::_,h,_=>by simp at h
 |_::_,[],h,_=>by simp at h
 |x::xs,y::ys,h,hh=>⟨hh 0 x y rfl rfl,a7D (by simpa using h) fun i a b ha hb=>hh (i+1) a b (by simpa using ha) (by simpa using hb)⟩
def a5g (g:Nat->LI) (j:Nat) (l:LI):Nat->LI:=fun i=>if i=j then l else g i
def b5B {el:TypeId} {size n j N:Nat} {A:Nat->List T} {g:Nat->LI} {B:Nat->List T} {l:LI} {env env':Env} {H:Hp} {k0:Blk} (hj:j<n) (hnN:n<N)
 (h0:H[0]? =some k0) (hk0:k0.mode=.live∧k0.app=false∧k0.elem=el∧k0.size=size) (hr:k0.rows=(a3t n A g B).set j ((A j).map .t++.own N 0 l.length true::(B j).map .t))
 (hm:∀m,m<n->m≠j->H[m+1]? =some (x9 (g m))) (hN:H[N]? =some (x9 l)) (hE:X5 (aa1 n j N) H env env'):Ent 0 (aa1 n j N) env H env' (a0c el size n A (a5g g j l) B):=by
 refine ⟨rfl,a0F fun a b m h1 h2=>?_,a2N (by rw [aC4,a8E]) fun i k' hk=>?_,hE⟩
 ·have ha:=(lbe.1 h1).1;have hb:=(lbe.1 h2).1;rw [aC4] at ha hb;rw [a08 ha] at h1;rw [a08 hb] at h2;simp only [lb4] at h1 h2;split at h1<;>split at h2<;>omega
 ·have hi:=(lbe.1 hk).1;rw [a8E] at hi;refine ⟨if i=j+1 then N else i,?_⟩;cases i with
  |zero=>
   refine ⟨k0,a08 hi,by simpa using h0,?_⟩;simp [a0c] at hk;subst hk;obtain ⟨q1,q2,q3,q4⟩:=hk0;refine ⟨by unfold a31;rw [q1,q2];rfl,q3,q4,.inr ?_⟩;rw [hr];refine a7D (by rw [List.length_set,a0W];exact a0W.symm) fun a x y hx hy=>?_
   have han:a<n:=by have:=(lbe.1 hy).1;rw [show (bf6 el size n A (a5g g j l) B).rows=a3t n A (a5g g j l) B from rfl,a0W] at this;exact this
   have hy:(a3t n A (a5g g j l) B)[a]? =some y:=hy;rw [a3F han] at hy;injection hy with hy;subst hy;rw [lbg,a0W] at hx;by_cases haj:j=a
   ·subst haj;rw [if_pos rfl,if_pos hj] at hx;injection hx with hx;subst hx;unfold aX5;have e1:a5g g j l j=l:=by simp [a5g]
    rw [e1];refine a5a (T3 _) ⟨⟨?_,rfl,rfl,fun h=>h⟩,T3 _⟩;rw [a08 om,if_pos rfl]
   ·rw [if_neg haj,a3F han] at hx;injection hx with hx;subst hx;unfold aX5;have e1:a5g g j l a=g a:=by unfold a5g;rw [if_neg (fun h=>haj h.symm)]
    rw [e1];refine a5a (T3 _) ⟨⟨?_,rfl,rfl,fun h=>h⟩,T3 _⟩;rw [a08 om,if_neg om]
  |succ i=>
   have hin:i<n:=om;have hk:((List.range n).map fun i=>x9 (a5g g j l i))[i]? =some k':=hk;rw [lba,lbh hin] at hk;injection hk with hk;subst hk;by_cases hij:i=j
   ·subst hij;refine ⟨x9 l,a08 hi,by rw [if_pos rfl];exact hN,?_⟩;have e1:a5g g i l i=l:=by simp [a5g]
    show a2q _ _ _ (x9 (a5g g i l i));rw [e1];exact ⟨rfl,rfl,rfl,.inl ⟨rfl,i5 _⟩⟩
   ·refine ⟨x9 (g i),a08 hi,by rw [if_neg om];exact hm i hin hij,?_⟩;have e1:a5g g j l i=g i:=by unfold a5g;rw [if_neg hij]
    show a2q _ _ _ (x9 (a5g g j l i));rw [e1];exact ⟨rfl,rfl,rfl,.inl ⟨rfl,i5 _⟩⟩
def b1m (id n:Nat):List (Option Nat):=some id::List.replicate n none
def aW1 {ρ:List (Option Nat)} {H:Hp}:∀{n:Nat} {R:List Blk},R.length=n->(∀ k ∈ R,k.rows=[]∧k.mode=.live)->a4n ρ H (List.replicate n none) R
 |0,[],_,_=>trivial
 |n+1,k::R,h,hh=>⟨hh k zq,aW1 (by simpa using h) fun k hk=>hh k (by simp [hk])⟩
 |0,_::_,h,_=>by simp at h
 |n+1,[],h,_=>by simp at h
def al3 {H:Hp}:∀{n:Nat},U1 (List.replicate n none) H=true
 |0=>by cases H<;>rfl
 |n+1=>by
  rw [aF9];cases H with
  |nil=>rfl
  |cons k H=>exact al3 (H:=H)
def ax4 {m:Nat}:∀{n:Nat} {H:Hp},a4X m (List.replicate n none) H=false
 |0,H=>by cases H<;>rfl
 |n+1,[]=>rfl
 |n+1,k::H=>by
  rw [aF9];unfold a4X;rw [ax4];cases k.mode<;>rfl
def b8M {el:TypeId} {size n id:Nat} {A B:Nat->List T} {env env':Env} {H:Hp} {k0:Blk} {s:Nat}
 (h0:H[id]? =some k0) (hk0:k0.mode=.live∧k0.app=false∧k0.elem=el∧k0.size=size) (hr:k0.rows=(List.range n).map fun i=>(A i).map .t++.t (.sl s .nil [])::(B i).map .t)
 (hE:X5 (b1m id n) H env env'):Ent 0 (b1m id n) env H env' (a0c el size n A (fun _=>[]) B):=by
 obtain ⟨q1,q2,q3,q4⟩:=hk0;refine ⟨rfl,?_,⟨?_,?_⟩,hE⟩
 ·unfold b1m a0c U1;rw [ax4,al3]
  rfl
 ·simp only [h0];refine ⟨by unfold a31;rw [q1,q2];rfl,q3,q4,.inr ?_⟩;rw [hr];refine a7D (by rw [show (bf6 el size n A (fun _=>[]) B).rows=a3t n A (fun _=>[]) B from rfl,a0W];simp) fun a x y hx hy=>?_
  have han:a<n:=by have:=(lbe.1 hx).1;simpa using this
  have hy:(a3t n A (fun _=>[]) B)[a]? =some y:=hy;rw [a3F han] at hy;injection hy with hy;subst hy;rw [lba,lbh han] at hx;injection hx with hx;subst hx;unfold aX5;refine a5a (T3 _) ⟨⟨?_,rz⟩,T3 _⟩;show (b1m id n)[a+1]? =some none;unfold b1m;rw [List.getElem?_cons_succ,lbk,if_pos han]
 ·refine aW1 zq fun k hk=>?_
  obtain ⟨i,_,rfl⟩:=lbw.1 hk;exact rz
def b6s {el:TypeId} {size n:Nat} {A:Nat->List T} {g:Nat->LI} {B:Nat->List T} {env env':Env}
 (hE:X5 [some 0] (a0c el size n A g B) env env'):Ent 0 [some 0] env (a0c el size n A g B) env' [{ mode:=.live,elem:=el,size:=size,rows:=toC ((List.range n).map fun i=>A i++x6 (g i)::B i),box:=false }]:=by
 refine ⟨rfl,rfl,⟨⟨rfl,rfl,rfl,.inr ?_⟩,trivial⟩,hE⟩;show a6B _ _ (a3t n A g B) (toC _);refine a7D (by rw [a0W];simp [toC]) fun a x y hx hy=>?_
 have han:a<n:=by have:=(lbe.1 hx).1;rw [a0W] at this;exact this
 rw [a3F han] at hx;injection hx with hx;subst hx;have hy:(((List.range n).map fun i=>A i++x6 (g i)::B i).map (·.map C.t))[a]? =some y:=hy;rw [lba,lba,lbh han] at hy;injection hy with hy;subst hy;show a49 _ _ _ ((A a++x6 (g a)::B a).map C.t);rw [lbB,ap1];unfold aX5;refine a5a (T3 _) ⟨?_,T3 _⟩;have hk:(a0c el size n A g B)[a+1]? =some (x9 (g a)):=by simp [a0c,han]
 exact show VC _ _ _ _ from u5 (by simp [L9];rfl) hk zi rfl rfl zq
def b5p {el:TypeId} {size n:Nat} {A:Nat->List T} {g:Nat->LI} {B:Nat->List T}:∀k ∈ a0c el size n A g B,okB (n+1) k:=by
 intro k hk;rcases lbz.1 hk with rfl|hk
 ·intro r hr c hc;obtain ⟨i,hi,rfl⟩:=lbw.1 hr;have hi:=lbA.1 hi;unfold aX5 at hc;rcases lby.1 hc with hc|hc
  ·obtain ⟨x,_,rfl⟩:=lbw.1 hc;trivial
  ·rcases lbz.1 hc with rfl|hc
   ·show i+1<n+1;omega
   ·obtain ⟨x,_,rfl⟩:=lbw.1 hc;trivial
 ·obtain ⟨i,_,rfl⟩:=lbw.1 hk;exact u0 rfl
def b3H {el:TypeId} {size n:Nat} {A:Nat->List T} {g:Nat->LI} {B:Nat->List T} {env env':Env} {R:Hp} (hE:X5 (idR (n+1)) (a0c el size n A g B++R) env env'):Ent 0 (idR (n+1)) env (a0c el size n A g B++R) env' (a0c el size n A g B):=
 b0X a8E (H8 _) b5p hE
def bd3 (h:Fr) (b:Bool) (gs:LI) (n:Int):List T:=[ti h.p.sg,x6 h.p.dl,ti h.q.sg,x6 h.q.dl,tb b,x6 gs,ti n]
def hiF (o:Option (Rat × Rat)):Fr:=match o with
 |some (_,hi)=>fz hi
 |none=>C6
def a51 (e:Ev) (i:Nat):Option (Rat × Rat):=match e.moves[i]? with
 |some x=>N1 e x
 |none=>none
def aG4 {e:Ev} {i:Nat} {x:A8} (h:e.moves[i]? =some x):a51 e i=N1 e x:=by unfold a51;rw [h]
def a6a (t:n7) (kind:Int) (i:Nat):List T:=bd3 (hiF (a51 t.ev i)) (a51 t.ev i).isSome (t6 t.finds kind i) (z9 t.cleans kind i)
abbrev aF5 (t:n7) (kind:Int):T:=.sl 7 .any ((List.range t.ev.moves.length).map (a6a t kind))
def kn1 (e:Ev) (k i:Nat):List T:=
 let h:=if i<k then hiF (a51 e i) else C6
 [ti h.p.sg,x6 h.p.dl,ti h.q.sg,x6 h.q.dl,tb (decide (i<k) && (a51 e i).isSome),.sl 0 .nil [],ti 0]
abbrev knB (rows:List (List T)):Blk:={ mode:=.live,elem:=147,size:=7,rows:=toC rows,box:=false }
def aR4 {e:Ev} {k i:Nat} (h:i≠k):kn1 e (k+1) i=kn1 e k i:=by
 unfold kn1;by_cases h1:i<k
 ·simp only [if_pos h1,if_pos (show i<k+1 by omega),h1,show i<k+1 by omega]
 ·simp only [if_neg h1,if_neg (show ¬i<k+1 by omega),h1,show ¬i<k+1 by omega]
def b2s {e:Ev} {k n:Nat} (h:k<n):(toC ((List.range n).map (kn1 e k))).set k ((kn1 e (k+1) k).map C.t)=toC ((List.range n).map (kn1 e (k+1))):=by
 apply a0A;intro i;unfold toC;rw [lbg,lba,lba,lba];by_cases hi:k=i
 ·subst hi;rw [if_pos rfl];simp [h]
 ·rw [if_neg hi,lba];cases hr:(List.range n)[i]? with
  |none=>rfl
  |some j=>
   have:j=i:=by
    obtain ⟨h1,h2⟩:=lbe.1 hr;simp at h2;omega
   subst this;show some ((kn1 e k j).map C.t)=some ((kn1 e (k+1) j).map C.t);rw [aR4 (fun h=>hi h.symm)]
def aQ5 {e:Ev} {k:Nat} (h:a51 e k=none):kn1 e (k+1) k=kn1 e k k:=by
 unfold kn1;simp only [if_pos (show k<k+1 by omega),if_neg (show ¬k<k by omega),h];simp [hiF]
def aM8 {e:Ev} {k n:Nat} (h:a51 e k=none):(List.range n).map (kn1 e (k+1))=(List.range n).map (kn1 e k):=lbp fun i _=>by
 by_cases hi:i=k
 ·subst hi;exact aQ5 h
 ·exact aR4 hi
def b5K {e:Ev} {n:Nat} {ρ:List (Option Nat)} {H:Hp}:a6B ρ H (List.replicate n [C.t (ti 0),C.t (.sl 0 .nil []),C.t (ti 0),C.t (.sl 0 .nil []),C.t (tb false),C.t (.sl 0 .nil []),C.t (ti 0)]) (toC ((List.range n).map (kn1 e 0))):=by
 refine a7D zt fun i x y hx hy=>?_
 have hi:i<n:=by have:=(lbe.1 hx).1;simpa using this
 rw [lbk,if_pos hi] at hx;injection hx with hx;subst hx;unfold toC at hy;rw [lba,lba,lbh hi] at hy;injection hy with hy;subst hy;show a49 _ _ _ ((kn1 e 0 i).map C.t);unfold kn1;simp only [if_neg (show ¬i<0 by omega)];exact rz
def knA (e:Ev) (i:Nat):List T:=[ti (hiF (a51 e i)).p.sg,x6 (hiF (a51 e i)).p.dl,ti (hiF (a51 e i)).q.sg,x6 (hiF (a51 e i)).q.dl,tb (a51 e i).isSome]
def H5 (t:n7) (kind:Int) (k i:Nat):LI:=t6 (t.finds.take k) kind i
def a7M (l:List Z9) (f:Z9) (kind:Int) (i:Nat):t6 (l++[f]) kind i=if f.kind=kind∧f.mv=(i:Int) then t6 l kind i++[f.grams] else t6 l kind i:=by
 rw [a7y];split<;>simp
def Y2 {α:Type} {l:List α} {k:Nat} {x:α} (h:l[k]? =some x):l.take (k+1)=l.take k++[x]:=by rw [lbF,h];rfl
def kn3 (t:n7) (kind:Int) (k i:Nat):List T:=knA t.ev i++x6 (t6 t.finds kind i)::[ti (z9 (t.cleans.take k) kind i)]
def bn0 (t:n7) (kind:Int) (k i:Nat):z9 (t.cleans.take k) kind i<=t.cleans.length:=lbR (lbt _ _) zo
def b8E {t:n7} {kind:Int} {n:Nat}:(List.range n).map (kn3 t kind t.cleans.length)=(List.range n).map (a6a t kind):=lbp fun i _=>by
 unfold kn3;rw [lbn (lbQ _)];rfl
def b5e {t:n7} {kind:Int} {n k:Nat} {c:P1} (h:t.cleans[k]? =some c) (hk:c.kind≠kind):(List.range n).map (kn3 t kind (k+1))=(List.range n).map (kn3 t kind k):=lbp fun i _=>by
 unfold kn3;rw [Y2 h,a0Z,if_neg (fun h=>hk h.1)];rfl
def b9K {t:n7} {kind:Int} {n k m:Nat} {c:P1} (hm:m<n) (h:t.cleans[k]? =some c) (hk:c.kind=kind) (hmv:c.mv=m):
 (toC ((List.range n).map (kn3 t kind k))).set m ((knA t.ev m++x6 (t6 t.finds kind m)::[ti ((z9 (t.cleans.take k) kind m:Int)+1)]).map C.t)=toC ((List.range n).map (kn3 t kind (k+1))):=by
 have key:∀i,i<n->i≠m->kn3 t kind (k+1) i=kn3 t kind k i:=fun i _ hi=>by
  unfold kn3;rw [Y2 h,a0Z,if_neg (fun h=>hi om)];rfl
 have own:kn3 t kind (k+1) m=knA t.ev m++x6 (t6 t.finds kind m)::[ti ((z9 (t.cleans.take k) kind m:Int)+1)]:=by
  unfold kn3;rw [Y2 h,a0Z,if_pos ⟨hk,hmv⟩];rfl
 rw [← own];unfold toC;rw [← a59]
 congr 1
 apply a0A;intro i;simp only [lbg,lba,lbr,List.length_range];by_cases hi:m=i
 ·subst hi;simp [hm]
 ·rw [if_neg hi];by_cases hin:i<n
  ·rw [lbh hin];show some _=some _;rw [key i hin (fun h=>hi h.symm)]
  ·rw [lbd zo];rfl
def b7o {l:LI} {x:Int}:List.take l.length (toC (l.map k6))++toC [[ti x]]=toC ((l++[x]).map k6):=by
 rw [lbn zt];simp [toC,k6]
def b8I (t:n7) (kind:Int) (hs:t.Sized) (h0:E6 t.ev=0) (hf:∀f ∈ t.finds,0<=f.mv∧f.mv<t.ev.moves.length) (hc:∀c ∈ t.cleans,0<=c.mv∧c.mv<t.ev.moves.length):
 ec 115 [trS t,eI kind] [] (.c (.t (aF5 t kind))) []:=by
 obtain ⟨b1,b2,b3,b4⟩:=a0i h0;have l1:=hs.f;have l2:=hs.c;have m0:(t.ev.moves.map A8.row).length=t.ev.moves.length:=zq;have m1:(t.finds.map Z9.row).length=t.finds.length:=zq;have m2:(t.cleans.map P1.row).length=t.cleans.length:=zq;have s3:=hs.ev.s3;have s4:=hs.ev.s4
 (refine ac Tryz.func115 ?_;(conv=>whnf);repeat ((first|refine b0x ?_|refine zy ?_);conv=>whnf))
 repeat' (first|refine zx ?_|refine a1g om om om de ?_|apply zD<;>intro h<;>try omega)<;>conv=>whnf
 refine j3 d7 (fun k=>([J,eI kind,S.c (C.t (T.ptr (trT t))),J,J,sP 0 0 0,S.c (C.own 1 0 t.ev.moves.length true)]++Jn 13++[S.c (C.t (a4m t.ev.moves)),eI t.ev.moves.length,eI k]++Jn 80,[evB t.ev,knB ((List.range t.ev.moves.length).map (kn1 t.ev k))])) t.ev.moves.length tT [some 0,some 1] trivial ?_ ?_
 ·refine ⟨rfl,rfl,⟨⟨rfl,rfl,rfl,.inl ⟨rfl,A7 _⟩⟩,⟨rfl,rfl,rfl,.inr ?_⟩,trivial⟩,⟨rfl,rfl,rz,⟨rfl,rfl,?_,fun h=>h⟩,rfl,e7 zq,rz⟩⟩
  ·have e9:((((t.ev.moves.map A8.row).length:Nat):Int)).toNat=t.ev.moves.length:=by omega
   rw [← e9];exact b5K
  ·omega
 intro k hk _;by_cases hlt:k<t.ev.moves.length
 ·obtain ⟨x,hx⟩:∃x,t.ev.moves[k]? =some x:=⟨_,lbf hlt⟩;have iv:=b1u t.ev.certs t.ev.recalls om om x.scale x.reading x.day;have eK:0+(k:Int).toNat=k:=om;have hk0:(List.range t.ev.moves.length)[0+(k:Int).toNat]? =some k:=by rw [eK,lbh hlt]
  have gs:∀c,((knB ((List.range t.ev.moves.length).map (kn1 t.ev k))).rows.set (0+(k:Int).toNat) c)[0+(k:Int).toNat]? =some c:=fun c=>by
   rw [List.getElem?_set_self];show _<(toC _).length;simp [toC];omega
  by_cases hsc:x.scale=-1
  ·have hn:a51 t.ev k=none:=by rw [aG4 hx];unfold N1;rw [if_pos hsc]
   have e1:=aM8 (n:=t.ev.moves.length) hn;conv=>whnf
   repeat' (first|refine zx ?_|refine i6 hx ?_|apply zD<;>intro h<;>try omega)<;>conv=>whnf
   all_goals try omega
   refine ⟨hlt,trivial,[some 0,some 1],rfl,rfl,⟨⟨rfl,rfl,rfl,.inl ⟨rfl,A7 _⟩⟩,e8 rfl rfl rfl ?_ rfl,trivial⟩,⟨rfl,rfl,rz,⟨rfl,rfl,rfl,fun h=>h⟩,rz⟩⟩;rw [e1]
  ·have hiv:a51 t.ev k=L4 t.ev.certs t.ev.recalls x.scale x.reading x.day:=by rw [aG4 hx];unfold N1;rw [if_neg hsc]
   rw [← hiv] at iv;cases hi:a51 t.ev k with
   |none=>
    rw [hi] at iv;have er:(kn1 t.ev (k+1) k).map C.t=frC C6++[C.t (tb false),C.t (.sl 0 .nil []),C.t (ti 0)]:=by rw [aQ5 hi];simp [kn1]
    conv=>whnf
    repeat' (first|refine zx ?_|refine i6 hx ?_|refine s8 hk0 ?_|refine ⟨_,gs _,?_⟩|refine bl0 [2,3,18] ?_|apply zD<;>intro h<;>try omega)<;>conv=>whnf
    all_goals try omega
    refine ⟨hlt,trivial,[some 0,some 1],rfl,rfl,⟨⟨rfl,rfl,rfl,.inl ⟨rfl,A7 _⟩⟩,e8 rfl rfl rfl ?_ rfl,trivial⟩,⟨rfl,rfl,rz,⟨rfl,rfl,rfl,fun h=>h⟩,rz⟩⟩;have e2:=b2s (e:=t.ev) hlt;rw [er] at e2;rw [← e2];show ((toC _).set (0+(k:Int).toNat) _).set (0+(k:Int).toNat) _=_;rw [List.set_set,eK]
    rfl
   |some p=>
    obtain ⟨lo,hi'⟩:=p;rw [hi] at iv;have er:(kn1 t.ev (k+1) k).map C.t=frC (fz hi')++[C.t (tb true),C.t (.sl 0 .nil []),C.t (ti 0)]:=by simp [kn1,hi,hiF]
    conv=>whnf
    repeat' (first|refine zx ?_|refine i6 hx ?_|refine s8 hk0 ?_|refine ⟨_,gs _,?_⟩|refine bl0 [2,3,18] ?_|apply zD<;>intro h<;>try omega)<;>conv=>whnf
    all_goals try omega
    refine ⟨hlt,trivial,[some 0,some 1],rfl,rfl,⟨⟨rfl,rfl,rfl,.inl ⟨rfl,A7 _⟩⟩,e8 rfl rfl rfl ?_ rfl,trivial⟩,⟨rfl,rfl,rz,⟨rfl,rfl,rfl,fun h=>h⟩,rz⟩⟩;have e2:=b2s (e:=t.ev) hlt;rw [er] at e2;rw [← e2];show ((toC _).set (0+(k:Int).toNat) _).set (0+(k:Int).toNat) _=_;rw [List.set_set,eK]
    rfl
 ·conv=>whnf
  repeat' (first|refine zx ?_|apply zD<;>intro h<;>try omega)<;>conv=>whnf
  all_goals try omega
  have e0:H5 t kind 0=fun _=>[]:=by funext i;simp [H5,t6]
  refine j3 d7 (fun k=>([J,eI kind,S.c (C.t (T.ptr (trT t))),J,J,J,S.c (C.own 0 0 t.ev.moves.length true)]++Jn 48++[S.c (C.t (an1 t.finds)),eI t.finds.length,eI k]++Jn 45,a0c 147 7 t.ev.moves.length (knA t.ev) (H5 t kind k) (fun _=>[ti 0]))) t.finds.length tT (b1m 1 t.ev.moves.length) trivial ?_ ?_
  ·have hke:k=t.ev.moves.length:=by omega
   subst hke;refine (?_:Ent 0 (b1m 1 t.ev.moves.length) _ _ _ (a0c 147 7 t.ev.moves.length (knA t.ev) (H5 t kind 0) (fun _=>[ti 0])));rw [e0];refine b8M (k0:=knB ((List.range t.ev.moves.length).map (kn1 t.ev t.ev.moves.length))) (s:=0) rfl rz ?_ ?_
   ·show toC _=_;unfold toC;rw [a55];refine lbp fun i hi=>?_
    have:=lbA.1 hi;simp [kn1,knA,this]
   ·exact ⟨rfl,rfl,⟨rfl,rfl,rfl,fun h=>h⟩,l9 rfl,e7 zq,rz⟩
  intro j hj _;by_cases hjt:j<t.finds.length
  ·obtain ⟨f,hfj⟩:∃f,t.finds[j]? =some f:=⟨_,lbf hjt⟩;obtain ⟨f1,f2⟩:=hf f (lbm hfj);obtain ⟨m,hm⟩:∃m:Nat,f.mv=m:=⟨f.mv.toNat,om⟩;have hmn:m<t.ev.moves.length:=om;have eM:0+f.mv.toNat=m:=om;have rL:(List.range t.ev.moves.length).length=t.ev.moves.length:=zq;have rG:(List.range t.ev.moves.length)[m]? =some m:=lbh hmn;have gR:(a3t t.ev.moves.length (knA t.ev) (H5 t kind j) (fun _=>[ti 0]))[0+f.mv.toNat]? =some (aX5 (knA t.ev) (H5 t kind j) (fun _=>[ti 0]) (m+1) m):=by rw [eM];exact a3F hmn
   have gl:(H5 t kind j m).length<=t.finds.length:=by
    unfold H5 t6;rw [lbr];exact lbR (lbt _ _) zo
   have hbox:∀(fB:Nat->Blk) (dead nb fb:Blk),(((((List.range t.ev.moves.length).map fB++[fb]).set m dead)++[nb])[t.ev.moves.length]?)=some fb:=fun fB dead nb fb=>by
    rw [lbb zq,lbg,if_neg om,lbc zq];simp
   have hnew:∀(fB:Nat->Blk) (dead nb fb:Blk),(((((List.range t.ev.moves.length).map fB++[fb]).set m dead)++[nb])[t.ev.moves.length+1]?)=some nb:=fun fB dead nb fb=>by
    rw [lbc zq];simp
   have hold:∀(fB:Nat->Blk) (dead nb fb:Blk) (p:Nat),p<t.ev.moves.length->p≠m->(((((List.range t.ev.moves.length).map fB++[fb]).set m dead)++[nb])[p]?)=some (fB p):=fun fB dead nb fb p hp hpm=>by
    rw [lbb zo,lbg,if_neg om,lbb (by simpa using hp),lba,lbh hp];rfl
   by_cases hkd:f.kind=kind
   ·conv=>whnf
    repeat' (first|refine zx ?_|refine i6 hfj ?_|refine f9 rL ?_|refine a5O rL ?_|refine C1 ?_|refine a3W ?_|refine ⟨_,gR,?_⟩|refine ad1 (hbox _ _ _ _) ?_|refine F9 rG ?_|refine aS2 rG ?_|refine o5 rL ?_|refine g8 rL ?_|refine x5 rL ?_|refine i7 rL ?_|refine aJ6 ?_|refine w6 zt zu ?_|refine bl0 [0,1,2] ?_|apply zD<;>intro h<;>try omega)<;>conv=>whnf
    all_goals try omega
    refine ⟨hjt,trivial,aa1 t.ev.moves.length m (t.ev.moves.length+2),?_⟩;refine (?_:Ent 0 (aa1 t.ev.moves.length m (t.ev.moves.length+2)) _ _ _ (a0c 147 7 t.ev.moves.length (knA t.ev) (H5 t kind (j+1)) (fun _=>[ti 0])));have eg:H5 t kind (j+1)=a5g (H5 t kind j) m (H5 t kind j m++[f.grams]):=by
     funext i;unfold H5 a5g;rw [Y2 hfj,a7M];by_cases hi:i=m
     ·subst hi;rw [if_pos ⟨hkd,hm⟩,if_pos rfl]
     ·rw [if_neg (fun h=>hi om),if_neg hi]
    rw [eg];refine b5B hmn om rfl rz ?_ ?_ ?_ ?_
    ·show (a3t _ _ _ _).set (0+f.mv.toNat) _=_;rw [eM,lbq]
     rfl
    ·intro p hp hpm;exact hold _ _ _ _ p hp hpm
    ·refine (hnew _ _ _ _).trans ?_;show some (Blk.mk .live _ 1 (List.take _ (toC ((H5 t kind j m).map k6))++toC [[ti f.grams]]) false false)=_;rw [b7o]
    ·exact ⟨rfl,rfl,⟨by rw [a08 om];rfl,rfl,rfl,fun h=>h⟩,rz⟩
   ·conv=>whnf
    repeat' (first|refine zx ?_|refine i6 hfj ?_|refine f9 rL ?_|refine a5O rL ?_|refine C1 ?_|refine a3W ?_|refine o5 rL ?_|refine g8 rL ?_|refine x5 rL ?_|refine i7 rL ?_|apply zD<;>intro h<;>try omega)<;>conv=>whnf
    all_goals try omega
    refine ⟨hjt,trivial,idR (t.ev.moves.length+1),?_⟩;refine (?_:Ent 0 (idR (t.ev.moves.length+1)) _ (a0c 147 7 t.ev.moves.length (knA t.ev) (H5 t kind j) (fun _=>[ti 0])++_) _ (a0c 147 7 t.ev.moves.length (knA t.ev) (H5 t kind (j+1)) (fun _=>[ti 0])));have eg:H5 t kind (j+1)=H5 t kind j:=by
     funext i;unfold H5;rw [Y2 hfj,a7M,if_neg (fun h=>hkd h.1)]
    rw [eg];exact b3H ⟨rfl,rfl,⟨g9 om,rfl,rfl,fun h=>h⟩,rz⟩
  ·have hje:j=t.finds.length:=by omega
   subst hje;have rL:(List.range t.ev.moves.length).length=t.ev.moves.length:=zq;conv=>whnf
   repeat' (first|refine zx ?_|refine C1 ?_|refine a3W ?_|refine a5O rL ?_|apply zD<;>intro h<;>try omega)<;>conv=>whnf
   all_goals try omega
   have eg:H5 t kind t.finds.length=t6 t.finds kind:=by funext i;unfold H5;rw [lbn (lbQ _)]
   rw [eg];refine j3 d7 (fun k=>([J,eI kind,J,J,J,J,S.c (C.own 0 0 t.ev.moves.length true)]++Jn 75++[S.c (C.t (a8g t.cleans)),eI t.cleans.length,eI k]++Jn 18,[knB ((List.range t.ev.moves.length).map (kn3 t kind k))])) t.cleans.length tT [some 0] trivial ?_ ?_
   ·exact b6s (g:=t6 t.finds kind) ⟨rfl,⟨rfl,rfl,rfl,fun h=>h⟩,l9 rfl,e7 zq,rz⟩
   intro q hq _;by_cases hqt:q<t.cleans.length
   ·obtain ⟨c,hcq⟩:∃c,t.cleans[q]? =some c:=⟨_,lbf hqt⟩;obtain ⟨g1,g2⟩:=hc c (lbm hcq);obtain ⟨m,hm⟩:∃m:Nat,c.mv=m:=⟨c.mv.toNat,om⟩;have hmn:m<t.ev.moves.length:=om;have eM:0+c.mv.toNat=m:=om;have hk0:(List.range t.ev.moves.length)[0+c.mv.toNat]? =some m:=by rw [eM];exact lbh hmn
    have cb:=bn0 t kind q m;by_cases hkd:c.kind=kind
    ·conv=>whnf
     repeat' (first|refine zx ?_|refine i6 hcq ?_|refine s8 hk0 ?_|apply zD<;>intro h<;>try omega)<;>conv=>whnf
     all_goals try omega
     refine ⟨hqt,trivial,[some 0],rfl,rfl,⟨e8 rfl rfl rfl ?_ rfl,trivial⟩,⟨rfl,⟨rfl,rfl,rfl,fun h=>h⟩,rz⟩⟩;show (toC _).set (0+c.mv.toNat) _=_;rw [eM,←b9K hmn hcq hkd hm]
     rfl
    ·have e3:=b5e (t:=t) (kind:=kind) (n:=t.ev.moves.length) hcq hkd;conv=>whnf
     repeat' (first|refine zx ?_|refine i6 hcq ?_|refine s8 hk0 ?_|apply zD<;>intro h<;>try omega)<;>conv=>whnf
     all_goals try omega
     refine ⟨hqt,trivial,[some 0],rfl,rfl,⟨e8 rfl rfl rfl ?_ rfl,trivial⟩,⟨rfl,⟨rfl,rfl,rfl,fun h=>h⟩,rz⟩⟩;rw [e3]
   ·have hqe:q=t.cleans.length:=by omega
    subst hqe;conv=>whnf
    repeat' (first|refine zx ?_|apply zD<;>intro h<;>try omega)<;>conv=>whnf
    all_goals try omega
    rw [b8E];exact L7 (k:=knB ((List.range t.ev.moves.length).map (a6a t kind))) rfl zi rfl rfl zq
abbrev Q1 (l:List (Int × Rat)):Blk:={ mode:=.live,elem:=109,size:=5,rows:=toC (l.map o7),box:=false }
abbrev a0D (l:List x4):Blk:={ mode:=.live,elem:=133,size:=6,rows:=toC (l.map p4),box:=false }
abbrev ab8 (n:Int) (id len:Nat):Blk:={ mode:=.live,elem:=70,size:=2,rows:=[[.t (ti n),.own id 0 len true]],box:=true }
abbrev ba1 (id len:Nat) (kind:Int):Blk:={ mode:=.live,elem:=133,size:=6,rows:=[.own id 0 len true::.t (ti kind)::frC (fz zR)],box:=true }
abbrev b7P (x:A8):Blk:={ mode:=.live,elem:=149,size:=6,rows:=[x.row.map .t],box:=true }
def a4p (x:A8):I5 [x.row.map C.t]:=by simp [I5,A8.row,C.isT]
abbrev bb9:Blk:={ mode:=.live,elem:=133,size:=6,rows:=[.t (a5G [])::.t (ti 0)::frC C6],box:=true }
abbrev b2U (el:TypeId) (size:Nat):Blk:=⟨.dead,el,size,[],false,false⟩
def a1I {l:List x4} {w:x4} {n:Nat} (h:n=l.length):List.take n (toC (l.map p4))++toC [p4 w]=toC ((l++[w]).map p4):=by
 rw [lbn (by simp [toC,h])];simp [toC]
def bd7 (n:Int) (rows:List x4) (hr:rows.length<=1000000) (mv:Nat) (kind:Int) (v:Rat):
 ec 132 [eI mv,eI kind,frS (fz v),.c (.ptr 0 0 0)] [ab8 n 1 rows.length,a0D rows] (.tup []) [ab8 n 2 (rows.length+1),b2U 133 6,a0D (rows++[A9 mv kind v])]:=by
 have i1:=O7 1 de de
 (refine ac Tryz.func132 ?_;(conv=>whnf);repeat ((first|refine b0x ?_|refine zy ?_);conv=>whnf))
 repeat' (first|refine zz ?_|refine qp i1 ?_|refine a4M.weak ?_|refine w6 zt zu ?_|apply zD<;>intro h<;>try omega|refine zy ?_|fail)<;>conv=>whnf
 refine ⟨⟨[some 0,some 1,some 2],rfl,rfl,⟨⟨rfl,rfl,rfl,.inr ⟨⟨rfl,⟨rfl,rfl,rfl,fun h=>h⟩,trivial⟩,trivial⟩⟩,⟨rfl,rfl,rfl,.inl ⟨rfl,by simp [I5]⟩⟩,e8 rfl rfl rfl ?_ rfl,trivial⟩,trivial⟩⟩;show List.take rows.length (toC (rows.map p4))++toC [p4 (A9 mv kind v)]=_;exact a1I rfl
def bk9 {H:Hp} {id:Nat} {n:Int} {rows:List x4} (hs:H[2]? =some (ab8 n id rows.length)) (hid:H[id]? =some (a0D rows)) (hne:id≠2) (hr:rows.length<=1000000) (mv:Nat) (kind:Int) (v:Rat):
 ec 132 [eI mv,eI kind,frS (fz v),.c (.ptr 2 0 0)] H (.tup []) (((H.set 2 (ab8 n H.length (rows.length+1))).set id (b2U 133 6))++[a0D (rows++[A9 mv kind v])]):=by
 have h2:2<H.length:=(lbe.1 hs).1;have hi:id<H.length:=(lbe.1 hid).1;have ex:a3D [2,id] H.length 1=[2,id,H.length]:=by simp [a3D]
 refine Q8 [2,id] (bd7 n rows hr mv kind v) rfl rfl rfl zo ?_ ?_ zq rfl rfl zq ?_ ?_
 ·intro i k hk
  match i,hk with
  |0,hk=>
   injection hk with hk;subst hk;exact ⟨rfl,rfl,by simp [okL,okC],_,hs,⟨rfl,rfl,rfl,rfl,by simp [a7f,a0T,X8]⟩⟩
  |1,hk=>
   injection hk with hk;subst hk;exact ⟨rfl,rfl,a4H _,_,hid,z4 rfl⟩
 ·intro k hk;simp at hk;rcases hk with rfl|rfl|rfl<;>(intro h;cases h)
 ·intro i k hk;show ∃k',_[(a3D [2,id] H.length 1).getD i 0]? =some k'∧aG2 (a3D [2,id] H.length 1) k k';rw [ex]
  match i,hk with
  |0,hk=>
   injection hk with hk;subst hk;refine ⟨ab8 n H.length (rows.length+1),?_,⟨rfl,rfl,rfl,rfl,by simp [a7f,a0T,X8]⟩⟩;show (_++_)[2]? =_;rw [lbb zo,lbg,if_neg om,lbg,if_pos rfl,if_pos h2]
  |1,hk=>
   injection hk with hk;subst hk;refine ⟨b2U 133 6,?_,rz⟩;show (_++_)[id]? =_;rw [lbb zo,lbg,if_pos rfl,if_pos zo]
  |2,hk=>
   injection hk with hk;subst hk;refine ⟨a0D (rows++[A9 mv kind v]),?_,z4 rfl⟩;show (_++_)[H.length]? =_;rw [lbc zq];simp
 ·intro j hj hjn;simp at hjn;rw [lbb zo,lbg,if_neg om,lbg,if_neg om]
def a1O {l:List (Int × Rat)} {w:Int × Rat} {n:Nat} (h:n=l.length):List.take n (toC (l.map o7))++toC [o7 w]=toC ((l++[w]).map o7):=by
 rw [lbn (by simp [toC,h])];simp [toC]
def W5 {e:Ev} {p:Int} {k:Nat} {y:A8} (h:e.moves[k]? =some y):n9 e p (k+1)=if y.dst=p then n9 e p k++[((k:Int),((1:Int):Rat))] else if y.src=p then n9 e p k++[((k:Int),((-1:Int):Rat))] else n9 e p k:=by rw [n9,h]
def a1c {e:Ev} {p:Int}:∀k,(n9 e p k).length<=k
 |0=>by simp [n9]
 |k+1=>by
  have ih:=a1c (e:=e) (p:=p) k;unfold n9;cases e.moves[k]? with
  |none=>simp only;omega
  |some y=>
   simp only;split
   ·simp;omega
   ·split
    ·simp;omega
    ·omega
def b81 (e:Ev) (h0:E6 e=0) {i:Nat} {x:A8} (hx:e.moves[i]? =some x):ec 133 [evS e,eI i] [] (as7 (x3 e i x)) []:=by
 obtain ⟨b1,b2,b3,b4⟩:=a0i h0;have hi:i<e.moves.length:=(lbe.1 hx).1;have m0:(e.moves.map A8.row).length=e.moves.length:=zq;have i0:=O7 0 de de;have i1:=O7 1 de de;have im:=O7 (-1) de de;have tk:(e.moves.map A8.row).take i=(e.moves.take i).map A8.row:=(b2r ..).symm;have tl:(e.moves.take i).length=i:=zo;have mt:((e.moves.take i).map A8.row).length=i:=zo;cases hal:x.all
 case' false=>have hK:(x3 e i x).kind=0:=by unfold x3;rw [hal];rfl
 case' true=>have hK:(x3 e i x).kind=2:=by unfold x3;rw [hal];rfl
 all_goals
  (refine ac Tryz.func133 ?_;(conv=>whnf);repeat ((first|refine b0x ?_|refine zy ?_);conv=>whnf))
  repeat' (first|refine zx ?_|refine i6 hx ?_|refine a2f om om om ?_|apply zD<;>intro h<;>try omega)<;>conv=>whnf
  all_goals first|omega|(exfalso;simp_all;done)|skip
  refine j3 d7 (fun k=>([J,eI i,J,J,sP 0 0 0,sP 1 0 0,sP 2 0 0]++Jn 15++[S.c (C.t (a4m (e.moves.take i))),eI i,eI k]++Jn 40,[bb9,b7P x,ba1 3 (n9 e x.src k).length (x3 e i x).kind,Q1 (n9 e x.src k)])) i tT [some 0,some 1,some 2,none] trivial ?_ ?_
  ·rw [hK];refine ⟨rfl,rfl,⟨⟨rfl,rfl,rfl,.inr rz⟩,⟨rfl,rfl,rfl,.inl ⟨rfl,a4p x⟩⟩,⟨rfl,rfl,rfl,.inr rz⟩,rz⟩,⟨rfl,rz,rz,rz,l9 ?_,e7 ?_,rz⟩⟩
   ·show T.sl 6 _ (((e.moves.map A8.row).take ((i:Int)).toNat).drop 0)=_;rw [lbX,tk];rfl
   ·show ((((e.moves.map A8.row).take ((i:Int)).toNat).drop 0).length:Int)=i;rw [lbX,tk,a9y,mt]
  intro k hk _;have kl:=a1c (e:=e) (p:=x.src) k;by_cases hlt:k<i
  ·obtain ⟨y,hy⟩:∃y,e.moves[k]? =some y:=⟨_,lbf om⟩;have hyt:(e.moves.take i)[k]? =some y:=by rw [lbi,if_pos hlt];exact hy
   by_cases c1:y.dst=x.src
   ·have et:n9 e x.src (k+1)=n9 e x.src k++[((k:Int),((1:Int):Rat))]:=by rw [W5 hy,if_pos c1]
    conv=>whnf
    repeat' (first|refine zx ?_|refine i6 hyt ?_|refine w6 zt zu ?_|apply zD<;>intro h<;>try omega)<;>conv=>whnf
    all_goals try omega
    refine ⟨hlt,trivial,[some 0,some 1,some 2,some 5],rfl,rfl,⟨⟨rfl,rfl,rfl,.inr rz⟩,⟨rfl,rfl,rfl,.inl ⟨rfl,a4p x⟩⟩,⟨rfl,rfl,rfl,.inr ⟨⟨⟨rfl,rfl,?_,fun h=>h⟩,rz⟩,trivial⟩⟩,e8 rfl rfl rfl ?_ rfl,trivial⟩,rz⟩
    ·rw [et,lbq];rfl
    ·rw [et];show List.take (n9 e x.src k).length (toC ((n9 e x.src k).map o7))++toC [o7 ((k:Int),((1:Int):Rat))]=_;exact a1O rfl
   ·by_cases c2:y.src=x.src
    ·have et:n9 e x.src (k+1)=n9 e x.src k++[((k:Int),((-1:Int):Rat))]:=by rw [W5 hy,if_neg c1,if_pos c2]
     conv=>whnf
     repeat' (first|refine zx ?_|refine i6 hyt ?_|refine w6 zt zu ?_|apply zD<;>intro h<;>try omega)<;>conv=>whnf
     all_goals try omega
     refine ⟨hlt,trivial,[some 0,some 1,some 2,some 5],rfl,rfl,⟨⟨rfl,rfl,rfl,.inr rz⟩,⟨rfl,rfl,rfl,.inl ⟨rfl,a4p x⟩⟩,⟨rfl,rfl,rfl,.inr ⟨⟨⟨rfl,rfl,?_,fun h=>h⟩,rz⟩,trivial⟩⟩,e8 rfl rfl rfl ?_ rfl,trivial⟩,rz⟩
     ·rw [et,lbq];rfl
     ·rw [et];show List.take (n9 e x.src k).length (toC ((n9 e x.src k).map o7))++toC [o7 ((k:Int),((-1:Int):Rat))]=_;exact a1O rfl
    ·have et:n9 e x.src (k+1)=n9 e x.src k:=by rw [W5 hy,if_neg c1,if_neg c2]
     conv=>whnf
     repeat' (first|refine zx ?_|refine i6 hyt ?_|apply zD<;>intro h<;>try omega)<;>conv=>whnf
     all_goals try omega
     refine ⟨hlt,trivial,[some 0,some 1,some 2,some 3],rfl,rfl,⟨⟨rfl,rfl,rfl,.inr rz⟩,⟨rfl,rfl,rfl,.inl ⟨rfl,a4p x⟩⟩,⟨rfl,rfl,rfl,.inr ⟨⟨⟨rfl,rfl,?_,fun h=>h⟩,rz⟩,trivial⟩⟩,e8 rfl rfl rfl ?_ rfl,trivial⟩,rz⟩
     ·rw [et]
     ·rw [et]
  ·have hke:k=i:=by omega
   subst hke;conv=>whnf
   repeat' (first|refine zx ?_|refine w6 zt zu ?_|apply zD<;>intro h<;>try omega)<;>conv=>whnf
   all_goals try omega
   refine m9 ⟨show VC _ (fun id=>L9 [] id=true) _ _ from u5 rfl rfl zi rfl (rows:=(n9 e x.src k++[((k:Int),((-1:Int):Rat))]).map o7) ?_ ?_,rz⟩
   ·show List.take (n9 e x.src k).length (toC ((n9 e x.src k).map o7))++toC [o7 ((k:Int),((-1:Int):Rat))]=_;exact a1O rfl
   ·rw [lbr,lbq];rfl
def a9O {e:Ev}:∀{l:List P1},P4 e l=0->∀c ∈ l,0<=c.mv∧c.mv<e.moves.length
 |[],_,c,hc=>by cases hc
 |g::r,h,c,hc=>by
  unfold P4 at h;by_cases h1:a1v e g.mv g.kind≠0
  ·rw [if_pos h1] at h;exact absurd h h1
  rw [if_neg h1] at h;rcases lbz.1 hc with rfl|hc
  ·unfold a1v at h1;by_cases h3:c.mv<0∨(e.moves.length:Int)<=c.mv
   ·rw [if_pos h3] at h1;exact absurd de h1
   omega
  ·exact a9O h c hc
def hiR (o:Option (Rat × Rat)):Rat:=match o with
 |some (_,hi)=>hi
 |none=>0
def ah1 {e:Ev} {x:A8} (h:(N1 e x).isSome=true):hiF (N1 e x)=fz (hiR (N1 e x))∧rl (hiR (N1 e x))<=200:=by
 cases hiv:N1 e x with
 |none=>rw [hiv] at h;cases h
 |some p=>
  obtain ⟨lo,hi⟩:=p;refine ⟨rfl,?_⟩;show rl hi<=200;unfold N1 at hiv;by_cases hs:x.scale=-1
  ·rw [if_pos hs] at hiv;cases hiv
  ·rw [if_neg hs] at hiv;have:=(aR7 hiv).2;omega
def af0 {H:Hp} {id len:Nat} {n:Int} {rows:List x4} {rs:List (List C)} {f:Fr} {v:Rat} (hf:f=fz v) (hs:H[2]? =some (ab8 n id len)) (hid:H[id]? =some { mode:=.live,elem:=133,size:=6,rows:=rs,box:=false })
 (hlen:len=rows.length) (hrs:rs=toC (rows.map p4)) (hne:id≠2) (hr:rows.length<=1000000) (mv:Nat) (kind:Int):
 ec 132 [eI mv,eI kind,frS f,.c (.ptr 2 0 0)] H (.tup []) (((H.set 2 (ab8 n H.length (rows.length+1))).set id (b2U 133 6))++[a0D (rows++[A9 mv kind v])]):=by
 subst hf;subst hlen;subst hrs;exact bk9 hs hid hne hr mv kind v
def a73 {t:n7} {kind:Int} {k:Nat} (hk:k<=200) (hf:t.finds.length<=20) (hc:t.cleans.length<=50):(s7 t kind k).length<=14400:=by
 have h1:=W3 (t:=t) (kind:=kind) k;have h2:=lbS hk (show 2+t.finds.length+t.cleans.length<=72 by omega);omega
abbrev bf5 (t:n7) (kind:Int) (i:Nat):Blk:={ mode:=.live,elem:=147,size:=7,rows:=[(a6a t kind i).map .t],box:=true }
def r1A {S C:List x4} {s:x4} {p:Prop} [Decidable p] (h:C=[]) (hp:decide p=false):(S++if p then [] else [s])++C=S++[s]:=by rw [h,if_neg (lbL hp)];simp
def r1B {S C:List x4} {s:x4} {p:Prop} [Decidable p] (h:C=[]) (hp:decide p=true):(S++if p then [] else [s])++C=S:=by rw [h,if_pos (lbK hp)];simp
def r1C {S C:List x4} {s c:x4} {p:Prop} [Decidable p] (h:C=[c]) (hp:decide p=false):(S++if p then [] else [s])++C=(S++[s])++[c]:=by rw [h,if_neg (lbL hp)]
def r1D {S C:List x4} {s c:x4} {p:Prop} [Decidable p] (h:C=[c]) (hp:decide p=true):(S++if p then [] else [s])++C=S++[c]:=by rw [h,if_pos (lbK hp)];simp
def a8N {ρ:List (Option Nat)} {H:Hp}:∀rows:List (List T),a6B ρ H (rows.map (·.map C.t)) (rows.map (·.map C.t))
 |[]=>trivial
 |r::rs=>⟨T3 r,a8N rs⟩
def a16 (t:n7) (kind:Int):Int:=if p6 t≠0∨kind<0∨8<=kind then 1 else 0
def a5N (t:n7) (kind:Int):i8:=if p6 t≠0∨kind<0∨8<=kind then ⟨0,[]⟩ else j1 t kind
abbrev b74:FuncId:=132
abbrev al5:Blk:={ mode:=.live,elem:=70,size:=2,rows:=[[.t (ti 0),.t (G5 [])]],box:=true }
def ax6 {P:Program} {f:FuncId} {args:List S} {H H1 H':Hp} {r s:S} (h:d6 P f args H r H1) (hf:Fin H.length r H1 s H'):d6 P f args H s H':=by
 refine ⟨h.1,fun w ι M vals hl hr hH hM hF=>?_⟩;refine Calls.mono (h.2 w ι M vals hl hr hH hM hF) ?_;rintro e w' ⟨v,rfl,ι',M',h4,hH',hM',hF',hst⟩;obtain ⟨ρ,f1,f2,f3,f4⟩:=hf;obtain ⟨g1,g2,g3⟩:=a4n.all f1 f2 f3 rfl hM hH' hst;exact ⟨v,rfl,S4 ρ ι',_,f4.rs hH' h4,g1,fun b hb=>hM' b hb.1,g2,g3⟩
def b3C (t:n7) (kind:Int) (hs:t.Sized) (h1:¬(p6 t≠0∨kind<0∨8<=kind)):ec 64 [trS t,eI kind] [] (.tup [.agg [.t (ti t.ev.moves.length),.own 0 0 (j1 t kind).rows.length true],eI 0]) [a0D (j1 t kind).rows]:=by
 have ck:=ai8 t hs;have m2:(t.ev.moves.map A8.row).length=t.ev.moves.length:=zq;obtain ⟨k1,k2,k3⟩:p6 t=0∧0<=kind∧kind<8:=om;rw [k1] at ck;obtain ⟨q1,q2,q3,q4,q5⟩:=G3 k1;obtain ⟨b1,b2,b3,b4⟩:=a0i q1;have kn:=b8I t kind hs q1 (fun f hf=>by have:=Z8 q4 f hf;omega) (fun c hc=>a9O q5 c hc)
 (refine ac Tryz.func64 ?_;(conv=>whnf);repeat ((first|refine b0x ?_|refine zy ?_);conv=>whnf))
 repeat' (first|refine zx ?_|apply zD<;>intro h<;>try omega)<;>conv=>whnf
 all_goals try omega
 refine j3 d7 (fun k=>([J,J,J,J,sP 0 0 0,J,sP 1 0 0,sP 2 0 0,S.c (C.fn (Fn.func b74) [C.ptr 2 0 0])]++Jn 25++[S.c (C.t (aF5 t kind)),eI t.ev.moves.length,eI k]++Jn 47,[al5,evB t.ev,ab8 t.ev.moves.length 3 (s7 t kind k).length,a0D (s7 t kind k)])) t.ev.moves.length tT [some 0,some 1,some 2,none] trivial ?_ ?_
 ·refine ⟨rfl,rfl,⟨⟨rfl,rfl,rfl,.inr rz⟩,⟨rfl,rfl,rfl,.inl ⟨rfl,A7 _⟩⟩,⟨rfl,rfl,rfl,.inr ⟨⟨?_,rz⟩,trivial⟩⟩,rz⟩,⟨rz,rz,rz,rz,rfl,e7 zq,rz⟩⟩;exact ad9 (by rw [m2])
 intro k hk _;by_cases hlt:k<t.ev.moves.length
 ·obtain ⟨x,hx⟩:∃x,t.ev.moves[k]? =some x:=⟨_,lbf hlt⟩;have bn:=bu9 t.ev q1 hx;have st:=b81 t.ev q1 hx;have gk:(List.range t.ev.moves.length)[k]? =some k:=lbh hlt;have iv:a51 t.ev k=N1 t.ev x:=aG4 hx;have rl0:=a73 (t:=t) (kind:=kind) (k:=k) om q2 q3;have gl:(t6 t.finds kind k).length<=20:=by unfold t6;rw [lbr];exact lbR (lbt _ _) q2
  have cl:z9 t.cleans kind k<=50:=lbR (lbt _ _) q3;have i0:=O7 0 de de;obtain ⟨R1,hR1⟩:∃R1:List x4,R1=s7 t kind k++(if K4 t.ev x.src=0 then [] else [x3 t.ev k x])++W6 (N1 t.ev x) k:=⟨_,rfl⟩;have l5:(s7 t kind k).length+1=(s7 t kind k++[x3 t.ev k x]).length:=zq;have r5:List.take (s7 t kind k).length (toC ((s7 t kind k).map p4))++toC [p4 (x3 t.ev k x)]=toC ((s7 t kind k++[x3 t.ev k x]).map p4):=a1I rfl;have b5:(s7 t kind k++[x3 t.ev k x]).length<=1000000:=zo;have b3:(s7 t kind k).length<=1000000:=om;obtain ⟨G,hG⟩:∃G:Nat->List x4,∀j,G j=R1++((t6 t.finds kind k).take j).map (fun g:Int=>A9 k 0 (g:Rat)):=⟨_,fun _=>rfl⟩;obtain ⟨K,hK⟩:∃K:Nat->List x4,∀j,K j=(R1++(t6 t.finds kind k).map (fun g:Int=>A9 k 0 (g:Rat)))++List.replicate j (A9 k 2 ((0:Int):Rat)):=⟨_,fun _=>rfl⟩;have hG0:G 0=R1:=by rw [hG];simp
  have hK0:K 0=R1++(t6 t.finds kind k).map (fun g:Int=>A9 k 0 (g:Rat)):=by rw [hK];simp
  have hKe:s7 t kind (k+1)=K (z9 t.cleans kind k):=by
   rw [hK,hR1];show (match t.ev.moves[k]? with|none=>s7 t kind k|some x=>s7 t kind k++J7 t kind k x)=_;rw [hx];unfold J7;simp [lbC]
  have hKs:toC ((K (z9 t.cleans kind k)).map p4)=toC ((s7 t kind (k+1)).map p4)∧(K (z9 t.cleans kind k)).length=(s7 t kind (k+1)).length:=by rw [hKe];exact rz
  have hgr:∀g ∈ t6 t.finds kind k,1<=g∧g<=1099511627776:=fun g hg=>by
   unfold t6 at hg;obtain ⟨f,hf,rfl⟩:=lbw.1 hg;have:=Z8 q4 f (lbx.1 hf).1;omega
  have hcr:W6 (N1 t.ev x) k=if (N1 t.ev x).isSome then [A9 k 1 (hiR (N1 t.ev x))] else []:=by cases N1 t.ev x<;>rfl
  cases hc:(N1 t.ev x).isSome<;>cases hb:decide (K4 t.ev x.src=0)<;>rw [hb] at bn<;>rw [hc] at hcr<;>
  ·have hci:=hc;rw [← iv] at hci;first|(have eR:R1=(s7 t kind k++[x3 t.ev k x]):=hR1.trans (r1A hcr hb);let ρ:List (Option Nat):=[some 0,some 1,some 2,some 5,some 4])|(have eR:R1=s7 t kind k:=hR1.trans (r1B hcr hb);let ρ:List (Option Nat):=[some 0,some 1,some 2,some 3,some 4])|(have eR:R1=(s7 t kind k++[x3 t.ev k x])++[A9 k 1 (hiR (N1 t.ev x))]:=hR1.trans (r1C hcr hb);let ρ:List (Option Nat):=[some 0,some 1,some 2,some 6,some 4])|(have eR:R1=s7 t kind k++[A9 k 1 (hiR (N1 t.ev x))]:=hR1.trans (r1D hcr hb);let ρ:List (Option Nat):=[some 0,some 1,some 2,some 5,some 4])
   have hRl:R1.length<=14500:=by rw [eR];(try simp);omega
   try (have hfv:hiF (a51 t.ev k)=fz (hiR (N1 t.ev x)):=(by rw [iv];exact (ah1 hc).1))
   conv=>whnf
   repeat' (first|refine zx ?_|refine i6 gk ?_|refine w6 zt zu ?_|refine .inr ⟨_,_,af0 (id:=5) hfv rfl rfl l5 r5 de b5 _ _,?_⟩|refine .inr ⟨_,_,af0 (id:=3) hfv rfl rfl rfl rfl de b3 _ _,?_⟩|apply zD<;>intro h<;>try omega)<;>conv=>whnf
   all_goals try omega
   all_goals try (rw [hci] at h;exact absurd h de)
   refine j3 d7 (fun j=>([J,J,J,J,sP 0 0 0,J,sP 1 0 0,sP 2 0 0,S.c (C.fn (Fn.func b74) [C.ptr 2 0 0]),eI k,sP 4 0 0]++Jn 23++[S.c (C.t (aF5 t kind)),eI t.ev.moves.length,eI k]++Jn 24++[S.c (C.t (x6 (t6 t.finds kind k))),eI (t6 t.finds kind k).length,eI j]++Jn 20,[al5,evB t.ev,ab8 t.ev.moves.length 3 (G j).length,a0D (G j),bf5 t kind k])) (t6 t.finds kind k).length tT ρ trivial ⟨rfl,rfl,⟨⟨rfl,rfl,rfl,.inr rz⟩,⟨rfl,rfl,rfl,.inl ⟨rfl,A7 _⟩⟩,⟨rfl,rfl,rfl,.inr ⟨⟨rfl,⟨rfl,rfl,?_,fun h=>h⟩,trivial⟩,trivial⟩⟩,e8 rfl rfl rfl ?_ rfl,⟨rfl,rfl,rfl,.inr (a8N [a6a t kind k])⟩,trivial⟩,⟨rz,rz,rz,rz,rfl,rz,rfl,rfl,rfl,rfl,e7 zq,rz⟩⟩ ?_
   ·simp [hG0,eR,toC]
   ·rw [hG0,eR];first|done|exact r5|rfl
   intro j hj _;have hGl:(G j).length<=1000000:=by rw [hG];simp [lbq];omega
   by_cases hjt:j<(t6 t.finds kind k).length
   ·obtain ⟨g,hg⟩:∃g,(t6 t.finds kind k)[j]? =some g:=⟨_,lbf hjt⟩;have gb:=hgr g (lbm hg);have ig:=O7 g om om;have eG:G (j+1)=G j++[A9 k 0 (g:Rat)]:=by rw [hG,hG,lbF,hg];simp
    conv=>whnf
    repeat' (first|refine zx ?_|refine i6 hg ?_|refine .inr ⟨_,_,af0 (id:=3) rfl rfl rfl rfl rfl de hGl _ _,?_⟩|apply zD<;>intro h<;>try omega)<;>conv=>whnf
    all_goals try omega
    refine ⟨hjt,trivial,[some 0,some 1,some 2,some 5,some 4],rfl,rfl,⟨⟨rfl,rfl,rfl,.inr rz⟩,⟨rfl,rfl,rfl,.inl ⟨rfl,A7 _⟩⟩,⟨rfl,rfl,rfl,.inr ⟨⟨rfl,⟨rfl,rfl,?_,fun h=>h⟩,trivial⟩,trivial⟩⟩,e8 rfl rfl rfl ?_ rfl,⟨rfl,rfl,rfl,.inr (a8N [a6a t kind k])⟩,trivial⟩,rz⟩
    ·rw [eG];simp
    ·rw [eG]
   have hje:j=(t6 t.finds kind k).length:=om;subst hje;have hGe:G (t6 t.finds kind k).length=R1++(t6 t.finds kind k).map (fun g:Int=>A9 k 0 (g:Rat)):=by rw [hG,lbn (lbQ _)]
   conv=>whnf
   repeat' (first|refine zx ?_|apply zD<;>intro h<;>try omega)<;>conv=>whnf
   all_goals try omega
   refine j3 d7 (fun j=>([J,J,J,J,sP 0 0 0,J,sP 1 0 0,sP 2 0 0,S.c (C.fn (Fn.func b74) [C.ptr 2 0 0]),eI k]++Jn 24++[S.c (C.t (aF5 t kind)),eI t.ev.moves.length,eI k]++Jn 37++[eI (z9 t.cleans kind k),eI j]++Jn 8,[al5,evB t.ev,ab8 t.ev.moves.length 3 (K j).length,a0D (K j)])) (z9 t.cleans kind k) tT [some 0,some 1,some 2,some 3] trivial ⟨rfl,rfl,⟨⟨rfl,rfl,rfl,.inr rz⟩,⟨rfl,rfl,rfl,.inl ⟨rfl,A7 _⟩⟩,⟨rfl,rfl,rfl,.inr ⟨⟨rfl,⟨rfl,rfl,?_,fun h=>h⟩,trivial⟩,trivial⟩⟩,e8 rfl rfl rfl ?_ rfl,trivial⟩,rz⟩ ?_
   ·rw [hK0,hGe]
   ·rw [hK0,hGe]
   clear hj hjt;intro j hj _;have hKl:(K j).length<=1000000:=by rw [hK];simp [lbq];omega
   by_cases hjt:j<z9 t.cleans kind k
   ·have eK:K (j+1)=K j++[A9 k 2 ((0:Int):Rat)]:=by rw [hK,hK,List.replicate_succ'];simp
    conv=>whnf
    repeat' (first|refine zx ?_|refine .inr ⟨_,_,af0 (id:=3) rfl rfl rfl rfl rfl de hKl _ _,?_⟩|apply zD<;>intro h<;>try omega)<;>conv=>whnf
    all_goals try omega
    refine ⟨hjt,trivial,[some 0,some 1,some 2,some 4],rfl,rfl,⟨⟨rfl,rfl,rfl,.inr rz⟩,⟨rfl,rfl,rfl,.inl ⟨rfl,A7 _⟩⟩,⟨rfl,rfl,rfl,.inr ⟨⟨rfl,⟨rfl,rfl,?_,fun h=>h⟩,trivial⟩,trivial⟩⟩,e8 rfl rfl rfl ?_ rfl,trivial⟩,rz⟩
    ·rw [eK];simp
    ·rw [eK]
   have hje:j=z9 t.cleans kind k:=om;subst hje;conv=>whnf
   repeat' (first|refine zx ?_|apply zD<;>intro h<;>try omega)<;>conv=>whnf
   all_goals try omega
   exact ⟨hlt,trivial,[some 0,some 1,some 2,some 3],rfl,rfl,⟨⟨rfl,rfl,rfl,.inr rz⟩,⟨rfl,rfl,rfl,.inl ⟨rfl,A7 _⟩⟩,⟨rfl,rfl,rfl,.inr ⟨⟨rfl,⟨rfl,rfl,hKs.2,fun h=>h⟩,trivial⟩,trivial⟩⟩,e8 rfl rfl rfl hKs.1 rfl,trivial⟩,rz⟩
 ·have hke:k=t.ev.moves.length:=by omega
  subst hke;conv=>whnf
  repeat' (first|refine zx ?_|apply zD<;>intro h<;>try omega)<;>conv=>whnf
  all_goals try omega
  exact ⟨[some 3],rfl,rfl,⟨e8 (rows:=(s7 t kind t.ev.moves.length).map p4) rfl rfl rfl rfl rfl,trivial⟩,⟨⟨rfl,⟨rfl,rfl,rfl,fun h=>h⟩,trivial⟩,rz⟩⟩
def a5r (t:n7) (kind:Int) (hs:t.Sized):ec 64 [trS t,eI kind] [] (.tup [D8 (a5N t kind),eI (a16 t kind)]) []:=by
 have ck:=ai8 t hs;have m2:(t.ev.moves.map A8.row).length=t.ev.moves.length:=zq;by_cases h1:p6 t≠0∨kind<0∨8<=kind
 ·have e1:a16 t kind=1:=by unfold a16;rw [if_pos h1]
  have e2:a5N t kind=⟨0,[]⟩:=by unfold a5N;rw [if_pos h1]
  rw [e1,e2];refine ac Tryz.func64 ?_;conv=>whnf
  repeat' (first|refine zx ?_|apply zD<;>intro h<;>try omega)<;>conv=>whnf
  all_goals first|omega|exact m9 rz
 have e1:a16 t kind=0:=by unfold a16;rw [if_neg h1]
 have e2:a5N t kind=j1 t kind:=by unfold a5N;rw [if_neg h1]
 rw [e1,e2];exact ax6 (b3C t kind hs h1) (m9 ⟨⟨rfl,show VC _ (fun id=>L9 [] id=true) _ _ from u5 rfl rfl zi rfl rfl (by rw [lbr]),trivial⟩,rz⟩)
def aO7 {P:Program} {g:FuncId} {x:S} {H H':Hp} {r:S} (h:d6 P g [x,k7 []] H r H'):d6 P g [x,.c (.t (.sl 0 .nil []))] H r H':=by
 refine a3Q h rfl fun w ι M j a b v hx hy hr=>?_
 rcases j with _|_|j
 ·injection hx with hx;injection hy with hy;subst hx hy;exact hr
 ·injection hx with hx;injection hy with hy;subst hx hy
  cases hr with
  |c hr=>cases hr with
   |t hr=>exact .c (.t (hr.weak rfl))
 ·simp at hx
def ah7 (z:List Rat):m7 [] z=0:=rfl
def aD9 {s:i8} (hr:j6 s=true):F5 s []=.best∨∃r,F5 s []=.row r:=by
 rcases a3C s [] with h|h|⟨c,h⟩
 ·exact .inl h
 ·exact .inr h
 ·have:=(a7U hr rfl h).2;rw [ah7] at this;exact absurd this de
theorem ah0 (s:i8) (n B:Nat) (h:F3 s [] n B) (hout:F5 s []=.best) (hpt:∀v ∈ m8 s [],rl v<=40000):
 d6 Tryz.prog 74 [D8 s] [] (.tup [n6 ((m8 s []).map fz),.c (.t (.sl 0 .nil [])),i9 true]) []:=by
 have le:=aO7 (a46 s [] n B h hout (fun k=>by rw [List.take_nil,ah7];have:=rl0;omega) hpt)
 (refine ac Tryz.func74 ?_;(conv=>whnf);repeat ((first|refine b0x ?_|refine zy ?_);conv=>whnf))
 repeat' (first|refine zx ?_|refine qp 4 ?_|refine qp (4,6) ?_|refine .inr ⟨_,_,le,?_⟩|refine bl0 [4] ?_|refine bl0 [4,6] ?_|refine zd ?_ ?_<;>intro h<;>try omega|fail)<;>conv=>whnf
 all_goals first
  |omega
  |exact m9 ⟨rfl,rfl,rfl,trivial⟩
def au0 (s:i8) (n B r:Nat) (h:F3 s [] n B) (hout:F5 s []=.row r):
 d6 Tryz.prog 74 [D8 s] [] (.tup [.c (.t (.sl 0 .nil [])),n6 (rF s.rows.length (a9Q s (o6 s []) r)),i9 false]) []:=by
 have le:=aO7 (aR5 s [] n B r h hout)
 (refine ac Tryz.func74 ?_;(conv=>whnf);repeat ((first|refine b0x ?_|refine zy ?_);conv=>whnf))
 repeat' (first|refine zx ?_|refine .inr ⟨_,_,le,?_⟩|refine bl0 [4] ?_|refine bl0 [4,6] ?_|refine zd ?_ ?_<;>intro h<;>try omega|fail)<;>conv=>whnf
 all_goals first
  |omega
  |exact m9 ⟨rfl,(show VC _ (fun id=>L9 [] id=true) (C.own 0 0 s.rows.length true) _ from u5 (k:=flB (rF s.rows.length (a9Q s (o6 s []) r))) rfl rfl (fun h=>h) rfl rfl (by simp [L1])),rfl,trivial⟩
def Y0 {α:Type} {f:α->List T} {l:List α} {x:α} {n:Nat} (h:n=l.length):List.take n (toC (l.map f))++toC [f x]=toC ((l++[x]).map f):=by
 rw [lbn (by simp [toC,h])];simp [toC]
def a1j (l:List (Int × Rat)) (f:Rat):List (Int × Rat):=l.map fun t=>(t.1,t.2*f)
def a2P (l:List (Int × Rat)) (f:Rat) {k:Nat} {t:Int × Rat} (h:l[k]? =some t):(a1j l f).take (k+1)=(a1j l f).take k++[(t.1,t.2*f)]:=by
 rw [lbF]
 congr 1
 unfold a1j;rw [lba,h];rfl
def a1Y (l:List (Int × Rat)) (f:Rat):(a1j l f).length=l.length:=by simp [a1j]
def b8X (l:List (Int × Rat)) (f:Rat) (hf:f≠0) (hr:j2 (-1) 1500 l=true) (hb:∀t ∈ l,rl t.2<=200) (hfb:rl f<=200):
 ec 156 [k7 l,frS (fz f)] [] (k7 (a1j l f)) []:=by
 have hl:=s9 hr;have m1:(l.map o7).length=l.length:=zq;have rt:=N3 l 1500 om hb;rw [lbG om,hr] at rt;have sg:=R6 f om;have sz:=a1e (x:=f);have hs0:sgR f≠0:=fun h=>hf (sz.1 h)
 (refine ac Tryz.func156 ?_;(conv=>whnf);repeat ((first|refine b0x ?_|refine zy ?_);conv=>whnf))
 repeat' (first|refine zx ?_|apply zD<;>intro h<;>try omega)<;>conv=>whnf
 all_goals try omega
 all_goals try (exfalso;simp_all;done)
 refine j3 d7 (fun k=>([J,J,J,S.c (C.t (T.ptr (o4 (fz f)))),J,S.c (C.own 0 0 k true)]++Jn 12++[k7 l,eI l.length,eI k]++Jn 19,[Q1 ((a1j l f).take k)])) l.length tT [none] trivial
  ⟨rfl,rfl,rz,⟨l9 rfl,rz,l9 rfl,e7 om,e7 rfl,trivial⟩⟩ ?_
 intro k hk _;by_cases hlt:k<l.length
 ·obtain ⟨t,ht⟩:∃t,l[k]? =some t:=⟨_,lbf hlt⟩;have bt:=hb t (lbm ht);have mu:=aK8 t.2 f om om;have lk:((a1j l f).take k).length=k:=by rw [lbs,a1Y];omega
  have lA:k<=(Q1 ((a1j l f).take k)).rows.length:=by show k<=(toC _).length;simp [toC,a1Y];omega
  conv=>whnf
  repeat' (first|refine zx ?_|refine i6 ht ?_|refine w6 lA zu ?_|refine bl0 [6] ?_|apply zD<;>intro h<;>try omega)<;>conv=>whnf
  all_goals first
   |omega
   |(refine ⟨hlt,trivial,[some 3],rfl,rfl,⟨e8 (rows:=((a1j l f).take (k+1)).map o7) rfl rfl rfl ?_ rfl,trivial⟩,⟨rfl,⟨rfl,rfl,rfl,fun h=>h⟩,rfl,rfl,e7 om,trivial⟩⟩
     rw [a2P l f ht];exact Y0 (f:=o7) (x:=(t.1,t.2*f)) lk.symm)
 ·have hke:k=l.length:=by omega
  subst hke;conv=>whnf
  repeat' (first|refine zx ?_|apply zD<;>intro h<;>try omega)<;>conv=>whnf
  all_goals first|omega|exact L7 rfl (fun h=>h) rfl (by rw [lbn (by rw [a1Y];exact lbQ _)]) (by simp [a1Y])
def a5B {n n':Int} (h:n<=n'):∀{last:Int} {l:List (Int × Rat)},j2 last n l=true->j2 last n' l=true
 |_,[],_=>rfl
 |last,a::r,hr=>by
  unfold j2 at hr ⊢;simp only [lbM,lbH] at hr ⊢;exact ⟨⟨⟨hr.1.1.1,om⟩,hr.1.2⟩,a5B h hr.2⟩
def w8 (l:List (Int × Rat)):List (Int × Rat):=a1j l ((-1:Int):Rat)
def a47 (l:List (Int × Rat)) (hr:j2 (-1) 1500 l=true) (hb:∀t ∈ l,rl t.2<=200):ec 86 [k7 l] [] (k7 (w8 l)) []:=by
 have i1:=O7 (-1) de de;have tm:=b8X l ((-1:Int):Rat) de hr hb (by have:=p7 (x:=-1) de de;have:=p7 (x:=1) de de;show max (bl (-1)) (bl 1)<=200;omega);refine ac Tryz.func86 ?_;conv=>whnf
 repeat' (first|refine zx ?_|apply zD<;>intro<;>try omega)<;>conv=>whnf
 exact m9 (H1:=[]) (l9 (ρ:=[]) (H:=[]) rfl)
def a33 (l:LI):List (Int × Rat):=l.map fun i=>(i,((1:Int):Rat))
def v4 (t:n7) (h:Int):List (Int × Rat):=a33 (E7 t.ev h (-1) 0 100000)
def a0C (t:n7) (h:Int):List (Int × Rat):=if p6 t=0∧0<=h∧h<t.ev.hhs then v4 t h else []
def aU2 {H1:Hp}:Fin 0 (.c (.t (.sl 0 .nil []))) H1 (k7 []) []:=m9 (show a95 [] H1 (.c (.t (.sl 0 .nil []))) (k7 []) from rfl)
def aA2 {l:LI} {k:Nat} {x:Int} (h:l[k]? =some x):a33 (l.take (k+1))=a33 (l.take k)++[(x,((1:Int):Rat))]:=by
 rw [lbF,h];unfold a33;simp
def a8d (t:n7) (hs:t.Sized) (hh:Int) (hl:(E7 t.ev hh (-1) 0 100000).length<=100000):ec 31 [trS t,eI hh] [] (k7 (a0C t hh)) []:=by
 have ck:=ai8 t hs;have li:=b7C t.ev hs.ev hh (-1) 0 100000;have i1:=O7 1 de de;by_cases hc:p6 t=0∧0<=hh∧hh<t.ev.hhs
 ·have e:a0C t hh=v4 t hh:=if_pos hc;rw [e];obtain ⟨c1,c2,c3⟩:=hc;have m1:((E7 t.ev hh (-1) 0 100000).map k6).length=(E7 t.ev hh (-1) 0 100000).length:=zq;refine ac Tryz.func31 ?_;conv=>whnf
  repeat' (first|refine zx ?_|apply zD<;>intro h<;>try omega)<;>conv=>whnf
  all_goals try omega
  refine j3 d7 (fun k=>([J,J,J,J,J,S.c (C.own 0 0 k true)]++Jn 19++[k9 (E7 t.ev hh (-1) 0 100000),eI (E7 t.ev hh (-1) 0 100000).length,eI k]++Jn 11,[Q1 (a33 ((E7 t.ev hh (-1) 0 100000).take k))])) (E7 t.ev hh (-1) 0 100000).length tT [none] trivial
   ⟨rfl,rfl,rz,⟨rz,l9 rfl,e7 om,e7 rfl,trivial⟩⟩ ?_
  intro k hk _;by_cases hlt:k<(E7 t.ev hh (-1) 0 100000).length
  ·obtain ⟨x,hx⟩:∃x,(E7 t.ev hh (-1) 0 100000)[k]? =some x:=⟨_,lbf hlt⟩;have lk:(a33 ((E7 t.ev hh (-1) 0 100000).take k)).length=k:=by unfold a33;rw [lbr,lbs];omega
   have lA:k<=(Q1 (a33 ((E7 t.ev hh (-1) 0 100000).take k))).rows.length:=by show k<=(toC _).length;rw [toC,lbr,lbr,lk];exact lbQ _
   conv=>whnf
   repeat' (first|refine zx ?_|refine i6 hx ?_|refine w6 lA zu ?_|apply zD<;>intro h<;>try omega)<;>conv=>whnf
   all_goals first
    |omega
    |(refine ⟨hlt,trivial,[some 1],rfl,rfl,⟨e8 (rows:=(a33 ((E7 t.ev hh (-1) 0 100000).take (k+1))).map o7) rfl rfl rfl ?_ rfl,trivial⟩,⟨⟨rfl,rfl,rfl,fun h=>h⟩,rfl,rfl,e7 om,trivial⟩⟩
      rw [aA2 hx];exact Y0 (f:=o7) (x:=(x,((1:Int):Rat))) lk.symm)
  ·have hke:k=(E7 t.ev hh (-1) 0 100000).length:=by omega
   subst hke;conv=>whnf
   repeat' (first|refine zx ?_|apply zD<;>intro h<;>try omega)<;>conv=>whnf
   all_goals first|omega|exact L7 rfl (fun h=>h) rfl (by rw [lbn (lbQ _)];rfl) (by simp [v4,a33])
 ·have e:a0C t hh=[]:=if_neg hc;rw [e];refine ac Tryz.func31 ?_;conv=>whnf
  repeat' (first|refine zx ?_|apply zD<;>intro h<;>try omega)<;>conv=>whnf
  all_goals first|omega|exact aU2
def b4d (l:List Fr) (h0:0<l.length) (h1:l.length<=100000):ec 224 [n6 l] [] (.c (.own 0 0 l.length true)) [flB l]:=by
 have m1:(l.map o4).length=l.length:=zq;have hl:0<(l.map o4).length:=om;refine ac Tryz.func224 ?_;conv=>whnf
 repeat' (first|refine zx ?_|refine ⟨hl,?_⟩|refine zz ?_|refine a2I rfl (by simp only [toC,lbr,a9Y];omega) ?_|refine w6 (H8 _) (by simp only [toC,lbr];omega) ?_|apply zD<;>intro h<;>try omega)<;>conv=>whnf
 all_goals first|omega|exact ⟨[some 0],rfl,rfl,⟨e8 (rows:=l.map o4) rfl rfl rfl rfl rfl,trivial⟩,⟨rfl,rfl,by simp [toC],fun h=>h⟩⟩
def smF (a b:Nat->Rat) (k:Nat):Nat->Rat:=fun j=>if j<k then a j+b j else a j
def bf3 (n:Nat) (a b:Nat->Rat) (h0:0<n) (hn:n<=1000) (ha:∀j,j<n->rl (a j)<=60000) (hb:∀j,j<n->rl (b j)<=60000):
 ec 142 [n6 (rF n a),n6 (rF n b)] [] (n6 (rF n fun j=>a j+b j)) []:=by
 have m1:((rF n b).map o4).length=n:=by simp [L1]
 have cl:=b4d (rF n a) (by rw [L1];exact h0) (by rw [L1];omega);rw [L1] at cl;have e9:rF n (fun j=>a j+b j)=rF n (smF a b n):=B6 fun j hj=>by unfold smF;rw [if_pos hj]
 rw [e9];refine ac Tryz.func142 ?_;conv=>whnf
 repeat' (first|refine zx ?_|refine .inr ⟨_,_,cl,?_⟩|apply zD<;>intro h<;>try omega)<;>conv=>whnf
 refine j3 d7 (fun k=>([J,J,J,J,J,S.c (C.own 0 0 n true),J,J,J,J,n6 (rF n b),eI n,eI k]++Jn 18,[flB (rF n (smF a b k))])) n tT [some 0] trivial
  ⟨rfl,rfl,⟨e8 (rows:=(rF n a).map o4) rfl rfl rfl rfl (by rw [B6 (g:=smF a b 0) (h:=a) fun j hj=>by unfold smF;rw [if_neg om]]),trivial⟩,⟨⟨rfl,rfl,rfl,fun h=>h⟩,l9 rfl,e7 om,e7 rfl,trivial⟩⟩ ?_
 intro k hk _;by_cases hlt:k<n
 ·have eK:0+(k:Int).toNat=k:=by omega
  have ad:=a60 (a k) (b k) (ha k hlt) (hb k hlt);have gp:(rF n (smF a b k))[0+(k:Int).toNat]? =some (fz (a k)):=by rw [eK,G4 hlt];unfold smF;rw [if_neg om]
  have e:y6 (flB (rF n (smF a b k))) ((flB (rF n (smF a b k))).rows.set (0+(k:Int).toNat) (frC (fz (a k+b k))))=flB (rF n (smF a b (k+1))):=by
   rw [J9 eK,X6 hlt];refine congrArg flB (B6 fun j hj=>?_);unfold smF;by_cases h:j=k
   ·subst h;rw [if_pos rfl,if_pos om]
   ·rw [if_neg h];have:(j<k)↔(j<k+1):=om;simp only [this]
  conv=>whnf
  repeat' (first|refine zx ?_|refine a4G rfl hlt ?_|refine s8 gp ?_|refine bl0 [10] ?_|apply zD<;>intro h<;>try omega)<;>conv=>whnf
  all_goals first|omega|exact ⟨hlt,trivial,[some 0],rfl,rfl,⟨⟨rfl,rfl,rfl,.inl ⟨congrArg Blk.rows e,(congrArg Blk.rows e) ▸ i5 _⟩⟩,trivial⟩,⟨⟨rfl,rfl,rfl,fun h=>h⟩,rfl,rfl,e7 om,trivial⟩⟩
 ·have hke:k=n:=by omega
  subst hke;conv=>whnf
  repeat' (first|refine zx ?_|apply zD<;>intro h<;>try omega)<;>conv=>whnf
  all_goals first|omega|exact L7 rfl (fun h=>h) rfl rfl (by simp [L1])
def b14 {P:Program} {g:FuncId} {args:List S} {H:Hp} {b:Blk} {r r':S} {rows:List (List T)} (h:d6 P g args [] r [b]) (ha:args=args.map (a53 [])) (hok:args.all (okS 0)=true) (hm:b.mode=.live) (hb:b.rows=toC rows) (hr:aq0 r=true)
 (hr':r'=a53 [H.length] r):d6 P g args H r' (H++[b]):=by
 have ex:a3D [] H.length (([b]:Hp).length - ([]:Hp).length)=[H.length]:=rfl;refine Q8 [] h ha hok rfl aN7 zq (fun k hk=>?_) zq hr (by rw [ex];exact hr') zq ?_ ?_
 ·simp at hk;subst hk;rw [hm];intro h;cases h
 ·intro i k hk;rw [ex];rcases i with _|i
  ·injection hk with hk;subst hk
   refine ⟨b,?_,z4 hb⟩;show (H++[b])[H.length]? =_;rw [lbc (lbQ _)];simp
  ·simp at hk
 ·intro j hj _;rw [lbb hj]
def b1s {P:Program} {g:FuncId} {args:List S} {H:Hp} {b:Blk} {cs:List C} {s2:S} {j lo len:Nat} {app:Bool} (h:d6 P g args [] (.tup [.agg cs,s2]) [b]) (ha:args.all S.isT=true) (hm:b.mode=.live) (hb:I5 b.rows)
 (hf:aq0 (.tup [.agg cs,s2])=true) (hj:cs[j]? =some (.own 0 lo len app)):X3 P g args H (a53 [H.length] (.tup [.agg cs,s2])) [b]:=by
 refine ⟨h.1,fun w ι M vals hl hv hH hM hf0=>?_⟩;have:=h.2 w (fun _=>none) M vals hl (fun j s hj=>(hv j s hj).tree (lbv.1 ha s (lbm hj)))
  ⟨zq,zq,zq,zq,zq⟩ hM (fun _ _=>rfl)
 refine Calls.mono this ?_;rintro e w' ⟨v,rfl,ι',M',h1,h2,h3,h4,h5⟩;have hnl:∀x,¬a3X (fun _=>none) ([]:Hp) x:=by rintro x ⟨id,k,_,_,hk,_⟩;simp at hk
 obtain ⟨l,hl0⟩:∃l,ι' 0=some l:=by
  cases h1 with
  |tup vs hl hr=>
   have h0:=hr 0 _ rfl;generalize vs.getD 0 undef=v0 at h0;cases h0 with
   |agg us hl hr=>
    have h9:=hr j _ hj;generalize us.getD j undef=v9 at h9;cases h9 with
    |own hi=>exact ⟨_,hi⟩
    |nil hi=>exact ⟨_,hi⟩
 have hnew:B7 ι H.length [b].length (fun _=>l) H.length=some l:=by unfold B7;simp
 have hMM:∀x,a5P M [b].length (fun _=>l) x->M' x:=by
  intro x hx;rcases hx with hx|⟨k,hk,cap,size,he⟩
  ·rcases h5.mold x hx with h|h
   ·exact h
   ·exact absurd h (hnl x)
  ·have he:l=.blk x cap size:=he;subst he;exact h2.liv 0 b rfl hm x cap size hl0
 refine ⟨v,rfl,fun _=>l,?_,⟨h5.os,h5.tape,h5.output,h5.size,fun x hx=>h5.keep x hx (hnl x)⟩,?_,?_,?_⟩
 ·refine RS.keep (w:=w') (ι:=B7 ι H.length [b].length (fun _=>l)) (M:=M') (fun _ _ _=>rfl) (fun x hx=>.inl (hMM x hx)) (fun _ _ h=>h) (RS.ren (σ:=[H.length]) (fun id l' hi=>?_) hf h1);rcases id with _|id
  ·rw [hl0] at hi;injection hi with hi;subst hi;exact hnew
  ·rw [h4 (id+1) zq] at hi;cases hi
 ·intro k blk hk;cases k with
  |succ k=>simp at hk
  |zero=>
   simp at hk;subst hk;refine ⟨hm,?_⟩;have hbr:=h2.blk 0 b rfl (by rw [hm];intro h;cases h) l hl0;cases l with
   |nil=>exact hbr
   |blk x cap size=>
    obtain ⟨r1,r2,r3,r4,r5,cur,r6,r7,r8⟩:=hbr;refine ⟨r1,r2,r3,r4,r5,cur,r6,r7,fun i j c hc=>?_⟩;obtain ⟨u,u1,u2⟩:=r8 i j c hc;exact ⟨u,u1,ar3 hMM hb hc u2⟩
 ·intro k x cap size hk he;have he:l=.blk x cap size:=he;subst he;refine ⟨?_,h3 x (h2.liv 0 b rfl hm x cap size hl0)⟩;rcases h5.live x ⟨0,b,cap,size,rfl,hm,hl0⟩ with h|h
  ·exact absurd h (hnl x)
  ·exact h
 ·intro k k' x cap size cap' size' hk hk' _ _;simp at hk hk';omega
structure a29 where
 hh:Int
 state:Int
 w:List Rat
 wo:List Rat
 pr:List Rat
def a29.row (v:a29):List T:=[ti v.hh,ti v.state,O8 (v.w.map fz),O8 (v.wo.map fz),O8 (v.pr.map fz)]
abbrev b1n (v:a29):S:=.agg (v.row.map C.t)
def a2X {x:Rat}:sgR x > 0↔0<x:=by unfold sgR;split<;>(try split)<;>simp_all<;>grind
def aJ4 {x:Rat}:sgR x<0↔x<0:=by unfold sgR;split<;>(try split)<;>simp_all
structure b3y (s:i8) (g:List (Int × Rat)) (n B B1 B0:Nat):Prop where
 p:F3 s g n B
 q:F3 s (w8 g) n B1
 z:F3 s [] n B0
 g5:j2 (-1) 1500 g=true
 v:∀k,rl (m7 (g.take k) (m8 s g))<=50000
 u:∀k,rl (m7 ((w8 g).take k) (m8 s (w8 g)))<=50000
def a8x {s:i8} {g:List (Int × Rat)} {n B:Nat} (h:F3 s g n B):∀v ∈ m8 s g,rl v<=17000:=by
 intro v hv;have hb:=a9u h;have hn:=h.nn;have hB:=h.bb;obtain ⟨j,hj,rfl⟩:=a4q hv;have hp:R4 (f8 s).length s.n.toNat (o6 s g):=I0.p;rw [hn] at hj hp ⊢;rw [← ai5 hp hj];have key:∀k,k<=(f8 s).length->rl (ptK n (o6 s g).O (o6 s g).V (fun _=>0) k j)<=17000:=by
  intro k;induction k with
  |zero=>intro _;have:=rl0;show rl 0<=_;omega
  |succ k ih=>
   intro hk;rw [G8];simp only;split
   ·have:=hb.v k om;omega
   ·exact ih om
 exact key _ (lbQ _)
noncomputable def b6O (s:i8) (g:List (Int × Rat)) (hh:Int):a29:=⟨hh,2,m8 s g,[],zOf s.rows.length (D9 s (o6 s g))++[((-1:Int):Rat)]⟩
def ad5 {s:i8} {g:List (Int × Rat)} {n B:Nat} (h:F3 s g n B) (hout:F5 s g=.best) (hS:∀k,rl (m7 (g.take k) (m8 s g))<=50000) (H:Hp):
 ec 141 [D8 s,k7 g] H (.tup [.agg (C.t (ti 0)::frC (fz (m7 g (m8 s g)))++[.t (O8 ((m8 s g).map fz)),.own H.length 0 s.rows.length true,.t (.sl 0 .nil [])]),eI 0]) (H++[flB (rF s.rows.length (D9 s (o6 s g)))]):=
 b14 (a46 s g n B h hout (fun k=>by have:=hS k;omega) (fun v hv=>by have:=a8x h v hv;omega)) rfl rfl rfl rfl rfl rfl
def b1f {R:Nat} {y:Nat->Rat} {x:Rat}:(toC ((rF R y).map o4)).take R++toC [o4 (fz x)]=toC (((zOf R y++[x]).map fz).map o4):=by
 have e:(zOf R y++[x]).map fz=rF R y++[fz x]:=by rw [lbB,a28];rfl
 rw [Y0 (f:=o4) (l:=rF R y) (x:=fz x) (L1 R y).symm,e]
def b6X {s:i8} {g:List (Int × Rat)} {n B:Nat} (h:F3 s g n B) (hout:F5 s g=.best) (hS:∀k,rl (m7 (g.take k) (m8 s g))<=50000) (H:Hp):
 X3 Tryz.prog 141 [D8 s,k7 g] H (.tup [.agg (C.t (ti 0)::frC (fz (m7 g (m8 s g)))++[.t (O8 ((m8 s g).map fz)),.own H.length 0 s.rows.length true,.t (.sl 0 .nil [])]),eI 0]) [flB (rF s.rows.length (D9 s (o6 s g)))]:=
 b1s (j:=6) (lo:=0) (len:=s.rows.length) (app:=true) (a46 s g n B h hout (fun k=>by have:=hS k;omega) (fun v hv=>by have:=a8x h v hv;omega)) rfl rfl (i5 _) rfl rfl
def ai6 (s:i8) (g:List (Int × Rat)) (n B B1 B0:Nat) (h:b3y s g n B B1 B0) (hh:Int) (hout:F5 s g=.best) (hv:0<m7 g (m8 s g)):
 ec 75 [D8 s,k7 g,eI hh] [] (b1n (b6O s g hh)) []:=by
 have le:=ad5 h.p hout h.v;have vb:=h.v g.length;rw [X7] at vb;have sg:=R6 (m7 g (m8 s g)) om;have sp:=a2X.2 hv;have i1:=O7 (-1) de de;have hR:=h.p.r;refine ac Tryz.func75 ?_;conv=>whnf
 repeat' (first|refine an2 [0,1,2,3,4,5,7,6,8,9,10,11,12] zk zk ?_|refine zz ?_|refine qp sg ?_|refine qp i1 ?_|refine .inr ⟨_,_,le _,?_⟩|refine bl0 [5] ?_|refine w6 (by simp [toC,L1]) zu ?_|refine bl0 [0,1,6] ?_|refine bl0 [0,1] ?_|apply zD<;>intro h<;>try omega|refine zy ?_|fail)<;>conv=>whnf
 all_goals first|omega|exact m9 ⟨rfl,rfl,rfl,rfl,(show VC _ (fun id=>L9 [] id=true) (C.own 4 0 (s.rows.length+1) true) _ from u5 (k:={ mode:=.live,elem:=86,size:=4,rows:=(toC ((rF s.rows.length (D9 s (o6 s g))).map o4)).take s.rows.length++toC [o4 (fz ((-1:Int):Rat))],box:=false }) rfl rfl (fun h=>h) rfl b1f (by simp [zOf])),trivial⟩
noncomputable def a7q (s:i8) (g:List (Int × Rat)) (c:Nat) (hh:Int):a29:=⟨hh,1,zOf s.n.toNat fun j=>J1 (f8 s).length s.n.toNat (o6 s []) 1 (fun _=>0) j+J1 (f8 s).length s.n.toNat (o6 s (w8 g)) 0 (fun q=>if q=c then 1 else 0) j,m8 s g,[]⟩
noncomputable def bb8 (s:i8) (g:List (Int × Rat)) (hh:Int):a29:=⟨hh,1,m8 s (w8 g),m8 s g,[]⟩
noncomputable def ad3 (s:i8) (g:List (Int × Rat)) (hh:Int):a29:=⟨hh,0,[],m8 s g,zOf s.rows.length (D9 s (o6 s (w8 g)))⟩
def b8N {s:i8} {g:List (Int × Rat)} {n B B0 c:Nat} (h:F3 s g n B) (h0:F3 s [] n B0) (hout:F5 s g=.col c) (hout0:F5 s []=.best) (H:Hp):
 X3 Tryz.prog 141 [D8 s,k7 g] H (.tup [.agg (C.t (ti 2)::bk5++[.t (O8 ((m8 s []).map fz)),.t (.sl 0 .nil []),.t (O8 ((a4h s g c).map fz))]),eI 0]) []:=
 L2 (aG6 s g n B B0 c h h0 hout hout0) rfl rfl
def bf8 {s:i8} {g:List (Int × Rat)} {n B c:Nat} (h:F3 s g n B) (hc:c<n) {j:Nat} (hj:j<n):rl (J1 (f8 s).length n (o6 s g) 0 (fun q=>if q=c then 1 else 0) j)<=17000:=by
 have hb:=a9u h;have hB:=h.bb;have hp:R4 (f8 s).length n (o6 s g):=by have hn:=h.nn;subst hn;exact I0.p
 rw [← a7S hp hc hj];have key:∀k,k<=(f8 s).length->rl (ptK n (o6 s g).O (fun i=>-((o6 s g).A i c)) (fun j=>if (o6 s g).F c<n∧j=(o6 s g).F c then 1 else 0) k j)<=17000:=by
  intro k;induction k with
  |zero=>
   intro _;have:=rl0;have:=rl1;show rl (if _ then (1:Rat) else 0)<=_;split<;>omega
  |succ k ih=>
   intro hk;rw [G8];simp only;split
   ·rw [Q5];have:=hb.a k om c hc;omega
   ·exact ih om
 exact key _ (lbQ _)
def at7 (s:i8) (g:List (Int × Rat)) (n B B1 B0 c:Nat) (h:b3y s g n B B1 B0) (hh:Int) (hout:F5 s g=.best) (hv:¬0<m7 g (m8 s g)) (hq:F5 s (w8 g)=.col c) (hz:F5 s []=.best):
 ec 75 [D8 s,k7 g,eI hh] [] (b1n (a7q s g c hh)) []:=by
 have le:=ad5 h.p hout h.v;have vb:=h.v g.length;rw [X7] at vb;have sg:=R6 (m7 g (m8 s g)) om;have sp:¬sgR (m7 g (m8 s g)) > 0:=fun e=>hv (a2X.1 e)
 have hR:=h.p.r;have op:=a47 g h.g5 h.p.gb;have l2:=b8N h.q h.z hq hz;have hn:=h.p.nn;have hcn:c<n:=by have:=(a3L hq).1;omega
 have e1:(m8 s []).map fz=rF n (J1 (f8 s).length n (o6 s []) 1 (fun _=>0)):=by unfold m8;rw [a28,hn]
 have e2:(a4h s (w8 g) c).map fz=rF n (J1 (f8 s).length n (o6 s (w8 g)) 0 (fun q=>if q=c then 1 else 0)):=by unfold a4h;rw [a28,hn]
 have sm:=bf3 n (J1 (f8 s).length n (o6 s []) 1 (fun _=>0)) (J1 (f8 s).length n (o6 s (w8 g)) 0 (fun q=>if q=c then 1 else 0)) om h.p.o.n1
  (fun j hj=>by
    have:rl (J1 (f8 s).length n (o6 s []) 1 (fun _=>0) j)<=17000:=a8x h.z _ (by unfold m8;rw [hn];exact lbw.2 ⟨j,lbA.2 hj,rfl⟩);omega)
  (fun j hj=>by have:=bf8 h.q hcn hj;omega)
 rw [← e1,←e2] at sm;have e3:rF n (fun j=>J1 (f8 s).length n (o6 s []) 1 (fun _=>0) j+J1 (f8 s).length n (o6 s (w8 g)) 0 (fun q=>if q=c then 1 else 0) j)=(a7q s g c hh).w.map fz:=by
  unfold a7q;simp only;rw [a28,hn]
 rw [e3] at sm;refine ac Tryz.func75 ?_;conv=>whnf
 repeat' (first|refine zx ?_|refine .inr ⟨_,_,le _,?_⟩|refine .inl ⟨_,_,l2 _,?_⟩|refine bl0 [5] ?_|refine bl0 [6] ?_|refine bl0 [0] ?_|apply zD<;>intro h<;>try omega)<;>conv=>whnf
 all_goals first|omega|exact m9 rz
def aM7 (s:i8) (g:List (Int × Rat)) (n B B1 B0:Nat) (h:b3y s g n B B1 B0) (hh:Int) (hout:F5 s g=.best) (hv:¬0<m7 g (m8 s g)) (hq:F5 s (w8 g)=.best) (hv2:m7 (w8 g) (m8 s (w8 g))<0):
 ec 75 [D8 s,k7 g,eI hh] [] (b1n (bb8 s g hh)) []:=by
 have le:=ad5 h.p hout h.v;have vb:=h.v g.length;rw [X7] at vb;have ub:=h.u (w8 g).length;rw [X7] at ub;have sg:=R6 (m7 g (m8 s g)) om;have sp:¬sgR (m7 g (m8 s g)) > 0:=fun e=>hv (a2X.1 e)
 have sg2:=R6 (m7 (w8 g) (m8 s (w8 g))) om;have sp2:=aJ4.2 hv2;have hR:=h.p.r;have op:=a47 g h.g5 h.p.gb;have l2:=b6X h.q hq h.u;refine ac Tryz.func75 ?_;conv=>whnf
 repeat' (first|refine zx ?_|refine .inr ⟨_,_,le _,?_⟩|refine .inl ⟨_,_,l2 _,?_⟩|refine bl0 [5] ?_|refine bl0 [6] ?_|refine bl0 [0] ?_|refine bl0 [0,1] ?_|apply zD<;>intro h<;>try omega)<;>conv=>whnf
 all_goals first|omega|exact m9 rz
def ar8 (s:i8) (g:List (Int × Rat)) (n B B1 B0:Nat) (h:b3y s g n B B1 B0) (hh:Int) (hout:F5 s g=.best) (hv:¬0<m7 g (m8 s g)) (hq:F5 s (w8 g)=.best) (hv2:¬m7 (w8 g) (m8 s (w8 g))<0):
 ec 75 [D8 s,k7 g,eI hh] [] (b1n (ad3 s g hh)) []:=by
 have le:=ad5 h.p hout h.v;have vb:=h.v g.length;rw [X7] at vb;have ub:=h.u (w8 g).length;rw [X7] at ub;have sg:=R6 (m7 g (m8 s g)) om;have sp:¬sgR (m7 g (m8 s g)) > 0:=fun e=>hv (a2X.1 e)
 have sg2:=R6 (m7 (w8 g) (m8 s (w8 g))) om;have sp2:¬sgR (m7 (w8 g) (m8 s (w8 g)))<0:=fun e=>hv2 (aJ4.1 e)
 have hR:=h.p.r;have op:=a47 g h.g5 h.p.gb;have l2:=b6X h.q hq h.u;refine ac Tryz.func75 ?_;conv=>whnf
 repeat' (first|refine zx ?_|refine .inr ⟨_,_,le _,?_⟩|refine .inl ⟨_,_,l2 _,?_⟩|refine bl0 [5] ?_|refine bl0 [6] ?_|refine bl0 [0] ?_|refine bl0 [0,1] ?_|apply zD<;>intro h<;>try omega)<;>conv=>whnf
 all_goals first|omega|exact m9 ⟨rfl,rfl,rfl,rfl,(show VC _ (fun id=>L9 [] id=true) (C.own 4 0 s.rows.length true) _ from u5 (k:=flB (rF s.rows.length (D9 s (o6 s (w8 g))))) rfl rfl (fun h=>h) rfl (by show toC ((rF s.rows.length (D9 s (o6 s (w8 g)))).map o4)=toC (((zOf s.rows.length (D9 s (o6 s (w8 g)))).map fz).map o4);rw [a28]) (by simp [zOf,ad3])),trivial⟩
structure bt9 where
 mv:Int
 mat:Int
def bt9.row (p:bt9):List T:=[ti p.mv,ti p.mat]
def a79 (l:LI) (hl:l.length<=1000000):ec 329 [k9 l] [] (k9 (J6 l)) []:=by
 have l2:(l.map k6).length=l.length:=zq;refine ac Tryz.func329 ?_;conv=>whnf
 repeat' (first|refine zx ?_|apply zD<;>intro h<;>try omega)<;>conv=>whnf
 refine p9 d7 (σ:=Nat) (fun n=>([k9 l,J,J,eI n]++Jn 19,[])) (fun n=>n<=l.length∧∀j x,n<=j->l[j]? =some x->x=0) (fun n=>n) l.length []
  ⟨lbQ _,fun j x hj hx=>by rw [lbd hj] at hx;cases hx⟩ ⟨rfl,rfl,trivial,⟨l9 rfl,e7 zq,trivial⟩⟩ ?_
 rintro n ⟨hn,hz⟩;have hn:n<=l.length:=hn;conv=>whnf
 repeat' (first|refine zz ?_|refine a4M.own ?_|refine G7 om (a1W om hn) ?_|refine a2f om om om ?_|refine w6 zt zu ?_|apply zD<;>intro h<;>try omega|refine zy ?_|fail)<;>conv=>whnf
 ·have h0:dat l (n - 1)=0:=by assumption
  have h1:0<n:=om;refine ⟨[],n - 1,⟨rfl,rfl,trivial,⟨rfl,e7 om,trivial⟩⟩,⟨om,fun j x hj hxj=>?_⟩,by show n - 1<n;omega⟩;by_cases hj2:j=n - 1
  ·subst hj2;rw [w7 om] at hxj;injection hxj with hx;rw [← hx];exact h0
  ·exact hz j x om hxj
 all_goals
  have e:l.take n=J6 l:=a4j hz (fun x h0 hx=>by
   first|omega|(rw [w7 om] at hx;injection hx with hx;rw [← hx];assumption)) hn
  rw [← e];refine L7 rfl zi rfl ?_ ?_
  ·simp [toC,D4,b2r]
  ·simp [toC]
def bf2 (s:Int) (l:LI) (hl:l.length<=1000000):ec 300 [eI s,k9 l] [] (bgS (sgn s l)) []:=by
 refine ac Tryz.func300 ?_;conv=>whnf
 repeat' (first|refine zx ?_|refine qp (a79 l hl) ?_|apply zD<;>intro<;>try omega)<;>conv=>whnf
 ·have h0:(J6 l).length=0:=by simp at *;assumption
  unfold sgn;rw [if_pos h0];exact m9 rz
 ·have h0:¬(J6 l).length=0:=by simp at *;assumption
  unfold sgn;rw [if_neg h0];exact m9 rz
def L6 (s:Int) (k:Nat) (h:s=1∨s=-1∨k=0) (lk:(dg k).length<=700000):
 ec 300 [eI s,k9 (dg k)] [] (bgS (bz (s*k))) []:=by
 have e:=bf2 s (dg k) om;rw [b0p (v6 k) (by rw [s6];omega),s6] at e;exact e
def a6n (l:LI) (i:Nat) (hl:l.length<=1000000):ec 330 [k9 l,eI i] [] (eI (dat l i)) []:=by
 have l2:(l.map k6).length=l.length:=zq;refine ac Tryz.func330 ?_;conv=>whnf
 repeat' (first|refine zx ?_|refine i6 (w7 om) ?_|apply zD<;>intro<;>try omega)<;>conv=>whnf
 all_goals first|exact n8 rfl|exact n8 (S5 om).symm
def a65 (l:LI) (i:Nat):val (l.drop i)=dat l i+1048576*val (l.drop (i+1)):=by
 by_cases h:i<l.length
 ·exact a8c h
 ·rw [lbo om,lbo om,S5 om];rfl
def ar1 (l:LI) (i:Nat):val l=val (l.take i)+pw i*val (l.drop i):=by
 by_cases h:i<=l.length
 ·exact a3d l i h
 ·rw [lbo om,lbn om];simp [val]
def a88 {l:LI} (h:Okd l) (i:Nat):0<=val (l.take i)∧val (l.take i)<pw i:=by
 refine ⟨v7 (h.take i),?_⟩;have h1:=V6 (h.take i);have h2:=a0p (i:=(l.take i).length) (j:=i) zo;omega
def aT5 {a b:LI} (ha:Okd a) (hb:Okd b) {i:Nat} (h:val (a.drop (i+1))=val (b.drop (i+1))) (hd:dat a i<dat b i):val a<val b:=by
 rw [ar1 a i,ar1 b i,a65 a i,a65 b i,h];have h1:=a88 ha i;have h2:=a88 hb i;have hp:=K3 i;have h3:=lbV (a:=dat a i+1048576*val (b.drop (i+1))+1) (b:=dat b i+1048576*val (b.drop (i+1))) (c:=pw i) om om;rw [ah9 _ _ (1:Int)] at h3;omega
def a6H (l:LI):val (l.drop 0)=val l:=by rw [a9y]
structure as0 (a b:LI) (i:Nat) (out:LI) (c:Int):Prop where
 len:out.length=i
 ok:Okd out
 le:i<=a.length
 c0:0<=c
 c1:c<=1
 eq:val out - pw i*c=val (a.take i) - val (b.take i)
def as0.init (a b:LI):as0 a b 0 [] 0:=⟨rfl,.nil,H8 _,de,de,by simp [val]⟩
def as0.step {a b out:LI} {i:Nat} {c n c':Int} (h:as0 a b i out c) (ha:Okd a) (hb:Okd b) (hi:i<a.length) (hn:n=dat a i - dat b i - c+1048576*c') (h0:0<=n∧n<1048576) (hc:0<=c'∧c'<=1):
 as0 a b (i+1) (out++[n]) c':=by
 refine ⟨by simp [h.len],h.ok.append (Okd.cons h0 .nil),hi,hc.1,hc.2,?_⟩;rw [K9,h.len,u6,u6,I4];have:=h.eq;simp only [val];rw [hn];grind
def as0.fin {a b out:LI} {c:Int} (h:as0 a b a.length out c) (ha:Okd a) (hb:Okd b) (hl:b.length<=a.length) (hv:val b<=val a):J6 out=dg (val a - val b).toNat:=by
 have h1:=h.eq;rw [lbn (lbQ _),lbn hl] at h1;have h2:=V6 h.ok;rw [h.len] at h2;have hc:c=0:=by
  have:=h.c0;have:=h.c1;rcases a5w 0 c with h3|h3
  ·have:c=1:=by omega
   subst this;omega
  ·omega
 subst hc;rw [N2 h.ok]
 congr 2
 simp at h1;exact h1
structure b8Y (a b:LI) (i k:Nat) (out:LI) (c:Int):Prop where
 out:(aj9 a b i k out c∧k<=b.length)∨(k=b.length+1∧c=0∧a4Z a b (i+1) out)
def b7I {l:LI} {i:Nat}:l.set i (dat l i)=l:=by
 by_cases h:i<l.length
 ·apply a0A;intro j;by_cases hj:i=j
  ·subst hj;rw [List.getElem?_set_self h];unfold dat;rw [lbl,lbf h];rfl
  ·rw [List.getElem?_set_ne hj]
 ·rw [List.set_eq_of_length_le om]
def b8Y.exit {a b out:LI} {i k:Nat} {c:Int} (h:b8Y a b i k out c) (ha:Okd a) (hb:Okd b) (hi:i<a.length) (hk:b.length<=k) (hc:c<=0):a4Z a b (i+1) out:=by
 rcases h.out with ⟨h1,h2⟩|⟨h1,h2,h3⟩
 ·have hk:k=b.length:=by omega
  subst hk;have hc:c=0:=by have:=h1.c0;omega
  subst hc;have:=h1.done ha hb hi;rw [a8Q,b7I] at this;exact this
 ·exact h3
def b5Q {r d:Nat} {x:Int} (hx:0<=x∧x<1048576):J6 (x::dg r)=dg (r*1048576+x.toNat):=by
 rw [N2 (Okd.cons hx (v6 r))]
 congr 1
 simp only [val,s6];omega
def b7d (a b:LI) (ha:Okd a) (hb:Okd b) (la:a.length<=1000000) (lb:b.length<=1000000):ec 304 [k9 a,k9 b] [] (i9 (decide (val a<val b))) []:=by
 have l1:(a.map k6).length=a.length:=zq;have l2:(b.map k6).length=b.length:=zq;refine ac Tryz.func304 ?_;conv=>whnf
 repeat' (first|refine zx ?_|refine ⟨_,D7 (y:=((max a.length b.length:Nat):Int) - 1) (by simp only [cond];split<;>omega) om om,?_⟩|apply zD<;>intro h<;>try omega)<;>conv=>whnf
 refine p9 d7 (σ:=Nat) (fun k=>([k9 a,k9 b,J,J,J,eI ((k:Int) - 1)]++Jn 24,[])) (fun k=>k<=1000000∧val (a.drop k)=val (b.drop k)) (fun k=>k) (max a.length b.length) []
  ⟨om,by rw [lbo om,lbo om]⟩ ⟨rfl,rfl,trivial,⟨l9 rfl,l9 rfl,rz⟩⟩ ?_
 rintro k ⟨hk,hd⟩;have hk:k<=1000000:=hk;have hd:val (a.drop k)=val (b.drop k):=hd;by_cases h0:0<k
 ·obtain ⟨i,rfl⟩:∃i,k=i+1:=⟨k - 1,om⟩;have d1:=a6n a i la;have d2:=a6n b i lb;have ei:(((i+1:Nat):Int) - 1)=i:=om;rw [ei];conv=>whnf
  repeat' (first|refine zx ?_|apply zD<;>intro h<;>try omega)<;>conv=>whnf
  ·have h:=aT5 ha hb hd (by assumption);exact d9 (by simp [h])
  ·have h:=aT5 hb ha hd.symm om;exact d9 zo
  ·have he:dat a i=dat b i:=by omega
   refine ⟨[],i,rz,⟨om,?_⟩,by show i<i+1;omega⟩;rw [a65 a i,a65 b i,he,hd]
 ·obtain rfl:k=0:=by omega
  rw [a6H,a6H] at hd;conv=>whnf
  repeat' (first|refine zx ?_|apply zD<;>intro h<;>try omega)<;>conv=>whnf
  all_goals first|omega|exact d9 zo
def b37 (a b:LI) (ha:Okd a) (hb:Okd b) (la:a.length<=400000) (lb:b.length<=a.length) (hv:val b<=val a):
 ec 328 [k9 a,k9 b] [] (k9 (dg (val a - val b).toNat)) []:=by
 have l1:(a.map k6).length=a.length:=zq;have l2:(b.map k6).length=b.length:=zq;refine ac Tryz.func328 ?_;conv=>whnf
 repeat' (first|refine zx ?_|apply zD<;>intro h<;>try omega)<;>conv=>whnf
 refine p9 d7 (σ:=Nat × LI × Int) (fun|(k,out,c)=>([k9 a,k9 b,J,J,J,a0K 0 out,eI c,eI k]++Jn 27,[x9 out])) (fun x=>as0 a b x.1 x.2.1 x.2.2) (fun x=>a.length - x.1) (0,[],0) [none]
  (as0.init a b) ⟨rfl,rfl,rz,⟨l9 rfl,l9 rfl,rz⟩⟩ ?_
 rintro ⟨k,out,c⟩ hI;have hI:as0 a b k out c:=hI;have hlen:=hI.len;have hle:=hI.le;have hc0:=hI.c0;have hc1:=hI.c1;have hda:=ha.dat k;have hdb:=hb.dat k;have d2:=a6n b k om;conv=>whnf
 repeat' (first|refine zx ?_|refine i6 (w7 om) ?_|refine w6 zt zu ?_|apply zD<;>intro h<;>try omega)<;>conv=>whnf
 ·have hst:=hI.step ha hb (n:=dat a k - dat b k - c+1048576) (c':=1) om om om om;refine ⟨[some 1],(k+1,out++[dat a k - dat b k - c+1048576],1),⟨rfl,rfl,⟨e8 rfl rfl rfl a2h rfl,trivial⟩,⟨rfl,rfl,o8 rfl zt,rfl,e7 om,trivial⟩⟩,hst,?_⟩;show a.length - (k+1)<a.length - k;omega
 ·have hst:=hI.step ha hb (n:=dat a k - dat b k - c) (c':=0) om om om om;refine ⟨[some 1],(k+1,out++[dat a k - dat b k - c],0),⟨rfl,rfl,⟨e8 rfl rfl rfl a2h rfl,trivial⟩,⟨rfl,rfl,o8 rfl zt,rfl,e7 om,trivial⟩⟩,hst,?_⟩;show a.length - (k+1)<a.length - k;omega
 ·have hk:k=a.length:=by omega
  subst hk;have hf:=hI.fin ha hb lb hv;have t:=a79 out om;rw [hf] at t;refine .inr ⟨_,_,y4 [0] t ⟨a1z (u5 zq rfl zi rfl rfl zq),trivial⟩ rfl,?_⟩;conv=>whnf
  exact ao9 rfl
def bb6 {a:Int} (h:0<=a):a.tmod 1048576=a % 1048576:=a5J h
def b2x (a b:LI) (ha:Okd a) (hb:Okd b) (la:a.length<=400000) (lb:b.length<=400000):
 ec 302 [k9 a,k9 b] [] (k9 (dg (val a*val b).toNat)) []:=by
 have l1:(a.map k6).length=a.length:=zq;have l2:(b.map k6).length=b.length:=zq;refine ac Tryz.func302 ?_;conv=>whnf
 repeat' (first|refine zx ?_|refine a1g om om om de ?_|apply zD<;>intro h<;>try omega)<;>conv=>whnf
 refine p9 d7 (σ:=Nat × LI) (fun|(i,out)=>([k9 a,k9 b,J,J,J,a0K 0 out,eI i]++Jn 53,[x9 out])) (fun x=>a4Z a b x.1 x.2) (fun x=>a.length - x.1) (0,List.replicate (a.length+b.length) 0) [some 0]
  (a4Z.init a b) ⟨rfl,rfl,⟨e8 rfl rfl rfl ?_ rfl,trivial⟩,⟨l9 rfl,l9 rfl,o8 rfl zo,rz⟩⟩ ?_
 ·show List.replicate _ _=_;rw [show ((((a.map k6).length:Nat):Int)+((b.map k6).length:Nat)).toNat=a.length+b.length by omega];simp [toC,k6,B8]
 rintro ⟨i,out⟩ hI;have hI:a4Z a b i out:=hI;have hlen:=hI.len;have hle:=hI.le;conv=>whnf
 repeat' (first|refine zx ?_|apply zD<;>intro h<;>try omega)<;>conv=>whnf
 ·have hi:i<a.length:=by omega
  refine p9 d7 (σ:=Nat × LI × Int) (fun|(k,out,c)=>([k9 a,k9 b,J,J,J,a0K 0 out,eI i,eI c,eI k]++Jn 51,[x9 out])) (fun x=>b8Y a b i x.1 x.2.1 x.2.2) (fun x=>b.length+1 - x.1) (0,out,0) [some 0]
   ⟨.inl ⟨hI.start,H8 _⟩⟩ ⟨rfl,rfl,⟨e8 rfl rfl rfl rfl rfl,trivial⟩,⟨l9 rfl,l9 rfl,o8 rfl rfl,rz⟩⟩ ?_
  rintro ⟨k,out,c⟩ hT;have hT:b8Y a b i k out c:=hT;have hdb:=hb.dat k;have hda:=ha.dat i;have hm:=a44 (ha.dat i) (hb.dat k);have d2:=a6n b k om;have e1:((i:Int)+k).toNat=i+k:=om;rcases hT.out with ⟨hK,hkb⟩|⟨hk1,hc,hM⟩
  ·have hlen:=hK.len;have hc0:=hK.c0;have hc1:=hK.c1;have hdo:=hK.ok.dat (i+k);have hz:k=b.length->dat out (i+k)=0∧dat b k=0:=fun h=>⟨hK.zero _ om,S5 om⟩
   have hzm:k=b.length->dat a i*dat b k=0:=fun h=>by rw [(hz h).2,Int.mul_zero]
   conv=>whnf
   repeat' (first|refine zx ?_|refine i6 (w7 om) ?_|refine U4 om (by show _<((out.length:Nat):Int);omega) ?_|refine s8 (Q6 e1 om) ?_|refine ⟨de,_,b6j om om de,?_⟩|refine ag7 de ?_|apply zD<;>intro h<;>try omega)<;>conv=>whnf
   all_goals have hn:0<=dat out (i+k)+dat a i*dat b k+c:=om
   ·have hst:=hK.step ha hb hi om;refine ⟨[some 0],(k+1,out.set (i+k) ((dat out (i+k)+dat a i*dat b k+c) % 1048576),(dat out (i+k)+dat a i*dat b k+c) / 1048576),⟨rfl,rfl,⟨e8 rfl rfl rfl ?_ rfl,trivial⟩,⟨rfl,rfl,o8 rfl zq,rz⟩⟩,⟨.inl ⟨hst,om⟩⟩,?_⟩
    ·rw [← bb6 hn];exact O0 om
    ·show b.length+1 - (k+1)<b.length+1 - k;omega
   ·have hkb2:k=b.length:=by omega
    obtain ⟨z1,z2⟩:=hz hkb2;have z3:=hzm hkb2;have en:dat out (i+k)+dat a i*dat b k+c=c:=om;have hdone:=hK;rw [hkb2] at hdone;have hdone:=hdone.done ha hb hi;rw [← hkb2] at hdone;refine ⟨[some 0],(k+1,out.set (i+k) ((dat out (i+k)+dat a i*dat b k+c) % 1048576),(dat out (i+k)+dat a i*dat b k+c) / 1048576),⟨rfl,rfl,⟨e8 rfl rfl rfl ?_ rfl,trivial⟩,⟨rfl,rfl,o8 rfl zq,rz⟩⟩,⟨.inr ⟨by show k+1=b.length+1;omega,by show (dat out (i+k)+dat a i*dat b k+c) / 1048576=0;omega,?_⟩⟩,?_⟩
    ·rw [← bb6 hn];exact O0 om
    ·have e2:(dat out (i+k)+dat a i*dat b k+c) % 1048576=dat out (i+k)+c:=by omega
     rw [e2];exact hdone
    ·show b.length+1 - (k+1)<b.length+1 - k;omega
   ·have hx:=hT.exit ha hb hi om om;exact ⟨[some 0],(i+1,out),⟨rfl,rfl,⟨e8 rfl rfl rfl rfl rfl,trivial⟩,⟨rfl,rfl,o8 rfl rfl,e7 om,trivial⟩⟩,hx,by show a.length - (i+1)<a.length - i;omega⟩
  ·have hlen:=hM.len;have hx:=hT.exit ha hb hi om om;conv=>whnf
   repeat' (first|refine zx ?_|apply zD<;>intro h<;>try omega)<;>conv=>whnf
   all_goals first|omega|exact ⟨[some 0],(i+1,out),⟨rfl,rfl,⟨e8 rfl rfl rfl rfl rfl,trivial⟩,⟨rfl,rfl,o8 rfl rfl,e7 om,trivial⟩⟩,hx,by show a.length - (i+1)<a.length - i;omega⟩
 ·have hi:i=a.length:=by omega
  subst hi;have hf:=hI.fin;have t:=a79 out om;rw [hf] at t;refine .inr ⟨_,_,y4 [0] t ⟨a1z (u5 zq rfl zi rfl rfl zq),trivial⟩ rfl,?_⟩;conv=>whnf
  exact ao9 rfl
def aT7 (m n:Nat) (lm:(dg m).length<=300000) (ln:(dg n).length<=300000):
 ec 302 [k9 (dg m),k9 (dg n)] [] (k9 (dg (m*n))) []:=by
 have h:=b2x (dg m) (dg n) (v6 m) (v6 n) om om;rw [s6,s6,show ((m:Int)*n).toNat=m*n by rw [← a30];rfl] at h;exact h
end Go.Proofs.YtikokmdpigploaaGreat
