/- Chapter 21 in plain Lean: the system of a kind of foreign matter, and its solutions. No program is in sight. -/
import Derived.ProofKit
import Derived.OpenShut
import Derived.Deep.Slices
import Derived.Deep.Fields
import Derived.Test.YtikokmdpigploaaGreatRows
import Derived.Deep.DeepMust
import Derived.BigQuiet
import Derived.Deep.Light
import Derived.Test.YtikokmdpigploaaGreatPz7
namespace Go.Proofs.YtikokmdpigploaaGreat
set_option linter.unusedVariables false
set_option linter.unusedSimpArgs false
set_option maxRecDepth 100000
set_option maxHeartbeats 8000000
open Go.RowKit
open St1 St2 St3 St4 St5 St6 St7 St8 StA StB
theorem af5 {p q:List Int->Bool} {l:List Int} {short:Bool} (h:∀s,s.Sublist l->p s=q s):∀n,I9 p l short n=I9 q l short n
 |0=>rfl
 |n+1=>by
  rw [I9,I9,af5 h n]
  have:(G0 l n).filter (fun s=>!((I9 q l short n).any fun a=>H6 a s) && p s)=(G0 l n).filter (fun s=>!((I9 q l short n).any fun a=>H6 a s) && q s):=by
   refine List.filter_congr fun s hs=>?_
   rw [h s (O2.1 hs).1]
  rw [this]
def exq (gs:List (List Int)) (s:List Int):Bool:=gs.any fun g=>H6 g s
def bg1 (l:List Int) (gs bs:List (List Int)):Bool:=(List.range (l.length+1)).all fun k=>(G0 l k).all fun s=>exq gs s || bs.any fun b=>H6 s b
theorem a6e {t:g7} {kind:Int} {n:Nat} {l:List Int} {gs bs:List (List Int)} {short:Bool} {out:List (List Int)} (hl:C4 t kind n=l)
 (hg:∀g ∈ gs,pX t kind n g=true) (hb:∀b ∈ bs,pX t kind n b=false) (hc:bg1 l gs bs=true) (ho:az0 (exq gs) l short=out):S8 t kind n short=out:=by
 rw [← ho]
 unfold S8 az0
 rw [hl]
 refine af5 (fun s hs=>?_) _
 have h1:=lbv.1 hc s.length (lbB.2 (by have:=hs.length_le;omega))
 have h2:=lbv.1 h1 s (O2.2 ⟨hs,rfl⟩)
 cases hq:exq gs s with
 |true=>
  obtain ⟨g,hgm,hp⟩:=lbw.1 hq
  exact b1X (a5q.1 hp) (hg g hgm)
 |false=>
  rw [hq,Bool.false_or] at h2
  obtain ⟨b,hbm,hp⟩:=lbw.1 h2
  rw [← lbP]
  intro hps
  have:=b1X (a5q.1 hp) hps
  rw [hb b hbm] at this;cases this
theorem a2W {t:g7} {kind:Int} {n:Nat} (h:XT t kind n) {set:List Int} (z:List Rat) (hz:i6 (a3c t kind n set) z=true):pX t kind n set=true:=(h.expl set).2 ⟨z,hz⟩
theorem a8U {t:g7} {kind:Int} {n:Nat} (h:XT t kind n) {set:List Int} (Y:List Rat) (hY:ba4 (a3c t kind n set) Y=true):pX t kind n set=false:=by
 rw [← lbP]
 intro hp
 obtain ⟨z,hz⟩:=(h.expl set).1 hp
 rw [aL5 (h.right set) hY z] at hz;cases hz
theorem a3K {t:g7} {kind:Int} {n:Nat} (h:ExP t kind n) (out:List Bool) (zs Ys:Nat->List Rat)
 (hc:∀i,i<n->if out.getD i false=true then i6 (n8 t kind) (zs i)=true∧0<n7 (F5 t (i:Int)) (zs i) else b5a (n8 t kind) (F6 (F5 t (i:Int))) (Ys i)=true∧b3P (n8 t kind) (yN (Ys i))=0):
 C4 t kind n=((List.range n).filter fun i=>out.getD i false).map fun i=>((i:Nat):Int):=by
 unfold C4
 congr 1
 refine List.filter_congr fun i hi=>?_
 have hi:=lbB.1 hi
 have hh:=hc i hi
 have hv:=h.vd (i:Int)
 cases ho:out.getD i false with
 |true=>
  rw [if_pos ho] at hh
  refine lbH fun h0=>?_
  rw [ai3 h h0 hh.1] at hh
  exact absurd hh.2 (by decide +kernel)
 |false=>
  rw [if_neg (by rw [ho];decide)] at hh
  refine lbJ fun h0=>h0 ?_
  refine b66 h i fun z hz=>?_
  have h1:=b3m hv.r hv.g hh.1 hh.2 hz
  have h2:=hv.pos hz
  grind
def exX (a b c:Int) (f:List J9) (cl:List D6):g7:=⟨⟨1,3,0,[⟨0,0,0⟩,⟨0,1,0⟩,⟨0,2,0⟩,⟨1,-1,-1⟩,⟨5,-1,-1⟩],[⟨a,0,3,-1,0,false⟩,⟨a,1,3,-1,0,false⟩,⟨b,3,4,-1,0,true⟩,⟨c,2,3,-1,0,false⟩],[],[],[]⟩,f,cl⟩
def A8 (f:List J9) (cl:List D6):g7:=exX 0 0 0 f cl
theorem a8e (a b c:Int) (f:List J9) (cl:List D6) (h1:f.length<=20) (h2:cl.length<=20):(exX a b c f cl).Sized:=⟨⟨by simp [exX],by simp [exX],by simp [exX],by simp [exX],by simp [exX]⟩,by simp [exX];omega,by simp [exX];omega⟩
theorem ac9 {a b c:Int} {f:List J9} {cl:List D6} {kind:Int} (h1:f.length<=20) (h2:cl.length<=20) (he:n9 (exX a b c f cl)=0) (k0:0<=kind) (k1:kind<8):XT (exX a b c f cl) kind 3:=
 ⟨a8e a b c f cl h1 h2,he,k0,k1,by simp [exX],by simp [exX],by decide,h1⟩
theorem a9c {a b c:Int} {f:List J9} {cl:List D6} {kind:Int} (h1:f.length<=20) (h2:cl.length<=20) (he:n9 (exX a b c f cl)=0) (k0:0<=kind) (k1:kind<8) {z:List Rat} (hz:i6 (n8 (exX a b c f cl) kind) z=true):ExP (exX a b c f cl) kind 3:=
 ⟨a8e a b c f cl h1 h2,he,k0,k1,by simp [exX],by simp [exX],b1j he (by simp [exX]) hz⟩
def fX:J9:=⟨2,0,5⟩
def zXR (l:List Int):List Rat:=l.map fun x=>((x:Int):Rat)
theorem b4j:n9 (A8 [fX] [])=0:=by decide +kernel
theorem bd0:ExP (A8 [fX] []) 0 3:=a9c (by decide) (by decide) b4j (by decide) (by decide) (z:=zXR [5,0,5,0]) (by decide +kernel)
theorem b1G:n9 (A8 [fX,⟨0,0,1⟩] [])=0:=by decide +kernel
theorem b1S:XT (A8 [fX,⟨0,0,1⟩] []) 0 3:=ac9 (by decide) (by decide) b1G (by decide) (by decide)
theorem b1p:ExP (A8 [fX,⟨0,0,1⟩] []) 0 3:=a9c (by decide) (by decide) b1G (by decide) (by decide) (z:=zXR [5,0,5,0]) (by decide +kernel)
theorem b8w:C4 (A8 [fX,⟨0,0,1⟩] []) 0 3=[0,1,2]:=by
 rw [a3K b1p [true,true,true] (fun i=>if i=0 then zXR [5,0,5,0] else if i=1 then zXR [1,4,5,0] else if i=2 then zXR [5,0,5,1] else []) (fun i=>[]) (by decide +kernel)]
 rfl
theorem b60:pX (A8 [fX,⟨0,0,1⟩] []) 0 3 [0]=true:=a2W b1S (zXR [5,0,5,0]) (by decide +kernel)
theorem b44:pX (A8 [fX,⟨0,0,1⟩] []) 0 3 [1,2]=false:=a8U b1S (zXR [1,0,0,-1]) (by decide +kernel)
theorem b72 (short:Bool):S8 (A8 [fX,⟨0,0,1⟩] []) 0 3 short=[[0]]:=by
 refine a6e b8w (gs:=[[0]]) (bs:=[[1,2]]) (fun g hg=>?_) (fun b hb=>?_) (by decide +kernel) (by cases short<;>decide +kernel)
 ·have hg:g=[0]:=by simpa using hg
  rcases hg with rfl
  ·exact b60
 ·have hb:b=[1,2]:=by simpa using hb
  rcases hb with rfl
  ·exact b44
theorem b1L:n9 (A8 [fX] [⟨0,0⟩])=0:=by decide +kernel
theorem b0T:XT (A8 [fX] [⟨0,0⟩]) 0 3:=ac9 (by decide) (by decide) b1L (by decide) (by decide)
theorem b1b:ExP (A8 [fX] [⟨0,0⟩]) 0 3:=a9c (by decide) (by decide) b1L (by decide) (by decide) (z:=zXR [0,5,5,0]) (by decide +kernel)
theorem b7D:C4 (A8 [fX] [⟨0,0⟩]) 0 3=[1,2]:=by
 rw [a3K b1b [false,true,true] (fun i=>if i=1 then zXR [0,5,5,0] else if i=2 then zXR [0,5,5,1] else []) (fun i=>if i=0 then zXR [-1,0,0] else []) (by decide +kernel)]
 rfl
theorem b6A:pX (A8 [fX] [⟨0,0⟩]) 0 3 [1]=true:=a2W b0T (zXR [0,5,5,0]) (by decide +kernel)
theorem b5i:pX (A8 [fX] [⟨0,0⟩]) 0 3 [2]=false:=a8U b0T (zXR [-1,1,1,0,-1]) (by decide +kernel)
theorem b7R (short:Bool):S8 (A8 [fX] [⟨0,0⟩]) 0 3 short=[[1]]:=by
 refine a6e b7D (gs:=[[1]]) (bs:=[[2]]) (fun g hg=>?_) (fun b hb=>?_) (by decide +kernel) (by cases short<;>decide +kernel)
 ·have hg:g=[1]:=by simpa using hg
  rcases hg with rfl
  ·exact b6A
 ·have hb:b=[2]:=by simpa using hb
  rcases hb with rfl
  ·exact b5i
theorem b1z:n9 (A8 [fX,⟨1,0,1⟩] [])=0:=by decide +kernel
theorem b0V:XT (A8 [fX,⟨1,0,1⟩] []) 0 3:=ac9 (by decide) (by decide) b1z (by decide) (by decide)
theorem b1D:ExP (A8 [fX,⟨1,0,1⟩] []) 0 3:=a9c (by decide) (by decide) b1z (by decide) (by decide) (z:=zXR [4,1,5,0]) (by decide +kernel)
theorem b7p:C4 (A8 [fX,⟨1,0,1⟩] []) 0 3=[0,1,2]:=by
 rw [a3K b1D [true,true,true] (fun i=>if i=0 then zXR [4,1,5,0] else if i=1 then zXR [0,5,5,0] else if i=2 then zXR [0,5,5,1] else []) (fun i=>[]) (by decide +kernel)]
 rfl
theorem b40:pX (A8 [fX,⟨1,0,1⟩] []) 0 3 [1]=true:=a2W b0V (zXR [0,5,5,0]) (by decide +kernel)
theorem b6t:pX (A8 [fX,⟨1,0,1⟩] []) 0 3 [0,2]=false:=a8U b0V (zXR [1,0,0,-1]) (by decide +kernel)
theorem b7N (short:Bool):S8 (A8 [fX,⟨1,0,1⟩] []) 0 3 short=[[1]]:=by
 refine a6e b7p (gs:=[[1]]) (bs:=[[0,2]]) (fun g hg=>?_) (fun b hb=>?_) (by decide +kernel) (by cases short<;>decide +kernel)
 ·have hg:g=[1]:=by simpa using hg
  rcases hg with rfl
  ·exact b40
 ·have hb:b=[0,2]:=by simpa using hb
  rcases hb with rfl
  ·exact b6t
theorem b20:n9 (A8 [fX] [⟨1,0⟩])=0:=by decide +kernel
theorem b1w:XT (A8 [fX] [⟨1,0⟩]) 0 3:=ac9 (by decide) (by decide) b20 (by decide) (by decide)
theorem b17:ExP (A8 [fX] [⟨1,0⟩]) 0 3:=a9c (by decide) (by decide) b20 (by decide) (by decide) (z:=zXR [5,0,5,0]) (by decide +kernel)
theorem b7m:C4 (A8 [fX] [⟨1,0⟩]) 0 3=[0,2]:=by
 rw [a3K b17 [true,false,true] (fun i=>if i=0 then zXR [5,0,5,0] else if i=2 then zXR [5,0,5,1] else []) (fun i=>if i=1 then zXR [-1,0,0] else []) (by decide +kernel)]
 rfl
theorem b5Z:pX (A8 [fX] [⟨1,0⟩]) 0 3 [0]=true:=a2W b1w (zXR [5,0,5,0]) (by decide +kernel)
theorem b5n:pX (A8 [fX] [⟨1,0⟩]) 0 3 [2]=false:=a8U b1w (zXR [-1,1,1,-1,0]) (by decide +kernel)
theorem b7X (short:Bool):S8 (A8 [fX] [⟨1,0⟩]) 0 3 short=[[0]]:=by
 refine a6e b7m (gs:=[[0]]) (bs:=[[2]]) (fun g hg=>?_) (fun b hb=>?_) (by decide +kernel) (by cases short<;>decide +kernel)
 ·have hg:g=[0]:=by simpa using hg
  rcases hg with rfl
  ·exact b5Z
 ·have hb:b=[2]:=by simpa using hb
  rcases hb with rfl
  ·exact b5n
theorem b1C:n9 (A8 [fX,⟨2,0,1⟩] [])=0:=by decide +kernel
theorem aB7:XT (A8 [fX,⟨2,0,1⟩] []) 0 3:=ac9 (by decide) (by decide) b1C (by decide) (by decide)
theorem b0Y:ExP (A8 [fX,⟨2,0,1⟩] []) 0 3:=a9c (by decide) (by decide) b1C (by decide) (by decide) (z:=zXR [5,0,5,0]) (by decide +kernel)
theorem b8g:C4 (A8 [fX,⟨2,0,1⟩] []) 0 3=[0,1,2]:=by
 rw [a3K b0Y [true,true,true] (fun i=>if i=0 then zXR [5,0,5,0] else if i=1 then zXR [0,5,5,0] else if i=2 then zXR [5,0,5,1] else []) (fun i=>[]) (by decide +kernel)]
 rfl
theorem b5J:pX (A8 [fX,⟨2,0,1⟩] []) 0 3 [0]=true:=a2W aB7 (zXR [5,0,5,0]) (by decide +kernel)
theorem b6V:pX (A8 [fX,⟨2,0,1⟩] []) 0 3 [1]=true:=a2W aB7 (zXR [0,5,5,0]) (by decide +kernel)
theorem b4Y:pX (A8 [fX,⟨2,0,1⟩] []) 0 3 [2]=false:=a8U aB7 (zXR [1,1,0,-1,-1]) (by decide +kernel)
theorem b7H (short:Bool):S8 (A8 [fX,⟨2,0,1⟩] []) 0 3 short=[[0],[1]]:=by
 refine a6e b8g (gs:=[[0],[1]]) (bs:=[[2]]) (fun g hg=>?_) (fun b hb=>?_) (by decide +kernel) (by cases short<;>decide +kernel)
 ·have hg:g=[0]∨g=[1]:=by simpa using hg
  rcases hg with rfl|rfl
  ·exact b5J
  ·exact b6V
 ·have hb:b=[2]:=by simpa using hb
  rcases hb with rfl
  ·exact b4Y
theorem b2b:n9 (A8 [fX,⟨3,0,1⟩] [])=0:=by decide +kernel
theorem a9J:XT (A8 [fX,⟨3,0,1⟩] []) 0 3:=ac9 (by decide) (by decide) b2b (by decide) (by decide)
theorem b1V:ExP (A8 [fX,⟨3,0,1⟩] []) 0 3:=a9c (by decide) (by decide) b2b (by decide) (by decide) (z:=zXR [5,0,5,1]) (by decide +kernel)
theorem b8r:C4 (A8 [fX,⟨3,0,1⟩] []) 0 3=[0,1,2]:=by
 rw [a3K b1V [true,true,true] (fun i=>if i=0 then zXR [5,0,5,1] else if i=1 then zXR [0,5,5,1] else if i=2 then zXR [5,0,5,1] else []) (fun i=>[]) (by decide +kernel)]
 rfl
theorem b43:pX (A8 [fX,⟨3,0,1⟩] []) 0 3 [0,2]=true:=a2W a9J (zXR [5,0,5,1]) (by decide +kernel)
theorem b5K:pX (A8 [fX,⟨3,0,1⟩] []) 0 3 [1,2]=true:=a2W a9J (zXR [0,5,5,1]) (by decide +kernel)
theorem b4P:pX (A8 [fX,⟨3,0,1⟩] []) 0 3 [0,1]=false:=a8U a9J (zXR [0,0,1,-1]) (by decide +kernel)
theorem b5U:pX (A8 [fX,⟨3,0,1⟩] []) 0 3 [2]=false:=a8U a9J (zXR [1,1,0,-1,-1]) (by decide +kernel)
theorem b8Q (short:Bool):S8 (A8 [fX,⟨3,0,1⟩] []) 0 3 short=[[0,2],[1,2]]:=by
 refine a6e b8r (gs:=[[0,2],[1,2]]) (bs:=[[0,1],[2]]) (fun g hg=>?_) (fun b hb=>?_) (by decide +kernel) (by cases short<;>decide +kernel)
 ·have hg:g=[0,2]∨g=[1,2]:=by simpa using hg
  rcases hg with rfl|rfl
  ·exact b43
  ·exact b5K
 ·have hb:b=[0,1]∨b=[2]:=by simpa using hb
  rcases hb with rfl|rfl
  ·exact b4P
  ·exact b5U
theorem b2i:n9 (A8 [fX] [⟨3,0⟩])=0:=by decide +kernel
theorem aA6:XT (A8 [fX] [⟨3,0⟩]) 0 3:=ac9 (by decide) (by decide) b2i (by decide) (by decide)
theorem b2l:ExP (A8 [fX] [⟨3,0⟩]) 0 3:=a9c (by decide) (by decide) b2i (by decide) (by decide) (z:=zXR [5,0,5,0]) (by decide +kernel)
theorem b8B:C4 (A8 [fX] [⟨3,0⟩]) 0 3=[0,1]:=by
 rw [a3K b2l [true,true,false] (fun i=>if i=0 then zXR [5,0,5,0] else if i=1 then zXR [0,5,5,0] else []) (fun i=>if i=2 then zXR [0,0,-1] else []) (by decide +kernel)]
 rfl
theorem b5s:pX (A8 [fX] [⟨3,0⟩]) 0 3 [0]=true:=a2W aA6 (zXR [5,0,5,0]) (by decide +kernel)
theorem b6x:pX (A8 [fX] [⟨3,0⟩]) 0 3 [1]=true:=a2W aA6 (zXR [0,5,5,0]) (by decide +kernel)
theorem b4E:pX (A8 [fX] [⟨3,0⟩]) 0 3 []=false:=a8U aA6 (zXR [1,1,0,-1,-1,0]) (by decide +kernel)
theorem b7k (short:Bool):S8 (A8 [fX] [⟨3,0⟩]) 0 3 short=[[0],[1]]:=by
 refine a6e b8B (gs:=[[0],[1]]) (bs:=[[]]) (fun g hg=>?_) (fun b hb=>?_) (by decide +kernel) (by cases short<;>decide +kernel)
 ·have hg:g=[0]∨g=[1]:=by simpa using hg
  rcases hg with rfl|rfl
  ·exact b5s
  ·exact b6x
 ·have hb:b=[]:=by simpa using hb
  rcases hb with rfl
  ·exact b4E
theorem b1Y:n9 (A8 [fX] [⟨2,0⟩])=0:=by decide +kernel
theorem b74 (z:List Rat):i6 (n8 (A8 [fX] [⟨2,0⟩]) 0) z=false:=aL5 (a0D (by decide) (by decide) (by decide)) (Y:=zXR [0,1,-1]) (by decide +kernel) z
theorem b81 (a b:List (List Int)) (ha:a.length<=1000000) (hb:b.length<=1000000) (ha2:∀s ∈ a,s.length<=1000000) (hb2:∀s ∈ b,s.length<=1000000):b9 Tryz.prog 19 [a4i a,a4i b] [] (j0 (decide (a=b))) []:=by
 have l1:(a.map Y5).length=a.length:=by simp
 have l2:(b.map Y5).length=b.length:=by simp
 (refine ac Tryz.func19 ?_;(conv=>whnf);repeat (refine zy ?_;conv=>whnf))
 repeat' (first|refine zx ?_|refine zd ?_ ?_<;>intro h<;>try omega|fail)<;>conv=>whnf
 ·refine i4 (lbJ ?_).symm
  intro hab;subst hab;exact h rfl
 have hab:a.length=b.length:=by omega
 refine j7 g6 (fun k=>([a4i a,a4i b,J,J,J,b7 .i64 k]++Jn 21,[])) a.length (fun k=>a.take k=b.take k) [] rfl
  ⟨rfl,rfl,trivial,⟨k9 rfl,k9 rfl,e8 rfl,trivial⟩⟩ ?_
 intro k hk hI
 by_cases hlt:k<a.length
 ·obtain ⟨x,hx⟩:∃x,a[k]? =some x:=⟨_,lbf hlt⟩
  obtain ⟨y,hy⟩:∃y,b[k]? =some y:=⟨_,lbf (by omega)⟩
  have sm:=b02 x y (ha2 x (lbm hx)) (hb2 y (lbm hy))
  by_cases hxy:x=y
  ·rw [lbH hxy] at sm
   conv=>whnf
   repeat' (first|refine zx ?_|refine qp sm ?_|refine i3 hx ?_|refine i3 hy ?_|refine zd ?_ ?_<;>intro h<;>try omega|fail)<;>conv=>whnf
   all_goals first
    |omega
    |exact ⟨hlt,by rw [a3a hx,a3a hy,hI,hxy],[],rfl,rfl,trivial,⟨k9 rfl,k9 rfl,rfl,trivial⟩⟩
  ·rw [lbJ hxy] at sm
   conv=>whnf
   repeat' (first|refine zx ?_|refine qp sm ?_|refine i3 hx ?_|refine i3 hy ?_|refine zd ?_ ?_<;>intro h<;>try omega|fail)<;>conv=>whnf
   all_goals first
    |omega
    |exact i4 (lbJ (by rintro rfl;rw [hx] at hy;injection hy with hy;exact hxy hy)).symm
 ·rw [lbn (by omega),lbn (by omega)] at hI
  conv=>whnf
  repeat' (first|refine zx ?_|refine zd ?_ ?_<;>intro h<;>try omega|fail)<;>conv=>whnf
  all_goals first
   |omega
   |exact i4 (lbH hI).symm
def a3U (t:g7) (m:Int):Bool:=a45 t m && decide (t.ev.hhs<=3)
theorem ai1 (t:g7) (m:Int):b9 Tryz.prog 14 [trS t,b7 .i64 m] [] (j0 (a3U t m)) []:=by
 have r:=b69 t m
 unfold a3U
 cases hq:a45 t m<;>rw [hq] at r<;>
 ·(refine ac Tryz.func14 ?_;(conv=>whnf);repeat ((first|refine b0x ?_|refine zy ?_);conv=>whnf))
  repeat' (first|refine zx ?_|refine qp r ?_|refine zd ?_ ?_<;>intro h<;>try omega|fail)<;>conv=>whnf
  all_goals
   refine i4 ?_
   first
    |rfl
    |(symm;simp only [Bool.true_and,lbI];omega)
    |(symm;rw [← lbP];simp only [Bool.true_and,lbI];omega)
theorem a2H {t:g7} {m:Int} (hm:m<=8) (h:a3U t m=true):t.Sized∧t.ev.moves.length<=8∧t.ev.hhs<=3∧t.finds.length<=6∧t.cleans.length<=6:=by
 unfold a3U at h
 rw [lbM] at h
 obtain ⟨h,h3⟩:=h
 have h3:=lbL h3
 obtain ⟨s1,s2,s3⟩:=ao2 (by omega) h
 unfold a45 at h
 simp only [lbM,lbI] at h
 exact ⟨s1,by omega,h3,h.1.2,h.2⟩
theorem aG7 {p:List Int->Bool} {l:List Int} {short:Bool}:∀n,(I9 p l short n).length<=n*2 ^ l.length
 |0=>by simp [I9]
 |n+1=>by
  have ih:=aG7 (p:=p) (l:=l) (short:=short) n
  have h2:(n+1)*2 ^ l.length=n*2 ^ l.length+2 ^ l.length:=lbU _ _
  rw [h2]
  generalize n*2 ^ l.length=q at *
  unfold I9
  split
  ·exact lbR ih (Nat.le_add_right _ _)
  ·rw [lbq]
   have:=lbt (fun s=>!((I9 p l short n).any fun a=>H6 a s) && p s) (G0 l n)
   have:=a6W l n
   omega
theorem b4N {t:g7} {kind:Int} {n:Nat} {short:Bool} (h3:n<=3):(S8 t kind n short).length<=32:=by
 have h:=aG7 (p:=pX t kind n) (l:=C4 t kind n) (short:=short) ((C4 t kind n).length+1)
 have hs:=a57 t kind n
 have:(S8 t kind n short).length<=((C4 t kind n).length+1)*2 ^ (C4 t kind n).length:=h
 generalize (C4 t kind n).length=m at this hs
 match m,hs with
 |0,_=>omega
 |1,_=>omega
 |2,_=>omega
 |3,_=>omega
 |m+4,h=>omega
theorem b2v {t:g7} {kind:Int} {n:Nat} {s:List Int} (h:s ∈ S8 t kind n false):s.length<=n:=
 lbR (b6b.1 h).1.length_le (a57 t kind n)
abbrev b6y (l:List J9):Blk:={ mode:=.live,elem:=43,size:=3,rows:=toC (l.map J9.row),box:=false }
abbrev b1f (l:List D6):Blk:={ mode:=.live,elem:=45,size:=2,rows:=toC (l.map D6.row),box:=false }
theorem b2V:b9 Tryz.prog 166 [.c (.t (.sl 3 .any []))] [] (.c (.own 0 0 0 true)) [b6y []]:=by
 refine a2k ?_ ?_
 ·(refine ac Tryz.func166 ?_;(conv=>whnf);repeat (refine zy ?_;conv=>whnf))
  repeat' (first|refine zx ?_|refine zd ?_ ?_<;>intro h<;>try omega|fail)<;>conv=>whnf
  all_goals first
   |exact ⟨[none],rfl,rfl,⟨⟨rfl,rfl⟩,trivial⟩,⟨rfl,rfl,rfl⟩⟩
 ·(refine ac Tryz.func166 ?_;(conv=>whnf);repeat (refine zy ?_;conv=>whnf))
  repeat' (first|refine zx ?_|refine P6 rfl (by decide) ?_|refine zd ?_ ?_<;>intro h<;>try omega|fail)<;>conv=>whnf
  all_goals first
   |exact ⟨[some 0],rfl,rfl,⟨b8 (rows:=([]:List J9).map J9.row) rfl rfl rfl rfl rfl,trivial⟩,⟨rfl,rfl,rfl,fun h=>h⟩⟩
theorem b3S:b9 Tryz.prog 167 [.c (.t (.sl 2 .any []))] [] (.c (.own 0 0 0 true)) [b1f []]:=by
 refine a2k ?_ ?_
 ·(refine ac Tryz.func167 ?_;(conv=>whnf);repeat (refine zy ?_;conv=>whnf))
  repeat' (first|refine zx ?_|refine zd ?_ ?_<;>intro h<;>try omega|fail)<;>conv=>whnf
  all_goals first
   |exact ⟨[none],rfl,rfl,⟨⟨rfl,rfl⟩,trivial⟩,⟨rfl,rfl,rfl⟩⟩
 ·(refine ac Tryz.func167 ?_;(conv=>whnf);repeat (refine zy ?_;conv=>whnf))
  repeat' (first|refine zx ?_|refine P6 rfl (by decide) ?_|refine zd ?_ ?_<;>intro h<;>try omega|fail)<;>conv=>whnf
  all_goals first
   |exact ⟨[some 0],rfl,rfl,⟨b8 (rows:=([]:List D6).map D6.row) rfl rfl rfl rfl rfl,trivial⟩,⟨rfl,rfl,rfl,fun h=>h⟩⟩
theorem b67 (l:List J9) (h1:l.length<=1000000):b9 Tryz.prog 166 [.c (.t (a8l l))] [] (.c (.own 0 0 l.length true)) [b6y l]:=by
 have m1:(l.map J9.row).length=l.length:=by simp
 by_cases h0:l.length=0
 ·have:l=[]:=List.length_eq_zero_iff.1 h0
  subst this
  exact b2V
 have hl:0<(l.map J9.row).length:=by omega
 (refine ac Tryz.func166 ?_;(conv=>whnf);repeat (refine zy ?_;conv=>whnf))
 repeat' (first|refine zx ?_|refine qp (toC,lbr,List.length_nil) ?_|refine qp (toC,lbr) ?_|refine ⟨hl,?_⟩|refine zz ?_|refine P6 rfl (by simp only [toC,lbr,List.length_nil];omega) ?_|refine D5 (Nat.zero_le _) (by simp only [toC,lbr];omega) ?_|refine zd ?_ ?_<;>intro h<;>try omega|fail)<;>conv=>whnf
 all_goals first
  |omega
  |exact ⟨[some 0],rfl,rfl,⟨b8 (rows:=l.map J9.row) rfl rfl rfl rfl rfl,trivial⟩,⟨rfl,rfl,by simp [toC],fun h=>h⟩⟩
theorem b4O (l:List D6) (h1:l.length<=1000000):b9 Tryz.prog 167 [.c (.t (a5E l))] [] (.c (.own 0 0 l.length true)) [b1f l]:=by
 have m1:(l.map D6.row).length=l.length:=by simp
 by_cases h0:l.length=0
 ·have:l=[]:=List.length_eq_zero_iff.1 h0
  subst this
  exact b3S
 have hl:0<(l.map D6.row).length:=by omega
 (refine ac Tryz.func167 ?_;(conv=>whnf);repeat (refine zy ?_;conv=>whnf))
 repeat' (first|refine zx ?_|refine qp (toC,lbr,List.length_nil) ?_|refine qp (toC,lbr) ?_|refine ⟨hl,?_⟩|refine zz ?_|refine P6 rfl (by simp only [toC,lbr,List.length_nil];omega) ?_|refine D5 (Nat.zero_le _) (by simp only [toC,lbr];omega) ?_|refine zd ?_ ?_<;>intro h<;>try omega|fail)<;>conv=>whnf
 all_goals first
  |omega
  |exact ⟨[some 0],rfl,rfl,⟨b8 (rows:=l.map D6.row) rfl rfl rfl rfl rfl,trivial⟩,⟨rfl,rfl,by simp [toC],fun h=>h⟩⟩
abbrev bh0 (l:List g7):S:=.c (.t (.sl 10 .any (l.map trT)))
theorem aX4 (t:g7) (kind mv:Int) (hs:t.Sized):b9 Tryz.prog 94 [trS t,b7 .i64 kind,b7 .i64 mv] [] (bh0 [A7 t ⟨mv,kind,1⟩,A9 t ⟨mv,kind⟩]) []:=by
 have m1:(t.finds.map J9.row).length=t.finds.length:=by simp
 have m2:(t.cleans.map D6.row).length=t.cleans.length:=by simp
 have q1:=hs.f
 have q2:=hs.c
 have cf:=fun H:Hp=>a0C (H:=H) (b67 t.finds q1) rfl rfl (i8 _)
 have cc:=fun H:Hp=>a0C (H:=H) (b4O t.cleans q2) rfl rfl (i8 _)
 (refine a1I g6 Tryz.func94 rfl (by decide) ?_;refine C5 g6 ?_;(conv=>whnf);repeat ((first|refine b0x ?_|refine zy ?_);conv=>whnf))
 (refine C5 g6 ?_;conv=>whnf)
 repeat' (first|refine zx ?_|refine qp 1 ?_|refine bl0 [1] ?_|refine zd ?_ ?_<;>intro h<;>try omega|fail)<;>conv=>whnf
 (refine C5 g6 ?_;conv=>whnf)
 repeat' (first|refine zx ?_|refine qp toC ?_|refine qp toC ?_|refine .inl ⟨_,_,cf _,?_⟩|refine zz ?_|refine D5 (by simp [toC]) (by simp [toC];omega) ?_|refine zd ?_ ?_<;>intro h<;>try omega|fail)<;>conv=>whnf
 refine a4E g6 (Jn 7++[S.c (C.t (T.ptr (trT (A7 t ⟨mv,kind,1⟩)))),S.c (C.t (T.ptr (trT (A9 t ⟨mv,kind⟩))))]++Jn 23) [] ?_ ?_
 ·conv=>whnf
  repeat' (first|refine zx ?_|refine qp toC ?_|refine qp toC ?_|refine .inl ⟨_,_,cc _,?_⟩|refine zz ?_|refine D5 (by simp [toC]) (by simp [toC];omega) ?_|refine zd ?_ ?_<;>intro h<;>try omega|fail)<;>conv=>whnf
  refine ⟨[],rfl,rfl,trivial,?_⟩
  refine ⟨.inr ?_,.inr ?_,trivial⟩
  ·refine a6F rfl rfl (fun h=>?_) rfl ?_
   ·exact h
   refine ⟨a2h,a2h,a2h,a2h,a2h,a2h,a2h,a2h,.vc (B7 (rows:=(t.finds++[(⟨mv,kind,1⟩:J9)]).map J9.row) rfl rfl ?_ rfl ?_ ?_),a2h,trivial⟩
   ·exact fun h=>h
   ·exact a0W (f:=J9.row) (x:=(⟨mv,kind,1⟩:J9)) rfl
   ·simp [toC]
  ·refine a6F rfl rfl (fun h=>?_) rfl ?_
   ·exact h
   refine ⟨a2h,a2h,a2h,a2h,a2h,a2h,a2h,a2h,a2h,.vc (B7 (rows:=(t.cleans++[(⟨mv,kind⟩:D6)]).map D6.row) rfl rfl ?_ rfl ?_ ?_),trivial⟩
   ·exact fun h=>h
   ·exact a0W (f:=D6.row) (x:=(⟨mv,kind⟩:D6)) rfl
   ·simp [toC]
 refine y3 g6 _ ?_
 conv=>whnf
 repeat' (first|refine zz ?_|refine a4m.weak ?_|refine zd ?_ ?_<;>intro h<;>try omega|refine zy ?_|fail)<;>conv=>whnf
 all_goals exact b5c rfl rfl

theorem a1A {t:g7} {kind:Int} {short:Bool} (h:t.ev.hhs<=3):(D7 t kind short).length<=32:=by
 unfold D7
 split
 ·exact b4N (by omega)
 ·simp
noncomputable def U2 (t:g7) (kind:Int):Nat:=open Classical in if O0 t kind=0 then (D7 t kind true).length else 0
noncomputable def S5 (t:g7) (kind mv:Int):Nat->Nat
 |0=>0
 |1=>U2 (A7 t ⟨mv,kind,1⟩) kind
 |_=>max (U2 (A7 t ⟨mv,kind,1⟩) kind) (U2 (A9 t ⟨mv,kind⟩) kind)
noncomputable def A0 (t:g7) (kind mv:Int):Nat:=if S5 t kind mv 2=0 then (D7 t kind true).length else S5 t kind mv 2
noncomputable def E0 (t:g7) (kind mv:Int):Int:=open Classical in if a1k t kind≠0∨mv<0∨(t.ev.moves.length:Int)<=mv then 1 else O0 t kind
theorem aM0 {t:g7} {kind:Int} (h:t.ev.hhs<=3):U2 t kind<=32:=by
 unfold U2
 split
 ·exact a1A h
 ·omega
theorem b4I {t:g7} {kind:Int}:a1k t kind≠0↔n9 t≠0∨kind<0∨8<=kind:=by
 have:=N8 (t:=t) (kind:=kind)
 omega
theorem a1u (t:g7) (kind mv:Int) (hs:t.Sized) (hm:t.ev.moves.length<=8) (hh:t.ev.hhs<=3) (hf:t.finds.length<=19) (hc:t.cleans.length<=49):
 b9 Tryz.prog 36 [trS t,b7 .i64 kind,b7 .i64 mv] [] (.tup [b7 .i64 (if E0 t kind mv=0 then (A0 t kind mv:Int) else 0),b7 .i64 (E0 t kind mv)]) []:=by
 have m1:(t.finds.map J9.row).length=t.finds.length:=by simp
 have m2:(t.cleans.map D6.row).length=t.cleans.length:=by simp
 have m3:(t.ev.moves.map t4.row).length=t.ev.moves.length:=by simp
 have ck:=a38 t hs
 by_cases hg:a1k t kind≠0∨mv<0∨(t.ev.moves.length:Int)<=mv
 ·have e1:E0 t kind mv=1:=if_pos hg
  rw [e1,if_neg (by decide)]
  rw [b4I] at hg
  (refine ac Tryz.func36 ?_;(conv=>whnf);repeat ((first|refine b0x ?_|refine zy ?_);conv=>whnf))
  repeat' (first|refine zx ?_|refine qp ck ?_|refine zd ?_ ?_<;>intro h<;>try omega|fail)<;>conv=>whnf
  all_goals first
   |omega
   |exact s7 ⟨rfl,rfl,trivial⟩
 have e1:E0 t kind mv=O0 t kind:=if_neg hg
 have hg1:a1k t kind=0:=by omega
 have hg2:=N8.1 hg1
 have fe:=a0X t kind hs hm (by omega) (by omega)
 rw [e1]
 by_cases he:O0 t kind≠0
 ·rw [if_neg he]
  (refine ac Tryz.func36 ?_;(conv=>whnf);repeat ((first|refine b0x ?_|refine zy ?_);conv=>whnf))
  repeat' (first|refine zx ?_|refine qp ck ?_|refine qp fe ?_|refine zd ?_ ?_<;>intro h<;>try omega|fail)<;>conv=>whnf
  all_goals first
   |omega
   |exact s7 ⟨rfl,rfl,trivial⟩
 have he:O0 t kind=0:=by omega
 rw [he] at fe ⊢
 rw [if_pos rfl]
 have ou:=aX4 t kind mv hs
 have zF:(A7 t ⟨mv,kind,1⟩).Sized:=⟨hs.ev,by show (t.finds++[_]).length<=_;simp;omega,hs.c⟩
 have zC:(A9 t ⟨mv,kind⟩).Sized:=⟨hs.ev,hs.f,by show (t.cleans++[_]).length<=_;simp;omega⟩
 have fF:=a0X (A7 t ⟨mv,kind,1⟩) kind zF hm (show t.ev.hhs<=6 by omega) (by show (t.finds++[_]).length<=_;simp;omega)
 have fC:=a0X (A9 t ⟨mv,kind⟩) kind zC hm (show t.ev.hhs<=6 by omega) (show t.finds.length<=20 by omega)
 have lF:=a1A (t:=A7 t ⟨mv,kind,1⟩) (kind:=kind) (short:=true) hh
 have lC:=a1A (t:=A9 t ⟨mv,kind⟩) (kind:=kind) (short:=true) hh
 have lT:=a1A (t:=t) (kind:=kind) (short:=true) hh
 have k1:S5 t kind mv 1=U2 (A7 t ⟨mv,kind,1⟩) kind:=rfl
 have k2:S5 t kind mv 2=max (S5 t kind mv 1) (U2 (A9 t ⟨mv,kind⟩) kind):=rfl
 have kN:A0 t kind mv=if S5 t kind mv 2=0 then (D7 t kind true).length else S5 t kind mv 2:=rfl
 have qF:U2 (A7 t ⟨mv,kind,1⟩) kind=if O0 (A7 t ⟨mv,kind,1⟩) kind=0 then (D7 (A7 t ⟨mv,kind,1⟩) kind true).length else 0:=by unfold U2;congr
 have qC:U2 (A9 t ⟨mv,kind⟩) kind=if O0 (A9 t ⟨mv,kind⟩) kind=0 then (D7 (A9 t ⟨mv,kind⟩) kind true).length else 0:=by unfold U2;congr
 have k0:S5 t kind mv 0=0:=rfl
 generalize U2 (A7 t ⟨mv,kind,1⟩) kind=wF at *
 generalize U2 (A9 t ⟨mv,kind⟩) kind=wC at *
 generalize S5 t kind mv=sK at *
 generalize A7 t ⟨mv,kind,1⟩=tF at *
 generalize A9 t ⟨mv,kind⟩=tC at *
 generalize D7 t kind true=X at *
 generalize D7 tF kind true=XF at *
 generalize D7 tC kind true=XC at *
 have l1:(X.map Y5).length=X.length:=by simp
 have l2:(XF.map Y5).length=XF.length:=by simp
 have l3:(XC.map Y5).length=XC.length:=by simp
 have g0:[tF,tC][0]? =some tF:=rfl
 have g1:[tF,tC][1]? =some tC:=rfl
 (refine ac Tryz.func36 ?_;(conv=>whnf);repeat ((first|refine b0x ?_|refine zy ?_);conv=>whnf))
 repeat' (first|refine zx ?_|refine qp ck ?_|refine qp fe ?_|refine qp ou ?_|refine zd ?_ ?_<;>intro h<;>try omega|fail)<;>conv=>whnf
 all_goals try omega
 refine j7 g6 (fun k=>([J,b7 .i64 kind,J,J,J,J,J,J,a4i X,J,b7 .i64 (sK k:Int)]++Jn 51++[bh0 [tF,tC],b7 .i64 2,b7 .i64 k]++Jn 21,[])) 2 (fun _=>True) [] trivial
  ⟨rfl,rfl,trivial,⟨rfl,rfl,e8 (by rw [k0];rfl),rfl,rfl,rfl,trivial⟩⟩ ?_
 intro k hk _
 match k,hk with
 |0,hk=>
  by_cases h0:O0 tF kind=0
  ·rw [if_pos h0] at qF
   conv=>whnf
   repeat' (first|refine zx ?_|refine qp fF ?_|refine i3 g0 ?_|refine zd ?_ ?_<;>intro h<;>try omega|fail)<;>conv=>whnf
   all_goals first
    |omega
    |exact ⟨by omega,trivial,[],rfl,rfl,trivial,⟨rfl,rfl,e8 (by simp;omega),rfl,rfl,rfl,trivial⟩⟩
  ·rw [if_neg h0] at qF
   conv=>whnf
   repeat' (first|refine zx ?_|refine qp fF ?_|refine i3 g0 ?_|refine zd ?_ ?_<;>intro h<;>try omega|fail)<;>conv=>whnf
   all_goals first
    |omega
    |exact ⟨by omega,trivial,[],rfl,rfl,trivial,⟨rfl,rfl,e8 (by simp;omega),rfl,rfl,rfl,trivial⟩⟩
 |1,hk=>
  by_cases h0:O0 tC kind=0
  ·rw [if_pos h0] at qC
   conv=>whnf
   repeat' (first|refine zx ?_|refine qp fC ?_|refine i3 g1 ?_|refine zd ?_ ?_<;>intro h<;>try omega|fail)<;>conv=>whnf
   all_goals first
    |omega
    |exact ⟨by omega,trivial,[],rfl,rfl,trivial,⟨rfl,rfl,e8 (by simp;omega),rfl,rfl,rfl,trivial⟩⟩
  ·rw [if_neg h0] at qC
   conv=>whnf
   repeat' (first|refine zx ?_|refine qp fC ?_|refine i3 g1 ?_|refine zd ?_ ?_<;>intro h<;>try omega|fail)<;>conv=>whnf
   all_goals first
    |omega
    |exact ⟨by omega,trivial,[],rfl,rfl,trivial,⟨rfl,rfl,e8 (by simp;omega),rfl,rfl,rfl,trivial⟩⟩
 |2,hk=>
  rw [kN]
  by_cases h0:sK 2=0
  ·rw [if_pos h0]
   conv=>whnf
   repeat' (first|refine zx ?_|refine zd ?_ ?_<;>intro h<;>try omega|fail)<;>conv=>whnf
   all_goals first
    |omega
    |exact s7 ⟨e8 (by omega),rfl,trivial⟩
    |exact s7 ⟨rfl,rfl,trivial⟩
  ·rw [if_neg h0]
   conv=>whnf
   repeat' (first|refine zx ?_|refine zd ?_ ?_<;>intro h<;>try omega|fail)<;>conv=>whnf
   all_goals first
    |omega
    |exact s7 ⟨e8 (by omega),rfl,trivial⟩
    |exact s7 ⟨rfl,rfl,trivial⟩
 |k+3,hk=>omega
noncomputable def Q0 (t:g7) (kind:Int) (l:List Int):Nat->Int × Nat
 |0=>(0,0)
 |k+1=>match l[k]? with
  |some c=>if k=0∨A0 t kind c<(Q0 t kind l k).2 then (c,A0 t kind c) else Q0 t kind l k
  |none=>Q0 t kind l k
theorem a0x {t:g7} {kind:Int} {l:List Int} {k:Nat} {c:Int} (h:l[k]? =some c):Q0 t kind l (k+1)=if k=0∨A0 t kind c<(Q0 t kind l k).2 then (c,A0 t kind c) else Q0 t kind l k:=by
 rw [Q0,h]
theorem a0B {t:g7} {kind mv:Int} (h:t.ev.hhs<=3):A0 t kind mv<=32:=by
 have h1:=aM0 (t:=A7 t ⟨mv,kind,1⟩) (kind:=kind) h
 have h2:=aM0 (t:=A9 t ⟨mv,kind⟩) (kind:=kind) h
 have h3:=a1A (t:=t) (kind:=kind) (short:=true) h
 unfold A0
 split
 ·exact h3
 ·show max _ _<=32
  omega
theorem a8r {t:g7} {kind:Int} {l:List Int} (h:t.ev.hhs<=3):∀k,(Q0 t kind l k).2<=32
 |0=>by simp [Q0]
 |k+1=>by
  have ih:=a8r (kind:=kind) (l:=l) h k
  rw [Q0]
  split
  ·split
   ·exact a0B h
   ·exact ih
  ·exact ih
theorem ab5 (t:g7) (kind:Int):b9 Tryz.prog 38 [trS t,b7 .i64 kind,i7 []] [] (.tup [b7 .i64 0,b7 .i64 0,b7 .i64 4]) []:=by
 (refine ac Tryz.func38 ?_;(conv=>whnf);repeat ((first|refine b0x ?_|refine zy ?_);conv=>whnf))
 repeat' (first|refine zx ?_|refine zd ?_ ?_<;>intro h<;>try omega|fail)<;>conv=>whnf
 all_goals first
  |omega
  |(exfalso;simp_all;done)
  |exact s7 ⟨rfl,rfl,rfl,trivial⟩
theorem aY5 (t:g7) (kind:Int) (l:List Int) (hs:t.Sized) (hm:t.ev.moves.length<=8) (hh:t.ev.hhs<=3) (hf:t.finds.length<=19) (hc:t.cleans.length<=49) (hl:l.length<=1000)
 (q:Nat) (c:Int) (hq:l[q]? =some c) (he:E0 t kind c≠0) (hb:∀(i:Nat) (d:Int),i<q->l[i]? =some d->E0 t kind d=0):
 b9 Tryz.prog 38 [trS t,b7 .i64 kind,i7 l] [] (.tup [b7 .i64 0,b7 .i64 0,b7 .i64 (E0 t kind c)]) []:=by
 have m1:(l.map g9).length=l.length:=by simp
 have hq0:q<l.length:=by obtain ⟨i1,_⟩:=lbe.1 hq;exact i1
 (refine ac Tryz.func38 ?_;(conv=>whnf);repeat ((first|refine b0x ?_|refine zy ?_);conv=>whnf))
 repeat' (first|refine zx ?_|refine zd ?_ ?_<;>intro h<;>try omega|fail)<;>conv=>whnf
 all_goals try omega
 refine j7 g6 (fun k=>([J,b7 .i64 kind,J,S.c (C.t (T.ptr (trT t))),J,J,b7 .i64 (Q0 t kind l k).1,b7 .i64 ((Q0 t kind l k).2:Int),J,J,J,J,J,J,J,J,i7 l,b7 .i64 l.length,b7 .i64 k]++Jn 26,[])) q (fun _=>True) [] trivial
  ⟨rfl,rfl,trivial,⟨rfl,rfl,rfl,rfl,rfl,e8 (by omega),rfl,trivial⟩⟩ ?_
 intro k hk _
 have bl:=a8r (kind:=kind) (l:=l) hh k
 by_cases hlt:k<q
 ·obtain ⟨d,hd⟩:∃d,l[k]? =some d:=⟨_,lbf (by omega)⟩
  have sc:=a1u t kind d hs hm hh hf hc
  rw [hb k d hlt hd,if_pos rfl] at sc
  have bs:=a0x (t:=t) (kind:=kind) hd
  have sl:=a0B (kind:=kind) (mv:=d) hh
  by_cases hx:k=0∨A0 t kind d<(Q0 t kind l k).2
  ·rw [if_pos hx] at bs
   conv=>whnf
   repeat' (first|refine zx ?_|refine qp sc ?_|refine qp 4 ?_|refine qp 5 ?_|refine i3 hd ?_|refine bl0 [4] ?_|refine bl0 [5] ?_|refine zd ?_ ?_<;>intro h<;>try omega|fail)<;>conv=>whnf
   all_goals first
    |omega
    |exact ⟨hlt,trivial,[],rfl,rfl,trivial,⟨rfl,rfl,e8 (by rw [bs]),e8 (by rw [bs]),rfl,rfl,rfl,trivial⟩⟩
  ·rw [if_neg hx] at bs
   conv=>whnf
   repeat' (first|refine zx ?_|refine qp sc ?_|refine qp 4 ?_|refine qp 5 ?_|refine i3 hd ?_|refine bl0 [4] ?_|refine bl0 [5] ?_|refine zd ?_ ?_<;>intro h<;>try omega|fail)<;>conv=>whnf
   all_goals first
    |omega
    |exact ⟨hlt,trivial,[],rfl,rfl,trivial,⟨rfl,rfl,e8 (by rw [bs]),e8 (by rw [bs]),rfl,rfl,rfl,trivial⟩⟩
 ·have hke:k=q:=by omega
  subst hke
  have sc:=a1u t kind c hs hm hh hf hc
  rw [if_neg he] at sc
  generalize E0 t kind c=e at *
  conv=>whnf
  repeat' (first|refine zx ?_|refine qp sc ?_|refine qp 4 ?_|refine qp 5 ?_|refine i3 hq ?_|refine bl0 [4] ?_|refine bl0 [5] ?_|refine zd ?_ ?_<;>intro h<;>try omega|fail)<;>conv=>whnf
  all_goals first
   |omega
   |exact s7 ⟨rfl,rfl,rfl,trivial⟩
theorem au5 (t:g7) (kind:Int) (l:List Int) (hs:t.Sized) (hm:t.ev.moves.length<=8) (hh:t.ev.hhs<=3) (hf:t.finds.length<=19) (hc:t.cleans.length<=49) (hl:l.length<=1000) (hl0:0<l.length)
 (hb:∀(i:Nat) (d:Int),l[i]? =some d->E0 t kind d=0):
 b9 Tryz.prog 38 [trS t,b7 .i64 kind,i7 l] [] (.tup [b7 .i64 (Q0 t kind l l.length).1,b7 .i64 ((Q0 t kind l l.length).2:Int),b7 .i64 0]) []:=by
 have m1:(l.map g9).length=l.length:=by simp
 (refine ac Tryz.func38 ?_;(conv=>whnf);repeat ((first|refine b0x ?_|refine zy ?_);conv=>whnf))
 repeat' (first|refine zx ?_|refine zd ?_ ?_<;>intro h<;>try omega|fail)<;>conv=>whnf
 all_goals try omega
 refine j7 g6 (fun k=>([J,b7 .i64 kind,J,S.c (C.t (T.ptr (trT t))),J,J,b7 .i64 (Q0 t kind l k).1,b7 .i64 ((Q0 t kind l k).2:Int),J,J,J,J,J,J,J,J,i7 l,b7 .i64 l.length,b7 .i64 k]++Jn 26,[])) l.length (fun _=>True) [] trivial
  ⟨rfl,rfl,trivial,⟨rfl,rfl,rfl,rfl,rfl,e8 (by omega),rfl,trivial⟩⟩ ?_
 intro k hk _
 have bl:=a8r (kind:=kind) (l:=l) hh k
 by_cases hlt:k<l.length
 ·obtain ⟨d,hd⟩:∃d,l[k]? =some d:=⟨_,lbf (by omega)⟩
  have sc:=a1u t kind d hs hm hh hf hc
  rw [hb k d hd,if_pos rfl] at sc
  have bs:=a0x (t:=t) (kind:=kind) hd
  have sl:=a0B (kind:=kind) (mv:=d) hh
  by_cases hx:k=0∨A0 t kind d<(Q0 t kind l k).2
  ·rw [if_pos hx] at bs
   conv=>whnf
   repeat' (first|refine zx ?_|refine qp sc ?_|refine qp 4 ?_|refine qp 5 ?_|refine i3 hd ?_|refine bl0 [4] ?_|refine bl0 [5] ?_|refine zd ?_ ?_<;>intro h<;>try omega|fail)<;>conv=>whnf
   all_goals first
    |omega
    |exact ⟨hlt,trivial,[],rfl,rfl,trivial,⟨rfl,rfl,e8 (by rw [bs]),e8 (by rw [bs]),rfl,rfl,rfl,trivial⟩⟩
  ·rw [if_neg hx] at bs
   conv=>whnf
   repeat' (first|refine zx ?_|refine qp sc ?_|refine qp 4 ?_|refine qp 5 ?_|refine i3 hd ?_|refine bl0 [4] ?_|refine bl0 [5] ?_|refine zd ?_ ?_<;>intro h<;>try omega|fail)<;>conv=>whnf
   all_goals first
    |omega
    |exact ⟨hlt,trivial,[],rfl,rfl,trivial,⟨rfl,rfl,e8 (by rw [bs]),e8 (by rw [bs]),rfl,rfl,rfl,trivial⟩⟩
 ·have hke:k=l.length:=by omega
  subst hke
  conv=>whnf
  repeat' (first|refine zx ?_|refine zd ?_ ?_<;>intro h<;>try omega|fail)<;>conv=>whnf
  all_goals first
   |omega
   |exact s7 ⟨rfl,rfl,rfl,trivial⟩
theorem a04 {t:g7} {kind:Int} {n:Nat} (h:ExP t kind n):U2 t kind=(S8 t kind n true).length:=by
 unfold U2
 rw [if_pos (a1m h),T9 h]
theorem aF9 {t:g7} {kind:Int} (h:O0 t kind≠0):U2 t kind=0:=if_neg h
theorem au2 (mv:Int) (h0:0<=mv) (h1:mv<4):E0 (A8 [fX] []) 0 mv=0:=by
 unfold E0
 rw [if_neg,a1m bd0]
 rintro (h|h|h)
 ·exact h (N8.2 ⟨b4j,by decide,by decide⟩)
 ·omega
 ·have:(4:Int)<=mv:=h
  omega
theorem b9d:A0 (A8 [fX] []) 0 0=1:=by
 have h1:U2 (A7 (A8 [fX] []) ⟨0,0,1⟩) 0=1:=(a04 b1p).trans (by rw [b72];rfl)
 have h2:U2 (A9 (A8 [fX] []) ⟨0,0⟩) 0=1:=(a04 b1b).trans (by rw [b7R];rfl)
 unfold A0 S5
 rw [h1,h2];rfl
theorem bf0:A0 (A8 [fX] []) 0 1=1:=by
 have h1:U2 (A7 (A8 [fX] []) ⟨1,0,1⟩) 0=1:=(a04 b1D).trans (by rw [b7N];rfl)
 have h2:U2 (A9 (A8 [fX] []) ⟨1,0⟩) 0=1:=(a04 b17).trans (by rw [b7X];rfl)
 unfold A0 S5
 rw [h1,h2];rfl
theorem bj6:A0 (A8 [fX] []) 0 2=2:=by
 have h1:U2 (A7 (A8 [fX] []) ⟨2,0,1⟩) 0=2:=(a04 b0Y).trans (by rw [b7H];rfl)
 have h2:U2 (A9 (A8 [fX] []) ⟨2,0⟩) 0=0:=by
  obtain ⟨r,hr⟩:=be0 (t:=A8 [fX] [⟨2,0⟩]) (kind:=0) b1Y (by decide) b74
  refine aF9 ?_
  show O0 (A8 [fX] [⟨2,0⟩]) 0≠0
  rw [a0z (N8.2 ⟨b1Y,by decide,by decide⟩) hr];decide
 unfold A0 S5
 rw [h1,h2];rfl
theorem b94:A0 (A8 [fX] []) 0 3=2:=by
 have h1:U2 (A7 (A8 [fX] []) ⟨3,0,1⟩) 0=2:=(a04 b1V).trans (by rw [b8Q];rfl)
 have h2:U2 (A9 (A8 [fX] []) ⟨3,0⟩) 0=2:=(a04 b2l).trans (by rw [b7k];rfl)
 unfold A0 S5
 rw [h1,h2];rfl
theorem bg7:Q0 (A8 [fX] []) 0 [3,1,0] 3=(1,1):=by
 rw [a0x (c:=0) rfl,a0x (c:=1) rfl,a0x (c:=3) rfl,b9d,bf0,b94]
 rfl
theorem bd8:b9 Tryz.prog 93 [] [] (trS (A8 [fX] [])) []:=by
 (refine ac Tryz.func93 ?_;(conv=>whnf);repeat ((first|refine b0x ?_|refine zy ?_);conv=>whnf))
 repeat' (first|refine zz ?_|refine a4m.weak ?_|refine zd ?_ ?_<;>intro h<;>try omega|refine zy ?_|fail)<;>conv=>whnf
 exact s7 ⟨rfl,rfl,rfl,rfl,rfl,rfl,rfl,rfl,rfl,rfl,trivial⟩
theorem ad3:b9 Tryz.prog 35 [] [] (j0 true) []:=by
 have e1:=bd8
 have zA:(A8 [fX] []).Sized:=a8e _ _ _ _ _ (by decide) (by decide)
 have s0:=a1u (A8 [fX] []) 0 0 zA (by decide) (by decide) (by decide) (by decide)
 have s2:=a1u (A8 [fX] []) 0 2 zA (by decide) (by decide) (by decide) (by decide)
 have s3:=a1u (A8 [fX] []) 0 3 zA (by decide) (by decide) (by decide) (by decide)
 rw [au2 0 (by decide) (by decide),if_pos rfl,b9d] at s0
 rw [au2 2 (by decide) (by decide),if_pos rfl,bj6] at s2
 rw [au2 3 (by decide) (by decide),if_pos rfl,b94] at s3
 have b1:=au5 (A8 [fX] []) 0 [3,1,0] zA (by decide) (by decide) (by decide) (by decide) (by decide) (by decide) (fun i d h=>by
  match i,h with
  |0,h=>injection h with h;subst h;exact au2 3 (by decide) (by decide)
  |1,h=>injection h with h;subst h;exact au2 1 (by decide) (by decide)
  |2,h=>injection h with h;subst h;exact au2 0 (by decide) (by decide)
  |i+3,h=>cases h)
 rw [show ([3,1,0]:List Int).length=3 from rfl,bg7] at b1
 have b2:=ab5 (A8 [fX] []) 0
 (refine ac Tryz.func35 ?_;(conv=>whnf);repeat ((first|refine b0x ?_|refine zy ?_);conv=>whnf))
 repeat' (first|refine zz ?_|refine qp e1 ?_|refine qp s0 ?_|refine qp s2 ?_|refine qp s3 ?_|refine qp b1 ?_|refine qp b2 ?_|refine qp fX ?_|refine qp ?_|refine qp 4 ?_|refine qp 5 ?_|refine .inl ⟨_,_,a3Z b2 ⟨b1y (trT (A8 [fX] [])),a2N (ae6 rfl),a2N (ae6 rfl),trivial⟩ rfl,?_⟩|refine a4m.weak ?_|refine bl0 [4] ?_|refine bl0 [5] ?_|refine zd ?_ ?_<;>intro h<;>try omega|refine zy ?_|fail)<;>conv=>whnf
 all_goals first
  |omega
  |(exfalso;contradiction)
  |exact i4 rfl
theorem aJ0 (t:g7) (kind mv:Int) (hs:t.Sized):b9 Tryz.prog 57 [trS t,b7 .i64 kind,b7 .i64 mv,j0 true] [] (trS (A7 t ⟨mv,kind,1⟩)) []:=by
 have m1:(t.finds.map J9.row).length=t.finds.length:=by simp
 have q1:=hs.f
 (refine ac Tryz.func57 ?_;conv=>whnf)
 repeat' (first|refine zx ?_|refine qp toC ?_|refine qp (toC,I1) ?_|refine qp toC ?_|refine P6 rfl (by simp [toC];omega) ?_|refine D5 (by simp [toC,I1]) (by simp [toC];omega) ?_|refine zd ?_ ?_<;>intro h<;>try omega|fail)<;>conv=>whnf
 all_goals first
  |omega
  |exact s7 ⟨rfl,rfl,rfl,rfl,rfl,rfl,rfl,rfl,show VC _ (fun id=>O3 [] id=true) _ _ from B7 (rows:=(t.finds++[(⟨mv,kind,1⟩:J9)]).map J9.row) rfl rfl (by intro h;cases h) rfl (by simp [toC,I1];exact ⟨lbn (by simp),rfl⟩) (by simp [toC]),rfl,trivial⟩
theorem aR7 (t:g7) (kind mv:Int) (hs:t.Sized):b9 Tryz.prog 57 [trS t,b7 .i64 kind,b7 .i64 mv,j0 false] [] (trS (A9 t ⟨mv,kind⟩)) []:=by
 have m1:(t.cleans.map D6.row).length=t.cleans.length:=by simp
 have q1:=hs.c
 (refine ac Tryz.func57 ?_;conv=>whnf)
 repeat' (first|refine zx ?_|refine qp toC ?_|refine qp (toC,I1) ?_|refine qp toC ?_|refine P6 rfl (by simp [toC];omega) ?_|refine D5 (by simp [toC,I1]) (by simp [toC];omega) ?_|refine zd ?_ ?_<;>intro h<;>try omega|fail)<;>conv=>whnf
 all_goals first
  |omega
  |exact s7 ⟨rfl,rfl,rfl,rfl,rfl,rfl,rfl,rfl,rfl,show VC _ (fun id=>O3 [] id=true) _ _ from B7 (rows:=(t.cleans++[(⟨mv,kind⟩:D6)]).map D6.row) rfl rfl (by intro h;cases h) rfl (by simp [toC,I1];exact ⟨lbn (by simp),rfl⟩) (by simp [toC]),trivial⟩
noncomputable def a5b (t:g7) (kind:Int) (l:List Int):Int:=l.foldr (fun c w=>if E0 t kind c=0 then w else E0 t kind c) 0
noncomputable def atF (t:g7) (kind s:Int) (l:List Int):Int:=l.foldr (fun c a=>if E0 t kind c=0∧(A0 t kind c:Int)=s then c else a) (-1)
theorem a8L {t:g7} {kind:Int}:∀{l:List Int} {q:Nat} {c:Int},l[q]? =some c->E0 t kind c≠0->(∀ (i:Nat) (d:Int),i<q->l[i]? =some d->E0 t kind d=0)->a5b t kind l=E0 t kind c
 |[],q,c,h,_,_=>by simp at h
 |x::r,0,c,h,he,_=>by
  injection h with h
  subst h
  show (if _ then _ else _)=_
  rw [if_neg he]
 |x::r,q+1,c,h,he,hb=>by
  show (if _ then _ else _)=_
  rw [if_pos (hb 0 x (by omega) rfl)]
  exact a8L (l:=r) (q:=q) (by simpa using h) he fun i d hi hd=>hb (i+1) d (by omega) (by simpa using hd)
theorem aG8 {t:g7} {kind:Int}:∀{l:List Int},(∀ (i:Nat) (d:Int),l[i]? =some d->E0 t kind d=0)->a5b t kind l=0
 |[],_=>rfl
 |x::r,hb=>by
  show (if _ then _ else _)=_
  rw [if_pos (hb 0 x rfl)]
  exact aG8 (l:=r) fun i d hd=>hb (i+1) d (by simpa using hd)
theorem ar3 {t:g7} {kind s:Int}:∀{l:List Int} {q:Nat} {c:Int},l[q]? =some c->E0 t kind c=0∧(A0 t kind c:Int)=s->(∀ (i:Nat) (d:Int),i<q->l[i]? =some d->¬(E0 t kind d=0∧(A0 t kind d:Int)=s))->atF t kind s l=c
 |[],q,c,h,_,_=>by simp at h
 |x::r,0,c,h,he,_=>by
  injection h with h
  subst h
  show (if _ then _ else _)=_
  rw [if_pos he]
 |x::r,q+1,c,h,he,hb=>by
  show (if _ then _ else _)=_
  rw [if_neg (hb 0 x (by omega) rfl)]
  exact ar3 (l:=r) (q:=q) (by simpa using h) he fun i d hi hd=>hb (i+1) d (by omega) (by simpa using hd)
theorem a5x {t:g7} {kind:Int} {l:List Int}:∀{k:Nat},0<k->k<=l.length->∃j,j<k∧l[j]? =some (Q0 t kind l k).1∧A0 t kind (Q0 t kind l k).1=(Q0 t kind l k).2∧(∀ (i:Nat) (d:Int),i<k->l[i]? =some d->(Q0 t kind l k).2<=A0 t kind d)∧∀(i:Nat) (d:Int),i<j->l[i]? =some d->(Q0 t kind l k).2<A0 t kind d
 |0,h,_=>by omega
 |k+1,_,hl=>by
  obtain ⟨c,hc⟩:∃c,l[k]? =some c:=⟨_,lbf (by omega)⟩
  rw [a0x hc]
  by_cases hx:k=0∨A0 t kind c<(Q0 t kind l k).2
  ·rw [if_pos hx]
   refine ⟨k,by omega,hc,rfl,fun i d hi hd=>?_,fun i d hi hd=>?_⟩
   ·rcases Nat.lt_or_ge i k with h|h
    ·have hk:0<k:=by omega
     obtain ⟨j,_,_,_,h4,_⟩:=a5x (t:=t) (kind:=kind) (l:=l) hk (by omega)
     have:=h4 i d h hd
     show A0 t kind c<=_
     omega
    ·have:i=k:=by omega
     subst this
     rw [hc] at hd;injection hd with hd
     subst hd
     exact lbQ _
   ·have hk:0<k:=by omega
    obtain ⟨j,_,_,_,h4,_⟩:=a5x (t:=t) (kind:=kind) (l:=l) hk (by omega)
    have:=h4 i d hi hd
    show A0 t kind c<_
    omega
  ·rw [if_neg hx]
   have hk:0<k:=by omega
   obtain ⟨j,h1,h2,h3,h4,h5⟩:=a5x (t:=t) (kind:=kind) (l:=l) hk (by omega)
   refine ⟨j,by omega,h2,h3,fun i d hi hd=>?_,h5⟩
   rcases Nat.lt_or_ge i k with h|h
   ·exact h4 i d h hd
   ·have:i=k:=by omega
    subst this
    rw [hc] at hd;injection hd with hd
    subst hd
    omega
theorem ap8 {t:g7} {kind:Int}:∀l:List Int,(∀ (i:Nat) (d:Int),l[i]? =some d->E0 t kind d=0)∨∃(q:Nat) (c:Int),l[q]? =some c∧E0 t kind c≠0∧∀(i:Nat) (d:Int),i<q->l[i]? =some d->E0 t kind d=0
 |[]=>.inl fun i d h=>by simp at h
 |x::r=>by
  by_cases hx:E0 t kind x=0
  ·rcases ap8 (t:=t) (kind:=kind) r with h|⟨q,c,h1,h2,h3⟩
   ·refine .inl fun i d hd=>?_
    cases i with
    |zero=>injection hd with hd;subst hd;exact hx
    |succ i=>exact h i d (by simpa using hd)
   ·refine .inr ⟨q+1,c,by simpa using h1,h2,fun i d hi hd=>?_⟩
    cases i with
    |zero=>injection hd with hd;subst hd;exact hx
    |succ i=>exact h3 i d (by omega) (by simpa using hd)
  ·exact .inr ⟨0,x,rfl,hx,fun i d hi=>by omega⟩
theorem b45 (t:g7) (kind:Int) (l:List Int) (hs:t.Sized) (hm:t.ev.moves.length<=8) (hh:t.ev.hhs<=3) (hf:t.finds.length<=19) (hc:t.cleans.length<=49) (hl:l.length<=1000):
 ∃m s e:Int,b9 Tryz.prog 38 [trS t,b7 .i64 kind,i7 l] [] (.tup [b7 .i64 m,b7 .i64 s,b7 .i64 e]) []∧
  ((l.length=0∧m=0∧s=0∧e=4)∨(0<l.length∧e≠0∧m=0∧s=0∧a5b t kind l=e)∨(0<l.length∧e=0∧a5b t kind l=0∧atF t kind s l=m∧∀(i:Nat) (d:Int),l[i]? =some d->s<=A0 t kind d)):=by
 by_cases h0:l.length=0
 ·have:l=[]:=List.length_eq_zero_iff.1 h0
  subst this
  exact ⟨0,0,4,ab5 t kind,.inl ⟨rfl,rfl,rfl,rfl⟩⟩
 rcases ap8 (t:=t) (kind:=kind) l with h|⟨q,c,h1,h2,h3⟩
 ·obtain ⟨j,j1,j2,j3,j4,j5⟩:=a5x (t:=t) (kind:=kind) (l:=l) (k:=l.length) (by omega) (lbQ _)
  refine ⟨_,_,_,au5 t kind l hs hm hh hf hc hl (by omega) h,.inr (.inr ⟨by omega,rfl,aG8 h,ar3 j2 ⟨h j _ j2,by rw [j3]⟩ fun i d hi hd hx=>?_,fun i d hd=>?_⟩)⟩
  ·have:=j5 i d hi hd
   omega
  ·have:=j4 i d (by obtain ⟨i1,_⟩:=lbe.1 hd;exact i1) hd
   omega
 ·exact ⟨_,_,_,aY5 t kind l hs hm hh hf hc hl q c h1 h2 h3,.inr (.inl ⟨by omega,h2,rfl,rfl,a8L h1 h2 h3⟩)⟩
theorem b2G {α:Type} {l:List α} {k:Nat} (h:k<l.length):∃c,l[l.length - 1 - k]? =some c∧l.drop (l.length - (k+1))=c::l.drop (l.length - k):=by
 refine ⟨l[l.length - 1 - k],lbf (by omega),?_⟩
 rw [show l.length - (k+1)=l.length - 1 - k by omega,List.drop_eq_getElem_cons (by omega),show l.length - 1 - k+1=l.length - k by omega]
theorem aL9 (t:g7) (kind:Int) (l:List Int):b9 Tryz.prog 8 [trS t,b7 .i64 kind,i7 l] [] (j0 true) []:=by
 have sa:=ad3
 have sm:=ai1 t 4
 have m1:(l.map g9).length=l.length:=by simp
 cases hsm:a3U t 4 with
 |false=>
  rw [hsm] at sm
  (refine ac Tryz.func8 ?_;(conv=>whnf);repeat ((first|refine b0x ?_|refine zy ?_);conv=>whnf))
  repeat' (first|refine zx ?_|refine qp sa ?_|refine qp sm ?_|refine zd ?_ ?_<;>intro h<;>try omega|fail)<;>conv=>whnf
  all_goals first
   |omega
   |(exfalso;contradiction)
   |exact i4 rfl
 |true=>
 rw [hsm] at sm
 by_cases hl3:3<l.length
 ·(refine ac Tryz.func8 ?_;(conv=>whnf);repeat ((first|refine b0x ?_|refine zy ?_);conv=>whnf))
  repeat' (first|refine zx ?_|refine qp sa ?_|refine qp sm ?_|refine zd ?_ ?_<;>intro h<;>try omega|fail)<;>conv=>whnf
  all_goals first
   |omega
   |(exfalso;contradiction)
   |exact i4 rfl
 obtain ⟨s1,s2,s3,s4,s5⟩:=a2H (by decide) hsm
 obtain ⟨m,s,e,be,hfin⟩:=b45 t kind l s1 s2 s3 (by omega) (by omega) (by omega)
 have hns:e=0->∀(i:Nat) (d:Int),l[i]? =some d->s<=A0 t kind d:=fun h0=>by
  rcases hfin with ⟨_,_,_,h⟩|⟨_,h,_⟩|⟨_,_,_,_,h⟩
  ·omega
  ·omega
  ·exact h
 (refine ac Tryz.func8 ?_;(conv=>whnf);repeat ((first|refine b0x ?_|refine zy ?_);conv=>whnf))
 repeat' (first|refine zx ?_|refine qp sa ?_|refine qp sm ?_|refine qp be ?_|refine zd ?_ ?_<;>intro h<;>try omega|fail)<;>conv=>whnf
 all_goals try omega
 refine j7 g6 (fun k=>([J,b7 .i64 kind,i7 l,S.c (C.t (T.ptr (trT t))),J,J,J,j0 true,b7 .i64 m,b7 .i64 s,b7 .i64 e,b7 .i64 (a5b t kind (l.drop (l.length - k))),b7 .i64 (atF t kind s (l.drop (l.length - k))),b7 .i64 ((l.length:Int) - 1 - (k:Int))]++Jn 91,[])) l.length (fun _=>True) [] trivial
  ⟨rfl,rfl,trivial,⟨rfl,rfl,rfl,rfl,rfl,rfl,rfl,e8 (by rw [Nat.sub_zero,List.drop_length];rfl),e8 (by rw [Nat.sub_zero,List.drop_length];rfl),e8 (by omega),trivial⟩⟩ ?_
 intro k hk _
 by_cases hlt:k<l.length
 ·obtain ⟨c,hc,hd⟩:=b2G hlt
  have sc:=a1u t kind c s1 s2 s3 (by omega) (by omega)
  have sl:=a0B (kind:=kind) (mv:=c) s3
  have w1:a5b t kind (l.drop (l.length - (k+1)))=if E0 t kind c=0 then a5b t kind (l.drop (l.length - k)) else E0 t kind c:=by rw [hd];rfl
  have w2:atF t kind s (l.drop (l.length - (k+1)))=if E0 t kind c=0∧(A0 t kind c:Int)=s then c else atF t kind s (l.drop (l.length - k)):=by rw [hd];rfl
  have hnc:=fun h0=>hns h0 _ c hc
  have ix:(l.length:Int) - 1 - (k:Int)=((l.length - 1 - k:Nat):Int):=by omega
  generalize a5b t kind (l.drop (l.length - k))=wa at *
  generalize atF t kind s (l.drop (l.length - k))=at0 at *
  by_cases he:E0 t kind c=0
  ·rw [if_pos he,he] at sc
   rw [if_pos he] at w1
   by_cases hn:(A0 t kind c:Int)=s
   ·rw [if_pos ⟨he,hn⟩] at w2
    conv=>whnf
    repeat' (first|refine zx ?_|refine qp sc ?_|refine qp 4 ?_|refine qp 5 ?_|refine a7c ix hc ?_|refine bl0 [4] ?_|refine bl0 [5] ?_|refine zd ?_ ?_<;>intro h<;>try omega|fail)<;>conv=>whnf
    all_goals first
     |omega
     |exact ⟨hlt,trivial,[],rfl,rfl,trivial,⟨rfl,rfl,rfl,rfl,rfl,rfl,rfl,e8 w1.symm,e8 w2.symm,e8 (by omega),trivial⟩⟩
   ·rw [if_neg (fun h=>hn h.2)] at w2
    conv=>whnf
    repeat' (first|refine zx ?_|refine qp sc ?_|refine qp 4 ?_|refine qp 5 ?_|refine a7c ix hc ?_|refine bl0 [4] ?_|refine bl0 [5] ?_|refine zd ?_ ?_<;>intro h<;>try omega|fail)<;>conv=>whnf
    all_goals first
     |omega
     |exact ⟨hlt,trivial,[],rfl,rfl,trivial,⟨rfl,rfl,rfl,rfl,rfl,rfl,rfl,e8 w1.symm,e8 w2.symm,e8 (by omega),trivial⟩⟩
  ·rw [if_neg he] at sc w1
   rw [if_neg (fun h=>he h.1)] at w2
   generalize E0 t kind c=ee at *
   conv=>whnf
   repeat' (first|refine zx ?_|refine qp sc ?_|refine qp 4 ?_|refine qp 5 ?_|refine a7c ix hc ?_|refine bl0 [4] ?_|refine bl0 [5] ?_|refine zd ?_ ?_<;>intro h<;>try omega|fail)<;>conv=>whnf
   all_goals first
    |omega
    |exact ⟨hlt,trivial,[],rfl,rfl,trivial,⟨rfl,rfl,rfl,rfl,rfl,rfl,rfl,e8 w1.symm,e8 w2.symm,e8 (by omega),trivial⟩⟩
 ·have hke:k=l.length:=by omega
  subst hke
  rw [Nat.sub_self,List.drop_zero]
  have hfin2:(l.length=0∧m=0∧s=0∧e=4)∨(0<l.length∧e≠0∧m=0∧s=0∧a5b t kind l=e)∨(0<l.length∧e=0∧a5b t kind l=0∧atF t kind s l=m):=by
   rcases hfin with h|h|⟨h1,h2,h3,h4,_⟩
   ·exact .inl h
   ·exact .inr (.inl h)
   ·exact .inr (.inr ⟨h1,h2,h3,h4⟩)
  clear hfin hns be
  generalize a5b t kind l=wa at *
  generalize atF t kind s l=at0 at *
  conv=>whnf
  repeat' (first|refine zx ?_|refine zd ?_ ?_<;>intro h<;>try omega|fail)<;>conv=>whnf
  all_goals first
   |omega
   |exact i4 rfl
section
open Go.RowKit Go.ChangeShapes Go.WideShapes Go.Deep
section
variable {H:Type} {enc:TypeId × Value->H} {P:Program}
theorem ao1 (hl:laidOutB P=true) {W W':World} {sp:Nat->Bool}:∀{ts:List TypeId} {vs:List Value} {ds:List (DataW H)} {ps:List MemPlace},(∀ t ∈ ts,P.readableRec t=true∧t<P.types.size)->
 DataW.TrodAll enc P W 0 (fun _=>true) true ts vs ds ps->(∀ p ∈ ps,W.sameAt W' p)->(∀ p ∈ ps,sp p.block=true)->DataW.TrodAll enc P W' 0 sp true ts vs ds ps:=by
 intro ts
 induction ts with
 |nil=>
  intro vs ds ps _ h _ _
  obtain ⟨rfl,rfl,rfl⟩:=trodAll_nil h
  exact trodAll_mk0
 |cons t ts ih=>
  intro vs ds ps hr h hsame hs
  obtain ⟨v,vs',d,ds',p,q,rfl,rfl,rfl,h1,h2⟩:=trodAll_cons h
  obtain ⟨ht,hlt⟩:=hr t (by simp)
  exact trodAll_cons_mk (WideElems.Trod_stays hl ht hlt h1 (fun x hx=>hsame x (by simp [hx])) (fun x hx=>hs x (by simp [hx]))) (ih (fun t ht=>hr t (by simp [ht])) h2 (fun x hx=>hsame x (by simp [hx])) (fun x hx=>hs x (by simp [hx])))
theorem ai2 {f:Func} {s:ChangeSpec} {fresh handsOn:Bool} {W W':World} {args:Array Value} {ds gs:List (DataW H)} {before:List MemPlace} {tb:TypeId}
 (hW:DataW.Whole enc P f.params.toList s.vars false W args.toList ds gs before) (hl:laidOutB P=true) (hr:∀t ∈ f.params.toList,P.readableRec t=true∧t<P.types.size) (hv:s.vars=[])
 (hfn:s.fn H (ds++gs)={ results:=[.lit (.bool true)],args:=ds }) (hres:f.resultTypes=#[tb]) (hbool:P.underlying tb=some .bool) (hb:Below W.heap.size W W'):
 s.post enc P f false fresh handsOn false W args (.bool true) W':=by
 have hW':=hW
 obtain ⟨p,q,hA,hV,rfl,hfz,hnd⟩:=hW
 rw [hv] at hV
 obtain ⟨rfl,rfl⟩:=trodVars_none hV
 have hlt:∀x ∈ p,x.block<W.heap.size:=fun x hx=>by have:=hW'.lt x (by simpa using hx);simpa using this
 refine ⟨ds,[],p++[],[],p,[],hW',?_,?_,?_,hb.frame _,fun h=>by cases h⟩
 ·rw [hfn,hres]
  exact trodAll_mk1 (shut_bool hbool true)
 ·rw [hfn]
  exact ao1 hl hr hA (fun x hx=>hb.same (hlt x hx)) (fun x hx=>by simpa using hlt x hx)
 ·rw [hv,hfn]
  exact rfl
theorem Rd.of_each {α:Type} {k:Nat} {f:α->List Value} {w:World} {b off:Nat}:∀(n:Nat),(∀ i,i<n->∃x:α,∀j u,(f x)[j]? =some u->w.cell? ⟨b,off+(i*k+j),none⟩=some u)->∃xs,Rd k f w (some ⟨b,off,none⟩) n xs:=by
 intro n
 induction n with
 |zero=>intro _;exact ⟨[],Rd.nil _⟩
 |succ n ih=>
  intro h
  obtain ⟨xs,hx⟩:=ih (fun i hi=>h i (by omega))
  obtain ⟨x,hxn⟩:=h n (by omega)
  have hl:=hx.len
  refine ⟨xs++[x],by simp [← hl],fun _=>⟨b,off,rfl,fun i y hy j u hu=>?_⟩⟩
  by_cases hi:i<xs.length
  ·rw [lbb hi] at hy
   obtain ⟨b',off',e,hc⟩:=hx.2 (by omega)
   injection e with e
   injection e with e1 e2
   subst e1 e2
   exact hc i y hy j u hu
  ·have hi2:i=n:=by
    have:=(lbe.1 hy).1
    simp at this
    omega
   subst hi2
   have hy2:x=y:=by
    rw [lbc (by omega),←hl] at hy
    simpa using hy
   subst hy2
   exact hxn j u hu
variable {w:World} {base:Nat} {spare:Nat->Bool} {held:Bool}
theorem b3N {α:Type} (f:α->Value) {t e:TypeId} {fuel:Nat} {v:Value} {x:DataW H × List MemPlace} (ht:P.underlying t=some (.slice e)) (hC:P.cellsOf e=1)
 (hdec:∀(u:Value) y n,DataW.trod enc P w base spare held n e [u]=some y->∃x:α,u=f x)
 (h:DataW.trod enc P w base spare held fuel t [v]=some x):∃A n c xs,v=.slice A n c∧Rd 1 (fun x=>[f x]) w A n xs∧n<=c∧c<=maxLen:=by
 rcases open_slice ht h with ⟨h0,_⟩|⟨a,len,cap,m,n,D,Pl,hcs,hb,hl,hm,hmm,hx,hi⟩
 ·injection h0 with h0
  exact ⟨none,0,0,[],h0,Rd.nil _,lbQ _,by unfold maxLen;omega⟩
 ·injection hcs with hv
  by_cases hz:len=0
  ·subst hz
   exact ⟨some a,0,cap,[],hv,Rd.nil _,hl,hm⟩
  have hlm:len<=m:=by rw [hmm];split<;>omega
  have key:∀i,i<m->∃x:α,w.cell? (a.add i)=some (f x):=by
   intro i him
   obtain ⟨cs',hc,ht'⟩:=hi i him
   rw [hC,Nat.mul_one] at hc
   obtain ⟨_,hcl,hat⟩:=World.cells?_some hc
   match cs',hcl with
   |[u],_=>
    obtain ⟨x,rfl⟩:=hdec u _ _ ht'
    exact ⟨x,by have:=hat 0 (by omega);rw [Go.Deep.add_add,Nat.add_zero] at this;simpa using this⟩
  obtain ⟨x0,hu0⟩:=key 0 (by omega)
  have hspot:a.spot=none:=by
   have:=World.cell?_spot hu0
   simpa [Addr.add] using this
  obtain ⟨b,off,sp⟩:=a
  simp only at hspot
  subst hspot
  have hadd:∀k,(⟨b,off,none⟩:Addr).add k=⟨b,off+k,none⟩:=by
   intro k
   unfold Addr.add
   split
   ·subst_vars;rfl
   ·rfl
  obtain ⟨xs,hxs⟩:=Rd.of_each (k:=1) (f:=fun x=>[f x]) (w:=w) (b:=b) (off:=off) len (fun i hil=>by
   obtain ⟨x,hx⟩:=key i (by omega)
   rw [hadd] at hx
   refine ⟨x,fun j u hu=>?_⟩
   match j,hu with
   |0,hu=>simp at hu;subst hu;simpa using hx)
  exact ⟨_,len,cap,xs,hv,hxs,hl,hm⟩
end
end
section
open Go.RowKit Go.ChangeShapes Go.WideShapes Go.Deep
section
variable {H:Type} {enc:TypeId × Value->H} {w:World} {base:Nat} {spare:Nat->Bool} {held:Bool}
theorem b88 {k:TypeId} (hk:Tryz.prog.underlying k=some (.int .i64)) {u:Value} (h:∃y n,DataW.trod enc Tryz.prog w base spare held n k [u]=some y):∃a:Int,u=.int .i64 a:=by
 obtain ⟨y,n,h⟩:=h
 obtain ⟨a,e,_,_⟩:=DataW.trod_int hk h
 injection e with e
 exact ⟨a,e⟩
end
theorem aD7:ownKnob Tryz.prog.godebug=none:=by kernel_rfl
theorem aa7:laidOutB Tryz.prog=true:=by kernel_rfl
end
theorem b4B {α:Type} {k:Nat} {f:α->List Value} {row:α->List T} (hrow:∀x,row x=(f x).map T.atm) (hone:∀x,∀v ∈ f x,v.oneCell'=true) (hk:∀x,(f x).length=k)
 {w:World} {A:Option Addr} {n c:Nat} {xs:List α} (h:Rd k f w A n xs) (h1:n<=c) (h2:c<=maxLen):RT w (fun _=>False) (.sl k .any (xs.map row)) (.slice A n c):=by
 obtain ⟨hn,hc⟩:=h
 have hlen:(xs.map row).length=n:=by simp [hn]
 rw [← hlen]
 have hat:∀i j t,at2 (xs.map row) i j=some t->∃x v,xs[i]? =some x∧(f x)[j]? =some v∧t=.atm v:=fun i j t ht=>by
  obtain ⟨r,q1,q2⟩:=F4 ht
  rw [lba] at q1
  cases hx:xs[i]? with
  |none=>rw [hx] at q1;cases q1
  |some x=>
   rw [hx] at q1
   injection q1 with q1
   subst q1
   rw [hrow,lba] at q2
   cases hv:(f x)[j]? with
   |none=>rw [hv] at q2;cases q2
   |some v=>rw [hv] at q2;injection q2 with q2;exact ⟨x,v,rfl,hv,q2.symm⟩
 rcases Nat.eq_zero_or_pos n with h0|h0
 ·have hx:xs=[]:=lbF (by omega)
  subst hx
  exact .sl (b:=0) (off:=0) (fun _ _=>undef) (by simp) (by simp) h2 (by intro h;cases h) (by intro h;cases h) (by simp) (by simp [at2]) (by simp [at2])
 ·obtain ⟨b,off,hA,hcell⟩:=hc h0
  refine .sl (b:=b) (off:=off) (fun i j=>((xs[i]?).bind fun x=>(f x)[j]?).getD undef) ?_ (by omega) h2 (by intro h;cases h) (by intro h;cases h) (fun _=>hA) ?_ ?_
  ·intro r hr
   obtain ⟨x,_,rfl⟩:=lbx.1 hr
   rw [hrow,lbr,hk]
  ·intro i j t ht
   obtain ⟨x,v,hx,hv,rfl⟩:=hat i j t ht
   exact ⟨by rw [hcell i x hx j v hv];simp [hx,hv],fun h=>h⟩
  ·intro i j t ht
   obtain ⟨x,v,hx,hv,rfl⟩:=hat i j t ht
   have:((xs[i]?).bind fun x=>(f x)[j]?).getD undef=v:=by simp [hx,hv]
   rw [this]
   exact .atm (hone x v (lbm hv))
theorem aa8 {w:World} {n:Int}:RS w (fun _=>none) (fun _=>False) (b7 .i64 n) (.int .i64 n):=RS.int
inductive ao4 (w:World):List S->List Value->Prop
 |nil:ao4 w [] []
 |cons {s:S} {v:Value} {ss:List S} {vs:List Value} (h:RS w (fun _=>none) (fun _=>False) s v) (hs:ao4 w ss vs):ao4 w (s::ss) (v::vs)
theorem ao4.get {w:World} {ss:List S} {vs:List Value} (h:ao4 w ss vs):vs.length=ss.length∧∀(j:Nat) (s:S),ss[j]? =some s->RS w (fun _=>none) (fun _=>False) s (vs.getD j undef):=by
 induction h with
 |nil=>exact ⟨rfl,by simp⟩
 |cons h hs ih=>
  refine ⟨by simp [ih.1],fun j s hj=>?_⟩
  cases j with
  |zero=>simp at hj;subst hj;exact h
  |succ j=>simpa using ih.2 j s (by simpa using hj)
theorem a3L {P:Program} {g:FuncId} {ss:List S} {b:Bool} (h:b9 P g ss [] (j0 b) []) {w:World} {vs:List Value} (ha:ao4 w ss vs):
 Calls P g vs.toArray w fun e w'=>e=.returned (.bool b)∧Below w.heap.size w w':=by
 obtain ⟨h1,h2⟩:=ha.get
 refine Calls.mono (h.2 w (fun _=>none) (fun _=>False) vs h1 h2 ⟨by simp,by simp,by simp,by simp,by simp⟩ (fun _ h=>h.elim) (fun _ _=>rfl)) ?_
 rintro e w' ⟨v,rfl,ι',M',q1,q2,q3,q4,q5⟩
 rw [q1.inv_atm]
 exact ⟨rfl,q5.os,q5.tape,q5.output,q5.size,fun k hk=>q5.keep k hk (by rintro ⟨id,k,_,_,hk,_⟩;simp at hk)⟩
open Go.RowKit Go.ChangeShapes Go.WideShapes Go.ChangeAt
theorem a8J {P:Program} {f:FuncId} {fn:Func} {s:ChangeSpec} {c:OpenClaim}
 (h1:c.wf (OpenSpec.ofChange s)=true) (h2:laidOutB P=true) (h3:mapsRowed P=true) (h4:fn.params.all (P.readableRec ·)=true) (h5:namedTie P c.named s.vars=true)
 (h6:(c.stops == [])=true) (h7:(P.stops == [])=true) (h8:(c.knobs == [])=true) (h9:(P.stopKnobs == [])=true)
 (h10:(c.inPlace == P.inPlace f)=true) (h11:(c.unfollowed == P.unfollowed f)=true) (h12:(c.recurses == P.recurses f)=true) (h13:(c.named == P.varsNamed f)=true)
 (h14:(c.maps == (fn.params.toList++s.plain.varTypes P).any (P.mapsRec ·))=true) (h15:(c.ifaces == (fn.params.toList++s.plain.varTypes P).any (P.ifacesRec ·))=true) (h16:(c.mapsOut == P.mapsAmong fn.resultTypes.toList)=true)
 (h17:(c.loops == (fn.params.toList++s.plain.varTypes P).any (P.loopsFrom ·))=true) (h18:(c.wideKeys == (fn.params.toList++s.plain.varTypes P++fn.resultTypes.toList).any (P.wideKeysFrom ·))=true)
 (h19:s.vars.all (P.varReadable ·)=true) (h20:fn.resultTypes.all (fun t=>P.readableRec t && decide (t<P.types.size))=true) (h21:(c.ifacesOut == fn.resultTypes.toList.any (P.ifacesRec ·))=true) (h22:(c.loopsOut == fn.resultTypes.toList.any (P.loopsFrom ·))=true)
 (h23:(c.plainKeys == P.plainKeys)=true) (h24:c.shortTexts.isNone=true) (h25:P.stopsHeard=true) (h26:P.mayEnter=true) (h27:(c.lifted == P.liftsFinal)=true) (h28:(P.make == some c.make)=true)
 (h29:c.domain.isEmpty=true) (h29b:(c.kinds == [])=true) (h30:(c.pinned == c.pinnedBy)=true)
 (h31:(c.veiled == (fn.params.toList++s.plain.varTypes P++fn.resultTypes.toList).any (P.veiledRec ·))=true) (h32:c.veiledFits P fn.params.toList (fn.params.toList++s.plain.varTypes P++fn.resultTypes.toList)=true):
 joinedFacts P f fn s c=true:=by
 unfold joinedFacts
 rw [h1,h2,h3,h4,h5,h6,h7,h8,h9,h10,h11,h12,h13,h14,h15,h16,h17,h18,h19,h20,h21,h22,h23,h24,h25,h26,h27,h28,if_pos h29,h29b,h30,h31,h32]
 rfl
theorem aF1:laidOutB Tryz.pinned.checked.prog=true:=by kernel_rfl
theorem ax6:mapsRowed Tryz.pinned.checked.prog=true:=by kernel_rfl
theorem aF2:Tryz.pinned.checked.prog.plainKeys=true:=by kernel_rfl
theorem ae9:Tryz.pinned.checked.prog.stopsHeard=true:=by kernel_rfl
theorem ag7:Tryz.pinned.checked.prog.mayEnter=true:=by kernel_rfl
theorem aC0:(Rows.explainFewestRow.lifted == Tryz.pinned.checked.prog.liftsFinal)=true:=by kernel_rfl
theorem aA1:(Tryz.pinned.checked.prog.make == some Rows.explainFewestRow.make)=true:=by kernel_rfl
section
open Go.RowKit Go.ChangeShapes Go.WideShapes Go.Deep
section
variable {H:Type} {enc:TypeId × Value->H} {w:World} {base:Nat} {spare:Nat->Bool} {held:Bool}
theorem open_ints {r:Reach} {b0:Nat} {v:Value} {d:DataW H} {p:List MemPlace} (hv:Value.okWide Tryz.prog w r b0 33 v) (h:DataW.Trod enc Tryz.prog w base spare held 33 v d p):
 ∃A n c xs,v=.slice A n c∧Rd 1 (fun x=>[Value.int .i64 x]) w A n xs∧n<=c∧c<=maxLen:=by
 obtain ⟨a,len,cap,rfl⟩:=okWide_slice Tryz.underlying33 hv
 obtain ⟨fuel,hf⟩:=h
 exact b3N (f:=Value.int .i64) Tryz.underlying33 (by kernel_rfl) (fun u y n hy=>b88 Tryz.underlying3 ⟨y,n,hy⟩) hf
end
theorem b8U {w:World} {A:Option Addr} {n c:Nat} {xs:List Int} (h:Rd 1 (fun x=>[Value.int .i64 x]) w A n xs) (h1:n<=c) (h2:c<=maxLen):RS w (fun _=>none) (fun _=>False) (i7 xs) (.slice A n c):=
 .c (.t (b4B (k:=1) (f:=fun x=>[Value.int .i64 x]) (row:=g9) (fun _=>rfl) (by intro x v hv;simp at hv;subst hv;rfl) (fun _=>rfl) h h1 h2))
end
section
open Go.RowKit Go.ChangeShapes Go.WideShapes Go.Deep
inductive Sh where
 |int (k:IntKind)
 |bool
 |sl (row:List Sh)
inductive Fit:Sh->T->Prop
 |int {k:IntKind} {n:Int} (h:(Lit.int k n).wf=true):Fit (.int k) (.atm (.int k n))
 |bool {b:Bool}:Fit .bool (.atm (.bool b))
 |sl {row:List Sh} {rows:List (List T)} (hl:∀r ∈ rows,r.length=row.length) (h:∀r ∈ rows,∀(j:Nat) (s:Sh) (t:T),row[j]? =some s->r[j]? =some t->Fit s t):Fit (.sl row) (.sl row.length .any rows)
inductive G9 (P:Program):TypeId->List Sh->Prop
 |int {t:TypeId} {k:IntKind} (h:P.underlying t=some (.int k)):G9 P t [.int k]
 |bool {t:TypeId} (h:P.underlying t=some .bool):G9 P t [.bool]
 |sl {t e:TypeId} {row:List Sh} (h:P.underlying t=some (.slice e)) (hc:P.cellsOf e=row.length) (hp:0<row.length) (he:G9 P e row):G9 P t [.sl row]
 |struct {t:TypeId} {fs:Array Field} (parts:List (List Sh)) (h:P.underlying t=some (.struct fs)) (hl:parts.length=fs.size)
   (ho:∀(i:Nat) (f:Field) (p:List Sh),fs[i]? =some f->parts[i]? =some p->f.offset=(parts.take i).flatten.length∧P.cellsOf f.type=p.length)
   (hc:P.cellsOf t=parts.flatten.length)
   (he:∀(i:Nat) (f:Field) (p:List Sh),fs[i]? =some f->parts[i]? =some p->G9 P f.type p):G9 P t parts.flatten
section
variable {H:Type} {enc:TypeId × Value->H} {P:Program} {w:World} {base:Nat} {spare:Nat->Bool} {held:Bool}
def aD3 (w:World) (shs:List Sh) (cs:List Value):Prop:=
 cs.length=shs.length∧∃ts:List T,ts.length=shs.length∧∀(j:Nat) (s:Sh),shs[j]? =some s->∃u t,cs[j]? =some u∧ts[j]? =some t∧RT w (fun _=>False) t u∧Fit s t
theorem ak3 {α:Type}:∀(parts:List (List α)) (j:Nat) (x:α),parts.flatten[j]? =some x->∃i p k,parts[i]? =some p∧p[k]? =some x∧j=(parts.take i).flatten.length+k
 |[],j,x,h=>by simp at h
 |p::r,j,x,h=>by
  rw [List.flatten_cons] at h
  by_cases hj:j<p.length
  ·rw [lbb hj] at h
   exact ⟨0,p,j,rfl,h,by simp⟩
  ·rw [lbc (by omega)] at h
   obtain ⟨i,q,k,h1,h2,h3⟩:=ak3 r _ x h
   exact ⟨i+1,q,k,by simpa using h1,h2,by rw [List.take_succ_cons,List.flatten_cons,lbq];omega⟩
theorem a1x {α:Type} {p:Nat->α->Prop}:∀(n:Nat),(∀ i,i<n->∃x,p i x)->∃xs:List α,xs.length=n∧∀i x,xs[i]? =some x->p i x
 |0,_=>⟨[],rfl,by simp⟩
 |n+1,h=>by
  obtain ⟨xs,h1,h2⟩:=a1x n fun i hi=>h i (by omega)
  obtain ⟨x,hx⟩:=h n (by omega)
  refine ⟨xs++[x],by simp [h1],fun i y hy=>?_⟩
  by_cases hi:i<xs.length
  ·rw [lbb hi] at hy;exact h2 i y hy
  ·rw [lbc (by omega)] at hy
   have:i=n:=by
    have:=(lbe.1 hy).1
    simp at this;omega
   subst this
   rw [h1] at hy
   simp at hy
   subst hy
   exact hx
theorem b1x {t:TypeId} {shs:List Sh} (h:G9 P t shs):∀(n:Nat) (cs:List Value) (x:DataW H × List MemPlace),DataW.trod enc P w base spare held n t cs=some x->aD3 w shs cs:=by
 induction h with
 |int h=>
  intro n cs x hx
  obtain ⟨a,rfl,_,hw⟩:=DataW.trod_int h hx
  exact ⟨rfl,[.atm (.int _ a)],rfl,fun j s hj=>by
   match j,hj with
   |0,hj=>simp at hj;subst hj;exact ⟨_,_,rfl,rfl,.atm rfl,.int hw⟩⟩
 |bool h=>
  intro n cs x hx
  obtain ⟨a,rfl,_⟩:=DataW.trod_bool h hx
  exact ⟨rfl,[.atm (.bool a)],rfl,fun j s hj=>by
   match j,hj with
   |0,hj=>simp at hj;subst hj;exact ⟨_,_,rfl,rfl,.atm rfl,.bool⟩⟩
 |@sl t e row h hc hp he ih=>
  intro n cs x hx
  have key:∀(rows:List (List T)) (u:Value),cs=[u]->RT w (fun _=>False) (.sl row.length .any rows) u->(∀ r ∈ rows,r.length=row.length)->(∀ r ∈ rows,∀(j:Nat) (s:Sh) (t:T),row[j]? =some s->r[j]? =some t->Fit s t)->aD3 w [.sl row] cs:=by
   rintro rows u rfl hu h1 h2
   exact ⟨rfl,[.sl row.length .any rows],rfl,fun j s hj=>by
    match j,hj with
    |0,hj=>simp at hj;subst hj;exact ⟨_,_,rfl,rfl,hu,.sl h1 h2⟩⟩
  rcases open_slice h hx with ⟨h0,_⟩|⟨a,len,cap,m,n,D,Pl,hcs,hb,hl,hm,hmm,hx,hi⟩
  ·exact key [] _ h0 (.sl (b:=0) (off:=0) (fun _ _=>undef) (by simp) (by simp) (by unfold maxLen;omega) (by intro h;cases h) (by intro h;cases h) (by simp) (by simp [at2]) (by simp [at2])) (by simp) (by simp)
  ·by_cases hz:len=0
   ·subst hz
    exact key [] _ hcs (.sl (b:=0) (off:=0) (fun _ _=>undef) (by simp) (by simp) hm (by intro h;cases h) (by intro h;cases h) (by simp) (by simp [at2]) (by simp [at2])) (by simp) (by simp)
   have hlm:len<=m:=by rw [hmm];split<;>omega
   have each:∀i,i<len->∃cs':List Value,(∀ j,j<row.length->w.cell? (a.add (i*row.length+j))=cs'[j]?)∧aD3 w row cs':=by
    intro i hil
    obtain ⟨cs',hc',ht'⟩:=hi i (by omega)
    rw [hc] at hc'
    obtain ⟨_,hcl,hat⟩:=World.cells?_some hc'
    exact ⟨cs',fun j hj=>by rw [← Go.Deep.add_add];exact hat j hj,ih n cs' _ ht'⟩
   obtain ⟨css,hcl,hcs2⟩:=a1x len each
   obtain ⟨rows,hrl,hrows⟩:=a1x (α:=List T) (p:=fun i ts=>ts.length=row.length∧∀(j:Nat) (s:Sh),row[j]? =some s->∃u t,(css.getD i [])[j]? =some u∧ts[j]? =some t∧RT w (fun _=>False) t u∧Fit s t) len (fun i hi=>by
    have hg:css[i]? =some (css[i]'(by omega)):=lbf (by omega)
    obtain ⟨_,_,ts,h1,h2⟩:=hcs2 i _ hg
    refine ⟨ts,h1,?_⟩
    rw [lbl,hg]
    exact h2)
   have hcell:∀i j,i<len->j<row.length->w.cell? (a.add (i*row.length+j))=some ((css.getD i []).getD j undef):=by
    intro i j hi hj
    have hg:css[i]? =some (css[i]'(by omega)):=lbf (by omega)
    obtain ⟨h1,h2,_⟩:=hcs2 i _ hg
    rw [h1 j hj]
    have hgd:css.getD i []=css[i]'(by omega):=by rw [lbl,hg];rfl
    rw [hgd,lbl,lbf (by omega)];rfl
   have hspot:a.spot=none:=by
    have:=World.cell?_spot (hcell 0 0 (by omega) hp)
    simpa [Addr.add] using this
   obtain ⟨b,off,sp⟩:=a
   simp only at hspot
   subst hspot
   have hadd:∀k,(⟨b,off,none⟩:Addr).add k=⟨b,off+k,none⟩:=by
    intro k
    unfold Addr.add
    split
    ·subst_vars;rfl
    ·rfl
   have hat:∀i j c,at2 rows i j=some c->i<len∧j<row.length∧∃r s,rows[i]? =some r∧r[j]? =some c∧row[j]? =some s:=by
    intro i j c hc
    obtain ⟨r,q1,q2⟩:=F4 hc
    have hil:i<len:=by rw [← hrl];exact (lbe.1 q1).1
    have hjl:j<row.length:=by rw [← (hrows i r q1).1];exact (lbe.1 q2).1
    exact ⟨hil,hjl,r,_,q1,q2,lbf hjl⟩
   refine key rows (.slice (some ⟨b,off,none⟩) len cap) hcs ?_ ?_ ?_
   ·rw [← hrl]
    refine .sl (b:=b) (off:=off) (fun i j=>(css.getD i []).getD j undef) ?_ (by omega) hm (by intro h;cases h) (by intro h;cases h) (fun _=>rfl) ?_ ?_
    ·intro r hr
     obtain ⟨i,hi⟩:=List.mem_iff_getElem?.1 hr
     exact (hrows i r hi).1
    ·intro i j c hc
     obtain ⟨hil,hjl,_⟩:=hat i j c hc
     have:=hcell i j hil hjl
     rw [hadd] at this
     exact ⟨this,fun h=>h⟩
    ·intro i j c hc
     obtain ⟨hil,hjl,r,s,q1,q2,q3⟩:=hat i j c hc
     obtain ⟨u,t,h1,h2,h3,h4⟩:=(hrows i r q1).2 j s q3
     rw [q2] at h2
     injection h2 with h2
     subst h2
     rw [lbl (l:=css.getD i []),h1]
     exact h3
   ·intro r hr
    obtain ⟨i,hi⟩:=List.mem_iff_getElem?.1 hr
    exact (hrows i r hi).1
   ·intro r hr j s t hs ht
    obtain ⟨i,hi⟩:=List.mem_iff_getElem?.1 hr
    obtain ⟨u,t',h1,h2,h3,h4⟩:=(hrows i r hi).2 j s hs
    rw [ht] at h2
    injection h2 with h2
    subst h2
    exact h4
 |@struct t fs parts h hl ho hc he ih=>
  intro n cs x hx
  obtain ⟨xs,n',hn',hy,hlen,hyl,hf⟩:=DataW.trod_struct h hx
  have hlen':cs.length=parts.flatten.length:=by rw [hlen,hc]
  have each:∀j,j<parts.flatten.length->∃t,∀s,parts.flatten[j]? =some s->∃u,cs[j]? =some u∧RT w (fun _=>False) t u∧Fit s t:=by
   intro j hj
   obtain ⟨i,p,k,q1,q2,q3⟩:=ak3 parts j _ (lbf hj)
   have hi:i<fs.size:=by rw [← hl];exact (lbe.1 q1).1
   have hfi:fs[i]? =some fs[i]:=Array.getElem?_eq_getElem hi
   obtain ⟨o1,o2⟩:=ho i _ p hfi q1
   have h1:=hf i _ hfi
   have hxi:xs[i]? =some (xs[i]'(by omega)):=lbf (by omega)
   obtain ⟨r1,ts,r2,r3⟩:=ih i _ p hfi q1 n' _ _ (h1.trans hxi)
   obtain ⟨u,t,e1,e2,e3,e4⟩:=r3 k _ q2
   refine ⟨t,fun s hs=>⟨u,?_,e3,?_⟩⟩
   ·have hk:k<p.length:=(lbe.1 q2).1
    rw [lbi,o2,if_pos hk,lbj,o1,←q3] at e1
    exact e1
   ·rw [lbf hj] at hs
    injection hs with hs
    rw [← hs];exact e4
  obtain ⟨ts,t1,t2⟩:=a1x parts.flatten.length each
  refine ⟨hlen',ts,t1,fun j s hj=>?_⟩
  have hjl:=(lbe.1 hj).1
  have htj:ts[j]? =some (ts[j]'(by omega)):=lbf (by omega)
  obtain ⟨u,h1,h2,h3⟩:=t2 j _ htj s hj
  exact ⟨u,_,h1,htj,h2,h3⟩
end
theorem Fit.int_inv {k:IntKind} {t:T} (h:Fit (.int k) t):∃n,t=.atm (.int k n)∧(Lit.int k n).wf=true:=by cases h with|int h=>exact ⟨_,rfl,h⟩
theorem Fit.bool_inv {t:T} (h:Fit .bool t):∃b,t=.atm (.bool b):=by cases h with|bool=>exact ⟨_,rfl⟩
theorem aK5 {α:Type} {f:α->List T} {p:α->Prop}:∀{rows:List (List T)},(∀ r ∈ rows,∃x,r=f x∧p x)->∃xs:List α,rows=xs.map f∧∀x ∈ xs,p x
 |[],_=>⟨[],rfl,by simp⟩
 |r::rs,h=>by
  obtain ⟨x,rfl,hx⟩:=h r (by simp)
  obtain ⟨xs,rfl,hxs⟩:=aK5 (rows:=rs) (f:=f) (p:=p) fun r hr=>h r (List.mem_cons_of_mem _ hr)
  exact ⟨x::xs,rfl,fun y hy=>by rcases lbA.1 hy with rfl|hy;exact hx;exact hxs y hy⟩
theorem Fit.sl_inv {α:Type} (f:α->List T) (p:α->Prop) {row:List Sh} {t:T} (h:Fit (.sl row) t)
 (hrow:∀r:List T,r.length=row.length->(∀ (j:Nat) (s:Sh) (t:T),row[j]? =some s->r[j]? =some t->Fit s t)->∃x,r=f x∧p x):
 ∃xs:List α,t=.sl row.length .any (xs.map f)∧∀x ∈ xs,p x:=by
 cases h with
 |sl hl h=>
  obtain ⟨xs,rfl,hx⟩:=aK5 (f:=f) (p:=p) (fun r hr=>hrow r (hl r hr) (h r hr))
  exact ⟨xs,rfl,hx⟩
end
section
open Go.RowKit Go.ChangeShapes Go.WideShapes Go.Deep
abbrev i5:Sh:=.int .i64
abbrev b6d:List Sh:=[i5,.sl [i5]]
abbrev az8:List Sh:=[i5,.sl [i5],i5,.sl [i5]]
theorem B9:G9 Tryz.prog 3 [i5]:=.int Tryz.underlying3
theorem b5e:G9 Tryz.prog 33 [.sl [i5]]:=.sl Tryz.underlying33 (by kernel_rfl) (by decide) B9
theorem a4A {P:Program} {t:TypeId} {fs:Array Field} {p0 p1:List Sh} (h:P.underlying t=some (.struct fs)) (hl:fs.size=2)
 (h0:∃f,fs[0]? =some f∧f.offset=0∧P.cellsOf f.type=p0.length∧G9 P f.type p0) (h1:∃f,fs[1]? =some f∧f.offset=p0.length∧P.cellsOf f.type=p1.length∧G9 P f.type p1)
 (hc:P.cellsOf t=p0.length+p1.length):G9 P t (p0++p1):=by
 obtain ⟨f0,a1,a2,a3,a4⟩:=h0
 obtain ⟨f1,b1,b2,b3,b4⟩:=h1
 have:=G9.struct (P:=P) (t:=t) (fs:=fs) [p0,p1] h (by simp [hl]) (fun i f p hf hp=>by
  match i,hp with
  |0,hp=>simp at hp;subst hp;rw [a1] at hf;injection hf with hf;subst hf;exact ⟨by simp [a2],a3⟩
  |1,hp=>simp at hp;subst hp;rw [b1] at hf;injection hf with hf;subst hf;exact ⟨by simp [b2],b3⟩
  |n+2,hp=>simp at hp) (by simp [hc]) (fun i f p hf hp=>by
  match i,hp with
  |0,hp=>simp at hp;subst hp;rw [a1] at hf;injection hf with hf;subst hf;exact a4
  |1,hp=>simp at hp;subst hp;rw [b1] at hf;injection hf with hf;subst hf;exact b4
  |n+2,hp=>simp at hp)
 simpa using this
theorem b1A:G9 Tryz.prog 84 b6d:=
 a4A (p0:=[i5]) (p1:=[.sl [i5]]) Tryz.underlying84 (by kernel_rfl) ⟨_,rfl,rfl,by kernel_rfl,B9⟩ ⟨_,rfl,rfl,by kernel_rfl,b5e⟩ (by kernel_rfl)
theorem b5m:G9 Tryz.prog 86 az8:=
 a4A (p0:=b6d) (p1:=b6d) Tryz.underlying86 (by kernel_rfl) ⟨_,rfl,rfl,by kernel_rfl,b1A⟩ ⟨_,rfl,rfl,by kernel_rfl,b1A⟩ (by kernel_rfl)
theorem b3f:G9 Tryz.prog 49 [.sl az8]:=.sl Tryz.underlying49 (by kernel_rfl) (by decide) b5m
theorem aW8:G9 Tryz.prog 264 [i5,i5]:=
 a4A (p0:=[i5]) (p1:=[i5]) Tryz.underlying264 (by kernel_rfl) ⟨_,rfl,rfl,by kernel_rfl,B9⟩ ⟨_,rfl,rfl,by kernel_rfl,B9⟩ (by kernel_rfl)
theorem aH7 {t:T} (h:Fit (.sl [i5]) t):∃l:List Int,t=E1 l:=by
 obtain ⟨xs,rfl,_⟩:=h.sl_inv g9 (fun _=>True) (fun r hl hr=>by
  match r,hl with
  |[u],_=>
   obtain ⟨n,rfl,_⟩:=(hr 0 _ _ rfl rfl).int_inv
   exact ⟨n,rfl,trivial⟩)
 exact ⟨xs,rfl⟩
theorem aH6 {r:List T} (hl:r.length=4) (hr:∀(j:Nat) (s:Sh) (t:T),az8[j]? =some s->r[j]? =some t->Fit s t):∃f:Fr,r=s9 f:=by
 match r,hl with
 |[a,b,c,d],_=>
  obtain ⟨n,rfl,_⟩:=(hr 0 _ _ rfl rfl).int_inv
  obtain ⟨l,rfl⟩:=aH7 (hr 1 _ _ rfl rfl)
  obtain ⟨m,rfl,_⟩:=(hr 2 _ _ rfl rfl).int_inv
  obtain ⟨k,rfl⟩:=aH7 (hr 3 _ _ rfl rfl)
  exact ⟨⟨⟨n,l⟩,⟨m,k⟩⟩,rfl⟩
theorem b2Y {t:T} (h:Fit (.sl az8) t):∃l:List Fr,t=R0 l:=by
 obtain ⟨xs,rfl,_⟩:=h.sl_inv s9 (fun _=>True) (fun r hl hr=>by
  obtain ⟨f,rfl⟩:=aH6 hl hr
  exact ⟨f,rfl,trivial⟩)
 exact ⟨xs,rfl⟩
section
variable {H:Type} {enc:TypeId × Value->H} {w:World} {base:Nat} {spare:Nat->Bool} {held:Bool}
theorem b4g {shs:List Sh} {l:List Value} (h:aD3 w shs l):∃ts:List T,ts.length=shs.length∧(∀ (j:Nat) (s:Sh) (t:T),shs[j]? =some s->ts[j]? =some t->Fit s t)∧RS w (fun _=>none) (fun _=>False) (.agg (ts.map C.t)) (.agg ⟨l⟩):=by
 obtain ⟨h0,ts,h1,h2⟩:=h
 refine ⟨ts,h1,fun j s t hs ht=>?_,?_⟩
 ·obtain ⟨u,t',e1,e2,e3,e4⟩:=h2 j s hs
  rw [ht] at e2;injection e2 with e2;subst e2;exact e4
 ·refine .agg l (by simp [h0,h1]) fun j c hc=>?_
  rw [lba] at hc
  obtain ⟨t,ht,rfl⟩:=Option.map_eq_some_iff.1 hc
  have hj:j<shs.length:=by rw [← h1];exact (lbe.1 ht).1
  obtain ⟨u,t',e1,e2,e3,e4⟩:=h2 j _ (lbf hj)
  rw [ht] at e2;injection e2 with e2;subst e2
  rw [lbl,e1]
  exact .t e3
end
end
section
open Go.RowKit Go.ChangeShapes Go.WideShapes Go.Deep
def aM2 (P:Program):List Field->List (List Sh)->Nat->Prop
 |[],[],_=>True
 |f::fs,p::ps,o=>(f.offset=o∧P.cellsOf f.type=p.length∧G9 P f.type p)∧aM2 P fs ps (o+p.length)
 |_,_,_=>False
theorem aM2.get {P:Program}:∀{fs:List Field} {ps:List (List Sh)} {o:Nat},aM2 P fs ps o->ps.length=fs.length∧∀(i:Nat) (f:Field) (p:List Sh),fs[i]? =some f->ps[i]? =some p->f.offset=o+(ps.take i).flatten.length∧P.cellsOf f.type=p.length∧G9 P f.type p
 |[],[],o,_=>⟨rfl,by simp⟩
 |f::fs,p::ps,o,h=>by
  obtain ⟨⟨h1,h2,h3⟩,h4⟩:=h
  obtain ⟨l,g⟩:=aM2.get h4
  refine ⟨by simp [l],fun i f' p' hf hp=>?_⟩
  cases i with
  |zero=>simp at hf hp;subst hf hp;exact ⟨by simp [h1],h2,h3⟩
  |succ i=>
   obtain ⟨g1,g2,g3⟩:=g i f' p' (by simpa using hf) (by simpa using hp)
   exact ⟨by rw [g1];simp;omega,g2,g3⟩
 |[],_::_,_,h=>h.elim
 |_::_,[],_,h=>h.elim
theorem S6 {P:Program} {t:TypeId} {fs:Array Field} (parts:List (List Sh)) (h:P.underlying t=some (.struct fs)) (hf:aM2 P fs.toList parts 0) (hc:P.cellsOf t=parts.flatten.length):G9 P t parts.flatten:=by
 obtain ⟨l,g⟩:=hf.get
 refine G9.struct parts h (by simpa using l) (fun i f p hi hp=>?_) hc (fun i f p hi hp=>?_)
 ·obtain ⟨g1,g2,g3⟩:=g i f p (by simpa using hi) hp
  exact ⟨by rw [g1];simp,g2⟩
 ·exact (g i f p (by simpa using hi) hp).2.2
theorem b62:G9 Tryz.prog 4 [.bool]:=.bool Tryz.underlying4
theorem b2J:G9 Tryz.prog 160 [i5,i5,i5]:=
 S6 [[i5],[i5],[i5]] Tryz.underlying160 ⟨⟨by kernel_rfl,by kernel_rfl,B9⟩,⟨by kernel_rfl,by kernel_rfl,B9⟩,⟨by kernel_rfl,by kernel_rfl,B9⟩,trivial⟩ (by kernel_rfl)
theorem b4h:G9 Tryz.prog 149 [i5,i5,i5,i5,i5,.bool]:=
 S6 [[i5],[i5],[i5],[i5],[i5],[.bool]] Tryz.underlying149 ⟨⟨by kernel_rfl,by kernel_rfl,B9⟩,⟨by kernel_rfl,by kernel_rfl,B9⟩,⟨by kernel_rfl,by kernel_rfl,B9⟩,⟨by kernel_rfl,by kernel_rfl,B9⟩,⟨by kernel_rfl,by kernel_rfl,B9⟩,⟨by kernel_rfl,by kernel_rfl,b62⟩,trivial⟩ (by kernel_rfl)
theorem b6g:G9 Tryz.prog 255 [i5,i5,i5,i5,i5,i5]:=
 S6 [[i5],[i5],[i5],[i5],[i5],[i5]] Tryz.underlying255 ⟨⟨by kernel_rfl,by kernel_rfl,B9⟩,⟨by kernel_rfl,by kernel_rfl,B9⟩,⟨by kernel_rfl,by kernel_rfl,B9⟩,⟨by kernel_rfl,by kernel_rfl,B9⟩,⟨by kernel_rfl,by kernel_rfl,B9⟩,⟨by kernel_rfl,by kernel_rfl,B9⟩,trivial⟩ (by kernel_rfl)
theorem aU6:G9 Tryz.prog 266 [i5,i5,i5,i5]:=
 S6 [[i5],[i5],[i5],[i5]] Tryz.underlying266 ⟨⟨by kernel_rfl,by kernel_rfl,B9⟩,⟨by kernel_rfl,by kernel_rfl,B9⟩,⟨by kernel_rfl,by kernel_rfl,B9⟩,⟨by kernel_rfl,by kernel_rfl,B9⟩,trivial⟩ (by kernel_rfl)
theorem b52:G9 Tryz.prog 43 [i5,i5,i5]:=
 S6 [[i5],[i5],[i5]] Tryz.underlying43 ⟨⟨by kernel_rfl,by kernel_rfl,B9⟩,⟨by kernel_rfl,by kernel_rfl,B9⟩,⟨by kernel_rfl,by kernel_rfl,B9⟩,trivial⟩ (by kernel_rfl)
theorem b2U:G9 Tryz.prog 45 [i5,i5]:=
 S6 [[i5],[i5]] Tryz.underlying45 ⟨⟨by kernel_rfl,by kernel_rfl,B9⟩,⟨by kernel_rfl,by kernel_rfl,B9⟩,trivial⟩ (by kernel_rfl)
theorem b0e:G9 Tryz.prog 22 [.sl [i5,i5,i5]]:=.sl Tryz.underlying22 (by kernel_rfl) (by decide) b2J
theorem b3D:G9 Tryz.prog 23 [.sl [i5,i5,i5,i5,i5,.bool]]:=.sl Tryz.underlying23 (by kernel_rfl) (by decide) b4h
theorem b3s:G9 Tryz.prog 24 [.sl [i5,i5,i5,i5,i5,i5]]:=.sl Tryz.underlying24 (by kernel_rfl) (by decide) b6g
theorem aH8:G9 Tryz.prog 25 [.sl [i5,i5]]:=.sl Tryz.underlying25 (by kernel_rfl) (by decide) aW8
theorem ax9:G9 Tryz.prog 26 [.sl [i5,i5,i5,i5]]:=.sl Tryz.underlying26 (by kernel_rfl) (by decide) aU6
theorem b3U:G9 Tryz.prog 29 [.sl [i5,i5,i5]]:=.sl Tryz.underlying29 (by kernel_rfl) (by decide) b52
theorem aV2:G9 Tryz.prog 30 [.sl [i5,i5]]:=.sl Tryz.underlying30 (by kernel_rfl) (by decide) b2U
abbrev be4:List Sh:=[i5,i5,i5,.sl [i5,i5,i5],.sl [i5,i5,i5,i5,i5,.bool],.sl [i5,i5,i5,i5,i5,i5],.sl [i5,i5],.sl [i5,i5,i5,i5]]
theorem bc5:G9 Tryz.prog 28 be4:=
 S6 [[i5],[i5],[i5],[.sl [i5,i5,i5]],[.sl [i5,i5,i5,i5,i5,.bool]],[.sl [i5,i5,i5,i5,i5,i5]],[.sl [i5,i5]],[.sl [i5,i5,i5,i5]]] Tryz.underlying28
  ⟨⟨by kernel_rfl,by kernel_rfl,B9⟩,⟨by kernel_rfl,by kernel_rfl,B9⟩,⟨by kernel_rfl,by kernel_rfl,B9⟩,⟨by kernel_rfl,by kernel_rfl,b0e⟩,⟨by kernel_rfl,by kernel_rfl,b3D⟩,⟨by kernel_rfl,by kernel_rfl,b3s⟩,⟨by kernel_rfl,by kernel_rfl,aH8⟩,⟨by kernel_rfl,by kernel_rfl,ax9⟩,trivial⟩ (by kernel_rfl)
abbrev bl4:List Sh:=be4++[.sl [i5,i5,i5],.sl [i5,i5]]
theorem b9w:G9 Tryz.prog 32 bl4:=
 S6 [be4,[.sl [i5,i5,i5]],[.sl [i5,i5]]] Tryz.underlying32
  ⟨⟨by kernel_rfl,by kernel_rfl,bc5⟩,⟨by kernel_rfl,by kernel_rfl,b3U⟩,⟨by kernel_rfl,by kernel_rfl,aV2⟩,trivial⟩ (by kernel_rfl)
theorem G4 {t:T} (h:Fit i5 t):∃n,t=ti n:=by obtain ⟨n,h,_⟩:=h.int_inv;exact ⟨n,h⟩
section
variable {α:Type} {t:T}
theorem aU8 (h:Fit (.sl [i5,i5,i5]) t):∃l:List a0b,t=a5N l:=by
 obtain ⟨xs,rfl,_⟩:=h.sl_inv a0b.row (fun _=>True) (fun r hl hr=>by
  match r,hl with
  |[a,b,c],_=>
   obtain ⟨a,rfl⟩:=G4 (hr 0 _ _ rfl rfl)
   obtain ⟨b,rfl⟩:=G4 (hr 1 _ _ rfl rfl)
   obtain ⟨c,rfl⟩:=G4 (hr 2 _ _ rfl rfl)
   exact ⟨⟨a,b,c⟩,rfl,trivial⟩)
 exact ⟨xs,rfl⟩
theorem b3A (h:Fit (.sl [i5,i5,i5]) t):∃l:List J9,t=a8l l:=by
 obtain ⟨xs,rfl,_⟩:=h.sl_inv J9.row (fun _=>True) (fun r hl hr=>by
  match r,hl with
  |[a,b,c],_=>
   obtain ⟨a,rfl⟩:=G4 (hr 0 _ _ rfl rfl)
   obtain ⟨b,rfl⟩:=G4 (hr 1 _ _ rfl rfl)
   obtain ⟨c,rfl⟩:=G4 (hr 2 _ _ rfl rfl)
   exact ⟨⟨a,b,c⟩,rfl,trivial⟩)
 exact ⟨xs,rfl⟩
theorem aU0 (h:Fit (.sl [i5,i5]) t):∃l:List D6,t=a5E l:=by
 obtain ⟨xs,rfl,_⟩:=h.sl_inv D6.row (fun _=>True) (fun r hl hr=>by
  match r,hl with
  |[a,b],_=>
   obtain ⟨a,rfl⟩:=G4 (hr 0 _ _ rfl rfl)
   obtain ⟨b,rfl⟩:=G4 (hr 1 _ _ rfl rfl)
   exact ⟨⟨a,b⟩,rfl,trivial⟩)
 exact ⟨xs,rfl⟩
theorem aO2 (h:Fit (.sl [i5,i5]) t):∃l:List I8,t=T8 l:=by
 obtain ⟨xs,rfl,_⟩:=h.sl_inv I8.row (fun _=>True) (fun r hl hr=>by
  match r,hl with
  |[a,b],_=>
   obtain ⟨a,rfl⟩:=G4 (hr 0 _ _ rfl rfl)
   obtain ⟨b,rfl⟩:=G4 (hr 1 _ _ rfl rfl)
   exact ⟨⟨a,b⟩,rfl,trivial⟩)
 exact ⟨xs,rfl⟩
theorem aE5 (h:Fit (.sl [i5,i5,i5,i5]) t):∃l:List a2U,t=a1H l:=by
 obtain ⟨xs,rfl,_⟩:=h.sl_inv a2U.row (fun _=>True) (fun r hl hr=>by
  match r,hl with
  |[a,b,c,d],_=>
   obtain ⟨a,rfl⟩:=G4 (hr 0 _ _ rfl rfl)
   obtain ⟨b,rfl⟩:=G4 (hr 1 _ _ rfl rfl)
   obtain ⟨c,rfl⟩:=G4 (hr 2 _ _ rfl rfl)
   obtain ⟨d,rfl⟩:=G4 (hr 3 _ _ rfl rfl)
   exact ⟨⟨a,b,c,d⟩,rfl,trivial⟩)
 exact ⟨xs,rfl⟩
theorem b3r (h:Fit (.sl [i5,i5,i5,i5,i5,i5]) t):∃l:List P5,t=a2I l:=by
 obtain ⟨xs,rfl,_⟩:=h.sl_inv P5.row (fun _=>True) (fun r hl hr=>by
  match r,hl with
  |[a,b,c,d,e,f],_=>
   obtain ⟨a,rfl⟩:=G4 (hr 0 _ _ rfl rfl)
   obtain ⟨b,rfl⟩:=G4 (hr 1 _ _ rfl rfl)
   obtain ⟨c,rfl⟩:=G4 (hr 2 _ _ rfl rfl)
   obtain ⟨d,rfl⟩:=G4 (hr 3 _ _ rfl rfl)
   obtain ⟨e,rfl⟩:=G4 (hr 4 _ _ rfl rfl)
   obtain ⟨f,rfl⟩:=G4 (hr 5 _ _ rfl rfl)
   exact ⟨⟨a,b,c,d,e,f⟩,rfl,trivial⟩)
 exact ⟨xs,rfl⟩
theorem b3o (h:Fit (.sl [i5,i5,i5,i5,i5,.bool]) t):∃l:List t4,t=a2P l:=by
 obtain ⟨xs,rfl,_⟩:=h.sl_inv t4.row (fun _=>True) (fun r hl hr=>by
  match r,hl with
  |[a,b,c,d,e,f],_=>
   obtain ⟨a,rfl⟩:=G4 (hr 0 _ _ rfl rfl)
   obtain ⟨b,rfl⟩:=G4 (hr 1 _ _ rfl rfl)
   obtain ⟨c,rfl⟩:=G4 (hr 2 _ _ rfl rfl)
   obtain ⟨d,rfl⟩:=G4 (hr 3 _ _ rfl rfl)
   obtain ⟨e,rfl⟩:=G4 (hr 4 _ _ rfl rfl)
   obtain ⟨f,rfl⟩:=(hr 5 _ _ rfl rfl).bool_inv
   exact ⟨⟨a,b,c,d,e,f⟩,rfl,trivial⟩)
 exact ⟨xs,rfl⟩
end
section
variable {H:Type} {enc:TypeId × Value->H} {w:World} {base:Nat} {spare:Nat->Bool} {held:Bool}
theorem open_fracs {v:Value} {d:DataW H} {p:List MemPlace} {r:Reach} {b0:Nat} (hv:Value.okWide Tryz.prog w r b0 49 v) (h:DataW.Trod enc Tryz.prog w base spare held 49 v d p):∃l,RS w (fun _=>none) (fun _=>False) (G3 l) v:=by
 obtain ⟨a,len,cap,rfl⟩:=okWide_slice Tryz.underlying49 hv
 obtain ⟨fuel,hf⟩:=h
 obtain ⟨_,ts,h1,h2⟩:=b1x b3f fuel _ _ hf
 obtain ⟨u,t,e1,e2,e3,e4⟩:=h2 0 _ rfl
 obtain ⟨hh,rfl⟩:=b2Y e4
 injection e1 with e1
 subst e1
 exact ⟨hh,.c (.t e3)⟩
theorem open_trace {v:Value} {d:DataW H} {p:List MemPlace} {r:Reach} {b0:Nat} (hv:Value.okWide Tryz.prog w r b0 32 v) (h:DataW.Trod enc Tryz.prog w base spare held 32 v d p):∃t:g7,RS w (fun _=>none) (fun _=>False) (trS t) v:=by
 obtain ⟨⟨l⟩,rfl,_⟩:=okWide_struct Tryz.underlying32 hv
 obtain ⟨fuel,hf⟩:=h
 obtain ⟨ts,h1,h2,h3⟩:=b4g (b1x b9w fuel _ _ hf)
 match ts,h1 with
 |[a,b,c,d,e,f,g,h,i,j],_=>
  obtain ⟨a,rfl⟩:=G4 (h2 0 _ _ rfl rfl)
  obtain ⟨b,rfl⟩:=G4 (h2 1 _ _ rfl rfl)
  obtain ⟨c,rfl⟩:=G4 (h2 2 _ _ rfl rfl)
  obtain ⟨d,rfl⟩:=aU8 (h2 3 _ _ rfl rfl)
  obtain ⟨e,rfl⟩:=b3o (h2 4 _ _ rfl rfl)
  obtain ⟨f,rfl⟩:=b3r (h2 5 _ _ rfl rfl)
  obtain ⟨g,rfl⟩:=aO2 (h2 6 _ _ rfl rfl)
  obtain ⟨h,rfl⟩:=aE5 (h2 7 _ _ rfl rfl)
  obtain ⟨i,rfl⟩:=b3A (h2 8 _ _ rfl rfl)
  obtain ⟨j,rfl⟩:=aU0 (h2 9 _ _ rfl rfl)
  exact ⟨⟨⟨a,b,c,d,e,f,g,h⟩,i,j⟩,h3⟩
end
end
open Go.RowKit Go.ChangeShapes Go.WideShapes Go.ChangeAt
set_option maxRecDepth 100000 in
theorem a8h (os:Os) (started:os.Started) (H:Type) (enc:TypeId × Value->H):
 ReturnsInHanded {} Tryz.checked os 8 .any (Rows.probeBestSpec.pre6 enc Tryz.prog Tryz.f8 Rows.probeBestRow.domain false) (Rows.probeBestSpec.post enc Tryz.prog Tryz.f8 false true false false):=by
 refine returnsInHanded_of_change (C:=Tryz.checked) aD7 started (by kernel_rfl) Tryz.func8
  (ChangeSpec.witness6 (enc:=enc) (C:=Tryz.checked) false ⟨#[],#[.agg #[.int .i64 0,.int .i64 0,.int .i64 0,.slice none 0 0,.slice none 0 0,.slice none 0 0,.slice none 0 0,.slice none 0 0,.slice none 0 0,.slice none 0 0],.int .i64 0,.slice none 0 0],[]⟩ 12 (by kernel_rfl) (by kernel_rfl) (by kernel_rfl) (by kernel_rfl)) ?_
 intro W base args ds gs before hval0 hW hcnd _
 have hval:∀(j:Nat) t v,Tryz.f8.params[j]? =some t->args[j]? =some v->Value.okWide Tryz.prog W .any base t v:=hval0
 have hW':=hW
 obtain ⟨p,q,hA0,hV,rfl,hfz,hnd⟩:=hW
 have hA:DataW.TrodAll enc Tryz.prog W 0 (fun _=>true) true Tryz.f8.params.toList args.toList ds p:=hA0
 rw [Tryz.params8] at hA hval
 obtain ⟨v0,vs0,d0,ds0,p0,q0,hargs,rfl,rfl,h0,r0⟩:=trodAll_cons hA
 obtain ⟨v1,vs1,d1,ds1,p1,q1,rfl,rfl,rfl,h1,r1⟩:=trodAll_cons r0
 obtain ⟨v2,vs2,d2,ds2,p2,q2,rfl,rfl,rfl,h2,r2⟩:=trodAll_cons r1
 obtain ⟨rfl,rfl,rfl⟩:=trodAll_nil r2
 obtain rfl:args=#[v0,v1,v2]:=by cases args;simp_all
 obtain ⟨rfl,rfl⟩:=trodVars_none hV
 obtain ⟨a0,t0⟩:=Go.Proofs.YtikokmdpigploaaGreat.open_trace (hval 0 32 v0 rfl rfl) h0
 obtain ⟨a1,rfl,rfl,rfl,w1⟩:=open_int Tryz.underlying3 (hval 1 3 v1 rfl rfl) h1
 obtain ⟨A2,n2,c2,a2,rfl,s2,k2,l2⟩:=Go.Proofs.YtikokmdpigploaaGreat.open_ints (hval 2 33 v2 rfl rfl) h2
 refine (a3L (aL9 a0 a1 a2) (.cons (t0) (.cons (aa8) (.cons (b8U s2 k2 l2) (.nil))))).mono fun ee W' ⟨he,hg⟩=>?_
 subst he
 exact ⟨_,rfl,ai2 hW' aa7 (by rw [Tryz.params8];intro t ht;simp at ht;first|(rcases ht with rfl|rfl|rfl<;>exact ⟨by kernel_rfl,lbL (by kernel_rfl)⟩)|(rcases ht with rfl|rfl|rfl<;>exact ⟨by kernel_rfl,lbL (by kernel_rfl)⟩)) rfl rfl (by kernel_rfl) Tryz.underlying4 hg⟩
theorem a9j:(Rows.probeBestRow.inPlace == Tryz.pinned.checked.prog.inPlace 8)=true:=by kernel_rfl
theorem an9:(Rows.probeBestRow.unfollowed == Tryz.pinned.checked.prog.unfollowed 8)=true:=by kernel_rfl
theorem am9:(Rows.probeBestRow.recurses == Tryz.pinned.checked.prog.recurses 8)=true:=by kernel_rfl
theorem a9u:(Rows.probeBestRow.named == Tryz.pinned.checked.prog.varsNamed 8)=true:=by kernel_rfl
theorem a9k:(Rows.probeBestRow.loops == (Tryz.f8.params.toList++Rows.probeBestSpec.plain.varTypes Tryz.pinned.checked.prog).any (Tryz.pinned.checked.prog.loopsFrom ·))=true:=by kernel_rfl
set_option maxRecDepth 100000 in
theorem a80:joinedFacts Tryz.pinned.checked.prog 8 Tryz.f8 (Rows.probeBestSpec) Rows.probeBestRow=true:=a8J (by kernel_rfl) aF1 ax6 (by kernel_rfl) (by kernel_rfl) (by kernel_rfl) (by kernel_rfl) (by kernel_rfl) (by kernel_rfl) a9j an9 am9 a9u (by kernel_rfl) (by kernel_rfl) (by kernel_rfl) a9k (by kernel_rfl) (by kernel_rfl) (by kernel_rfl) (by kernel_rfl) (by kernel_rfl) aF2 (by kernel_rfl) ae9 ag7 aC0 aA1 (by kernel_rfl) (by kernel_rfl) (by kernel_rfl) (by kernel_rfl) (by kernel_rfl)
theorem probeBest_holds:Rows.ProbeBestSaid:=
 OpenClaim.holds_of_wide 8 Tryz.f8 rfl rfl rfl rfl rfl rfl rfl ⟨rfl,rfl,rfl,rfl,rfl⟩ rfl rfl rfl rfl rfl (by kernel_rfl) Tryz.func8 a80
  (lbL (by kernel_rfl)) (by unfold Func.isWrapper;first|(rw [if_pos (by decide +kernel)];kernel_rfl)|(rw [if_neg (by decide +kernel)];exact ⟨rfl,rfl⟩))
  (fun os started H enc _=>a8h os started H enc)
theorem aU2 {t:g7} {kind:Int} {z:List Fr} (hs:t.Sized) (hm8:t.ev.moves.length<=8) (hm:O9 t kind z=0):a1k t kind=0∧∃Z:List Rat,z=Z.map fz∧i6 (n8 t kind) Z=true:=by
 have hm0:=hm
 rw [a5c] at hm0
 obtain ⟨Z,rfl,hZ⟩:=hm0
 have hk:n9 t=0∧0<=kind∧kind<8:=by
  unfold O9 at hm
  by_cases h1:n9 t≠0∨kind<0∨8<=kind
  ·rw [if_pos h1] at hm;cases hm
  ·omega
 obtain ⟨k1,k2,k3⟩:=hk
 exact ⟨N8.2 ⟨k1,k2,k3⟩,Z,rfl,(sys_holds k1 k2 k3 (by omega)).2 hZ⟩
theorem aQ8 {e:Ev} {mv kind:Int} (h0:0<=mv) (h1:mv<e.moves.length) (k0:0<=kind) (k1:kind<8):a0l e mv kind=0:=by
 unfold a0l
 rw [if_neg (by omega),if_neg (by omega)]
theorem a8X {e:Ev} {f:J9} (hf:a0l e f.mv f.kind=0) (hg:¬(f.grams<1∨1099511627776<f.grams)):∀{l:List J9},J6 e l=0->J6 e (l++[f])=0
 |[],_=>by
  show J6 e [f]=0
  rw [J6,if_neg (fun h=>h hf),if_neg hg];rfl
 |a::r,h=>by
  rw [J6] at h
  rw [List.cons_append,J6]
  by_cases h1:a0l e a.mv a.kind≠0
  ·rw [if_pos h1] at h;exact absurd h h1
  rw [if_neg h1] at h ⊢
  by_cases h2:a.grams<1∨1099511627776<a.grams
  ·rw [if_pos h2] at h;cases h
  rw [if_neg h2] at h ⊢
  exact a8X hf hg h
theorem a6Q {e:Ev} {f:D6} (hf:a0l e f.mv f.kind=0):∀{l:List D6},N0 e l=0->N0 e (l++[f])=0
 |[],_=>by
  show N0 e [f]=0
  rw [N0,if_neg (fun h=>h hf)];rfl
 |a::r,h=>by
  rw [N0] at h
  rw [List.cons_append,N0]
  by_cases h1:a0l e a.mv a.kind≠0
  ·rw [if_pos h1] at h;exact absurd h h1
  rw [if_neg h1] at h ⊢
  exact a6Q hf h
theorem aO8 {t:g7} {mv kind:Int} (h:n9 t=0) (hf:t.finds.length<=19) (h0:0<=mv) (h1:mv<t.ev.moves.length) (k0:0<=kind) (k1:kind<8):n9 (A7 t ⟨mv,kind,1⟩)=0:=by
 obtain ⟨q1,q2,q3,q4,q5⟩:=z6 h
 exact a7V q1 (by show (t.finds++[_]).length<=20;simp;omega) q3 (a8X (aQ8 h0 h1 k0 k1) (by show ¬((1:Int)<1∨1099511627776<(1:Int));omega) q4) q5
theorem aL3 {t:g7} {mv kind:Int} (h:n9 t=0) (hf:t.cleans.length<=49) (h0:0<=mv) (h1:mv<t.ev.moves.length) (k0:0<=kind) (k1:kind<8):n9 (A9 t ⟨mv,kind⟩)=0:=by
 obtain ⟨q1,q2,q3,q4,q5⟩:=z6 h
 exact a7V q1 q2 (by show (t.cleans++[_]).length<=50;simp;omega) q4 (a6Q (aQ8 h0 h1 k0 k1) q5)
theorem ax8 {t u:g7} {kind:Int} {n:Nat} (h:ExP t kind n) (hu:u.Sized) (he:u.ev=t.ev) (ht:n9 u=0) {Z:List Rat} (hZ:a4j u kind Z):ExP u kind n:=by
 have hm:u.ev.moves.length<=8:=by rw [he];exact h.m
 exact ⟨hu,ht,h.k0,h.k1,hm,by rw [he];exact h.h,b1j ht hm ((sys_holds ht h.k0 h.k1 (by omega)).2 hZ)⟩
structure bj3 (t u:g7) (kind mv:Int) (Z:List Rat):Prop where
 e:O0 u kind=0
 l0:1<=(D7 u kind true).length
 l1:(D7 u kind true).length<=A0 t kind mv
 m:O9 u kind (Z.map fz)=0
theorem a9D {t:g7} {kind:Int} {n:Nat} (h:ExP t kind n):1<=(S8 t kind n true).length:=by
 obtain ⟨_,_,w2,_⟩:=bf6 h
 exact List.length_pos_iff.2 w2
theorem bl2 {t:g7} {kind mv:Int} {n:Nat} {Z:List Rat} (h:ExP t kind n) (hf:t.finds.length<=19) (h0:0<=mv) (h1:mv<t.ev.moves.length) (hZ:i6 (n8 t kind) Z=true) (hz:1<=Z.getD mv.toNat 0):bj3 t (A7 t ⟨mv,kind,1⟩) kind mv Z:=by
 have ht:=aO8 h.e hf h0 h1 h.k0 h.k1
 obtain ⟨m,rfl⟩:∃m:Nat,mv=m:=⟨mv.toNat,by omega⟩
 have hp:=(ah6 (kind:=kind) (mv:=m) (z:=Z) ht h.e (by omega)).2 ⟨h.poss hZ,by simpa using hz⟩
 have hu:=ax8 h (u:=A7 t ⟨m,kind,1⟩) ⟨h.s.ev,by show (t.finds++[_]).length<=_;simp;omega,h.s.c⟩ rfl ht hp
 have hl:=a9D hu
 have hN:=a04 hu
 refine ⟨a1m hu,by rw [T9 hu];exact hl,?_,a5c.2 ⟨Z,rfl,hp⟩⟩
 rw [T9 hu,←hN]
 have hk:S5 t kind m 2=max (U2 (A7 t ⟨m,kind,1⟩) kind) (U2 (A9 t ⟨m,kind⟩) kind):=rfl
 unfold A0
 rw [if_neg (by omega)]
 omega
theorem bl6 {t:g7} {kind mv:Int} {n:Nat} {Z:List Rat} (h:ExP t kind n) (hf:t.cleans.length<=49) (h0:0<=mv) (h1:mv<t.ev.moves.length) (hZ:i6 (n8 t kind) Z=true) (hz:Z.getD mv.toNat 0=0):bj3 t (A9 t ⟨mv,kind⟩) kind mv Z:=by
 have ht:=aL3 h.e hf h0 h1 h.k0 h.k1
 obtain ⟨m,rfl⟩:∃m:Nat,mv=m:=⟨mv.toNat,by omega⟩
 have hp:=(ad2 (kind:=kind) (mv:=m) (z:=Z) ht h.e (by omega)).2 ⟨h.poss hZ,by simpa using hz⟩
 have hu:=ax8 h (u:=A9 t ⟨m,kind⟩) ⟨h.s.ev,h.s.f,by show (t.cleans++[_]).length<=_;simp;omega⟩ rfl ht hp
 have hl:=a9D hu
 have hN:=a04 hu
 refine ⟨a1m hu,by rw [T9 hu];exact hl,?_,a5c.2 ⟨Z,rfl,hp⟩⟩
 rw [T9 hu,←hN]
 have hk:S5 t kind m 2=max (U2 (A7 t ⟨m,kind,1⟩) kind) (U2 (A9 t ⟨m,kind⟩) kind):=rfl
 unfold A0
 rw [if_neg (by omega)]
 omega
theorem b3Z {t:g7} {kind mv:Int} {n:Nat} (h:ExP t kind n) (h0:0<=mv) (h1:mv<t.ev.moves.length):E0 t kind mv=0∧1<=A0 t kind mv:=by
 constructor
 ·unfold E0
  rw [if_neg,a1m h]
  rintro (q|q|q)
  ·exact q (N8.2 ⟨h.e,h.k0,h.k1⟩)
  ·omega
  ·omega
 ·have hl:=a9D h
  unfold A0
  split
  ·rw [T9 h];exact hl
  ·omega
theorem b9M {x y:Rat} (h:y<=x):0<=Z9 x y:=by unfold Z9;split<;>(try split)<;>grind
theorem b9C {x y:Rat} (h:¬y<=x):Z9 x y<0:=by unfold Z9;split<;>(try split)<;>grind
theorem an5 (t:g7) (kind mv:Int) (z:List Fr):b9 Tryz.prog 11 [trS t,b7 .i64 kind,b7 .i64 mv,G3 z] [] (j0 true) []:=by
 have sa:=ad3
 have sm:=ai1 t 5
 have fp:=b06 z 6 4 (by decide)
 have m1:(z.map s9).length=z.length:=by simp
 cases hsm:a3U t 5 with
 |false=>
  rw [hsm] at sm
  (refine ac Tryz.func11 ?_;(conv=>whnf);repeat ((first|refine b0x ?_|refine zy ?_);conv=>whnf))
  repeat' (first|refine zx ?_|refine qp sa ?_|refine qp sm ?_|refine zd ?_ ?_<;>intro h<;>try omega|fail)<;>conv=>whnf
  all_goals first
   |omega
   |(exfalso;contradiction)
   |exact i4 rfl
 |true=>
 rw [hsm] at sm
 cases hfp:aj5 z 6 4 with
 |false=>
  rw [hfp] at fp
  (refine ac Tryz.func11 ?_;(conv=>whnf);repeat ((first|refine b0x ?_|refine zy ?_);conv=>whnf))
  repeat' (first|refine zx ?_|refine qp sa ?_|refine qp sm ?_|refine qp fp ?_|refine zd ?_ ?_<;>intro h<;>try omega|fail)<;>conv=>whnf
  all_goals first
   |omega
   |(exfalso;contradiction)
   |exact i4 rfl
 |true=>
 rw [hfp] at fp
 obtain ⟨s1,s2,s3,s4,s5⟩:=a2H (by decide) hsm
 obtain ⟨f1,f2⟩:=aJ1 hfp
 have ma:=aj0 t kind z s1 (by omega) (fun f hf=>by have:=f2 f hf;omega)
 by_cases hg:O9 t kind z≠0∨mv<0∨(z.length:Int)<=mv
 ·generalize O9 t kind z=me at ma hg
  (refine ac Tryz.func11 ?_;(conv=>whnf);repeat ((first|refine b0x ?_|refine zy ?_);conv=>whnf))
  repeat' (first|refine zx ?_|refine qp sa ?_|refine qp sm ?_|refine qp fp ?_|refine qp ma ?_|refine zd ?_ ?_<;>intro h<;>try omega|fail)<;>conv=>whnf
  all_goals first
   |omega
   |(exfalso;contradiction)
   |exact i4 rfl
 have hmz:O9 t kind z=0:=by omega
 have h0:0<=mv:=by omega
 have h1z:mv<z.length:=by omega
 obtain ⟨hsy,Z,rfl,hZ⟩:=aU2 s1 s2 hmz
 rw [hmz] at ma
 have hl:Z.length=t.ev.moves.length:=by have:=(Z4 hZ).2;have:(n8 t kind).n=t.ev.moves.length:=rfl;omega
 have h1:mv<t.ev.moves.length:=by have:(Z.map fz).length=Z.length:=lbr ..;omega
 rcases aQ5 (kind:=kind) s1 s2 (by omega) (by omega) with h|⟨h,r,hr⟩|⟨n,hE,hx⟩
 ·exact absurd hsy h
 ·exfalso;rw [a5s hr Z] at hZ;cases hZ
 obtain ⟨se,sn⟩:=b3Z hE h0 h1
 have sc:=a1u t kind mv s1 s2 s3 (by omega) (by omega)
 have sl:=a0B (kind:=kind) (mv:=mv) s3
 rw [se,if_pos rfl] at sc
 have hv:Z[mv.toNat]? =some (Z.getD mv.toNat 0):=getD_some (by omega)
 have hf:(Z.map fz)[mv.toNat]? =some (fz (Z.getD mv.toNat 0)):=by rw [lba,hv];rfl
 have hr0:rl (Z.getD mv.toNat 0)<=60000:=by
  have:=f2 (fz (Z.getD mv.toNat 0)) (lbx.2 ⟨_,lbm hv,rfl⟩)
  exact Nat.max_le.2 ⟨lbR (show (fz (Z.getD mv.toNat 0)).p.dl.length<=4 by omega) (by decide),lbR (show (fz (Z.getD mv.toNat 0)).q.dl.length<=4 by omega) (by decide)⟩
 have hi:=I3 1 (by decide) (by decide)
 have hcm:=a0N (Z.getD mv.toNat 0) ((1:Int):Rat) hr0 (by decide +kernel)
 have hsg:=X8 (Z.getD mv.toNat 0) hr0
 by_cases hone:((1:Int):Rat)<=Z.getD mv.toNat 0
 ·have hc:=b9M hone
  obtain ⟨p1,p2,p3,p4⟩:=bl2 (mv:=mv) hE (by omega) h0 h1 hZ hone
  have af:=aJ0 t kind mv s1
  have zF:(A7 t ⟨mv,kind,1⟩).Sized:=⟨s1.ev,by show (t.finds++[_]).length<=_;simp;omega,s1.c⟩
  have fe:=a0X (A7 t ⟨mv,kind,1⟩) kind zF s2 (show t.ev.hhs<=6 by omega) (by show (t.finds++[_]).length<=_;simp;omega)
  have ma2:=aj0 (A7 t ⟨mv,kind,1⟩) kind (Z.map fz) zF (by omega) (fun f hf=>by have:=f2 f hf;omega)
  rw [p4] at ma2
  rw [p1] at fe
  generalize Z9 (Z.getD mv.toNat 0) ((1:Int):Rat)=cm at *
  generalize D7 (A7 t ⟨mv,kind,1⟩) kind true=X at *
  generalize A7 t ⟨mv,kind,1⟩=u at *
  have l1:(X.map Y5).length=X.length:=by simp
  (refine ac Tryz.func11 ?_;(conv=>whnf);repeat ((first|refine b0x ?_|refine zy ?_);conv=>whnf))
  repeat' (first|refine zx ?_|refine qp sa ?_|refine qp sm ?_|refine qp fp ?_|refine qp ma ?_|refine qp sc ?_|refine qp hi ?_|refine qp hcm ?_|refine qp af ?_|refine qp fe ?_|refine qp ma2 ?_|refine qp 4 ?_|refine qp 5 ?_|refine M8 h0 hf ?_|refine bl0 [4] ?_|refine bl0 [5] ?_|refine zd ?_ ?_<;>intro h<;>try omega|fail)<;>conv=>whnf
  all_goals first
   |omega
   |(exfalso;contradiction)
   |exact i4 rfl
 have hc:=b9C hone
 by_cases hz0:Z.getD mv.toNat 0=0
 ·have hs0:sgR (Z.getD mv.toNat 0)=0:=a51.2 hz0
  rw [hs0] at hsg
  obtain ⟨p1,p2,p3,p4⟩:=bl6 (mv:=mv) hE (by omega) h0 h1 hZ hz0
  have af:=aR7 t kind mv s1
  have zF:(A9 t ⟨mv,kind⟩).Sized:=⟨s1.ev,s1.f,by show (t.cleans++[_]).length<=_;simp;omega⟩
  have fe:=a0X (A9 t ⟨mv,kind⟩) kind zF s2 (show t.ev.hhs<=6 by omega) (show t.finds.length<=20 by omega)
  have ma2:=aj0 (A9 t ⟨mv,kind⟩) kind (Z.map fz) zF (by omega) (fun f hf=>by have:=f2 f hf;omega)
  rw [p4] at ma2
  rw [p1] at fe
  generalize Z9 (Z.getD mv.toNat 0) ((1:Int):Rat)=cm at *
  generalize D7 (A9 t ⟨mv,kind⟩) kind true=X at *
  generalize A9 t ⟨mv,kind⟩=u at *
  have l1:(X.map Y5).length=X.length:=by simp
  (refine ac Tryz.func11 ?_;(conv=>whnf);repeat ((first|refine b0x ?_|refine zy ?_);conv=>whnf))
  repeat' (first|refine zx ?_|refine qp sa ?_|refine qp sm ?_|refine qp fp ?_|refine qp ma ?_|refine qp sc ?_|refine qp hi ?_|refine qp hcm ?_|refine qp hsg ?_|refine qp af ?_|refine qp fe ?_|refine qp ma2 ?_|refine qp 4 ?_|refine qp 5 ?_|refine M8 h0 hf ?_|refine bl0 [4] ?_|refine bl0 [5] ?_|refine zd ?_ ?_<;>intro h<;>try omega|fail)<;>conv=>whnf
  all_goals first
   |omega
   |(exfalso;contradiction)
   |exact i4 rfl
 ·have hs0:sgR (Z.getD mv.toNat 0)≠0:=fun h=>hz0 (a51.1 h)
  generalize Z9 (Z.getD mv.toNat 0) ((1:Int):Rat)=cm at *
  generalize sgR (Z.getD mv.toNat 0)=sg at *
  (refine ac Tryz.func11 ?_;(conv=>whnf);repeat ((first|refine b0x ?_|refine zy ?_);conv=>whnf))
  repeat' (first|refine zx ?_|refine qp sa ?_|refine qp sm ?_|refine qp fp ?_|refine qp ma ?_|refine qp sc ?_|refine qp hi ?_|refine qp hcm ?_|refine qp hsg ?_|refine qp 4 ?_|refine qp 5 ?_|refine M8 h0 hf ?_|refine bl0 [4] ?_|refine bl0 [5] ?_|refine zd ?_ ?_<;>intro h<;>try omega|fail)<;>conv=>whnf
  all_goals first
   |omega
   |(exfalso;contradiction)
   |exact i4 rfl
open Go.RowKit Go.ChangeShapes Go.WideShapes Go.ChangeAt
set_option maxRecDepth 100000 in
theorem a6d (os:Os) (started:os.Started) (H:Type) (enc:TypeId × Value->H):
 ReturnsInHanded {} Tryz.checked os 11 .any (Rows.probeLeavesSpec.pre6 enc Tryz.prog Tryz.f11 Rows.probeLeavesRow.domain false) (Rows.probeLeavesSpec.post enc Tryz.prog Tryz.f11 false true false false):=by
 refine returnsInHanded_of_change (C:=Tryz.checked) aD7 started (by kernel_rfl) Tryz.func11
  (ChangeSpec.witness6 (enc:=enc) (C:=Tryz.checked) false ⟨#[],#[.agg #[.int .i64 0,.int .i64 0,.int .i64 0,.slice none 0 0,.slice none 0 0,.slice none 0 0,.slice none 0 0,.slice none 0 0,.slice none 0 0,.slice none 0 0],.int .i64 0,.int .i64 0,.slice none 0 0],[]⟩ 12 (by kernel_rfl) (by kernel_rfl) (by kernel_rfl) (by kernel_rfl)) ?_
 intro W base args ds gs before hval0 hW hcnd _
 have hval:∀(j:Nat) t v,Tryz.f11.params[j]? =some t->args[j]? =some v->Value.okWide Tryz.prog W .any base t v:=hval0
 have hW':=hW
 obtain ⟨p,q,hA0,hV,rfl,hfz,hnd⟩:=hW
 have hA:DataW.TrodAll enc Tryz.prog W 0 (fun _=>true) true Tryz.f11.params.toList args.toList ds p:=hA0
 rw [Tryz.params11] at hA hval
 obtain ⟨v0,vs0,d0,ds0,p0,q0,hargs,rfl,rfl,h0,r0⟩:=trodAll_cons hA
 obtain ⟨v1,vs1,d1,ds1,p1,q1,rfl,rfl,rfl,h1,r1⟩:=trodAll_cons r0
 obtain ⟨v2,vs2,d2,ds2,p2,q2,rfl,rfl,rfl,h2,r2⟩:=trodAll_cons r1
 obtain ⟨v3,vs3,d3,ds3,p3,q3,rfl,rfl,rfl,h3,r3⟩:=trodAll_cons r2
 obtain ⟨rfl,rfl,rfl⟩:=trodAll_nil r3
 obtain rfl:args=#[v0,v1,v2,v3]:=by cases args;simp_all
 obtain ⟨rfl,rfl⟩:=trodVars_none hV
 obtain ⟨a0,t0⟩:=Go.Proofs.YtikokmdpigploaaGreat.open_trace (hval 0 32 v0 rfl rfl) h0
 obtain ⟨a1,rfl,rfl,rfl,w1⟩:=open_int Tryz.underlying3 (hval 1 3 v1 rfl rfl) h1
 obtain ⟨a2,rfl,rfl,rfl,w2⟩:=open_int Tryz.underlying3 (hval 2 3 v2 rfl rfl) h2
 obtain ⟨a3,t3⟩:=Go.Proofs.YtikokmdpigploaaGreat.open_fracs (hval 3 49 v3 rfl rfl) h3
 refine (a3L (an5 a0 a1 a2 a3) (.cons (t0) (.cons (aa8) (.cons (aa8) (.cons (t3) (.nil)))))).mono fun ee W' ⟨he,hg⟩=>?_
 subst he
 exact ⟨_,rfl,ai2 hW' aa7 (by rw [Tryz.params11];intro t ht;simp at ht;first|(rcases ht with rfl|rfl|rfl|rfl<;>exact ⟨by kernel_rfl,lbL (by kernel_rfl)⟩)|(rcases ht with rfl|rfl|rfl<;>exact ⟨by kernel_rfl,lbL (by kernel_rfl)⟩)) rfl rfl (by kernel_rfl) Tryz.underlying4 hg⟩
theorem a7u:(Rows.probeLeavesRow.inPlace == Tryz.pinned.checked.prog.inPlace 11)=true:=by kernel_rfl
theorem a9r:(Rows.probeLeavesRow.unfollowed == Tryz.pinned.checked.prog.unfollowed 11)=true:=by kernel_rfl
theorem a9s:(Rows.probeLeavesRow.recurses == Tryz.pinned.checked.prog.recurses 11)=true:=by kernel_rfl
theorem a78:(Rows.probeLeavesRow.named == Tryz.pinned.checked.prog.varsNamed 11)=true:=by kernel_rfl
theorem a75:(Rows.probeLeavesRow.loops == (Tryz.f11.params.toList++Rows.probeLeavesSpec.plain.varTypes Tryz.pinned.checked.prog).any (Tryz.pinned.checked.prog.loopsFrom ·))=true:=by kernel_rfl
set_option maxRecDepth 100000 in
theorem a6f:joinedFacts Tryz.pinned.checked.prog 11 Tryz.f11 (Rows.probeLeavesSpec) Rows.probeLeavesRow=true:=a8J (by kernel_rfl) aF1 ax6 (by kernel_rfl) (by kernel_rfl) (by kernel_rfl) (by kernel_rfl) (by kernel_rfl) (by kernel_rfl) a7u a9r a9s a78 (by kernel_rfl) (by kernel_rfl) (by kernel_rfl) a75 (by kernel_rfl) (by kernel_rfl) (by kernel_rfl) (by kernel_rfl) (by kernel_rfl) aF2 (by kernel_rfl) ae9 ag7 aC0 aA1 (by kernel_rfl) (by kernel_rfl) (by kernel_rfl) (by kernel_rfl) (by kernel_rfl)
theorem probeLeaves_holds:Rows.ProbeLeavesSaid:=
 OpenClaim.holds_of_wide 11 Tryz.f11 rfl rfl rfl rfl rfl rfl rfl ⟨rfl,rfl,rfl,rfl,rfl⟩ rfl rfl rfl rfl rfl (by kernel_rfl) Tryz.func11 a6f
  (lbL (by kernel_rfl)) (by unfold Func.isWrapper;first|(rw [if_pos (by decide +kernel)];kernel_rfl)|(rw [if_neg (by decide +kernel)];exact ⟨rfl,rfl⟩))
  (fun os started H enc _=>a6d os started H enc)
abbrev a3l (t:g7):List Bool:=List.replicate t.ev.moves.length false
def V6 (l:List J9) (kind mv:Int):Bool:=l.any fun f=>decide (f.kind=kind) && decide (f.mv=mv)
def a0f (l:List D6) (kind mv:Int):Bool:=l.any fun c=>decide (c.kind=kind) && decide (c.mv=mv)
theorem a9R {e:Ev}:∀{l:List J9} {f:J9},J6 e l=0->f ∈ l->1<=f.grams
 |a::r,f,h,hf=>by
  rw [J6] at h
  by_cases h1:a0l e a.mv a.kind≠0
  ·rw [if_pos h1] at h;exact absurd h h1
  rw [if_neg h1] at h
  by_cases h2:a.grams<1∨1099511627776<a.grams
  ·rw [if_pos h2] at h;cases h
  rw [if_neg h2] at h
  rcases lbA.1 hf with rfl|hf
  ·omega
  ·exact a9R h hf
theorem aH4 {t:g7} {kind:Int} {n mv:Nat} (h:ExP t kind n) (hmv:mv<t.ev.moves.length) (hk:(a1a t.ev (a3l t) (mv:Int)).length=0∨V6 t.finds kind mv=true∨a0f t.cleans kind mv=true):
 (∀ z,a4j t kind z->1<=z.getD mv 0)∨(∀ z,a4j t kind z->z.getD mv 0=0):=by
 obtain ⟨x,hx⟩:∃x,t.ev.moves[mv]? =some x:=⟨_,lbf hmv⟩
 rcases hk with hk|hk|hk
 ·refine .inr fun z hz=>?_
  have hp:=a8F (h.sol hz)
  have hlz:=hz.len
  have h0:0<=z.getD mv 0:=hp _ (lbm (getD_some (by omega)))
  apply a1f
  intro hne
  have hbl:∀i,i<t.ev.moves.length->(a3l t).getD i true=false:=fun i hi=>by simp [a3l,lbl,hi]
  obtain ⟨m,⟨x0,hx0,hb⟩,hr⟩:=b03 (bl:=a3l t) hz hbl mv x hx (by grind)
  have hm:=(lbe.1 hx0).1
  have f1:a0m t.ev m (a3l t)=true:=a1Z.2 (by simp [a3l];omega)
  have f2:a0m t.ev (mv:Int) (a3l t)=true:=a1Z.2 (by simp [a3l];omega)
  have hmem:(m:Int) ∈ a1a t.ev (a3l t) (mv:Int):=(b0m (by simp [a3l]) hx0 hmv).2 ⟨hb,by
   rcases b05 f1 f2 (by rw [lbX];exact hbl m hm) with ⟨p1,p2,p3⟩|⟨p1,p2⟩
   ·exact p1.pos
   ·obtain ⟨q,hq,hql⟩:=hr
    exact absurd hql (p2 q hq)⟩
  rw [List.length_eq_zero_iff.1 hk] at hmem
  cases hmem
 ·refine .inl fun z hz=>?_
  obtain ⟨f,hf,hq⟩:=lbw.1 hk
  have hg:f.grams ∈ j9 t.finds kind mv:=lbx.2 ⟨f,lby.2 ⟨hf,hq⟩,rfl⟩
  have h1:=(hz.step mv x hx).2.fin _ hg
  have h2:=a9R (z6 h.e).2.2.2.1 hf
  have h3:((1:Int):Rat)<=(f.grams:Rat):=Rat.intCast_le_intCast.2 h2
  exact Rat.le_trans (show (1:Rat)<=(f.grams:Rat) from h3) h1
 ·refine .inr fun z hz=>(hz.step mv x hx).2.cln ?_
  obtain ⟨c,hc,hq⟩:=lbw.1 hk
  exact List.length_pos_iff.2 (List.ne_nil_of_mem (lby.2 ⟨hc,hq⟩))
structure bi1 (t:g7) (kind mv:Int):Prop where
 s:A0 t kind mv=(D7 t kind true).length
 q:(O0 (A7 t ⟨mv,kind,1⟩) kind=0∧D7 (A7 t ⟨mv,kind,1⟩) kind true=D7 t kind true∧O0 (A9 t ⟨mv,kind⟩) kind≠0)∨(O0 (A9 t ⟨mv,kind⟩) kind=0∧D7 (A9 t ⟨mv,kind⟩) kind true=D7 t kind true∧O0 (A7 t ⟨mv,kind,1⟩) kind≠0)
theorem bk3 {t:g7} {kind:Int} {n mv:Nat} (h:ExP t kind n) (hn3:n<=3) (hf:t.finds.length<=19) (hc:t.cleans.length<=49) (hmv:mv<t.ev.moves.length) (hk:(a1a t.ev (a3l t) (mv:Int)).length=0∨V6 t.finds kind mv=true∨a0f t.cleans kind mv=true):bi1 t kind mv:=by
 have tF:=aO8 (mv:=(mv:Int)) h.e hf (by omega) (by omega) h.k0 h.k1
 have tC:=aL3 (mv:=(mv:Int)) h.e hc (by omega) (by omega) h.k0 h.k1
 have zF:(A7 t ⟨mv,kind,1⟩).Sized:=⟨h.s.ev,by show (t.finds++[_]).length<=_;simp;omega,h.s.c⟩
 have zC:(A9 t ⟨mv,kind⟩).Sized:=⟨h.s.ev,h.s.f,by show (t.cleans++[_]).length<=_;simp;omega⟩
 have hh:=h.h
 have kF:XK (A7 t ⟨mv,kind,1⟩) kind:=aQ5 zF h.m (show t.ev.hhs<=6 by omega) (by show (t.finds++[_]).length<=20;simp;omega)
 have kC:XK (A9 t ⟨mv,kind⟩) kind:=aQ5 zC h.m (show t.ev.hhs<=6 by omega) (show t.finds.length<=20 by omega)
 have pF:=fun z=>ah6 (kind:=kind) (mv:=mv) (z:=z) tF h.e hmv
 have pC:=fun z=>ad2 (kind:=kind) (mv:=mv) (z:=z) tC h.e hmv
 have hz0:=h.poss (h.vd 0).has
 have hpos:=a9D h
 have eX:=T9 h true
 rcases aH4 h hmv hk with ha|hb
 ·have hu:=ax8 h (u:=A7 t ⟨mv,kind,1⟩) zF rfl tF ((pF _).2 ⟨hz0,ha _ hz0⟩)
  have same:aQ2 t (A7 t ⟨mv,kind,1⟩) kind n:=⟨fun z=>⟨fun q=>h.sol ((pF z).1 (hu.poss q)).1,fun q=>hu.sol ((pF z).2 ⟨h.poss q,ha _ (h.poss q)⟩)⟩,fun _=>rfl⟩
  have e1:D7 (A7 t ⟨mv,kind,1⟩) kind true=D7 t kind true:=by rw [T9 hu,eX,a7f h hu same]
  have hC:O0 (A9 t ⟨mv,kind⟩) kind≠0:=by
   rcases kC with q|⟨q,r,hr⟩|⟨m,hE,_⟩
   ·rw [a3m q];decide
   ·rw [a0z q hr];decide
   ·have hq:=(pC _).1 (hE.poss (hE.vd 0).has)
    have:=ha _ hq.1
    rw [hq.2] at this
    exact absurd this (by decide +kernel)
  refine ⟨?_,.inl ⟨a1m hu,e1,hC⟩⟩
  have f1:U2 (A7 t ⟨mv,kind,1⟩) kind=(D7 t kind true).length:=by rw [a04 hu,eX,a7f h hu same]
  have f2:=aF9 hC
  have hk:S5 t kind mv 2=max (U2 (A7 t ⟨mv,kind,1⟩) kind) (U2 (A9 t ⟨mv,kind⟩) kind):=rfl
  rw [f1,f2] at hk
  unfold A0
  split<;>omega
 ·have hu:=ax8 h (u:=A9 t ⟨mv,kind⟩) zC rfl tC ((pC _).2 ⟨hz0,hb _ hz0⟩)
  have same:aQ2 t (A9 t ⟨mv,kind⟩) kind n:=⟨fun z=>⟨fun q=>h.sol ((pC z).1 (hu.poss q)).1,fun q=>hu.sol ((pC z).2 ⟨h.poss q,hb _ (h.poss q)⟩)⟩,fun _=>rfl⟩
  have e1:D7 (A9 t ⟨mv,kind⟩) kind true=D7 t kind true:=by rw [T9 hu,eX,a7f h hu same]
  have hF:O0 (A7 t ⟨mv,kind,1⟩) kind≠0:=by
   rcases kF with q|⟨q,r,hr⟩|⟨m,hE,_⟩
   ·rw [a3m q];decide
   ·rw [a0z q hr];decide
   ·have hq:=(pF _).1 (hE.poss (hE.vd 0).has)
    have:=hq.2
    rw [hb _ hq.1] at this
    exact absurd this (by decide +kernel)
  refine ⟨?_,.inr ⟨a1m hu,e1,hF⟩⟩
  have f1:U2 (A9 t ⟨mv,kind⟩) kind=(D7 t kind true).length:=by rw [a04 hu,eX,a7f h hu same]
  have f2:=aF9 hF
  have hk:S5 t kind mv 2=max (U2 (A7 t ⟨mv,kind,1⟩) kind) (U2 (A9 t ⟨mv,kind⟩) kind):=rfl
  rw [f1,f2] at hk
  unfold A0
  split<;>omega
theorem b0t {t:g7} {kind:Int} (h:t.ev.hhs<=3) {n:Nat} (hE:ExP t kind n):∀s ∈ D7 t kind true,s.length<=1000000:=fun s hs=>by
 rw [T9 hE] at hs
 obtain ⟨r,w1,_⟩:=bf6 hE
 have:=b2v (t:=t) (kind:=kind) (n:=n) (s:=s) (by rw [w1];exact List.mem_append_left _ hs)
 have:=hE.h
 omega
theorem ab7 (t:g7) (kind mv:Int):b9 Tryz.prog 12 [trS t,b7 .i64 kind,b7 .i64 mv] [] (j0 true) []:=by
 have sa:=ad3
 have sm:=ai1 t 5
 have m1:(t.finds.map J9.row).length=t.finds.length:=by simp
 have m2:(t.cleans.map D6.row).length=t.cleans.length:=by simp
 have m3:(t.ev.moves.map t4.row).length=t.ev.moves.length:=by simp
 cases hsm:a3U t 5 with
 |false=>
  rw [hsm] at sm
  (refine ac Tryz.func12 ?_;(conv=>whnf);repeat ((first|refine b0x ?_|refine zy ?_);conv=>whnf))
  repeat' (first|refine zx ?_|refine qp sa ?_|refine qp sm ?_|refine zd ?_ ?_<;>intro h<;>try omega|fail)<;>conv=>whnf
  all_goals first
   |omega
   |(exfalso;contradiction)
   |exact i4 rfl
 |true=>
 rw [hsm] at sm
 obtain ⟨s1,s2,s3,s4,s5⟩:=a2H (by decide) hsm
 by_cases hg:mv<0∨(t.ev.moves.length:Int)<=mv
 ·(refine ac Tryz.func12 ?_;(conv=>whnf);repeat ((first|refine b0x ?_|refine zy ?_);conv=>whnf))
  repeat' (first|refine zx ?_|refine qp sa ?_|refine qp sm ?_|refine zd ?_ ?_<;>intro h<;>try omega|fail)<;>conv=>whnf
  all_goals first
   |omega
   |(exfalso;contradiction)
   |exact i4 rfl
 obtain ⟨m,rfl⟩:∃m:Nat,mv=m:=⟨mv.toNat,by omega⟩
 have hmv:m<t.ev.moves.length:=by omega
 have sc:=a1u t kind m s1 s2 s3 (by omega) (by omega)
 have fe:=a0X t kind s1 s2 (by omega) (by omega)
 have ck:=a38 t s1
 have hse:E0 t kind m=O0 t kind:=by
  unfold E0
  by_cases hq:a1k t kind≠0
  ·rw [if_pos (.inl hq),a3m hq]
  ·rw [if_neg (by omega)]
 rw [hse] at sc
 by_cases he:O0 t kind≠0
 ·rw [if_neg he] at sc
  generalize O0 t kind=ee at *
  (refine ac Tryz.func12 ?_;(conv=>whnf);repeat ((first|refine b0x ?_|refine zy ?_);conv=>whnf))
  repeat' (first|refine zx ?_|refine qp sa ?_|refine qp sm ?_|refine qp sc ?_|refine qp fe ?_|refine qp ck ?_|refine qp 4 ?_|refine qp 5 ?_|refine bl0 [4] ?_|refine bl0 [5] ?_|refine zd ?_ ?_<;>intro h<;>try omega|fail)<;>conv=>whnf
  all_goals first
   |omega
   |(exfalso;contradiction)
   |exact i4 rfl
 have he:O0 t kind=0:=by omega
 rw [he,if_pos rfl] at sc
 rw [he] at fe
 rcases aQ5 (kind:=kind) s1 s2 (by omega) (by omega) with h|⟨h,r,hr⟩|⟨n,hE,hx⟩
 ·rw [a3m h] at he;cases he
 ·rw [a0z h hr] at he;cases he
 have hen:=hE.h
 have hn:=bk3 (mv:=m) hE (by omega) (by omega) (by omega) hmv
 have hX3:=b0t s3 hE
 have li:=b2X t.ev s1.ev (z6 hE.e).1 m (a3l t)
 have lX:=a1A (t:=t) (kind:=kind) (short:=true) s3
 have hsl:=a0B (kind:=kind) (mv:=(m:Int)) s3
 have aF:=aJ0 t kind m s1
 have aC:=aR7 t kind m s1
 have zF:(A7 t ⟨m,kind,1⟩).Sized:=⟨s1.ev,by show (t.finds++[_]).length<=_;simp;omega,s1.c⟩
 have zC:(A9 t ⟨m,kind⟩).Sized:=⟨s1.ev,s1.f,by show (t.cleans++[_]).length<=_;simp;omega⟩
 have gF:=a0X (A7 t ⟨m,kind,1⟩) kind zF s2 (show t.ev.hhs<=6 by omega) (by show (t.finds++[_]).length<=_;simp;omega)
 have gC:=a0X (A9 t ⟨m,kind⟩) kind zC s2 (show t.ev.hhs<=6 by omega) (show t.finds.length<=20 by omega)
 have eF:O0 (A7 t ⟨m,kind,1⟩) kind≠0->D7 (A7 t ⟨m,kind,1⟩) kind true=[]:=fun h=>a5F h true
 have eC:O0 (A9 t ⟨m,kind⟩) kind≠0->D7 (A9 t ⟨m,kind⟩) kind true=[]:=fun h=>a5F h true
 have hn:((a1a t.ev (a3l t) (m:Int)).length=0∨V6 t.finds kind m=true∨a0f t.cleans kind m=true)->A0 t kind m=(D7 t kind true).length∧((O0 (A7 t ⟨m,kind,1⟩) kind=0∧D7 (A7 t ⟨m,kind,1⟩) kind true=D7 t kind true∧O0 (A9 t ⟨m,kind⟩) kind≠0)∨(O0 (A9 t ⟨m,kind⟩) kind=0∧D7 (A9 t ⟨m,kind⟩) kind true=D7 t kind true∧O0 (A7 t ⟨m,kind,1⟩) kind≠0)):=fun h=>⟨(hn h).s,(hn h).q⟩
 have same:=b81 (D7 t kind true) (D7 t kind true) (by omega) (by omega) hX3 hX3
 rw [lbH rfl] at same
 generalize A0 t kind m=sN at *
 generalize D7 t kind true=X at *
 generalize D7 (A7 t ⟨m,kind,1⟩) kind true=XF at *
 generalize D7 (A9 t ⟨m,kind⟩) kind true=XC at *
 generalize O0 (A7 t ⟨m,kind,1⟩) kind=qF at *
 generalize O0 (A9 t ⟨m,kind⟩) kind=qC at *
 generalize A7 t ⟨m,kind,1⟩=tF at *
 generalize A9 t ⟨m,kind⟩=tC at *
 generalize a1a t.ev (a3l t) (m:Int)=lf at *
 have l1:(X.map Y5).length=X.length:=by simp
 have l2:(lf.map g9).length=lf.length:=by simp
 (refine a1I g6 Tryz.func12 rfl (by decide) ?_;refine C5 g6 ?_;(conv=>whnf);repeat ((first|refine b0x ?_|refine zy ?_);conv=>whnf))
 (refine C5 g6 ?_;conv=>whnf)
 repeat' (first|refine zx ?_|refine qp sa ?_|refine zd ?_ ?_<;>intro h<;>try omega|fail)<;>conv=>whnf
 (refine C5 g6 ?_;conv=>whnf)
 repeat' (first|refine zx ?_|refine qp sm ?_|refine zd ?_ ?_<;>intro h<;>try omega|fail)<;>conv=>whnf
 all_goals try omega
 (refine C5 g6 ?_;conv=>whnf)
 repeat' (first|refine zx ?_|refine qp sc ?_|refine qp 4 ?_|refine qp 5 ?_|refine bl0 [4] ?_|refine bl0 [5] ?_|refine zd ?_ ?_<;>intro h<;>try omega|fail)<;>conv=>whnf
 (refine C5 g6 ?_;conv=>whnf)
 repeat' (first|refine zx ?_|refine qp fe ?_|refine qp 4 ?_|refine qp 5 ?_|refine bl0 [4] ?_|refine bl0 [5] ?_|refine zd ?_ ?_<;>intro h<;>try omega|fail)<;>conv=>whnf
 (refine C5 g6 ?_;conv=>whnf)
 repeat' (first|refine zx ?_|refine zd ?_ ?_<;>intro h<;>try omega|fail)<;>conv=>whnf
 all_goals try omega
 refine a2r g6 ([J,b7 .i64 kind,b7 .i64 m,S.c (C.t (T.ptr (trT t))),J,J,J,j0 true,b7 .i64 (sN:Int),J,a4i X,b7 .i64 0,j0 (decide (lf.length=0))]++Jn 174) [] ?_ ?_
 ·by_cases hz:lf.length=0
  ·rw [lbH hz]
   conv=>whnf
   repeat' (first|refine zx ?_|refine a4e (by omega) (by omega) (by omega) (by decide) ?_|refine zd ?_ ?_<;>intro h<;>try omega|fail)<;>conv=>whnf
   refine .inr ⟨_,_,E7 [0] li ⟨b1y (evT t.ev),a2N (ae6 rfl),a2N (B7 (rows:=(a3l t).map a2t) (by simp) rfl (by intro h;cases h) rfl ?_ ?_),trivial⟩ rfl,?_⟩
   ·show List.replicate ((t.ev.moves.map t4.row).length:Int).toNat [C.t (tb false)]=_
    rw [show ((t.ev.moves.map t4.row).length:Int).toNat=t.ev.moves.length by omega]
    simp [toC,a2t,a3l]
   ·simp [a3l]
   conv=>whnf
   repeat' (first|refine zx ?_|refine zd ?_ ?_<;>intro h<;>try omega|fail)<;>conv=>whnf
   all_goals first
    |omega
    |exact ⟨[],rfl,rfl,trivial,⟨rfl,rfl,rfl,rfl,rfl,rfl,rfl,rfl,trivial⟩⟩
  ·rw [lbJ hz]
   conv=>whnf
   repeat' (first|refine zx ?_|refine a4e (by omega) (by omega) (by omega) (by decide) ?_|refine zd ?_ ?_<;>intro h<;>try omega|fail)<;>conv=>whnf
   refine .inr ⟨_,_,E7 [0] li ⟨b1y (evT t.ev),a2N (ae6 rfl),a2N (B7 (rows:=(a3l t).map a2t) (by simp) rfl (by intro h;cases h) rfl ?_ ?_),trivial⟩ rfl,?_⟩
   ·show List.replicate ((t.ev.moves.map t4.row).length:Int).toNat [C.t (tb false)]=_
    rw [show ((t.ev.moves.map t4.row).length:Int).toNat=t.ev.moves.length by omega]
    simp [toC,a2t,a3l]
   ·simp [a3l]
   conv=>whnf
   repeat' (first|refine zx ?_|refine zd ?_ ?_<;>intro h<;>try omega|fail)<;>conv=>whnf
   all_goals first
    |omega
    |exact ⟨[],rfl,rfl,trivial,⟨rfl,rfl,rfl,rfl,rfl,rfl,rfl,rfl,trivial⟩⟩
 refine a2r g6 ([J,b7 .i64 kind,b7 .i64 m,S.c (C.t (T.ptr (trT t))),J,J,J,j0 true,b7 .i64 (sN:Int),J,a4i X,b7 .i64 0,j0 (decide (lf.length=0) || V6 t.finds kind m)]++Jn 174) [] ?_ ?_
 ·conv=>whnf
  repeat' (first|refine zx ?_|refine zd ?_ ?_<;>intro h<;>try omega|fail)<;>conv=>whnf
  refine j7 g6 (fun k=>([J,b7 .i64 kind,b7 .i64 m,S.c (C.t (T.ptr (trT t))),J,J,J,j0 true,b7 .i64 (sN:Int),J,a4i X,b7 .i64 0,j0 (decide (lf.length=0) || V6 (t.finds.take k) kind m),b7 .i64 k]++Jn 173,[])) t.finds.length (fun _=>True) [] trivial
   ⟨rfl,rfl,trivial,⟨rfl,rfl,rfl,rfl,rfl,rfl,rfl,aO6 (by simp [V6]),rfl,trivial⟩⟩ ?_
  intro k hk _
  by_cases hlt:k<t.finds.length
  ·obtain ⟨f,hf⟩:∃f,t.finds[k]? =some f:=⟨_,lbf hlt⟩
   have sk:V6 (t.finds.take (k+1)) kind m=(V6 (t.finds.take k) kind m || (decide (f.kind=kind) && decide (f.mv=m))):=by unfold V6;rw [lbG,hf,List.any_append];simp
   cases hb:decide (lf.length=0) || V6 (t.finds.take k) kind m with
   |true=>
    have sk2:(decide (lf.length=0) || V6 (t.finds.take (k+1)) kind m)=true:=by rw [sk,←Bool.or_assoc,hb];rfl
    conv=>whnf
    repeat' (first|refine zx ?_|refine i3 hf ?_|refine zd ?_ ?_<;>intro h<;>try omega|fail)<;>conv=>whnf
    all_goals first
     |omega
     |exact ⟨hlt,trivial,[],rfl,rfl,trivial,⟨rfl,rfl,rfl,rfl,rfl,rfl,rfl,by rw [sk2];rfl,rfl,trivial⟩⟩
   |false=>
    have sk2:(decide (lf.length=0) || V6 (t.finds.take (k+1)) kind m)=(decide (f.kind=kind) && decide (f.mv=m)):=by rw [sk,←Bool.or_assoc,hb];rfl
    by_cases c1:f.kind=kind
    ·by_cases c2:f.mv=m
     ·rw [lbH c1,lbH c2] at sk2
      conv=>whnf
      repeat' (first|refine zx ?_|refine i3 hf ?_|refine zd ?_ ?_<;>intro h<;>try omega|fail)<;>conv=>whnf
      all_goals first
       |omega
       |exact ⟨hlt,trivial,[],rfl,rfl,trivial,⟨rfl,rfl,rfl,rfl,rfl,rfl,rfl,by rw [sk2];rfl,rfl,trivial⟩⟩
     ·rw [lbH c1,lbJ c2] at sk2
      conv=>whnf
      repeat' (first|refine zx ?_|refine i3 hf ?_|refine zd ?_ ?_<;>intro h<;>try omega|fail)<;>conv=>whnf
      all_goals first
       |omega
       |exact ⟨hlt,trivial,[],rfl,rfl,trivial,⟨rfl,rfl,rfl,rfl,rfl,rfl,rfl,by rw [sk2];rfl,rfl,trivial⟩⟩
    ·rw [lbJ c1] at sk2
     conv=>whnf
     repeat' (first|refine zx ?_|refine i3 hf ?_|refine zd ?_ ?_<;>intro h<;>try omega|fail)<;>conv=>whnf
     all_goals first
      |omega
      |exact ⟨hlt,trivial,[],rfl,rfl,trivial,⟨rfl,rfl,rfl,rfl,rfl,rfl,rfl,by rw [sk2];rfl,rfl,trivial⟩⟩
  ·have hke:k=t.finds.length:=by omega
   subst hke
   rw [lbn (lbQ _)]
   conv=>whnf
   repeat' (first|refine zx ?_|refine zd ?_ ?_<;>intro h<;>try omega|fail)<;>conv=>whnf
   all_goals first
    |omega
    |exact ⟨[],rfl,rfl,trivial,⟨rfl,rfl,rfl,rfl,rfl,rfl,rfl,rfl,trivial⟩⟩
 refine a2r g6 ([J,b7 .i64 kind,b7 .i64 m,S.c (C.t (T.ptr (trT t))),J,J,J,j0 true,b7 .i64 (sN:Int),J,a4i X,b7 .i64 0,j0 (decide (lf.length=0) || V6 t.finds kind m || a0f t.cleans kind m)]++Jn 174) [] ?_ ?_
 ·conv=>whnf
  repeat' (first|refine zx ?_|refine zd ?_ ?_<;>intro h<;>try omega|fail)<;>conv=>whnf
  generalize (decide (lf.length=0) || V6 t.finds kind m)=b0 at *
  refine j7 g6 (fun k=>([J,b7 .i64 kind,b7 .i64 m,S.c (C.t (T.ptr (trT t))),J,J,J,j0 true,b7 .i64 (sN:Int),J,a4i X,b7 .i64 0,j0 (b0 || a0f (t.cleans.take k) kind m),J,b7 .i64 k]++Jn 172,[])) t.cleans.length (fun _=>True) [] trivial
   ⟨rfl,rfl,trivial,⟨rfl,rfl,rfl,rfl,rfl,rfl,rfl,aO6 (by simp [a0f]),rfl,trivial⟩⟩ ?_
  intro k hk _
  by_cases hlt:k<t.cleans.length
  ·obtain ⟨f,hf⟩:∃f,t.cleans[k]? =some f:=⟨_,lbf hlt⟩
   have sk:a0f (t.cleans.take (k+1)) kind m=(a0f (t.cleans.take k) kind m || (decide (f.kind=kind) && decide (f.mv=m))):=by unfold a0f;rw [lbG,hf,List.any_append];simp
   cases hb:b0 || a0f (t.cleans.take k) kind m with
   |true=>
    have sk2:(b0 || a0f (t.cleans.take (k+1)) kind m)=true:=by rw [sk,←Bool.or_assoc,hb];rfl
    conv=>whnf
    repeat' (first|refine zx ?_|refine i3 hf ?_|refine zd ?_ ?_<;>intro h<;>try omega|fail)<;>conv=>whnf
    all_goals first
     |omega
     |exact ⟨hlt,trivial,[],rfl,rfl,trivial,⟨rfl,rfl,rfl,rfl,rfl,rfl,rfl,by rw [sk2];rfl,rfl,trivial⟩⟩
   |false=>
    have sk2:(b0 || a0f (t.cleans.take (k+1)) kind m)=(decide (f.kind=kind) && decide (f.mv=m)):=by rw [sk,←Bool.or_assoc,hb];rfl
    by_cases c1:f.kind=kind
    ·by_cases c2:f.mv=m
     ·rw [lbH c1,lbH c2] at sk2
      conv=>whnf
      repeat' (first|refine zx ?_|refine i3 hf ?_|refine zd ?_ ?_<;>intro h<;>try omega|fail)<;>conv=>whnf
      all_goals first
       |omega
       |exact ⟨hlt,trivial,[],rfl,rfl,trivial,⟨rfl,rfl,rfl,rfl,rfl,rfl,rfl,by rw [sk2];rfl,rfl,trivial⟩⟩
     ·rw [lbH c1,lbJ c2] at sk2
      conv=>whnf
      repeat' (first|refine zx ?_|refine i3 hf ?_|refine zd ?_ ?_<;>intro h<;>try omega|fail)<;>conv=>whnf
      all_goals first
       |omega
       |exact ⟨hlt,trivial,[],rfl,rfl,trivial,⟨rfl,rfl,rfl,rfl,rfl,rfl,rfl,by rw [sk2];rfl,rfl,trivial⟩⟩
    ·rw [lbJ c1] at sk2
     conv=>whnf
     repeat' (first|refine zx ?_|refine i3 hf ?_|refine zd ?_ ?_<;>intro h<;>try omega|fail)<;>conv=>whnf
     all_goals first
      |omega
      |exact ⟨hlt,trivial,[],rfl,rfl,trivial,⟨rfl,rfl,rfl,rfl,rfl,rfl,rfl,by rw [sk2];rfl,rfl,trivial⟩⟩
  ·have hke:k=t.cleans.length:=by omega
   subst hke
   rw [lbn (lbQ _)]
   conv=>whnf
   repeat' (first|refine zx ?_|refine zd ?_ ?_<;>intro h<;>try omega|fail)<;>conv=>whnf
   all_goals first
    |omega
    |exact ⟨[],rfl,rfl,trivial,⟨rfl,rfl,rfl,rfl,rfl,rfl,rfl,rfl,trivial⟩⟩
 refine y3 g6 _ ?_
 cases hkn:decide (lf.length=0) || V6 t.finds kind m || a0f t.cleans kind m with
 |false=>
  conv=>whnf
  repeat' (first|refine zx ?_|refine zd ?_ ?_<;>intro h<;>try omega|fail)<;>conv=>whnf
  all_goals first
   |omega
   |exact i4 rfl
 |true=>
  have hkn2:lf.length=0∨V6 t.finds kind m=true∨a0f t.cleans kind m=true:=by
   rw [lbN,lbN,lbI,or_assoc] at hkn
   exact hkn
  obtain ⟨q1,⟨q2,q3,q4⟩|⟨q2,q3,q4⟩⟩:=hn hkn2
  ·rw [q2,q3] at gF
   rw [eC q4] at gC
   conv=>whnf
   repeat' (first|refine zx ?_|refine qp aF ?_|refine qp gF ?_|refine qp aC ?_|refine qp gC ?_|refine qp same ?_|refine qp 4 ?_|refine qp 5 ?_|refine bl0 [4] ?_|refine bl0 [5] ?_|refine zd ?_ ?_<;>intro h<;>try omega|fail)<;>conv=>whnf
   all_goals first
    |omega
    |(exfalso;contradiction)
    |exact i4 rfl
  ·rw [q2,q3] at gC
   rw [eF q4] at gF
   conv=>whnf
   repeat' (first|refine zx ?_|refine qp aF ?_|refine qp gF ?_|refine qp aC ?_|refine qp gC ?_|refine qp same ?_|refine qp 4 ?_|refine qp 5 ?_|refine bl0 [4] ?_|refine bl0 [5] ?_|refine zd ?_ ?_<;>intro h<;>try omega|fail)<;>conv=>whnf
   all_goals first
    |omega
    |(exfalso;contradiction)
    |exact i4 rfl
open Go.RowKit Go.ChangeShapes Go.WideShapes Go.ChangeAt
set_option maxRecDepth 100000 in
theorem a5S (os:Os) (started:os.Started) (H:Type) (enc:TypeId × Value->H):
 ReturnsInHanded {} Tryz.checked os 12 .any (Rows.probeNothingSpec.pre6 enc Tryz.prog Tryz.f12 Rows.probeNothingRow.domain false) (Rows.probeNothingSpec.post enc Tryz.prog Tryz.f12 false true false false):=by
 refine returnsInHanded_of_change (C:=Tryz.checked) aD7 started (by kernel_rfl) Tryz.func12
  (ChangeSpec.witness6 (enc:=enc) (C:=Tryz.checked) false ⟨#[],#[.agg #[.int .i64 0,.int .i64 0,.int .i64 0,.slice none 0 0,.slice none 0 0,.slice none 0 0,.slice none 0 0,.slice none 0 0,.slice none 0 0,.slice none 0 0],.int .i64 0,.int .i64 0],[]⟩ 12 (by kernel_rfl) (by kernel_rfl) (by kernel_rfl) (by kernel_rfl)) ?_
 intro W base args ds gs before hval0 hW hcnd _
 have hval:∀(j:Nat) t v,Tryz.f12.params[j]? =some t->args[j]? =some v->Value.okWide Tryz.prog W .any base t v:=hval0
 have hW':=hW
 obtain ⟨p,q,hA0,hV,rfl,hfz,hnd⟩:=hW
 have hA:DataW.TrodAll enc Tryz.prog W 0 (fun _=>true) true Tryz.f12.params.toList args.toList ds p:=hA0
 rw [Tryz.params12] at hA hval
 obtain ⟨v0,vs0,d0,ds0,p0,q0,hargs,rfl,rfl,h0,r0⟩:=trodAll_cons hA
 obtain ⟨v1,vs1,d1,ds1,p1,q1,rfl,rfl,rfl,h1,r1⟩:=trodAll_cons r0
 obtain ⟨v2,vs2,d2,ds2,p2,q2,rfl,rfl,rfl,h2,r2⟩:=trodAll_cons r1
 obtain ⟨rfl,rfl,rfl⟩:=trodAll_nil r2
 obtain rfl:args=#[v0,v1,v2]:=by cases args;simp_all
 obtain ⟨rfl,rfl⟩:=trodVars_none hV
 obtain ⟨a0,t0⟩:=Go.Proofs.YtikokmdpigploaaGreat.open_trace (hval 0 32 v0 rfl rfl) h0
 obtain ⟨a1,rfl,rfl,rfl,w1⟩:=open_int Tryz.underlying3 (hval 1 3 v1 rfl rfl) h1
 obtain ⟨a2,rfl,rfl,rfl,w2⟩:=open_int Tryz.underlying3 (hval 2 3 v2 rfl rfl) h2
 refine (a3L (ab7 a0 a1 a2) (.cons (t0) (.cons (aa8) (.cons (aa8) (.nil))))).mono fun ee W' ⟨he,hg⟩=>?_
 subst he
 exact ⟨_,rfl,ai2 hW' aa7 (by rw [Tryz.params12];intro t ht;simp at ht;first|(rcases ht with rfl|rfl|rfl<;>exact ⟨by kernel_rfl,lbL (by kernel_rfl)⟩)|(rcases ht with rfl|rfl<;>exact ⟨by kernel_rfl,lbL (by kernel_rfl)⟩)) rfl rfl (by kernel_rfl) Tryz.underlying4 hg⟩
theorem a69:(Rows.probeNothingRow.inPlace == Tryz.pinned.checked.prog.inPlace 12)=true:=by kernel_rfl
theorem a8q:(Rows.probeNothingRow.unfollowed == Tryz.pinned.checked.prog.unfollowed 12)=true:=by kernel_rfl
theorem a85:(Rows.probeNothingRow.recurses == Tryz.pinned.checked.prog.recurses 12)=true:=by kernel_rfl
theorem a6w:(Rows.probeNothingRow.named == Tryz.pinned.checked.prog.varsNamed 12)=true:=by kernel_rfl
theorem a6A:(Rows.probeNothingRow.loops == (Tryz.f12.params.toList++Rows.probeNothingSpec.plain.varTypes Tryz.pinned.checked.prog).any (Tryz.pinned.checked.prog.loopsFrom ·))=true:=by kernel_rfl
set_option maxRecDepth 100000 in
theorem a5P:joinedFacts Tryz.pinned.checked.prog 12 Tryz.f12 (Rows.probeNothingSpec) Rows.probeNothingRow=true:=a8J (by kernel_rfl) aF1 ax6 (by kernel_rfl) (by kernel_rfl) (by kernel_rfl) (by kernel_rfl) (by kernel_rfl) (by kernel_rfl) a69 a8q a85 a6w (by kernel_rfl) (by kernel_rfl) (by kernel_rfl) a6A (by kernel_rfl) (by kernel_rfl) (by kernel_rfl) (by kernel_rfl) (by kernel_rfl) aF2 (by kernel_rfl) ae9 ag7 aC0 aA1 (by kernel_rfl) (by kernel_rfl) (by kernel_rfl) (by kernel_rfl) (by kernel_rfl)
theorem probeNothing_holds:Rows.ProbeNothingSaid:=
 OpenClaim.holds_of_wide 12 Tryz.f12 rfl rfl rfl rfl rfl rfl rfl ⟨rfl,rfl,rfl,rfl,rfl⟩ rfl rfl rfl rfl rfl (by kernel_rfl) Tryz.func12 a5P
  (lbL (by kernel_rfl)) (by unfold Func.isWrapper;first|(rw [if_pos (by decide +kernel)];kernel_rfl)|(rw [if_neg (by decide +kernel)];exact ⟨rfl,rfl⟩))
  (fun os started H enc _=>a5S os started H enc)
end Go.Proofs.YtikokmdpigploaaGreat
