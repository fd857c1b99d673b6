/- Chapter 21 in plain Lean: the system of a kind of foreign matter, and its solutions. No program is in sight. -/
import Derived.ProofKit
import Derived.OpenShut
import Derived.Deep.Slices
import Derived.Deep.Fields
import Derived.Test.YtikokmdpigploaaGreatRows
import Derived.Deep.DeepMust
import Derived.BigQuiet
import Derived.Deep.Light
import Derived.Test.YtikokmdpigploaaGreatKl7
namespace Go.Proofs.YtikokmdpigploaaGreat
set_option linter.all false
set_option maxRecDepth 100000
set_option maxHeartbeats 8000000
open Go.RowKit
open St1 St2 St3 St4 St5 St6 St7 St8 StA StB StC
section
open Go.RowKit Go.Shelf
attribute [local go_sem] Oper.semAt_some
def aE7 {p:LI->Bool} {l:LI}:∀(m k:Nat),J5 p l true k≠[]->J5 p l true (k+m)=J5 p l true k
 |0,k,_=>rfl
 |m+1,k,h=>by
  have ih:=aE7 m k h;rw [show k+(m+1)=(k+m)+1 by omega,J5,iA ⟨rfl,by rw [ih];exact h⟩,ih]
def b9u {P:Program} {w:World} {base:Nat} {t ty e:TypeId} {i:TypeInfo} {size:Nat} (ht:P.underlying t=some (.slice e)) (hi:P.info? e=some i) {v:Value} {n:Nat} {xs:List Value} (hown:w.ownsRow base e size v n xs) (c:Nat):
 (Builtin.append_ #[t,t] ty #[v,.slice none 0 c]).run P w=.ok v w:=by
 rcases hown.2 with ⟨rfl,rfl⟩|⟨g,cap,cur,rfl,_,_,hnc,_⟩
 ·simp [Builtin.append_,run_underlying ht,sizeOf,typeInfo,hi,Builtin.lenOf,Builtin.firstCells]
 ·simp [Builtin.append_,run_underlying ht,sizeOf,typeInfo,hi,Builtin.lenOf,Builtin.firstCells,hnc,storeCells]
def a7A {F:Fence} {n:Nat} {P:Program} {w:World} {ops:Array Oper} {rest:List Oper} {o:Oper} {a:Act} {Q:Exit->Act->World->Prop} (hg:o.guard=none) (s x:Operand) (t:TypeId) (hop:o.op=Op.call { callee:=Callee.builtin Builtin.append,args:=#[s,x],argTypes:=#[t,t] })
 {v:Value} {c:Nat} (hs:a.eval s=v) (hx:a.eval x=.slice none 0 c) (hrun:(Builtin.append_ #[t,t] o.type #[v,.slice none 0 c]).run P w=.ok v w) (hK:wpListIn F n P ops Q rest (a.put o.dst v) w):wpListIn F n P ops Q (o::rest) a w:=by
 refine wpListIn_plain hg fun K hK'=>?_
 unfold Oper.wpIn;refine ⟨?_,?_⟩
 ·simp [Oper.about,hop,resolve,Target.leads,Sem.run_pure]
 ·rw [Oper.semAt_plain F _ _ (by rw [hop];intro c hc';cases hc')];simp [execOp,hop,resolve,invoke,builtin,hs,hx,hrun,Result.andThen];exact hK' _ _ hK
def b51:(Tryz.prog.info? 33).map (fun i=>(i.zero,i.size,i.bytes))=some (some (.slice none 0 0),1,24):=by kernel_rfl
def a2v {F:Fence} {n:Nat} {P:Program} {f:FuncId} {args:Array Value} {w:World} {R:Ending->World->Prop} (l:Nat) (h:CallsIn F n P f args w R):CallsIn (F.inRound l) n P f args w R:=h
def ao0:∀(l:LI) (n:Nat),(A9 l n).length<=2 ^ l.length
 |l,0=>by simp [A9];exact Nat.one_le_two_pow
 |[],n+1=>by simp [A9]
 |x::r,n+1=>by
  have h1:=ao0 r n;have h2:=ao0 r (n+1);rw [A9,lbq,lbr,lbu,Nat.pow_succ];omega
def b3E (W:World) (o:Obj):Below W.heap.size W (W.alloc o):=(Below.refl _ W).alloc (lbR _) o
def aF1 {W:World} {b:Nat} {x y:Value} {t:TypeId} (h:W.heap[b]? =some (.cells #[x,y] t (0,0))):W.cell? ⟨b,0,none⟩=some x/\W.cell? ⟨b,1,none⟩=some y/\W.frozen? ⟨b,0,none⟩=false/\W.frozen? ⟨b,1,none⟩=false:=by
 refine ⟨?_,?_,?_,?_⟩<;>simp [World.cell?,World.frozen?,h]
def b6u {w:World} {M:Ms} (hMB:MB w M) {t:k8} {kind:Int} {n:Nat} (hE:ExP t kind n) (hx:XT t kind n) (short:Bool) {v0:Value} (h0:RS w (fun _=>none) M (trS t) v0):
 Calls Tryz.prog 61 #[v0,.int .i64 kind,.bool short] w fun e w'=>∃v,e=.returned (.tuple #[v,.int .i64 0])/\RT w' M (b27 (Z1 t kind n short)) v/\Below w.heap.size w w':=by
 have hsus:=fun m W hW=>b8j (m:=m) (W:=W) hMB (fun _ _=>rfl) hE (by have:=hx.h4;omega) h0 hW
 have hsys:=fun m W hW=>b8w (m:=m) (W:=W) hMB (fun _ _=>rfl) hE h0 hW
 have hexp:=fun m W2 W hw2 sv hs hW set hl v hv=>b6y (m:=m) (W2:=W2) (W:=W) (sv:=sv) (set:=set) (v:=v) hMB hx h0 hw2 hs hW hl hv
 obtain ⟨a0,a1,a2,a3,a4,a5,a6,a7,a8,a9,rfl,o0,o1,o2,o3,o4,o5,o6,o7,o8,o9⟩:=bP6 h0;have hsl:=a3e t kind n;have hn6:=hx.h4;have hdd:∀k:Nat,(Fence.wide.depth.isSome=true->1<=k):=fun k h=>by simp [Fence.wide] at h
 refine (callsIn_wide (n:=9)).1 ?_;refine callsIn_of_wp_marks Tryz.func61 rfl trivial ?_ rfl;simp only [Tryz.ntmps61,a6B,lbu,a2l,Nat.reduceAdd,Nat.reduceSub,an0,aB0,at8,ay5,a6s,a3Z];obtain ⟨W0,hW0⟩:∃W0,w.alloc (.cells #[a0,a1,a2,a3,a4,a5,a6,a7,a8,a9] 32)=W0:=⟨_,rfl⟩;have b0:W0.heap[w.heap.size]? =some (.cells #[a0,a1,a2,a3,a4,a5,a6,a7,a8,a9] 32 (0,0)):=by rw [← hW0];exact World.alloc_heap_new w _
 have hB0:Below w.heap.size w W0:=by rw [← hW0];exact (Below.refl _ w).alloc (lbR _) _
 have s0:W0.heap.size=w.heap.size+1:=by rw [← hW0];simp
 have ten:∀W:World,Below W0.heap.size W0 W->W.heap[w.heap.size]? =some (.cells #[a0,a1,a2,a3,a4,a5,a6,a7,a8,a9] 32 (0,0)):=fun W hW=>(hW.block _ om).trans b0
 have cells10:∀W:World,W.heap[w.heap.size]? =some (.cells #[a0,a1,a2,a3,a4,a5,a6,a7,a8,a9] 32 (0,0))->W.cell? ⟨w.heap.size,0,none⟩=some a0/\W.cell? ⟨w.heap.size,1,none⟩=some a1/\W.cell? ⟨w.heap.size,2,none⟩=some a2/\W.cell? ⟨w.heap.size,3,none⟩=some a3/\W.cell? ⟨w.heap.size,4,none⟩=some a4/\W.cell? ⟨w.heap.size,5,none⟩=some a5/\W.cell? ⟨w.heap.size,6,none⟩=some a6/\W.cell? ⟨w.heap.size,7,none⟩=some a7/\W.cell? ⟨w.heap.size,8,none⟩=some a8/\W.cell? ⟨w.heap.size,9,none⟩=some a9:=fun W hb=>by
  refine ⟨?_,?_,?_,?_,?_,?_,?_,?_,?_,?_⟩<;>simp [World.cell?,hb]
 obtain ⟨c0,c1,c2,c3,c4,c5,c6,c7,c8,c9⟩:=cells10 W0 b0
 gi_wp2_with (first
  |(refine ⟨trivial,?_⟩;gi_at_call 127;(try rw [hW0]);refine (hsus _ _ hB0).mono ?_;rintro e W1 ⟨lv,rfl,hlv,hB1⟩;obtain ⟨d0,d1,d2,d3,d4,d5,d6,d7,d8,d9⟩:=cells10 W1 (ten W1 hB1);have hB1w:=hB0.trans (hB1.mono om))
  |(refine ⟨trivial,?_⟩;gi_at_call 64;refine (hsys _ _ hB1w).mono ?_;rintro e W2 ⟨A2,len2,cap2,rfl,hsv,hB2⟩;have g2:=aF1 (World.alloc_heap_new W2 (.cells #[.int .i64 0,.slice none 0 0] 70));obtain ⟨g20,g21,g22,g23⟩:=g2))
 obtain ⟨Al,capl,rfl,lc1,lc2,lrow⟩:=b3N hlv;have hB2w:Below w.heap.size w W2:=hB1w.trans (hB2.mono hB1w.size);obtain ⟨W3,hW3⟩:∃W3,W2.alloc (.cells #[.int .i64 (t.ev.moves.length:Int),.slice A2 len2 cap2] 70)=W3:=⟨_,rfl⟩;have bS3:W3.heap[W2.heap.size]? =some (.cells #[.int .i64 (t.ev.moves.length:Int),.slice A2 len2 cap2] 70 (0,0)):=by rw [← hW3];exact World.alloc_heap_new W2 _
 have hB3:Below W2.heap.size W2 W3:=by rw [← hW3];exact (Below.refl _ _).alloc (lbR _) _
 have s3:W3.heap.size=W2.heap.size+1:=by rw [← hW3];simp
 rw [hW3];have bO:=Boxed.new W3 a3W (.slice none 0 0);obtain ⟨W4,hW4⟩:∃W4,W3.alloc (.cells #[.slice none 0 0] a3W)=W4:=⟨_,rfl⟩;have hB4:Below W3.heap.size W3 W4:=by rw [← hW4];exact (Below.refl _ _).alloc (lbR _) _
 have s4:W4.heap.size=W3.heap.size+1:=by rw [← hW4];simp
 rw [hW4] at bO;rw [hW4];have hB34:Below W2.heap.size W2 W4:=hB3.trans (hB4.mono om);have hB4w:Below w.heap.size w W4:=hB2w.trans (hB34.mono hB2w.size);have hs01:w.heap.size<W2.heap.size:=by have:=hB1.size;have:=hB2.size;omega
 have ten4:W4.heap[w.heap.size]? =some (.cells #[a0,a1,a2,a3,a4,a5,a6,a7,a8,a9] 32 (0,0)):=(hB34.block _ hs01).trans (ten W2 (hB1.trans (hB2.mono hB1.size)));have bS4:W4.heap[W2.heap.size]? =some (.cells #[.int .i64 (t.ev.moves.length:Int),.slice A2 len2 cap2] 70 (0,0)):=(hB4.block _ om).trans bS3;clear hW0 hW3 hW4;obtain ⟨X1,hX1⟩:∃X1,W2.heap.size+1=X1:=⟨_,rfl⟩;rw [hX1];rw [hX1] at s3;rw [s3] at bO s4 hB4;obtain ⟨b10,hb10⟩:∃b,W2.heap.size=b:=⟨_,rfl⟩;obtain ⟨b3,hb3⟩:∃b,w.heap.size=b:=⟨_,rfl⟩;rw [hb10] at bS4 ⊢;rw [hb3] at ten4 ⊢;rw [hb10,hb3] at hs01;rw [hb3] at cells10;clear bS3 s0 b0 hB0 c0 c1 c2 c3 c4 c5 c6 c7 c8 c9;refine wpIn_loop (fun a W=>∃(k:Nat) (outs:List XE) (outv:Value) (Ds:List Nat) (x13 x14 x30 x31 x32 x33 x34 x35 x36 x37 x38 x39 x40 x41 x42 x43 x44 x45 x46 x47 x48 x49 x50 x51 x52 x53 x54 x55 x56 x57 x58 x59 x60 x61 x62 x63 x64 x65 x66 x67:Value),a=⟨(Value.agg #[a0,a1,a2,a3,a4,a5,a6,a7,a8,a9]::Value.int .i64 kind::Value.bool short::Value.pointer (some ⟨b3,0,none⟩)::undef::undef::Value.slice none 0 0::Value.int .i64 0::Value.slice Al (F7 t kind n).length capl::Value.int .i64 0::Value.pointer (some ⟨b10,0,none⟩)::Value.pointer (some ⟨X1,0,none⟩)::Value.int .i64 (k:Int)::x13::x14::Value.tuple #[.slice Al (F7 t kind n).length capl,.int .i64 0]::Value.agg #[a0,a1,a2,a3,a4,a5,a6,a7,a8,a9]::Value.int .i64 kind::Value.tuple #[.slice Al (F7 t kind n).length capl,.int .i64 0]::Value.slice Al (F7 t kind n).length capl::Value.int .i64 0::Value.int .i64 0::Value.bool false::undef::Value.tuple #[.agg #[.int .i64 (t.ev.moves.length:Int),.slice A2 len2 cap2],.int .i64 0]::Value.agg #[a0,a1,a2,a3,a4,a5,a6,a7,a8,a9]::Value.int .i64 kind::Value.tuple #[.agg #[.int .i64 (t.ev.moves.length:Int),.slice A2 len2 cap2],.int .i64 0]::Value.agg #[.int .i64 (t.ev.moves.length:Int),.slice A2 len2 cap2]::Value.int .i64 0::x30::x31::x32::x33::x34::x35::x36::x37::x38::x39::x40::x41::x42::x43::x44::x45::x46::x47::x48::x49::x50::x51::x52::x53::x54::x55::x56::x57::x58::x59::x60::x61::x62::x63::x64::x65::x66::x67::[]).toArray,Ds.map b95⟩/\k<=(F7 t kind n).length+1/\outs.map Prod.fst=J5 (pX t kind n) (F7 t kind n) short k/\outs.length<=k*64/\(∀ a ∈ outs,a.1.length<=1000)/\FI X1 W4 outs outv Ds W) (fun a W=>(F7 t kind n).length+2 - (intOf (a.tmps.getD 12 undef)).toNat) ?start ?round
 case start=>
  refine ⟨0,[],.slice none 0 0,[],undef,undef,undef,undef,undef,undef,undef,undef,undef,undef,undef,undef,undef,undef,undef,undef,undef,undef,undef,undef,undef,undef,undef,undef,undef,undef,undef,undef,undef,undef,undef,undef,undef,undef,undef,undef,undef,undef,undef,undef,rfl,G6 _,rfl,G6 _,fun a ha=>(by cases ha),?_⟩;exact ⟨Below.refl _ _,bO,World.ownsRow_nil _ _ _ _,fun x hx=>(by cases hx),ao9,fun D hD=>(by cases hD)⟩
 case round=>
  rintro a W ⟨k,outs,outv,Ds,x13,x14,x30,x31,x32,x33,x34,x35,x36,x37,x38,x39,x40,x41,x42,x43,x44,x45,x46,x47,x48,x49,x50,x51,x52,x53,x54,x55,x56,x57,x58,x59,x60,x61,x62,x63,x64,x65,x66,x67,rfl,hk,ho,ho2,ho3,hFI⟩;obtain ⟨Ao,capo,rfl⟩:∃Ao capo,outv=.slice Ao outs.length capo:=by
   rcases hFI.row.2 with ⟨rfl,h⟩|⟨g,cap,cur,rfl,_⟩
   ·exact ⟨none,0,by rw [h]⟩
   ·exact ⟨_,_,rfl⟩
  have cO:=hFI.bx.cell;have hk64:k*64<=7*64:=lbU _ om;have hpow:∀q,(A9 (F7 t kind n) q).length<=64:=fun q=>lbS (ao0 _ q) (lbS (a82 de (show (F7 t kind n).length<=6 by omega)) de)
  by_cases hstop:k<=(F7 t kind n).length/\(short=true->outs=[])
  ·have hcase:short=false\/(short=true/\(outs.length:Int)=0):=by
    cases short with
    |false=>exact .inl rfl
    |true=>exact .inr ⟨rfl,by rw [hstop.2 rfl];rfl⟩
   have hkI:(k:Int)<=((F7 t kind n).length:Int):=by have:=hstop.1;omega
   have hnext:J5 (pX t kind n) (F7 t kind n) short (k+1)=J5 (pX t kind n) (F7 t kind n) short k++(A9 (F7 t kind n) k).filter fun s=>!((J5 (pX t kind n) (F7 t kind n) short k).any fun a=>D6 a s) && pX t kind n s:=by
    rw [J5,iB];rintro ⟨h1,h2⟩;rw [← ho,hstop.2 h1] at h2;exact h2 rfl
   rw [← ho] at hnext;rcases hcase with rfl|⟨rfl,hl0⟩
   all_goals
    gi_wp2_with (refine ⟨trivial,?_⟩;gi_at_call 128;refine (b64 8 _ _ _ _ _).mono ?_;rintro e Wb ⟨rfl,hWb⟩)
    all_goals try omega
    try clear hl0
    clear hstop;obtain ⟨X,hX⟩:∃X,W.heap.size=X:=⟨_,rfl⟩;have hX1X:X1<X:=by have:=hFI.bx.lt;omega
    have bX:Boxed Wb X a3W (.slice none 0 0):=by
     rw [hWb,←hX];exact ((Boxed.new W a3W (.slice none 0 0)).alloc _).alloc _
    have bL:Boxed Wb (X+1) tIs (.slice Al (F7 t kind n).length capl):=by
     have:=Boxed.new (W.alloc (.cells #[.slice none 0 0] a3W)) tIs (.slice Al (F7 t kind n).length capl);rw [World.size_alloc] at this;rw [hWb,←hX];exact this.alloc _
    have bN:Boxed Wb (X+2) tI (.int .i64 (k:Int)):=by
     have:=Boxed.new ((W.alloc (.cells #[.slice none 0 0] a3W)).alloc (.cells #[.slice Al (F7 t kind n).length capl] tIs)) tI (.int .i64 (k:Int));rw [World.size_alloc,World.size_alloc] at this;rw [hWb,←hX];exact this
    have sb:Wb.heap.size=X+3:=by rw [hWb,←hX];simp
    have hBb:Below X W Wb:=by
     rw [hWb,←hX];exact (((Below.refl _ W).alloc (lbR _) _).alloc zq _).alloc zo _
    rw [← hWb,hX];clear hWb;have q1:∀i x,(F7 t kind n)[i]? =some x->∃b off,Al=some ⟨b,off,none⟩/\Wb.cell? ⟨b,off+i,none⟩=some (.int .i64 x)/\b<X+3/\b≠X:=fun i x hx=>by
     obtain ⟨b,off,h1,h2⟩:=lrow i x hx;have hb:b<W1.heap.size:=aY7 h2;have z2:=hB2.size;have c1:Below W1.heap.size W1 Wb:=hB2.trans ((hB34.mono z2).trans ((hFI.bel.mono om).trans (hBb.mono om)));exact ⟨b,off,h1,(c1.cell (p:=⟨b,off+i,none⟩) hb).trans h2,om,om⟩
    refine b0O (n:=9) rfl om (gf:=199) (lb:=#[.pointer (some ⟨X+2,0,none⟩),.pointer (some ⟨X+1,0,none⟩)]) rfl trivial (enters_of Tryz.func199 zr rfl)
     (b8d (X:=X) (ns:=X+3) b5z 8 om om Wb om bN bL q1 ⟨om,om,om,om,om⟩ ⟨lc1,lc2⟩) KpX.trans (fun W l o o' _ h1 h2 _=>KpX.putObj h1 h2) (Below.refl _ _) (fun _=>rfl)
     (FP X (X+3) W (fun s=>!(outs.any fun a=>D6 a.1 s) && pX t kind n s)) (by rw [sb];exact FP.own om)
     ⟨hBb,om,⟨_,bX,World.ownsRow_nil _ _ _ _⟩,fun x hx=>(by cases hx)⟩
     (fun pre x a1 W1=>a1.defers=[]/\a1.tmps.size=68/\a1.tmps.getD 3 undef=.pointer (some ⟨b3,0,none⟩)/\a1.tmps.getD 10 undef=.pointer (some ⟨b10,0,none⟩)/\a1.tmps.getD 11 undef=.pointer (some ⟨X1,0,none⟩)/\a1.tmps.getD 13 undef=.pointer (some ⟨X,0,none⟩)/\pre.length<(A9 (F7 t kind n) k).length/\
       ∃b14,a1.tmps.getD 14 undef=.pointer (some ⟨b14,0,none⟩)/\FP X (X+3) W (fun s=>!(outs.any fun a=>D6 a.1 s) && pX t kind n s) pre W1/\a2s (X+3) W1 x.1 x.2/\Boxed W1 b14 tIs x.2/\X+3<=b14/\x.1.length<=1000) ?Ab ?assign ?body ?done
    case Ab=>
     rintro pre x ac W1 l o o' hle hl hc ⟨d1,d2,d3,d10,d11,d13,hlt,b14,d14,hFP,hI,hb14,hge,hsl3⟩;exact ⟨d1,d2,d3,d10,d11,d13,hlt,b14,d14,(FP.own om).putObj _ hFP om hl hc,hI.put hl hc,bF6 hb14 hl hc,hge,hsl3⟩
    case assign=>
     rintro l pre ⟨s,v⟩ W1 K hFP ⟨hI,hsl3⟩ hlt hK;obtain ⟨Av,cv,hv⟩:=a4W hI;simp only at hv hI;subst hv;have bn0:=Boxed.new W1 tIs (.slice none 0 0);have bn1:=bn0.cell;have bn2:=bn0.frozen
     gi_wp2
     have hBa:=b3E W1 (.cells #[.slice Av s.length cv] tIs);exact hK _ _ ⟨rfl,rfl,rfl,rfl,rfl,rfl,hlt,W1.heap.size,rfl,hFP.kept (hBa.mono (by have:=hFP.sz;omega)) (fun b vs ty fl hb=>(hBa.block b (C1 hb)).trans hb),hI.below hBa,Boxed.new _ _ _,hFP.sz,hsl3⟩ ((KeepsOthers.alloc _ _).from _) (KpX.alloc _ _ _ _)
    case body=>
     rintro l pre ⟨s,v⟩ ac Wc ⟨d1,d2,d3,d10,d11,d13,hlt,b14,d14,hFP,hI,hb14,hge,hsl3⟩;rw [bI1 ac d2 d1];simp only [List.range,List.range.loop,List.map];rw [d3,d10,d11,d13,d14];clear d1 d2 d3 d10 d11 d13 d14;generalize ac.tmps.getD 0 undef=y0;generalize ac.tmps.getD 1 undef=y1;generalize ac.tmps.getD 2 undef=y2;generalize ac.tmps.getD 4 undef=y4;generalize ac.tmps.getD 5 undef=y5;generalize ac.tmps.getD 6 undef=y6;generalize ac.tmps.getD 7 undef=y7;generalize ac.tmps.getD 8 undef=y8;generalize ac.tmps.getD 9 undef=y9;generalize ac.tmps.getD 12 undef=y12;generalize ac.tmps.getD 15 undef=y15;generalize ac.tmps.getD 16 undef=y16;generalize ac.tmps.getD 17 undef=y17;generalize ac.tmps.getD 18 undef=y18;generalize ac.tmps.getD 19 undef=y19;generalize ac.tmps.getD 20 undef=y20;generalize ac.tmps.getD 21 undef=y21;generalize ac.tmps.getD 22 undef=y22;generalize ac.tmps.getD 23 undef=y23;generalize ac.tmps.getD 24 undef=y24;generalize ac.tmps.getD 25 undef=y25;generalize ac.tmps.getD 26 undef=y26;generalize ac.tmps.getD 27 undef=y27;generalize ac.tmps.getD 28 undef=y28;generalize ac.tmps.getD 29 undef=y29;generalize ac.tmps.getD 30 undef=y30;generalize ac.tmps.getD 31 undef=y31;generalize ac.tmps.getD 32 undef=y32;generalize ac.tmps.getD 33 undef=y33;generalize ac.tmps.getD 34 undef=y34;generalize ac.tmps.getD 35 undef=y35;generalize ac.tmps.getD 36 undef=y36;generalize ac.tmps.getD 37 undef=y37;generalize ac.tmps.getD 38 undef=y38;generalize ac.tmps.getD 39 undef=y39;generalize ac.tmps.getD 40 undef=y40;generalize ac.tmps.getD 41 undef=y41;generalize ac.tmps.getD 42 undef=y42;generalize ac.tmps.getD 43 undef=y43;generalize ac.tmps.getD 44 undef=y44;generalize ac.tmps.getD 45 undef=y45;generalize ac.tmps.getD 46 undef=y46;generalize ac.tmps.getD 47 undef=y47;generalize ac.tmps.getD 48 undef=y48;generalize ac.tmps.getD 49 undef=y49;generalize ac.tmps.getD 50 undef=y50;generalize ac.tmps.getD 51 undef=y51;generalize ac.tmps.getD 52 undef=y52;generalize ac.tmps.getD 53 undef=y53;generalize ac.tmps.getD 54 undef=y54;generalize ac.tmps.getD 55 undef=y55;generalize ac.tmps.getD 56 undef=y56;generalize ac.tmps.getD 57 undef=y57;generalize ac.tmps.getD 58 undef=y58;generalize ac.tmps.getD 59 undef=y59;generalize ac.tmps.getD 60 undef=y60;generalize ac.tmps.getD 61 undef=y61;generalize ac.tmps.getD 62 undef=y62;generalize ac.tmps.getD 63 undef=y63;generalize ac.tmps.getD 64 undef=y64;generalize ac.tmps.getD 65 undef=y65;generalize ac.tmps.getD 66 undef=y66;generalize ac.tmps.getD 67 undef=y67;obtain ⟨Av,cv,hv⟩:=a4W hI;simp only at hv hI hb14 hsl3;subst hv;obtain ⟨i0,hi,hz0,hz1,hz2⟩:=info_parts b51;have hFPb:=hFP.bel;rw [← hX] at hFPb;have hFIc:=hFI.below hFPb;rw [hX] at hFPb;obtain ⟨fv,hfb,hfrow⟩:=hFP.pr;have hMc:∀b,M b->b<b3:=fun b hb=>by have:=hMB b hb;omega
     have hwc:Below b3 w Wc:=by rw [← hb3];exact hB4w.trans (hFIc.bel.mono om)
     have hMBc:MB Wc M:=fun b hb=>a6H (hMB b hb) hwc.size
     have hrtO:RT Wc M (b27 (outs.map Prod.fst)) (.slice Ao outs.length capo):=b9C hFIc.row (fun b hb=>by have:=hMc b hb;omega) fun x hx=>(hFIc.ir x hx).rt fun b hb=>by have:=hMc b hb;omega
     have hsl2:∀a ∈ outs,a.1.length<=1000000:=fun a ha=>lbS (ho3 a ha) de
     have hrtS:RT Wc M (v6 s) (.slice Av s.length cv):=hI.rt fun b hb=>by have:=hMc b hb;omega
     have hcon:=b79 6 hMBc hrtO om hsl2 (set:=s) om hrtS hb14 (fun hb=>by have:=hMc b14 hb;omega);have e11:=hFIc.bx.cell;have e14:=hb14.cell;have hBdAll:∀Wd:World,Below Wc.heap.size Wc Wd->Below b3 w Wd/\Below W2.heap.size W2 Wd/\Wd.heap[b3]? =some (.cells #[a0,a1,a2,a3,a4,a5,a6,a7,a8,a9] 32 (0,0))/\Wd.heap[b10]? =some (.cells #[.int .i64 (t.ev.moves.length:Int),.slice A2 len2 cap2] 70 (0,0)):=fun Wd hBd=>by
      have h1:Below X1 W4 Wd:=(hFIc.below hBd).bel;refine ⟨hwc.trans (hBd.mono (by have:=hwc.size;omega)),?_,(h1.block b3 om).trans ten4,(h1.block b10 om).trans bS4⟩;rw [hb10];rw [hb10] at hB34;exact hB34.trans (h1.mono om)
     have stepFP:∀Wd:World,Below Wc.heap.size Wc Wd->FP X (X+3) W (fun s=>!(outs.any fun a=>D6 a.1 s) && pX t kind n s) pre Wd:=fun Wd hBd=>hFP.kept (hBd.mono (by have:=hFP.sz;omega)) fun b vs ty fl hb=>(hBd.block b (C1 hb)).trans hb
     have keepO:∀Wd:World,Below Wc.heap.size Wc Wd->KeepsFrom Wb.heap.size Wc Wd:=fun Wd hBd=>⟨hBd.size,fun k o _ hk _=>(hBd.block k (C1 hk)).trans hk⟩
     cases hq1:(outs.any fun a=>D6 a.1 s) with
     |true=>
      rw [hq1] at hcon;have hqf:(!(outs.any fun a=>D6 a.1 s) && pX t kind n s)=false:=by rw [hq1];rfl
      gi_wp2
      refine ⟨trivial,?_⟩;refine (a2v l hcon).mono ?_;rintro e Wd ⟨rfl,hBd⟩
      gi_wp2
      refine ⟨trivial,?_⟩
      gi_wp2
      have hf:=stepFP Wd hBd;obtain ⟨fv2,f1,f2⟩:=hf.pr;refine ⟨keepO Wd hBd,KpX.below hBd,hf.bel,hf.sz,⟨fv2,f1,?_⟩,?_⟩
      ·rw [a5O];simpa [hqf] using f2
      ·rw [a5O];simpa [hqf] using hf.ir
     |false=>
      rw [hq1] at hcon
      gi_wp2
      refine ⟨trivial,?_⟩;refine (a2v l hcon).mono ?_;rintro e Wd ⟨rfl,hBd⟩;obtain ⟨g1,g2,g3,g4⟩:=hBdAll Wd hBd;obtain ⟨d0,d1,d2,d3,d4,d5,d6,d7,d8,d9⟩:=cells10 Wd g3;obtain ⟨m0,m1,m2,m3⟩:=aF1 g4;have e14d:=(ap2 hBd hb14).cell;have hxp:=hexp 6 W2 Wd hB2w _ hsv g2 s hsl3 _ (b4f (a4C hBd (RS.c (RC.t hrtS)):RS Wd (fun _=>none) M (j7 s) _));cases hq2:pX t kind n s with
      |true=>
       rw [hq2] at hxp
       gi_wp2
       refine ⟨trivial,?_⟩;refine (a2v l hxp).mono ?_;rintro e We ⟨rfl,hBe⟩;have hBce:=hBd.trans (hBe.mono hBd.size);have hqt:(!(outs.any fun a=>D6 a.1 s) && pX t kind n s)=true:=by rw [hq1,hq2];rfl
       have hf:=stepFP We hBce;obtain ⟨fv2,f1,f2⟩:=hf.pr;have fc:=f1.cell;have e14e:=(ap2 hBce hb14).cell;have hcnt:(pre.filter fun x=>!(outs.any fun a=>D6 a.1 x.1) && pX t kind n x.1).length+1<=64:=by
        have h1:=lbt (fun x:XE=>!(outs.any fun a=>D6 a.1 x.1) && pX t kind n x.1) pre;have h2:=hpow k;omega
       have hml:(64:Nat)<=maxLen:=de;have hsz:=hf.sz
       gi_wp2_with (gi_at_builtin;refine wpListIn_append_own _ rfl _ _ a3W rfl (X+3) tIs i0 (.slice none 0 0) 1 24 Tryz.underlying36 hi hz0 hz1 hz2 rfl de _ _ _ rfl (f2.alloc _) ⟨We.heap.size,0,none⟩ 1 1 [.slice Av s.length cv] rfl rfl (cell_one_new _ _ _) (by simp [Value.oneCell']) om om zo ?_;intro v' w1 hown' hgrow _;obtain ⟨g',cap',rfl⟩:=ownsRow_succ hown';obtain ⟨hv1,hv2,hr2,hk2,hbx2,hkp2⟩:=b5n f1 f2 hsz hown' hgrow;have hc1:=hv1.cell;have hf1:=hv1.frozen)
       refine ⟨(keepO We hBce).trans (hk2.from _),(KpX.below hBce).trans hkp2,hf.bel.trans (hbx2.low om (lbR _)),lbS hsz hk2.size,⟨_,hv2,?_⟩,?_⟩
       ·rw [a5O];simpa [hqt] using hr2
       ·rw [a5O];intro x hx;rcases lbz.1 hx with hx|hx
        ·exact hkp2.irow om (hf.ir x hx)
        ·have hx:x=(s,.slice Av s.length cv):=by simpa [hqt] using hx
         subst hx;exact hkp2.irow om (hI.below hBce)
      |false=>
       rw [hq2] at hxp;have hqf:(!(outs.any fun a=>D6 a.1 s) && pX t kind n s)=false:=by rw [hq1,hq2];rfl
       gi_wp2
       refine ⟨trivial,?_⟩;refine (a2v l hxp).mono ?_;rintro e We ⟨rfl,hBe⟩;have hBce:=hBd.trans (hBe.mono hBd.size)
       gi_wp2
       have hf:=stepFP We hBce;obtain ⟨fv2,f1,f2⟩:=hf.pr;refine ⟨keepO We hBce,KpX.below hBce,hf.bel,hf.sz,⟨fv2,f1,?_⟩,?_⟩
       ·rw [a5O];simpa [hqf] using f2
       ·rw [a5O];simpa [hqf] using hf.ir
    case done=>
     rintro D xs Wr hD hxs hFP hdef;have hFPb:=hFP.bel;rw [← hX] at hFPb;have hFIr:=hFI.below hFPb;obtain ⟨i0,hi,hz0,hz1,hz2⟩:=info_parts b51;obtain ⟨fv,hfb,hfrow⟩:=hFP.pr;have e11:=hFIr.bx.cell;have f11:=hFIr.bx.frozen;have eX:=hfb.cell;have hlen:(xs.filter fun x=>!(outs.any fun a=>D6 a.1 x.1) && pX t kind n x.1).length<=64:=by
      have h1:=lbt (fun x:XE=>!(outs.any fun a=>D6 a.1 x.1) && pX t kind n x.1) xs;have h2:=hpow k;have h3:=congrArg List.length hxs;rw [lbr] at h3;omega
     have hout:(outs++xs.filter fun x=>!(outs.any fun a=>D6 a.1 x.1) && pX t kind n x.1).map Prod.fst=outs.map Prod.fst++(A9 (F7 t kind n) k).filter fun s=>!((outs.map Prod.fst).any fun a=>D6 a s) && pX t kind n s:=by
      rw [lbC,←hxs,List.filter_map]
      congr 2
      refine aN2 fun x _=>?_
      show _=(!((outs.map Prod.fst).any fun a=>D6 a x.1) && pX t kind n x.1);rw [List.any_map]
      rfl
     have hlen3:∀a ∈ outs++xs.filter (fun x=>!(outs.any fun a=>D6 a.1 x.1) && pX t kind n x.1),a.1.length<=1000:=fun a ha=>by
      rcases lbz.1 ha with ha|ha
      ·exact ho3 a ha
      ·have h1:a.1 ∈ xs.map Prod.fst:=lbx.2 ⟨a,(lby.1 ha).1,rfl⟩;rw [hxs] at h1;have:=(I8.1 h1).2;omega
     have hX1r:X1+1<=Wr.heap.size:=hFIr.bx.lt;have hDs:D ∉ Ds:=fun hm=>by
      have h1:=C1 (hFI.dm D hm).2;omega
     generalize hvals:(xs.filter fun x=>!(outs.any fun a=>D6 a.1 x.1) && pX t kind n x.1)=sel at hlen hout hlen3 hfrow;have hirs:∀x ∈ sel,a2s (X+3) Wr x.1 x.2:=by rw [← hvals];exact hFP.ir
     have hml:(100000:Nat)<=maxLen:=de;have fin:∀(w1:World) (v':Value) (ac:Act),w1.ownsRow (X1+1) tIs 1 v' (outs.length+sel.length) (outs.map Prod.snd++sel.map Prod.snd)->Wr.grownBy w1 (Value.slice Ao outs.length capo).ownBlock->
      Boxed w1 X1 a3W (.slice Ao outs.length capo)/\FI X1 W4 (outs++sel) v' (D::Ds) (w1.setCell ⟨X1,0,none⟩ v'):=fun w1 v' ac hown' hgrow=>by
      obtain ⟨hv1,hv2,hr2,hk2,hbx2,hkp2⟩:=b5C hFIr.bx hFIr.row hX1r hown' hgrow;refine ⟨hv1,hFIr.bel.trans (hbx2.low om (lbR _)),hv2,by rw [lbq,lbC];exact hr2,fun x hx=>?_,List.nodup_cons.2 ⟨hDs,hFIr.nd⟩,fun D2 h2=>?_⟩
      ·rcases lbz.1 hx with hx|hx
       ·exact hkp2.irow om (hFIr.ir x hx)
       ·exact hkp2.irow om ((hirs x hx).mono om)
      ·rcases lbA.1 h2 with rfl|h2
       ·exact ⟨om,hk2.same _ _ hdef rfl⟩
       ·exact ⟨(hFIr.dm D2 h2).1,hk2.same _ _ (hFIr.dm D2 h2).2 rfl⟩
     rcases hfrow.2 with ⟨rfl,hsel0⟩|⟨g,capf,cur,rfl,hg1,hg2,hg3,hg4,hg5,hg6⟩
     ·have hsel:sel=[]:=lbF hsel0;subst hsel
      gi_wp2_with (gi_at_builtin;refine a7A rfl _ _ a3W rfl rfl rfl (b9u Tryz.underlying36 hi hFIr.row _) ?_)
      have hk1:(k:Int)+1=((k+1:Nat):Int):=om;simp only [hk1];refine ⟨⟨k+1,outs++[],.slice Ao outs.length capo,D::Ds,_,_,_,_,_,_,_,_,_,_,_,_,_,_,_,_,_,_,_,_,_,_,_,_,_,_,_,_,_,_,_,_,_,_,_,_,_,_,_,_,rfl,om,?_,?_,hlen3,?_⟩,?_⟩
      ·rw [hout,hnext]
      ·rw [lbq,lbV];simp only [a2l];omega
      ·exact (fin Wr _ ⟨#[],[]⟩ (by simpa using hFIr.row) (World.grownBy.refl Wr _)).2
      ·simp [intOf];omega
     ·have hgc:∀(j:Nat) (u:Value),(sel.map Prod.snd)[j]? =some u->Wr.cell? ((⟨g,0,none⟩:Addr).add j)=some u:=fun j u hj=>by
       have hlt:=(lbe.1 hj).1;rw [← hg6,lbi,iA (by simp at hlt;omega)] at hj;have e2:cur[j]? =some u:=by simpa using hj
       have hadd:(⟨g,0,none⟩:Addr).add j=⟨g,0+j,none⟩:=by unfold Addr.add;split<;>simp_all
       rw [hadd];simp [World.cell?,hg2,e2]
      have hone:∀u ∈ sel.map Prod.snd,u.oneCell'=true:=fun u hu=>by
       obtain ⟨x,hx,rfl⟩:=lbx.1 hu;exact (hirs x hx).one
      gi_wp2_with (gi_at_builtin;refine wpListIn_append_own _ rfl _ _ a3W rfl (X1+1) tIs i0 (.slice none 0 0) 1 24 Tryz.underlying36 hi hz0 hz1 hz2 rfl de _ _ _ rfl hFIr.row ⟨g,0,none⟩ sel.length capf (sel.map Prod.snd) rfl zq hgc hone om om hX1r ?_;intro v' w1 hown' hgrow _;obtain ⟨A',c',rfl⟩:=b97 hown';obtain ⟨hv1,hFIn⟩:=fin w1 _ ⟨#[],[]⟩ hown' hgrow;have hc1:=hv1.cell;have hf1:=hv1.frozen)
      have hk1:(k:Int)+1=((k+1:Nat):Int):=om;simp only [hk1];refine ⟨⟨k+1,outs++sel,.slice A' (outs.length+sel.length) c',D::Ds,_,_,_,_,_,_,_,_,_,_,_,_,_,_,_,_,_,_,_,_,_,_,_,_,_,_,_,_,_,_,_,_,_,_,_,_,_,_,_,_,rfl,om,?_,?_,hlen3,?_⟩,?_⟩
      ·rw [hout,hnext]
      ·rw [lbq,lbV];omega
      ·exact hFIn
      ·simp [intOf];omega
  ·have hfin:outs.map Prod.fst=Z1 t kind n short:=by
    rw [ho];unfold Z1 aB9;by_cases hkL:k<=(F7 t kind n).length
    ·have hsh:short=true/\outs≠[]:=by
      apply Y9;intro hh;exact hstop ⟨hkL,fun h1=>Y9 fun h2=>hh ⟨h1,h2⟩⟩
     obtain ⟨rfl,hne⟩:=hsh;rw [show (F7 t kind n).length+1=k+((F7 t kind n).length+1 - k) by omega];exact (aE7 _ k (by rw [← ho];simpa using hne)).symm
    ·rw [show k=(F7 t kind n).length+1 by omega]
   have hgo:∀tm:Array Value,tm.getD 6 undef=.slice Ao outs.length capo->tm.getD 7 undef=.int .i64 0->LeavesInM Fence.wide 9 Tryz.prog Tryz.f61 tm (fun e w'=>∃v,e=.returned (.tuple #[v,.int .i64 0])/\RT w' M (b27 (Z1 t kind n short)) v/\Below b3 w w') (Ds.map b95) .returning W:=fun tm h6 h7=>by
    have hrt:RT W M (b27 (outs.map Prod.fst)) (.slice Ao outs.length capo):=b9C hFI.row (fun b hb=>by have:=hMB b hb;omega) fun x hx=>(hFI.ir x hx).rt fun b hb=>by have:=hMB b hb;omega
    refine a8Y Ds W hFI.nd (fun D hD=>(hFI.dm D hD).2) fun W' z1 z2 z3 z4 z5=>?_
    refine ⟨_,results_tmp2 rfl _ _ _,_,by rw [h6,h7],?_,?_⟩
    ·rw [← hfin];refine hrt.keepC (fun b vs ty fl hb _=>?_) (fun b hb=>.inl hb);refine (z5 b fun hD=>?_).trans hb;rw [(hFI.dm b hD).2] at hb;cases hb
    ·have hBw:Below b3 w W:=by rw [← hb3];exact hB4w.trans (hFI.bel.mono (by have:=hB4w.size;omega))
     exact hBw.trans ⟨z1,z2,z3,z4,fun b hb=>z5 b fun hD=>by have:=(hFI.dm b hD).1;omega⟩
   by_cases hkL:k<=(F7 t kind n).length
   ·have hsh:short=true/\¬(outs.length:Int)=0:=by
     refine ⟨Y9 fun h1=>hstop ⟨hkL,fun h2=>absurd h2 h1⟩,fun h0=>hstop ⟨hkL,fun _=>lbF om⟩⟩
    obtain ⟨rfl,hne⟩:=hsh;have hkI:(k:Int)<=((F7 t kind n).length:Int):=om
    gi_wp2
    all_goals try omega
    exact hgo _ rfl rfl
   ·have hkI:¬(k:Int)<=((F7 t kind n).length:Int):=by omega
    gi_wp2
    all_goals try omega
    all_goals first
     |exact hgo _ rfl rfl
     |(have hu:∃b,some undef=some (Value.bool b):=⟨_,by assumption⟩
       obtain ⟨b,hu⟩:=hu;simp [undef] at hu)
def bv7 {ι:Io} (h:a0S ι 0):ι=fun _=>none:=funext fun id=>h id (G6 _)
def bz0 (t:k8) (kind:Int) (n:Nat) (hE:ExP t kind n) (hx:XT t kind n) (short:Bool):ec 61 [trS t,eI kind,m9 short] [] (.tup [a1o (Z1 t kind n short),eI 0]) []:=by
 refine ⟨⟨_,Tryz.func61,rfl,de⟩,fun w ι M vals hl hv hH hM hF=>?_⟩
 match vals,hl,hv with
 |[v0,v1,v2],_,hv=>
  have h0:=hv 0 _ rfl;have h1:=b2d (hv 1 _ rfl);have h2:=aT6 (hv 2 _ rfl);simp only [lb7,lb8] at h0 h1 h2;subst h1 h2;have hi:=bv7 hF;subst hi;refine Calls.mono (b6u hM hE hx short h0) ?_;rintro e w' ⟨v,rfl,h3,h4⟩;refine ⟨_,rfl,b0s (.tup [v,.int .i64 0] rfl fun j s hj=>?_) h4 hM hF⟩
  match j,hj with
  |0,hj=>injection hj with hj;subst hj;exact .c (.t h3)
  |1,hj=>injection hj with hj;subst hj;exact .c (.t (.atm rfl))
  |j+2,hj=>simp at hj
end
def ay6 (t:k8) (kind:Int) (hs:t.Sized) (h:a0o t kind≠0):ec 127 [trS t,eI kind] [] (.tup [j7 [],eI 1]) []:=by
 have ve:=ap9 t kind hs h;refine ac Tryz.func127 ?_;conv=>whnf
 repeat' (first|refine zx ?_|apply zD<;>intro h<;>try omega)<;>conv=>whnf
 all_goals first|omega|exact p7 rz
def ad1 (t:k8) (kind:Int) (hs:t.Sized) (ht:t9 t=0) (k0:0<=kind) (k1:kind<8) (hm:t.ev.moves.length<=8) (r:Nat) (hz:H9 (p6 t kind) []=.row r):ec 127 [trS t,eI kind] [] (.tup [j7 [],eI 15]) []:=by
 have ve:=a9L t kind hs ht k0 k1 hm r hz;refine ac Tryz.func127 ?_;conv=>whnf
 repeat' (first|refine zx ?_|apply zD<;>intro<;>try omega)<;>conv=>whnf
 all_goals first|omega|exact p7 rz
def ao5 (t:k8) (kind e:Int) (he:e≠0) (hsu:ec 127 [trS t,eI kind] [] (.tup [j7 [],eI e]) []) (short:Bool):ec 61 [trS t,eI kind,m9 short] [] (.tup [a1o [],eI e]) []:=by
 refine ac Tryz.func61 ?_;conv=>whnf
 repeat' (first|refine zx ?_|apply zD<;>intro<;>try omega)<;>conv=>whnf
 all_goals first|omega|exact p7 rz
inductive XK (t:k8) (kind:Int):Prop
 |arg (h:a0o t kind≠0)
 |unsat (h:a0o t kind=0) (r:Nat) (hr:H9 (p6 t kind) []=.row r)
 |ok (n:Nat) (hE:ExP t kind n) (hx:XT t kind n)
def b1t {t:k8} {kind:Int} (hs:t.Sized) (hm:t.ev.moves.length<=8) (hh:t.ev.hhs<=6) (hf:t.finds.length<=20):XK t kind:=by
 by_cases h:a0o t kind=0
 ·obtain ⟨k1,k2,k3⟩:=T6.1 h;have hhs:=(a34 (F3 k1).1).2.2.1;have p:=Q2 (kind:=kind) k1 hm (g:=[]) rfl (fun t ht=>by cases ht);rcases aO4 p.o.r with ho|⟨r,hr⟩
  ·exact .ok t.ev.hhs.toNat ⟨hs,k1,k2,k3,hm,om,ho⟩ ⟨hs,k1,k2,k3,hm,om,om,hf⟩
  ·exact .unsat h r hr
 ·exact .arg h
noncomputable def a5c (t:k8) (kind:Int):Int:=open Classical in if a0o t kind≠0 then 1 else if ∃z,k6 (p6 t kind) z=true then 0 else 15
noncomputable def a4A (t:k8) (kind:Int) (short:Bool):List LI:=open Classical in if a5c t kind=0 then Z1 t kind t.ev.hhs.toNat short else []
def a4w {t:k8} {kind:Int} (h:a0o t kind≠0):a5c t kind=1:=by unfold a5c;rw [iA h]
def a1v {t:k8} {kind:Int} (h:a0o t kind=0) {r:Nat} (hr:H9 (p6 t kind) []=.row r):a5c t kind=15:=by
 unfold a5c;rw [iB om,iB];rintro ⟨z,hz⟩;rw [a5a hr z] at hz;cases hz
def a3A {t:k8} {kind:Int} {n:Nat} (h:ExP t kind n):a5c t kind=0:=by
 unfold a5c;rw [iB (by rw [T6.2 ⟨h.e,h.k0,h.k1⟩];omega),iA ⟨_,(h.vd 0).has⟩]
def a3h {t:k8} {kind:Int} {n:Nat} (h:ExP t kind n) (short:Bool):a4A t kind short=Z1 t kind n short:=by
 unfold a4A;rw [iA (a3A h)]
 congr 1
 have:=h.h;omega
def a2E {t:k8} {kind:Int} (h:a5c t kind≠0) (short:Bool):a4A t kind short=[]:=by unfold a4A;rw [iB h]
def aA8 (t:k8) (kind:Int) (hs:t.Sized) (hm:t.ev.moves.length<=8) (hh:t.ev.hhs<=6) (hf:t.finds.length<=20) (short:Bool):ec 61 [trS t,eI kind,m9 short] [] (.tup [a1o (a4A t kind short),eI (a5c t kind)]) []:=by
 rcases b1t (kind:=kind) hs hm hh hf with h|⟨h,r,hr⟩|⟨n,hE,hx⟩
 ·rw [a2E (by rw [a4w h];decide),a4w h];exact ao5 t kind 1 de (ay6 t kind hs h) short
 ·rw [a2E (by rw [a1v h hr];decide),a1v h hr];obtain ⟨k1,k2,k3⟩:=T6.1 h;exact ao5 t kind 15 de (ad1 t kind hs k1 k2 k3 hm r hr) short
 ·rw [a3h hE,a3A hE];exact bz0 t kind n hE hx short
def b0c (t:k8) (kind:Int) (hs:t.Sized) (hm:t.ev.moves.length<=8) (hh:t.ev.hhs<=6) (hf:t.finds.length<=20):ec 15 [trS t,eI kind] [] (.tup [a1o (a4A t kind true),eI (a5c t kind)]) []:=by
 have fi:=aA8 t kind hs hm hh hf true;generalize a4A t kind true=L at fi;generalize a5c t kind=E at fi;refine ac Tryz.func15 ?_;conv=>whnf
 repeat' (first|refine zx ?_|refine bl0 [4] ?_|refine bl0 [5] ?_|apply zD<;>intro<;>try omega)<;>conv=>whnf
 all_goals exact p7 rz
def a7t (t:k8) (kind:Int) (hs:t.Sized) (hm:t.ev.moves.length<=8) (hh:t.ev.hhs<=6) (hf:t.finds.length<=20):ec 17 [trS t,eI kind] [] (.tup [a1o (a4A t kind false),eI (a5c t kind)]) []:=by
 have fi:=aA8 t kind hs hm hh hf false;generalize a4A t kind false=L at fi;generalize a5c t kind=E at fi;refine ac Tryz.func17 ?_;conv=>whnf
 repeat' (first|refine zx ?_|refine bl0 [4] ?_|refine bl0 [5] ?_|apply zD<;>intro<;>try omega)<;>conv=>whnf
 all_goals exact p7 rz
noncomputable def at6 (t:k8) (kind:Int) (set:LI):Bool:=decide (a0o t kind=0) && a0m t.ev.hhs set && pX t kind t.ev.hhs.toNat set
def a3Q (t:k8) (kind:Int) (hs:t.Sized) (hm:t.ev.moves.length<=8) (hh:t.ev.hhs<=6) (hf:t.finds.length<=20) (set:LI) (hl:set.length<=1000000):ec 20 [trS t,eI kind,j7 set] [] (m9 (at6 t kind set)) []:=by
 unfold at6;by_cases h:a0o t kind=0
 ·obtain ⟨k1,k2,k3⟩:=T6.1 h;have hhs:=(a34 (F3 k1).1).2.2.1;have e:((t.ev.hhs.toNat:Nat):Int)=t.ev.hhs:=om;have:=b30 t kind t.ev.hhs.toNat ⟨hs,k1,k2,k3,hm,e.symm,om,hf⟩ set hl;rw [e] at this;rw [lbH h,K9];exact this
 ·rw [lbJ h,a2i,a2i];exact aD2 t kind hs h set
def a6G (bl:List Bool) (i:Nat) (x:C6) (a:List Bool):List Bool:=
 cond (a.getD x.src.toNat false) (cond x.all ((cond (bl.getD i true) a (a.set x.dst.toNat true)).set x.src.toNat false) (cond (bl.getD i true) a (a.set x.dst.toNat true))) a
def a7C (e:Ev) (bl:List Bool) (m:Nat) (d:Nat):Nat->List Bool
 |0=>(List.replicate e.places.length false).set d true
 |k+1=>match e.moves[m+1+k]? with
  |some x=>a6G bl (m+1+k) x (a7C e bl m d k)
  |none=>a7C e bl m d k
def aR2 {bl:List Bool} {i:Nat} {x:C6} {a:List Bool}:(a6G bl i x a).length=a.length:=by
 unfold a6G;cases a.getD x.src.toNat false<;>cases x.all<;>cases bl.getD i true<;>simp
def an7 {e:Ev} {bl:List Bool} {m d:Nat}:∀k,(a7C e bl m d k).length=e.places.length
 |0=>by simp [a7C]
 |k+1=>by
  unfold a7C;split
  ·rw [aR2,an7 k]
  ·exact an7 k
def b5E {e:Ev} {bl:List Bool} {m d k:Nat} {x:C6} (h:e.moves[m+1+k]? =some x):a7C e bl m d (k+1)=a6G bl (m+1+k) x (a7C e bl m d k):=by
 rw [a7C,h]
def ar3 (e:Ev) (bl:List Bool) (m:Int):LI:=match e.moves[m.toNat]? with
 |some x=>B6 (aN9 e bl x.dst m.toNat) 0 e.moves
 |none=>[]
structure BQ where
 bef:LI
 que:LI
def b5W {e:Ev} {m:C6} (h:O5 e m=true):m.src≠m.dst:=by
 simp [O5] at h;exact h.1.1.1.1.1.2
def bE1:LI->LI->Bool
 |x::a,y::b=>if x=y then bE1 a b else decide (x<y)
 |_,_=>false
def bO1 (a b:LI):Bool:=if b=[]\/a.length≠b.length then decide (b=[]) || decide (a.length<b.length) else bE1 a b
section
def a5Q (p:LI):Int:=p.getLast?.getD 0
def a8a {p:LI} {k:Int}:a5Q (p++[k])=k:=by simp [a5Q]
def ltP (p q:LI):Prop:=p.length<q.length\/(p.length=q.length/\bE1 p q=true)
inductive Pa (fr:Int) (nxt:Int->LI):LI->Prop
 |one:Pa fr nxt [fr]
 |snoc {p:LI} {k:Int} (h:Pa fr nxt p) (hk:k ∈ nxt (a5Q p)):Pa fr nxt (p++[k])
def bL7 (ps:List LI) (k:Int):Bool:=ps.any fun q=>decide (a5Q q=k)
def bm8 (p:LI) (ps:List LI) (k:Int):List LI:=if bL7 ps k=true then ps else ps++[p++[k]]
section
variable {fr:Int} {nxt:Int->List Int}
def Pa.pos {p:LI} (h:Pa fr nxt p):0<p.length:=by cases h<;>simp
def Pa.ge (hgt:∀m k,k ∈ nxt m->m<k) {p:LI} (h:Pa fr nxt p):fr<=a5Q p:=by
 induction h with
 |one=>simp [a5Q]
 |snoc h hk ih=>rw [a8a];have:=hgt _ _ hk;omega
def bj8 (nxt:Int->LI) (ps:List LI) (p:LI):List LI:=(nxt (a5Q p)).foldl (bm8 p) ps
def bP5 (nxt:Int->LI) (ps:List LI) (b:Nat):List LI:=(ps.drop b).foldl (bj8 nxt) ps
end
end
def b1O {e:Ev} {bl:List Bool} (m k:Int) (h:k ∈ ar3 e bl m):m<k:=by
 unfold ar3 at h;split at h
 ·obtain ⟨i,z,hz,hP,rfl⟩:=a1n.1 h;simp [aN9] at hP;omega
 ·cases h
def a96 (e:Ev) (i k:Nat):Bool:=match e.moves[i]?,e.moves[k]? with
 |some u,some v=>decide (i<k) && decide (v.src=u.dst) && a5I e u.dst i k
 |_,_=>false
def aL2 {e:Ev} {bl:List Bool} {i j:Nat}:(j:Int) ∈ ar3 e bl i↔a96 e i j=true/\bl.getD j true=false:=by
 unfold ar3 a96;rw [lbY];cases hi:e.moves[i]? with
 |none=>simp
 |some u=>
  simp only;constructor
  ·intro h;obtain ⟨k,z,hz,hP,hk⟩:=a1n.1 h;have:k=j:=om;subst this;rw [U8] at hP;simp only [aN9,lbN,a6P] at hP;rw [hz];exact ⟨by simp only [lbN];exact hP.1,hP.2⟩
  ·rintro ⟨h1,h2⟩;cases hj:e.moves[j]? with
   |none=>rw [hj] at h1;cases h1
   |some v=>
    rw [hj] at h1;refine a1n.2 ⟨j,v,hj,?_,om⟩;rw [U8];simp only [aN9,lbN,a6P];simp only [lbN] at h1;exact ⟨h1,h2⟩
def b8F {e:Ev} {i j:Nat} (h:a96 e i j=true):i<j/\j<e.moves.length:=by
 unfold a96 at h;split at h
 ·rename_i u v hu hv;simp only [lbN,lbI] at h;exact ⟨h.1.1,(lbe.1 hv).1⟩
 ·cases h
def Pa.case {e:Ev} {bl:List Bool} {fr:Nat} {q:LI} (h:Pa fr (ar3 e bl) q) {k:Nat} (hk:a5Q q=k):(q=[(fr:Int)]/\k=fr)\/∃(p:LI) (i:Nat),q=p++[(k:Int)]/\Pa fr (ar3 e bl) p/\a5Q p=i/\fr<=i/\a96 e i k=true/\bl.getD k true=false:=by
 cases h with
 |one=>left;simp [a5Q] at hk;exact ⟨rfl,om⟩
 |@snoc p j hp hj=>
  right
  rw [a8a] at hk;subst hk;have hge:=hp.ge b1O;obtain ⟨i,hi⟩:=a2W (show 0<=a5Q p by omega);rw [hi] at hj;obtain ⟨h1,h2⟩:=aL2.1 hj;exact ⟨p,i,rfl,hp,hi,om,h1,h2⟩
def aG9 {a:List Bool} {i j:Nat} {v:Bool} (h:i<a.length):(a.set i v).getD j false=if j=i then v else a.getD j false:=by
 rw [lbl,lbl];by_cases hj:j=i
 ·subst hj;rw [List.getElem?_set_self h,iA rfl];rfl
 ·rw [List.getElem?_set_ne (Ne.symm hj),iB hj]
def Rch (e:Ev) (bl:List Bool) (m v:Nat):Prop:=∃q,Pa m (ar3 e bl) q/\a5Q q=(v:Int)
def Rch.self {e:Ev} {bl:List Bool} {m:Nat}:Rch e bl m m:=⟨_,.one,rfl⟩
def Rch.ge {e:Ev} {bl:List Bool} {m v:Nat} (h:Rch e bl m v):m<=v:=by
 obtain ⟨q,h1,h2⟩:=h;have:=h1.ge b1O;omega
def Rch.step {e:Ev} {bl:List Bool} {m v k:Nat} (h:Rch e bl m v) (hs:a96 e v k=true) (hb:bl.getD k true=false):Rch e bl m k:=by
 obtain ⟨q,h1,h2⟩:=h;exact ⟨q++[(k:Int)],.snoc h1 (by rw [h2];exact aL2.2 ⟨hs,hb⟩),a8a⟩
def Rch.case {e:Ev} {bl:List Bool} {m k:Nat} (h:Rch e bl m k):k=m\/∃v,Rch e bl m v/\a96 e v k=true/\bl.getD k true=false:=by
 obtain ⟨q,h1,h2⟩:=h;rcases h1.case h2 with ⟨_,h⟩|⟨p,i,_,h4,h5,_,h7,h8⟩
 ·exact .inl h
 ·exact .inr ⟨i,⟨p,h4,h5⟩,h7,h8⟩
def a7K (e:Ev) (bl:List Bool) (m i p:Nat):Prop:=∃(v:Nat) (u:C6),v<i/\e.moves[v]? =some u/\Rch e bl m v/\u.dst=(p:Int)/\a5I e u.dst v i=true
def a7K.reach {e:Ev} {bl:List Bool} {m i:Nat} {x:C6} (hx:e.moves[i]? =some x) (hm:m<i) {p:Nat} (hp:x.src=(p:Int)) (hb:bl.getD i true=false):Rch e bl m i↔a7K e bl m i p:=by
 constructor
 ·intro h;rcases h.case with h|⟨v,h1,h2,_⟩
  ·omega
  ·have h3:=b8F h2;unfold a96 at h2;split at h2
   ·rename_i u w hu hw;rw [hx] at hw;injection hw with hw;subst hw;simp only [lbN,lbI] at h2;exact ⟨v,u,h3.1,hu,h1,by rw [← h2.1.2,hp],h2.2⟩
   ·cases h2
 ·rintro ⟨v,u,h1,h2,h3,h4,h5⟩;refine h3.step ?_ hb;unfold a96;rw [h2,hx];simp only [lbN,lbI];exact ⟨⟨h1,by rw [hp,h4]⟩,h5⟩
def aF2 {a:List Bool} {i j:Nat} (h:i<a.length):(a.set i true).getD j false=true↔j=i\/a.getD j false=true:=by
 rw [aG9 h];split
 ·rename_i hq;simp [hq]
 ·rename_i hq;simp [hq]
def b6k {a:List Bool} {i j:Nat} (h:i<a.length):(a.set i false).getD j false=true↔j≠i/\a.getD j false=true:=by
 rw [aG9 h];split
 ·rename_i hq;simp [hq]
 ·rename_i hq;simp [hq]
theorem atTo_holds {e:Ev} (h0:I1 e=0) {bl:List Bool} {m:Nat} {x0:C6} (hm:e.moves[m]? =some x0):∀k,m+1+k<=e.moves.length->∀p,(a7C e bl m x0.dst.toNat k).getD p false=true↔a7K e bl m (m+1+k) p
 |0,_,p=>by
  have hd:=av8 (R9 h0 (lbm hm));have hl:x0.dst.toNat<(List.replicate e.places.length false).length:=zo;rw [a7C,aF2 hl];have hr:(List.replicate e.places.length false).getD p false=false:=by simp [lbl,lbk];split<;>rfl
  rw [hr];constructor
  ·rintro (h|h)
   ·exact ⟨m,x0,om,hm,.self,om,a8X⟩
   ·cases h
  ·rintro ⟨v,u,h1,h2,h3,h4,h5⟩;have:=h3.ge;obtain rfl:v=m:=om;rw [hm] at h2;injection h2 with h2;subst h2;exact .inl om
 |k+1,hk,p=>by
  have hlt:m+1+k<e.moves.length:=om;obtain ⟨x,hx⟩:∃x,e.moves[m+1+k]? =some x:=⟨_,lbf hlt⟩;have hmo:=R9 h0 (lbm hx);have hsr:=a1t hmo;have hdr:=av8 hmo;have hne:=b5W hmo;have ih:=atTo_holds h0 (bl:=bl) hm k om;have hal:=an7 (e:=e) (bl:=bl) (m:=m) (d:=x0.dst.toNat) k;obtain ⟨s,hs⟩:=a2W hsr.1;obtain ⟨d,hd⟩:=a2W hdr.1;rw [b5E hx];unfold a6G;rw [hs,hd,lbY,lbY];have hsd:s≠d:=om;have old:∀q:Nat,(∃ (v:Nat) (u:C6),v<m+1+k/\e.moves[v]? =some u/\Rch e bl m v/\u.dst=(q:Int)/\a5I e u.dst v (m+1+(k+1))=true)↔a7K e bl m (m+1+k) q/\¬(s=q/\x.all=true):=fun q=>by
   constructor
   ·rintro ⟨v,u,h1,h2,h3,h4,h5⟩;have:=h3.ge;rw [show m+1+(k+1)=m+1+k+1 by omega,af6 hx om,lbN] at h5;refine ⟨⟨v,u,h1,h2,h3,h4,h5.1⟩,?_⟩;rintro ⟨rfl,ha⟩;have h6:=h5.2;rw [ha,h4,hs] at h6;simp at h6
   ·rintro ⟨⟨v,u,h1,h2,h3,h4,h5⟩,h6⟩;refine ⟨v,u,h1,h2,h3,h4,?_⟩;rw [show m+1+(k+1)=m+1+k+1 by omega,af6 hx om,h5,K9];cases ha:x.all with
    |false=>simp
    |true=>
     have:¬s=q:=fun h=>h6 ⟨h,ha⟩
     simp [hs,h4];omega
  have new:∀q:Nat,a7K e bl m (m+1+(k+1)) q↔(a7K e bl m (m+1+k) q/\¬(s=q/\x.all=true))\/(d=q/\Rch e bl m (m+1+k)):=fun q=>by
   rw [← old q];constructor
   ·rintro ⟨v,u,h1,h2,h3,h4,h5⟩;by_cases hv:v=m+1+k
    ·subst hv;rw [hx] at h2;injection h2 with h2;subst h2;exact .inr ⟨om,h3⟩
    ·exact .inl ⟨v,u,om,h2,h3,h4,h5⟩
   ·rintro (⟨v,u,h1,h2,h3,h4,h5⟩|⟨rfl,h⟩)
    ·exact ⟨v,u,om,h2,h3,h4,h5⟩
    ·exact ⟨m+1+k,x,om,hx,h,hd,a8X⟩
  have hrch:Rch e bl m (m+1+k)↔(a7C e bl m x0.dst.toNat k).getD s false=true/\bl.getD (m+1+k) true=false:=by
   constructor
   ·intro h;have hb:bl.getD (m+1+k) true=false:=by
     rcases h.case with h'|⟨v,_,_,h'⟩
     ·omega
     ·exact h'
    exact ⟨(ih s).2 ((a7K.reach hx om hs hb).1 h),hb⟩
   ·rintro ⟨h1,h2⟩;exact (a7K.reach hx om hs h2).2 ((ih s).1 h1)
  rw [new p];cases ha:(a7C e bl m x0.dst.toNat k).getD s false with
  |false=>
   rw [cond_false];have hnr:¬Rch e bl m (m+1+k):=fun h=>by have:=(hrch.1 h).1;rw [ha] at this;cases this
   have hnh:¬a7K e bl m (m+1+k) s:=fun h=>by have:=(ih s).2 h;rw [ha] at this;cases this
   rw [ih p];constructor
   ·intro h;exact .inl ⟨h,fun hq=>hnh (hq.1 ▸ h)⟩
   ·rintro (h|h)
    ·exact h.1
    ·exact absurd h.2 hnr
  |true=>
   rw [cond_true];have hr2:Rch e bl m (m+1+k)↔bl.getD (m+1+k) true=false:=by rw [hrch,ha];simp
   have h1:∀q:Nat,(cond (bl.getD (m+1+k) true) (a7C e bl m x0.dst.toNat k) ((a7C e bl m x0.dst.toNat k).set d true)).getD q false=true↔a7K e bl m (m+1+k) q\/(d=q/\Rch e bl m (m+1+k)):=fun q=>by
    rw [hr2];cases hb:bl.getD (m+1+k) true with
    |true=>rw [cond_true,ih q];simp
    |false=>
     rw [cond_false,aF2 (by rw [hal];omega),ih q];constructor
     ·rintro (h|h)
      ·exact .inr ⟨h.symm,rfl⟩
      ·exact .inl h
     ·rintro (h|h)
      ·exact .inr h
      ·exact .inl h.1.symm
   have hlen:(cond (bl.getD (m+1+k) true) (a7C e bl m x0.dst.toNat k) ((a7C e bl m x0.dst.toNat k).set d true)).length=e.places.length:=by
    cases bl.getD (m+1+k) true<;>simp [hal]
   cases hall:x.all with
   |false=>
    rw [cond_false,h1 p];simp
   |true=>
    rw [cond_true,b6k (by rw [hlen];omega),h1 p];constructor
    ·rintro ⟨h2,h3|h3⟩
     ·exact .inl ⟨h3,fun h=>h2 h.1.symm⟩
     ·exact .inr h3
    ·rintro (⟨h2,h3⟩|⟨h2,h3⟩)
     ·exact ⟨fun h=>h3 ⟨h.symm,rfl⟩,.inl h2⟩
     ·exact ⟨om,.inr ⟨h2,h3⟩⟩
def au3 {p q:LI->Bool} {l:LI} {short:Bool} (h:∀s,s.Sublist l->p s=q s):∀n,J5 p l short n=J5 q l short n
 |0=>rfl
 |n+1=>by
  rw [J5,J5,au3 h n];have:(A9 l n).filter (fun s=>!((J5 q l short n).any fun a=>D6 a s) && p s)=(A9 l n).filter (fun s=>!((J5 q l short n).any fun a=>D6 a s) && q s):=by
   refine aN2 fun s hs=>?_
   rw [h s (I8.1 hs).1]
  rw [this]
def exq (gs:List LI) (s:LI):Bool:=gs.any fun g=>D6 g s
def bI3 (l:LI) (gs bs:List LI):Bool:=(List.range (l.length+1)).all fun k=>(A9 l k).all fun s=>exq gs s || bs.any fun b=>D6 s b
def b2t {t:k8} {kind:Int} {n:Nat} {l:LI} {gs bs:List LI} {short:Bool} {out:List LI} (hl:F7 t kind n=l)
 (hg:∀g ∈ gs,pX t kind n g=true) (hb:∀b ∈ bs,pX t kind n b=false) (hc:bI3 l gs bs=true) (ho:aB9 (exq gs) l short=out):Z1 t kind n short=out:=by
 rw [← ho];unfold Z1 aB9;rw [hl];refine au3 (fun s hs=>?_) _;have h1:=lbv.1 hc s.length (lbB.2 (by have:=hs.length_le;omega));have h2:=lbv.1 h1 s (I8.2 ⟨hs,rfl⟩);cases hq:exq gs s with
 |true=>
  obtain ⟨g,hgm,hp⟩:=lbw.1 hq;exact al4 (a4j.1 hp) (hg g hgm)
 |false=>
  rw [hq,a8y] at h2;obtain ⟨b,hbm,hp⟩:=lbw.1 h2;rw [← lbQ];intro hps;have:=al4 (a4j.1 hp) hps;rw [hb b hbm] at this;cases this
def aX2 {t:k8} {kind:Int} {n:Nat} (h:XT t kind n) {set:LI} (z:List Rat) (hz:k6 (a22 t kind n set) z=true):pX t kind n set=true:=(h.expl set).2 ⟨z,hz⟩
def bs5 {t:k8} {kind:Int} {n:Nat} (h:XT t kind n) {set:LI} (Y:List Rat) (hY:bA7 (a22 t kind n set) Y=true):pX t kind n set=false:=by
 rw [← lbQ];intro hp;obtain ⟨z,hz⟩:=(h.expl set).1 hp;rw [b7U (h.right set) hY z] at hz;cases hz
def aT4 {t:k8} {kind:Int} {n:Nat} (h:ExP t kind n) (out:List Bool) (zs Ys:Nat->List Rat)
 (hc:∀i,i<n->if out.getD i false=true then k6 (p6 t kind) (zs i)=true/\0<n8 (H7 t (i:Int)) (zs i) else b7F (p6 t kind) (E3 (H7 t (i:Int))) (Ys i)=true/\b6t (p6 t kind) (yN (Ys i))=0):
 F7 t kind n=((List.range n).filter fun i=>out.getD i false).map fun i=>((i:Nat):Int):=by
 unfold F7
 congr 1
 refine aN2 fun i hi=>?_
 have hi:=lbB.1 hi;have hh:=hc i hi;have hv:=h.vd (i:Int);cases ho:out.getD i false with
 |true=>
  rw [iA ho] at hh;refine lbH fun h0=>?_
  rw [ax4 h h0 hh.1] at hh;exact absurd hh.2 zk
 |false=>
  rw [iB (by rw [ho];decide)] at hh;refine lbJ fun h0=>h0 ?_
  refine b8T h i fun z hz=>?_
  have h1:=b62 hv.r hv.g hh.1 hh.2 hz;have h2:=hv.pos hz;grind
def exX (a b c:Int) (f:List a1M) (cl:List W9):k8:=⟨⟨1,3,0,[⟨0,0,0⟩,⟨0,1,0⟩,⟨0,2,0⟩,⟨1,-1,-1⟩,⟨5,-1,-1⟩],[⟨a,0,3,-1,0,false⟩,⟨a,1,3,-1,0,false⟩,⟨b,3,4,-1,0,true⟩,⟨c,2,3,-1,0,false⟩],[],[],[]⟩,f,cl⟩
def W8 (f:List a1M) (cl:List W9):k8:=exX 1 2 3 f cl
def a7b (a b c:Int) (f:List a1M) (cl:List W9) (h1:f.length<=20) (h2:cl.length<=20):(exX a b c f cl).Sized:=⟨⟨by simp [exX],by simp [exX],by simp [exX],by simp [exX],by simp [exX]⟩,by simp [exX];omega,by simp [exX];omega⟩
def b7B {a b c:Int} {f:List a1M} {cl:List W9} {kind:Int} (h1:f.length<=20) (h2:cl.length<=20) (he:t9 (exX a b c f cl)=0) (k0:0<=kind) (k1:kind<8):XT (exX a b c f cl) kind 3:=
 ⟨a7b a b c f cl h1 h2,he,k0,k1,by simp [exX],by simp [exX],de,h1⟩
def b9x {a b c:Int} {f:List a1M} {cl:List W9} {kind:Int} (h1:f.length<=20) (h2:cl.length<=20) (he:t9 (exX a b c f cl)=0) (k0:0<=kind) (k1:kind<8) {z:List Rat} (hz:k6 (p6 (exX a b c f cl) kind) z=true):ExP (exX a b c f cl) kind 3:=
 ⟨a7b a b c f cl h1 h2,he,k0,k1,by simp [exX],by simp [exX],bg1 he (by simp [exX]) hz⟩
def fX:a1M:=⟨2,0,5⟩
def zXR (l:LI):List Rat:=l.map fun x=>((x:Int):Rat)
def b3j:t9 (W8 [fX] [])=0:=by decide +kernel
def b22:XT (W8 [fX] []) 0 3:=b7B de de b3j de de
def b2F:ExP (W8 [fX] []) 0 3:=b9x de de b3j de de (z:=zXR [5,0,5,0]) zk
def bz2:F7 (W8 [fX] []) 0 3=[0,1,2]:=by
 rw [aT4 b2F [true,true,true] (fun i=>if i=0 then zXR [5,0,5,0] else if i=1 then zXR [0,5,5,0] else if i=2 then zXR [5,0,5,1] else []) (fun i=>[]) zk]
 rfl
def b4T:pX (W8 [fX] []) 0 3 [0]=true:=aX2 b22 (zXR [5,0,5,0]) zk
def bn3:pX (W8 [fX] []) 0 3 [1]=true:=aX2 b22 (zXR [0,5,5,0]) zk
def aQ3:pX (W8 [fX] []) 0 3 [2]=false:=bs5 b22 (zXR [1,1,-1,-1]) zk
def bv1 (short:Bool):Z1 (W8 [fX] []) 0 3 short=[[0],[1]]:=by
 refine b2t bz2 (gs:=[[0],[1]]) (bs:=[[2]]) (fun g hg=>?_) (fun b hb=>?_) zk (by cases short<;>decide +kernel)
 ·have hg:g=[0]\/g=[1]:=by simpa using hg
  rcases hg with rfl|rfl
  ·exact b4T
  ·exact bn3
 ·have hb:b=[2]:=by simpa using hb
  rcases hb with rfl
  ·exact aQ3
def b9L:t9 (W8 [fX] [⟨0,0⟩])=0:=by decide +kernel
def b9l:XT (W8 [fX] [⟨0,0⟩]) 0 3:=b7B de de b9L de de
def b2M:ExP (W8 [fX] [⟨0,0⟩]) 0 3:=b9x de de b9L de de (z:=zXR [0,5,5,0]) zk
def bz5:F7 (W8 [fX] [⟨0,0⟩]) 0 3=[1,2]:=by
 rw [aT4 b2M [false,true,true] (fun i=>if i=1 then zXR [0,5,5,0] else if i=2 then zXR [0,5,5,1] else []) (fun i=>if i=0 then zXR [-1,0,0] else []) zk]
 rfl
def bb9:pX (W8 [fX] [⟨0,0⟩]) 0 3 [1]=true:=aX2 b9l (zXR [0,5,5,0]) zk
def bi1:pX (W8 [fX] [⟨0,0⟩]) 0 3 [2]=false:=bs5 b9l (zXR [-1,1,1,0,-1]) zk
def bC1 (short:Bool):Z1 (W8 [fX] [⟨0,0⟩]) 0 3 short=[[1]]:=by
 refine b2t bz5 (gs:=[[1]]) (bs:=[[2]]) (fun g hg=>?_) (fun b hb=>?_) zk (by cases short<;>decide +kernel)
 ·have hg:g=[1]:=by simpa using hg
  rcases hg with rfl
  ·exact bb9
 ·have hb:b=[2]:=by simpa using hb
  rcases hb with rfl
  ·exact bi1
def b7G:t9 (W8 [fX] [])=0:=by decide +kernel
def bB0:XT (W8 [fX] []) 1 3:=b7B de de b7G de de
def b2H:ExP (W8 [fX] []) 1 3:=b9x de de b7G de de (z:=zXR [1,0,1,0]) zk
def bG6:F7 (W8 [fX] []) 1 3=[0,1,2]:=by
 rw [aT4 b2H [true,true,true] (fun i=>if i=0 then zXR [1,0,1,0] else if i=1 then zXR [0,1,1,0] else if i=2 then zXR [0,0,0,1] else []) (fun i=>[]) zk]
 rfl
def bp1:pX (W8 [fX] []) 1 3 []=true:=aX2 bB0 (zXR [0,0,0,0]) zk
def by0 (short:Bool):Z1 (W8 [fX] []) 1 3 short=[[]]:=by
 refine b2t bG6 (gs:=[[]]) (bs:=[]) (fun g hg=>?_) (fun b hb=>?_) zk (by cases short<;>decide +kernel)
 ·have hg:g=[]:=by simpa using hg
  rcases hg with rfl
  ·exact bp1
 ·simp at hb
def b9J (l:LI) (n:Int) (hl:l.length<=1000000):ec 22 [j7 l,eI n] [] (m9 (T8 l n)) []:=by
 have m1:(l.map j4).length=l.length:=zq;unfold T8;refine ac Tryz.func22 ?_;conv=>whnf
 repeat' (first|refine zx ?_|apply zD<;>intro<;>try omega)<;>conv=>whnf
 refine k5 g8 (fun k=>([j7 l,eI n,J,J,J,eI k]++Jn 12,[])) l.length (fun k=>(l.take k).any (fun x=>decide (x=n))=false) [] zq
  rz ?_
 intro k hk hI;by_cases hlt:k<l.length
 ·obtain ⟨x,hx⟩:∃x,l[k]? =some x:=⟨_,lbf hlt⟩;by_cases hxn:x=n
  ·have e:l.any (fun x=>decide (x=n))=true:=lbw.2 ⟨x,lbm hx,lbH hxn⟩;rw [e];conv=>whnf
   repeat' (first|refine zx ?_|refine j6 hx ?_|apply zD<;>intro<;>try omega)<;>conv=>whnf
   all_goals first|omega|exact j1 rfl
  ·conv=>whnf
   repeat' (first|refine zx ?_|refine j6 hx ?_|apply zD<;>intro<;>try omega)<;>conv=>whnf
   all_goals first|omega|exact ⟨hlt,by rw [a1z hx,List.any_append,hI];simp [hxn],[],rz⟩
 ·have hke:k=l.length:=by omega
  subst hke;rw [lbn (lbR _)] at hI;rw [hI];conv=>whnf
  repeat' (first|refine zx ?_|apply zD<;>intro<;>try omega)<;>conv=>whnf
  all_goals first|omega|exact j1 rfl
def bh2 (a b:LI) (ha:a.length<=1000000) (hb:b.length<=1000000):ec 52 [j7 a,j7 b] [] (m9 (D6 a b)) []:=by
 have m1:(a.map j4).length=a.length:=zq;refine ac Tryz.func52 ?_;conv=>whnf
 repeat' (first|refine zx ?_|apply zD<;>intro h<;>try omega)<;>conv=>whnf
 refine k5 g8 (fun k=>([j7 a,j7 b,J,J,J,eI k]++Jn 13,[])) a.length (fun k=>(a.take k).all (fun x=>T8 b x)=true) [] zq
  rz ?_
 intro k hk hI;by_cases hlt:k<a.length
 ·obtain ⟨x,hx⟩:∃x,a[k]? =some x:=⟨_,lbf hlt⟩;have hs:=b9J b x hb;cases hq:T8 b x with
  |false=>
   have e:D6 a b=false:=by
    rw [← lbQ];intro h;unfold D6 at h;have:=lbv.1 h x (lbm hx);unfold T8 at hq;rw [hq] at this;cases this
   rw [e];rw [hq] at hs;conv=>whnf
   repeat' (first|refine zx ?_|refine j6 hx ?_|apply zD<;>intro h<;>try omega)<;>conv=>whnf
   all_goals first
    |omega
    |exact j1 rfl
  |true=>
   rw [hq] at hs;conv=>whnf
   repeat' (first|refine zx ?_|refine j6 hx ?_|apply zD<;>intro h<;>try omega)<;>conv=>whnf
   all_goals first|omega|exact ⟨hlt,by rw [a1z hx,a0n,hI];simp [hq],[],rz⟩
 ·have hke:k=a.length:=by omega
  subst hke;rw [lbn (lbR _)] at hI;have e:D6 a b=true:=hI;rw [e];conv=>whnf
  repeat' (first|refine zx ?_|apply zD<;>intro h<;>try omega)<;>conv=>whnf
  all_goals first|omega|exact j1 rfl
def aT8 (a b:List LI) (ha:a.length<=1000000) (hb:b.length<=1000000) (ha2:∀s ∈ a,s.length<=1000000) (hb2:∀s ∈ b,s.length<=1000000):ec 19 [a1o a,a1o b] [] (m9 (decide (a=b))) []:=by
 have l1:(a.map F2).length=a.length:=zq;have l2:(b.map F2).length=b.length:=zq;refine ac Tryz.func19 ?_;conv=>whnf
 repeat' (first|refine zx ?_|apply zD<;>intro h<;>try omega)<;>conv=>whnf
 ·refine j1 (lbJ ?_).symm;intro hab;subst hab;exact h rfl
 have hab:a.length=b.length:=om;refine k5 g8 (fun k=>([a1o a,a1o b,J,J,J,eI k]++Jn 21,[])) a.length (fun k=>a.take k=b.take k) [] rfl
  ⟨rfl,rfl,trivial,⟨m7 rfl,m7 rfl,g9 rfl,trivial⟩⟩ ?_
 intro k hk hI;by_cases hlt:k<a.length
 ·obtain ⟨x,hx⟩:∃x,a[k]? =some x:=⟨_,lbf hlt⟩;obtain ⟨y,hy⟩:∃y,b[k]? =some y:=⟨_,lbf om⟩;have sm:=b3g x y (ha2 x (lbm hx)) (hb2 y (lbm hy));by_cases hxy:x=y
  ·rw [lbH hxy] at sm;conv=>whnf
   repeat' (first|refine zx ?_|refine j6 hx ?_|refine j6 hy ?_|apply zD<;>intro h<;>try omega)<;>conv=>whnf
   all_goals first|omega|exact ⟨hlt,by rw [a1z hx,a1z hy,hI,hxy],[],rfl,rfl,trivial,⟨m7 rfl,m7 rfl,rz⟩⟩
  ·rw [lbJ hxy] at sm;conv=>whnf
   repeat' (first|refine zx ?_|refine j6 hx ?_|refine j6 hy ?_|apply zD<;>intro h<;>try omega)<;>conv=>whnf
   all_goals first|omega|exact j1 (lbJ (by rintro rfl;rw [hx] at hy;injection hy with hy;exact hxy hy)).symm
 ·rw [lbn om,lbn om] at hI;conv=>whnf
  repeat' (first|refine zx ?_|apply zD<;>intro h<;>try omega)<;>conv=>whnf
  all_goals first|omega|exact j1 (lbH hI).symm
def a9n (t:k8) (m:Int):Bool:=a5F t m && decide (t.ev.hhs<=3)
def b91 (t:k8) (m:Int):ec 14 [trS t,eI m] [] (m9 (a9n t m)) []:=by
 have r:=b8X t m;unfold a9n;cases hq:a5F t m<;>rw [hq] at r<;>
 ·refine ac Tryz.func14 ?_;conv=>whnf
  repeat' (first|refine zx ?_|apply zD<;>intro<;>try omega)<;>conv=>whnf
  all_goals
   refine j1 ?_;first|rfl|(symm;simp only [K9,lbI];omega)|(symm;rw [← lbQ];simp only [K9,lbI];omega)
def aC0 {t:k8} {m:Int} (hm:m<=8) (h:a9n t m=true):t.Sized/\t.ev.moves.length<=8/\t.ev.hhs<=3/\t.finds.length<=6/\t.cleans.length<=6:=by
 unfold a9n at h;rw [lbN] at h;obtain ⟨h,h3⟩:=h;have h3:=lbL h3;obtain ⟨s1,s2,s3⟩:=aD8 om h;unfold a5F at h;simp only [lbN,lbI] at h;exact ⟨s1,om,h3,h.1.2,h.2⟩
def bu6:ec 60 [] [] (trS (W8 [fX] [])) []:=by
 refine ac Tryz.func60 ?_;conv=>whnf
 repeat' (first|refine zz ?_|refine a43.weak ?_|apply zD<;>intro<;>try omega|refine zy ?_|fail)<;>conv=>whnf
 exact p7 rz
def aM7 {n:Int}:∀{a:Int} {l:LI},L6 n a l=true->a<=l.getLastD a
 |a,[],_=>zq
 |a,h::r,hh=>by
  rw [L6] at hh;simp only [lbN,lbI] at hh;have ih:=aM7 (a:=h) (l:=r) hh.2;have:(h::r).getLastD a=r.getLastD h:=by cases r<;>rfl
  rw [this];omega
def b86 (e:Ev) (set:LI) (hl:set.length<=1000000):ec 68 [evS e,j7 set] [] (m9 (a0m e.hhs set)) []:=by
 have m1:(set.map j4).length=set.length:=zq
 (refine ac Tryz.func68 ?_;(conv=>whnf);repeat ((first|refine b0x ?_|refine zy ?_);conv=>whnf))
 repeat' (first|refine zx ?_|apply zD<;>intro h<;>try omega)<;>conv=>whnf
 refine k5 g8 (fun k=>([J,j7 set,S.c (C.t (T.ptr (evT e))),J,J,eI k]++Jn 37,[])) set.length (fun k=>L6 e.hhs (-1) (set.take k)=true) [] (by simp [L6])
  ⟨rfl,rfl,trivial,⟨rfl,m7 rfl,g9 rfl,trivial⟩⟩ ?_
 intro k hk hI;by_cases hlt:k<set.length
 ·obtain ⟨x,hx⟩:∃x,set[k]? =some x:=⟨_,lbf hlt⟩;have hs:=K7 hx;have hn:L6 e.hhs (-1) (set.take (k+1))=(decide ((set.take k).getLastD (-1)<x) && decide (x<e.hhs)):=by rw [hs,a6f,hI,K9]
  have hla:=aM7 hI;have hxk:∀{K:List T->Prop},K (j4 x)->∃row,0<=(k:Int)/\(set.map j4)[(k:Int).toNat]? =some row/\K row:=fun h=>⟨_,om,by rw [show (k:Int).toNat=k by omega,lba,hx];rfl,h⟩
  by_cases hk0:k=0
  ·subst hk0;have hla0:(set.take 0).getLastD (-1)=-1:=zq;rw [hla0] at hn;by_cases h1:(-1:Int)<x/\x<e.hhs
   ·rw [lbH h1.1,lbH h1.2] at hn;conv=>whnf
    repeat' (first|refine zx ?_|refine j6 hx ?_|apply zD<;>intro h<;>try omega)<;>conv=>whnf
    all_goals first|omega|exact ⟨hlt,hn,[],rfl,rfl,trivial,⟨rfl,rfl,g9 om,trivial⟩⟩
   ·have hn:L6 e.hhs (-1) (set.take (0+1))=false:=by
     rw [hn];by_cases h2:(-1:Int)<x
     ·rw [lbJ (show ¬x<e.hhs from fun h=>h1 ⟨h2,h⟩)];simp
     ·rw [lbJ h2];simp
    rw [a75 hn];conv=>whnf
    repeat' (first|refine zx ?_|refine j6 hx ?_|apply zD<;>intro h<;>try omega)<;>conv=>whnf
    all_goals first|omega|exact j1 rfl
  ·obtain ⟨y,hy⟩:∃y,set[k - 1]? =some y:=⟨_,lbf om⟩;have hly:(set.take k).getLastD (-1)=y:=by
    have h2:=K7 hy;rw [show k - 1+1=k by omega] at h2;rw [h2];simp
   rw [hly] at hn hla;have ek:(bif true then if 0 > (k:Int) - 1 then 0 else (k:Int) - 1 else if 0<(k:Int) - 1 then 0 else (k:Int) - 1)=((k - 1:Nat):Int):=by simp only [cond];split<;>omega
   by_cases h1:y<x/\x<e.hhs
   ·rw [lbH h1.1,lbH h1.2] at hn;conv=>whnf
    repeat' (first|refine zx ?_|refine j6 hx ?_|refine S4 (by rw [ek];omega) (by rw [ek];omega) ?_|refine N4 ek hy ?_|apply zD<;>intro h<;>try omega)<;>conv=>whnf
    all_goals first|omega|exact ⟨hlt,hn,[],rfl,rfl,trivial,⟨rfl,rfl,g9 om,trivial⟩⟩
   ·have hn:L6 e.hhs (-1) (set.take (k+1))=false:=by
     rw [hn];by_cases h2:y<x
     ·rw [lbJ (show ¬x<e.hhs from fun h=>h1 ⟨h2,h⟩)];simp
     ·rw [lbJ h2];simp
    rw [a75 hn];conv=>whnf
    repeat' (first|refine zx ?_|refine j6 hx ?_|refine S4 (by rw [ek];omega) (by rw [ek];omega) ?_|refine N4 ek hy ?_|apply zD<;>intro h<;>try omega)<;>conv=>whnf
    all_goals first|omega|exact j1 rfl
 ·rw [lbn om] at hI;have:a0m e.hhs set=true:=hI;rw [this];conv=>whnf
  repeat' (first|refine zx ?_|apply zD<;>intro h<;>try omega)<;>conv=>whnf
  all_goals first|omega|exact j1 rfl
abbrev b9z:Blk:={ mode:=.live,elem:=70,size:=2,rows:=[[F4 (.int .i64 0),F4 (.slice none 0 0)]],box:=true }
def a8U:L4 b9z.rows:=j3 [[ti 0,.sl 0 .nil []]]
def b8W (t:k8) (kind:Int) (n:Nat) (hx:XT t kind n) (set:LI) (hl:set.length<=1000000):
 ec 70 [trS t,U9 (p6 t kind),j7 set] [] (U9 (a22 t kind n set)) []:=by
 have hs:=hx.s;have hh:=hx.h;have hn4:=hx.h4;have hm:=hx.m;have hlen:=hx.len set;have i0:=a5S 0 de de;have i1:=a5S 1 de de;have rl0:(p6 t kind).rows.length<=700:=by
  have:(p6 t kind).rows.length<=(a3x t kind n set).length:=by unfold a3x;rw [lbq];omega
  omega
 have m3:((p6 t kind).rows.map v5).length=(p6 t kind).rows.length:=zq;have e9:(p6 t kind).rows++C7 t set n=a3x t kind n set:=rfl;have e0:(p6 t kind).rows++C7 t set 0=(p6 t kind).rows:=by simp [C7]
 (refine ac Tryz.func70 ?_;(conv=>whnf);repeat ((first|refine b0x ?_|refine zy ?_);conv=>whnf))
 repeat' (first|refine zx ?_|refine a1e rfl zu ?_|apply zD<;>intro h<;>try omega)<;>conv=>whnf
 refine k5 g8 (fun q=>([J,J,j7 set,S.c (C.t (T.ptr (trT t))),J,J,sP 0 0 0,sP 2 0 0,eI q]++Jn 46,[b9z,V6 ((p6 t kind).rows++C7 t set q),a6O t.ev.moves.length 1 ((p6 t kind).rows++C7 t set q).length])) n tT [some 0,some 1,some 2] trivial
  ⟨rfl,rfl,⟨j8 a8U,i6 (rows:=((p6 t kind).rows++C7 t set 0).map v5) rfl rfl rfl (by rw [e0];rfl) rfl,⟨rfl,rfl,rfl,.inr ⟨⟨rfl,⟨rfl,rfl,by rw [e0];simp [toC],fun h=>h⟩,trivial⟩,trivial⟩⟩,trivial⟩,⟨rfl,m7 rfl,rz,rz,g9 rfl,trivial⟩⟩ ?_
 intro q hk _;by_cases hlt:q<n
 ·have sc:=b9J set (q:Int) hl;have li:=b0g t.ev hs.ev (q:Int) (-1) 0 100000;cases hin:T8 set (q:Int) with
  |true=>
   rw [hin] at sc;rw [as9 hin];conv=>whnf
   repeat' (first|refine zx ?_|apply zD<;>intro h<;>try omega)<;>conv=>whnf
   all_goals first
    |omega
    |exact ⟨hlt,trivial,[some 0,some 1,some 2],rfl,rfl,⟨j8 a8U,j8 (j3 _),⟨rfl,rfl,rfl,.inr ⟨⟨rfl,⟨rfl,rfl,rfl,fun h=>h⟩,trivial⟩,trivial⟩⟩,trivial⟩,⟨rfl,rfl,rz,rz,g9 om,trivial⟩⟩
  |false=>
   rw [hin] at sc;rw [ag7 hin,←lbD];have hll:(a1l t (q:Int)).length<=t.ev.moves.length:=a3i;have hrl:((p6 t kind).rows++C7 t set q).length<=700:=by
    have h1:=a3C (t:=t) (set:=set) q;have h2:=O1 (t:=t) (kind:=kind) t.ev.moves.length;have h3:t.ev.moves.length*(2+t.finds.length+t.cleans.length)<=8*72:=lbT hx.m (by have:=hx.f;have:=hx.c;omega);have h4:q*t.ev.moves.length<=6*8:=lbT om hx.m;have h5:(p6 t kind).rows.length<=8*72:=lbS h2 h3;rw [lbq];omega
   have li:ec 80 [evS t.ev,eI (q:Int),eI (-1),eI 0,eI 100000] [] (j7 (a1l t (q:Int))) []:=li;generalize a1l t (q:Int)=l at li hll;have m2:(l.map j4).length=l.length:=zq;generalize hR:(p6 t kind).rows++C7 t set q=R at hrl;conv=>whnf
   repeat' (first|refine zx ?_|apply zD<;>intro h<;>try omega)<;>conv=>whnf
   all_goals try omega
   refine k5 g8 (fun i=>([J,J,j7 set,S.c (C.t (T.ptr (trT t))),J,J,sP 0 0 0,sP 2 0 0,eI q,j7 l,eI i]++Jn 44,[b9z,V6 (R++C9 (l.take i)),a6O t.ev.moves.length 1 (R++C9 (l.take i)).length])) l.length tT [some 0,some 1,some 2] trivial
    ⟨rfl,rfl,⟨j8 a8U,i6 (rows:=(R++C9 (l.take 0)).map v5) rfl rfl rfl (by simp [C9]) rfl,⟨rfl,rfl,rfl,.inr ⟨⟨rfl,⟨rfl,rfl,by simp [C9],fun h=>h⟩,trivial⟩,trivial⟩⟩,trivial⟩,⟨rfl,rfl,rz,rz,rfl,rfl,g9 rfl,trivial⟩⟩ ?_
   intro i hik _;have hzl:(C9 (l.take i)).length<=l.length:=by simp [C9];omega
   by_cases hil:i<l.length
   ·obtain ⟨x,hxi⟩:∃x,l[i]? =some x:=⟨_,lbf hil⟩;rw [a7I hxi,←lbD];have lA:(R++C9 (l.take i)).length<=(V6 (R++C9 (l.take i))).rows.length:=by show _<=(toC _).length;simp [toC]
    have lB:(R++C9 (l.take i)).length<=800:=by rw [lbq];omega
    generalize R++C9 (l.take i)=R2 at lA lB;conv=>whnf
    repeat' (first|refine zz ?_|refine qp i0 ?_|refine qp i1 ?_|refine a43.weak ?_|refine j6 hxi ?_|refine z6 lA zu ?_|refine bl0 [0,1] ?_|apply zD<;>intro h<;>try omega|refine zy ?_|fail)<;>conv=>whnf
    all_goals first|omega|skip
    all_goals
     (refine ⟨hil,trivial,[some 0,some 3,some 2],rfl,rfl,⟨j8 a8U,i6 (rows:=(R2++[(⟨[(x,((1:Int):Rat))],2,((0:Int):Rat)⟩:C5)]).map v5) rfl rfl rfl ?_ rfl,⟨rfl,rfl,rfl,.inr ⟨⟨rfl,⟨rfl,rfl,?_,fun h=>h⟩,trivial⟩,trivial⟩⟩,trivial⟩,⟨rfl,rfl,rz,rz,rfl,rfl,g9 om,trivial⟩⟩
      ·exact S9 (f:=v5) (x:=(⟨[(x,((1:Int):Rat))],2,((0:Int):Rat)⟩:C5)) rfl
      ·simp [toC])
   ·have hie:i=l.length:=by omega
    subst hie;rw [lbn (lbR _)];conv=>whnf
    repeat' (first|refine zx ?_|apply zD<;>intro h<;>try omega)<;>conv=>whnf
    all_goals first|omega|exact ⟨hlt,trivial,[some 0,some 1,some 2],rfl,rfl,⟨j8 a8U,j8 (j3 _),⟨rfl,rfl,rfl,.inr ⟨⟨rfl,⟨rfl,rfl,rfl,fun h=>h⟩,trivial⟩,trivial⟩⟩,trivial⟩,⟨rfl,rfl,rz,rz,g9 om,trivial⟩⟩
 ·have hqe:q=n:=by omega
  subst hqe;rw [e9];have er:a3x t kind q set=(a22 t kind q set).rows:=rfl;rw [er];conv=>whnf
  repeat' (first|refine zx ?_|apply zD<;>intro h<;>try omega)<;>conv=>whnf
  all_goals first|omega|exact p7 ⟨rfl,(show VC _ (fun id=>M3 [] id=true) (C.own 1 0 _ true) (a04 (a22 t kind q set).rows) from w6 (k:=V6 (a22 t kind q set).rows) rfl rfl (fun h=>h) rfl rfl zq),trivial⟩
def ay9 (t:k8) (kind:Int) (hs:t.Sized) (h:a0o t kind≠0) (set:LI):ec 21 [trS t,eI kind,j7 set] [] (m9 false) []:=by
 have sy:=a4F t kind hs;refine ac Tryz.func21 ?_;conv=>whnf
 repeat' (first|refine zx ?_|refine bl0 [5] ?_|apply zD<;>intro h<;>try omega)<;>conv=>whnf
 all_goals first|omega|exact j1 rfl
def af8 (t:k8) (kind:Int) (n:Nat) (hx:XT t kind n) (set:LI) (hl:set.length<=1000000):
 ec 21 [trS t,eI kind,j7 set] [] (m9 (a0m t.ev.hhs set && pX t kind n set)) []:=by
 have sy:=a4F t kind hx.s;have k0:=hx.k0;have k1:=hx.k1;have ht:=hx.e;have hc:¬(t9 t≠0\/kind<0\/8<=kind):=om;have e1:a0o t kind=0:=iB hc;have e2:a6J t kind=p6 t kind:=iB hc;rw [e1,e2] at sy;have is:=b86 t.ev set hl;have al:=b8W t kind n hx set hl;obtain ⟨b,hb,pc⟩:=a2r _ (hx.small set);have hbp:b=pX t kind n set:=by
  rw [Bool.eq_iff_iff,hb,hx.expl set]
 rw [hbp] at pc;generalize a0m t.ev.hhs set=b1 at is;generalize pX t kind n set=b2 at pc;cases b1<;>cases b2<;>
 ·refine ac Tryz.func21 ?_;conv=>whnf
  repeat' (first|refine zx ?_|refine bl0 [5] ?_|apply zD<;>intro<;>try omega)<;>conv=>whnf
  all_goals first|omega|(exfalso;contradiction)|exact j1 rfl
def ai1 (l:LI) (m:Nat):Nat->List LI
 |0=>[]
 |i+1=>match l[i]? with
  |none=>ai1 l m i
  |some x=>ai1 l m i++(A9 (l.drop (i+1)) m).map (x::·)
def aH2 {l:LI} {m i:Nat} {x:Int} (h:l[i]? =some x):ai1 l m (i+1)=ai1 l m i++(A9 (l.drop (i+1)) m).map (x::·):=by rw [ai1,h]
def aq6 {l:LI} {m:Nat}:∀i,i<=l.length->A9 l (m+1)=ai1 l m i++A9 (l.drop i) (m+1)
 |0,_=>by rw [ai1,a9e,a6s]
 |i+1,h=>by
  obtain ⟨x,hx⟩:∃x,l[i]? =some x:=⟨_,lbf om⟩;rw [aq6 i om,aH2 hx,lbD]
  congr 1
  have:l.drop i=x::l.drop (i+1):=by
   rw [a3k om]
   congr 1
   rw [lbf om] at hx;injection hx
  rw [this]
  rfl
def b9O {l:LI} {m:Nat}:ai1 l m l.length=A9 l (m+1):=by
 rw [aq6 l.length (lbR _),List.drop_length];simp [A9]
def a2z:∀(l:LI) (n:Nat),(A9 l n).length<=2 ^ l.length
 |l,0=>by simp only [A9,List.length_singleton];exact Nat.one_le_two_pow
 |[],n+1=>by simp [A9]
 |x::r,n+1=>by
  simp only [A9,lbq,lbr,lbu];have h1:=a2z r n;have h2:=a2z r (n+1);rw [Nat.pow_succ];omega
def b8M {l:LI} {m i:Nat} (h:i<=l.length):(ai1 l m i).length<=2 ^ l.length:=by
 have h1:=aq6 (m:=m) i h;have h2:=a2z l (m+1);rw [h1,lbq] at h2;omega
abbrev aA2 (l:List LI):Blk:={ mode:=.live,elem:=33,size:=1,rows:=toC (l.map F2),box:=false }
def bp2 {l:LI} (h:l.length<=8):2 ^ l.length<=256:=by
 have:2 ^ l.length<=2 ^ 8:=a82 de h;omega
def b55:∀(n:Nat) (l:LI),l.length<=8->n<=8->ec 63 [j7 l,eI n] [] (a1o (A9 l n)) []
 |0,l,hl,_=>by
  have e:A9 l 0=[[]]:=by cases l<;>rfl
  rw [e];refine ac Tryz.func63 ?_;conv=>whnf
  repeat' (first|refine zz ?_|refine a43.weak ?_|apply zD<;>intro h<;>try omega|refine zy ?_|fail)<;>conv=>whnf
  all_goals first
   |omega
   |exact p7 rfl
 |n+1,l,hl,hn=>by
  have ih:=fun (r:LI) (hr:r.length<=8)=>b55 n r hr om
  have m1:(l.map j4).length=l.length:=zq;refine ac Tryz.func63 ?_;conv=>whnf
  repeat' (first|refine zx ?_|apply zD<;>intro h<;>try omega)<;>conv=>whnf
  all_goals try omega
  refine k5 g8 (fun i=>([j7 l,eI (n+1:Nat),J,J,J,S.c (C.own 0 0 (ai1 l n i).length true),eI i]++Jn 39,[aA2 (ai1 l n i)])) l.length tT [none] trivial
   ⟨rfl,rfl,rz,⟨rfl,g9 rfl,rz,g9 rfl,trivial⟩⟩ ?_
  intro i hi _;by_cases hlt:i<l.length
  ·obtain ⟨x,hx⟩:∃x,l[i]? =some x:=⟨_,lbf hlt⟩;have se:=ih (l.drop (i+1)) (by rw [a3K];omega);have eA:List.drop ((i:Int)+1).toNat (List.take (((l.map j4).length:Nat):Int).toNat (l.map j4))=(l.drop (i+1)).map j4:=by
    rw [show (((l.map j4).length:Nat):Int).toNat=(l.map j4).length by omega,W6,show ((i:Int)+1).toNat=i+1 by omega,List.map_drop]
   have eN:(((n+1:Nat):Nat):Int) - 1=(n:Int):=om;have se:ec 63 [.c (.t (T.sl 1 (a1A SK.any none none) (List.drop ((i:Int)+1).toNat (List.take (((l.map j4).length:Nat):Int).toNat (l.map j4))))),eI ((((n+1:Nat):Nat):Int) - 1)] [] (a1o (A9 (l.drop (i+1)) n)) []:=by
    rw [eA,eN];exact se
   have hpl:=b8M (l:=l) (m:=n) (i:=i) om;have hrl:=a2z (l.drop (i+1)) n;have hp8:=bp2 hl;have hp9:=bp2 (l:=l.drop (i+1)) (by rw [a3K];omega);rw [aH2 hx];generalize ai1 l n i=P at hpl;have hrn:∀s ∈ A9 (l.drop (i+1)) n,s.length<=8:=fun s hs=>by have:=(I8.1 hs).2;omega
   generalize A9 (l.drop (i+1)) n=R at se hrl hrn;have m2:(R.map F2).length=R.length:=zq;conv=>whnf
   repeat' (first|refine zx ?_|refine aI5 om om om ?_|apply zD<;>intro h<;>try omega)<;>conv=>whnf
   all_goals try omega
   refine k5 g8 (fun k=>([j7 l,eI (n+1:Nat),J,J,J,S.c (C.own 0 0 (P++(R.take k).map (x::·)).length true),eI i,a1o R,eI k]++Jn 37,[aA2 (P++(R.take k).map (x::·))])) R.length tT [some 0] trivial
    ⟨rfl,rfl,⟨i6 (rows:=(P++(R.take 0).map (x::·)).map F2) rfl rfl rfl zq rfl,trivial⟩,⟨rfl,rfl,⟨rfl,rfl,zq,fun h=>h⟩,rfl,rfl,g9 rfl,trivial⟩⟩ ?_
   intro k hk _;by_cases hkl:k<R.length
   ·obtain ⟨r,hr⟩:∃r,R[k]? =some r:=⟨_,lbf hkl⟩;have hr8:=hrn r (lbm hr);have es:(R.take (k+1)).map (x::·)=(R.take k).map (x::·)++[x::r]:=by rw [K7 hr];simp
    have lA:(P++(R.take k).map (x::·)).length<=600:=by rw [lbq,lbr,lbs];omega
    rw [es,←lbD];generalize P++(R.take k).map (x::·)=P2 at lA;cases r with
    |nil=>
     conv=>whnf
     repeat' (first|refine zz ?_|refine j6 hx ?_|refine j6 hr ?_|refine a43.own ?_|refine z6 (lbR 1) zt ?_|refine z6 zt zu ?_|refine a1Q (lbR 1) ?_|refine bl0 [0,1,2,3,4,5] ?_|refine bl0 [0] ?_|apply zD<;>intro h<;>try omega|refine zy ?_|fail)<;>conv=>whnf
     all_goals try omega
     refine ⟨hkl,trivial,[some 4],rfl,rfl,⟨⟨rfl,rfl,rfl,.inr ?_⟩,trivial⟩,⟨rfl,rfl,⟨rfl,rfl,by simp [F8],fun h=>h⟩,rfl,rfl,g9 om,trivial⟩⟩;have e1:toC ((P2++[[x]]).map F2)=toC (P2.map F2)++[[C.t (v6 ([x]))]]:=by simp [toC,F2]
     show a4R _ _ (List.take P2.length (toC (P2.map F2))++[[C.own 2 0 _ true]]) (toC ((P2++[[x]]).map F2));rw [lbn (l:=toC (P2.map F2)) zt,e1];refine ab5 ?_;refine (show VC _ (fun id=>M3 [some 4] id=true) (C.own 2 0 _ true) (v6 ([x])) from w6 (k:={ mode:=.live,elem:=3,size:=1,rows:=List.take 1 [[C.t (ti x)]]++toC [],box:=false }) rfl rfl (fun h=>h) rfl ?_ ?_)
     ·simp [F8,toC,j4]
     ·simp [toC]
    |cons y r=>
     conv=>whnf
     repeat' (first|refine zx ?_|refine j6 hx ?_|refine j6 hr ?_|refine ⟨⟨.inr ⟨zt,rfl⟩,by simp [toC];simp at hr8;omega⟩,?_⟩|refine a1Q (lbR 1) ?_|refine z6 zt zu ?_|refine bl0 [0] ?_|apply zD<;>intro h<;>try omega)<;>conv=>whnf
     all_goals try omega
     refine ⟨hkl,trivial,[some 3],rfl,rfl,⟨⟨rfl,rfl,rfl,.inr ?_⟩,trivial⟩,⟨rfl,rfl,⟨rfl,rfl,by simp [F8],fun h=>h⟩,rfl,rfl,g9 om,trivial⟩⟩;have e1:toC ((P2++[x::y::r]).map F2)=toC (P2.map F2)++[[C.t (v6 (x::y::r))]]:=by simp [toC,F2]
     show a4R _ _ (List.take P2.length (toC (P2.map F2))++[[C.own 1 0 _ true]]) (toC ((P2++[x::y::r]).map F2));rw [lbn (l:=toC (P2.map F2)) zt,e1];refine ab5 ?_;refine (show VC _ (fun id=>M3 [some 3] id=true) (C.own 1 0 _ true) (v6 (x::y::r)) from w6 (k:={ mode:=.live,elem:=3,size:=1,rows:=toC [[ti x]]++toC ((y::r).map j4),box:=false }) rfl rfl (fun h=>h) rfl ?_ ?_)
     ·simp [F8,toC,j4]
     ·simp [toC];omega
   ·have hke:k=R.length:=by omega
    subst hke;rw [lbn (lbR _)];conv=>whnf
    repeat' (first|refine zx ?_|apply zD<;>intro h<;>try omega)<;>conv=>whnf
    all_goals first|omega|exact ⟨hlt,trivial,[some 0],rfl,rfl,⟨j8 (j3 _),trivial⟩,⟨rfl,rfl,⟨rfl,rfl,rfl,fun h=>h⟩,g9 om,trivial⟩⟩
  ·have hie:i=l.length:=by omega
   subst hie;rw [b9O];conv=>whnf
   repeat' (first|refine zx ?_|apply zD<;>intro h<;>try omega)<;>conv=>whnf
   all_goals first|omega|exact N3 rfl (fun h=>h) rfl rfl zq
def a5J (t:k8) (kind e:Int) (he:e≠0) (st:ec 29 [trS t,eI kind] [] (.tup [j7 [],eI e]) []):ec 62 [trS t,eI kind] [] (.tup [j7 [],eI e]) []:=by
 refine ac Tryz.func62 ?_;conv=>whnf
 repeat' (first|refine zx ?_|apply zD<;>intro<;>try omega)<;>conv=>whnf
 all_goals first|omega|exact p7 rz
def az1 (t:k8) (kind:Int) (n:Nat) (hx:ExP t kind n) (hn:n<=8):ec 62 [trS t,eI kind] [] (.tup [j7 (F7 t kind n),eI 0]) []:=by
 have st:=aO8 t kind n hx om;have sl:=a3e t kind n;have m1:((stL t kind n).map j4).length=n:=by simp [ak4]
 refine ac Tryz.func62 ?_;conv=>whnf
 repeat' (first|refine zx ?_|apply zD<;>intro h<;>try omega)<;>conv=>whnf
 all_goals try omega
 refine k5 g8 (fun k=>(Jn 6++[j7 (stL t kind n),J,S.c (C.own 0 0 (F7 t kind k).length true),eI k]++Jn 28,[w7 (F7 t kind k)])) n tT [none] trivial
  ⟨rfl,rfl,rz,⟨rfl,rz,g9 rfl,trivial⟩⟩ ?_
 intro k hk _;have slk:=a3e t kind k;have lA:(F7 t kind k).length<=(w7 (F7 t kind k)).rows.length:=by show _<=(toC _).length;simp [toC]
 by_cases hlt:k<n
 ·have hv:=bf6 (t:=t) (kind:=kind) hlt;have e1:=aG5 t kind k;rw [e1];generalize N7 t kind k=v at hv e1;by_cases hst:v≠0
  ·rw [iA hst];conv=>whnf
   repeat' (first|refine zx ?_|refine j6 hv ?_|refine z6 lA zu ?_|apply zD<;>intro h<;>try omega)<;>conv=>whnf
   all_goals first
    |omega
    |(refine ⟨hlt,trivial,[some 1],rfl,rfl,⟨i6 (rows:=(F7 t kind k++[(k:Int)]).map j4) rfl rfl rfl ?_ rfl,trivial⟩,⟨rfl,⟨rfl,rfl,?_,fun h=>h⟩,g9 om,trivial⟩⟩
      ·exact S9 (f:=j4) (x:=(k:Int)) rfl
      ·simp [toC])
  ·rw [iB hst];conv=>whnf
   repeat' (first|refine zx ?_|refine j6 hv ?_|apply zD<;>intro h<;>try omega)<;>conv=>whnf
   all_goals first|omega|exact ⟨hlt,trivial,[some 0],rfl,rfl,⟨j8 (j3 _),trivial⟩,⟨rfl,⟨rfl,rfl,rfl,fun h=>h⟩,g9 om,trivial⟩⟩
 ·have hke:k=n:=by omega
  subst hke;conv=>whnf
  repeat' (first|refine zx ?_|apply zD<;>intro h<;>try omega)<;>conv=>whnf
  all_goals first|omega|exact p7 ⟨(show VC _ (fun id=>M3 [] id=true) (C.own 0 0 _ true) _ from w6 (k:=w7 (F7 t kind k)) rfl rfl (fun h=>h) rfl rfl zq),rz⟩
def a6k (t:k8) (kind e:Int) (he:e≠0) (st:ec 62 [trS t,eI kind] [] (.tup [j7 [],eI e]) []):ec 18 [trS t,eI kind] [] (.tup [a1o [],eI e]) []:=by
 refine ac Tryz.func18 ?_;conv=>whnf
 repeat' (first|refine zx ?_|apply zD<;>intro<;>try omega)<;>conv=>whnf
 all_goals first|omega|exact p7 rz
def aC1 (t:k8) (kind e:Int) (he:e≠0) (st:ec 18 [trS t,eI kind] [] (.tup [a1o [],eI e]) []):ec 16 [trS t,eI kind] [] (.tup [a1o [],eI e]) []:=by
 refine ac Tryz.func16 ?_;conv=>whnf
 repeat' (first|refine zx ?_|apply zD<;>intro<;>try omega)<;>conv=>whnf
 all_goals first|omega|exact p7 rz
def tkS (p:LI->Bool) (M R:List LI) (i:Nat):List LI:=(R.take i).filter fun s=>!(M.any fun a=>D6 a s) && p s
def b7Z {p:LI->Bool} {M R:List LI} {i:Nat} {s:LI} (h:R[i]? =some s):tkS p M R (i+1)=if (!(M.any fun a=>D6 a s) && p s)=true then tkS p M R i++[s] else tkS p M R i:=by
 unfold tkS;rw [K7 h,a5O];by_cases hp:(!(M.any fun a=>D6 a s) && p s)=true
 ·rw [iA hp,as4,iA hp,aX6]
 ·rw [iB hp,as4,iB hp,aX6,Z3]
def bl5 {p:LI->Bool} {l:LI} (hl:l.Pairwise (·<·)) {M:List LI} {q i:Nat} {s:LI} (h:(A9 l q)[i]? =some s):
 ((M++tkS p M (A9 l q) i).any fun a=>D6 a s)=M.any fun a=>D6 a s:=by
 rw [List.any_append];have:(tkS p M (A9 l q) i).any (fun a=>D6 a s)=false:=by
  rw [List.any_eq_false];intro a ha hpa;have ha:=(lby.1 ha).1;obtain ⟨j,hj,hja⟩:=a0r ha;rw [lbs] at hj;have haj:(A9 l q)[j]? =some a:=by
   rw [List.getElem_take] at hja;rw [lbf om,hja]
  have sa:=I8.1 (lbm haj);have ss:=I8.1 (lbm h);have hsub:=a9s (ak7 hl sa.1) (ak7 hl ss.1) (a4j.1 hpa);have he:a=s:=hsub.eq_of_length (by rw [sa.2,ss.2]);subst he;have hpw:=b38.1 (a9P (n:=q) hl);have hi:=(lbe.1 h).1;have h1:=hpw j i om hi om;have e1:(A9 l q)[j]' om=a:=by rw [lbf om] at haj;injection haj
  have e2:(A9 l q)[i]=a:=by rw [lbf hi] at h;injection h
  rw [e1,e2,b0V] at h1;cases h1
 rw [this,Bool.or_false]
def bf5 {p:LI->Bool} {l:LI} {q:Nat}:J5 p l false q++tkS p (J5 p l false q) (A9 l q) (A9 l q).length=J5 p l false (q+1):=by
 rw [ad6];unfold tkS;rw [W6]
def a9Z {p:LI->Bool} {l:LI}:∀q,(J5 p l false q).length<=q*2 ^ l.length
 |0=>by simp [J5]
 |q+1=>by
  rw [ad6,lbq];have h1:=a9Z (p:=p) (l:=l) q;have h2:=lbt (fun s=>!((J5 p l false q).any fun a=>D6 a s) && p s) (A9 l q);have h3:=a2z l q;rw [lbV];omega
def b7J {t:k8} {kind:Int} {n:Nat} {s:LI} (h:s.Sublist (F7 t kind n)):a0m (n:Int) s=true:=by
 refine b2G.2 ⟨(a9E t kind n).sublist h,fun x hx=>?_⟩;obtain ⟨i,rfl,hi,_⟩:=b1I.1 (h.subset hx);omega
def a7M (t:k8) (kind:Int) (n:Nat) (hE:ExP t kind n) (hx:XT t kind n):ec 18 [trS t,eI kind] [] (.tup [a1o (Z1 t kind n false),eI 0]) []:=by
 have hn6:=hx.h4;have hh:=hx.h;have su:=az1 t kind n hE om;have sl:=a3e t kind n;have hasc:=a9E t kind n;have hset:=fun (s:LI) (h:s.Sublist (F7 t kind n))=>b7J h
 unfold Z1 aB9;generalize F7 t kind n=l at su sl hasc hset;have m1:(l.map j4).length=l.length:=zq;have p8:=bp2 (l:=l) om;obtain ⟨p,hp⟩:∃p,p=pX t kind n:=⟨_,rfl⟩;rw [← hp]
 (refine ac Tryz.func18 ?_;(conv=>whnf);repeat ((first|refine b0x ?_|refine zy ?_);conv=>whnf))
 repeat' (first|refine zx ?_|apply zD<;>intro h<;>try omega)<;>conv=>whnf
 all_goals try omega
 refine k5 g8 (fun q=>([J,eI kind,S.c (C.t (T.ptr (trT t))),J,J,J,j7 l,J,S.c (C.own 0 0 (J5 p l false q).length true),eI q]++Jn 65,[aA2 (J5 p l false q)])) (l.length+1) tT [none] trivial
  ⟨rfl,rfl,rz,⟨rfl,m7 rfl,rfl,rz,g9 rfl,trivial⟩⟩ ?_
 intro q hq _;by_cases hlt:q<l.length+1
 ·have se:=b55 q l om om;have hml:=a9Z (p:=p) (l:=l) q;have hmb:q*2 ^ l.length<=7*256:=lbT om p8;have hmem:∀a ∈ J5 p l false q,a.length<=1000:=fun a ha=>by have:=(a11.1 ha).2.1;omega
  rw [← bf5];have hR:∀(i:Nat) (s:LI),(A9 l q)[i]? =some s->(∀ M:List LI,((M++tkS p M (A9 l q) i).any fun a=>D6 a s)=M.any fun a=>D6 a s)/\s.Sublist l/\s.length=q:=fun i s h=>⟨fun M=>bl5 hasc h,(I8.1 (lbm h)).1,(I8.1 (lbm h)).2⟩
  have hsl:=a2z l q;generalize A9 l q=R at se hR hsl;generalize J5 p l false q=M at hml hmem;have m2:(R.map F2).length=R.length:=zq;conv=>whnf
  repeat' (first|refine zx ?_|apply zD<;>intro h<;>try omega)<;>conv=>whnf
  all_goals try omega
  refine k5 g8 (fun i=>([J,eI kind,S.c (C.t (T.ptr (trT t))),J,J,J,j7 l,J,S.c (C.own 0 0 (M++tkS p M R i).length true),eI q,a1o R,eI i]++Jn 63,[aA2 (M++tkS p M R i)])) R.length tT [some 0] trivial
   ⟨rfl,rfl,⟨i6 (rows:=(M++tkS p M R 0).map F2) rfl rfl rfl (by simp [tkS]) rfl,trivial⟩,⟨rfl,rfl,rfl,⟨rfl,rfl,by simp [tkS],fun h=>h⟩,rfl,rfl,g9 rfl,trivial⟩⟩ ?_
  intro i hi _;by_cases hil:i<R.length
  ·obtain ⟨s,hs⟩:∃s,R[i]? =some s:=⟨_,lbf hil⟩;obtain ⟨q1,q2,q3⟩:=hR i s hs;have q1:=q1 M;have hsb:=hset s q2;have ex:=af8 t kind n hx s om;rw [hh,hsb,K9,←hp] at ex;rw [b7Z hs];have hel:(tkS p M R i).length<=R.length:=lbS (lbt _ _) (by rw [lbs];omega);have helm:∀a ∈ tkS p M R i,a.length<=1000:=fun a ha=>by
    have ha:=(lby.1 ha).1;obtain ⟨j,hj⟩:=aq1.1 (af5 ha);have:=(hR j a hj).2.2;omega
   generalize hW:M++tkS p M R i=W at q1;have hWl:W.length<=5000:=by rw [← hW,lbq];omega
   have hWm:∀a ∈ W,a.length<=1000:=fun a ha=>by
    rw [← hW] at ha;rcases lbz.1 ha with h|h
    ·exact hmem a h
    ·exact helm a h
   have eW:(M++if (!(M.any fun a=>D6 a s) && p s)=true then tkS p M R i++[s] else tkS p M R i)=if (!(W.any fun a=>D6 a s) && p s)=true then W++[s] else W:=by
    rw [q1];split
    ·rw [← hW,lbD]
    ·exact hW
   rw [eW];have m3:(W.map F2).length=W.length:=zq;conv=>whnf
   repeat' (first|refine zx ?_|apply zD<;>intro h<;>try omega)<;>conv=>whnf
   all_goals try omega
   refine k5 g8 (fun k=>([J,eI kind,S.c (C.t (T.ptr (trT t))),J,J,J,j7 l,J,S.c (C.own 0 0 W.length true),eI q,a1o R,eI i,m9 ((W.take k).any fun a=>D6 a s),eI k]++Jn 61,[aA2 W])) W.length tT [some 0] trivial
    ⟨rfl,rfl,⟨j8 (j3 _),trivial⟩,⟨rfl,rfl,rfl,⟨rfl,rfl,rfl,fun h=>h⟩,rfl,rfl,rfl,rfl,g9 rfl,trivial⟩⟩ ?_
   intro k hk _;by_cases hkl:k<W.length
   ·obtain ⟨a,ha⟩:∃a,W[k]? =some a:=⟨_,lbf hkl⟩;have pa:=bh2 a s (by have:=hWm a (lbm ha);omega) om;have ea:(W.take (k+1)).any (fun a=>D6 a s)=((W.take k).any (fun a=>D6 a s) || D6 a s):=by rw [K7 ha,List.any_append];simp
    rw [ea];have ga:(W.map F2)[0+(k:Int).toNat]? =some (F2 a):=by rw [show 0+(k:Int).toNat=k by omega,lba,ha];rfl
    have exa:∀{K:List C->Prop},K ((F2 a).map C.t)->∃row,(aA2 W).rows[0+(k:Int).toNat]? =some row/\K row:=fun h=>⟨_,by show (toC (W.map F2))[0+(k:Int).toNat]? =_;rw [toC,lba,ga];rfl,h⟩
    generalize (W.take k).any (fun a=>D6 a s)=b1;generalize D6 a s=b2 at pa;cases b1<;>cases b2<;>
    ·conv=>whnf
     repeat' (first|refine zx ?_|refine exa ?_|refine j6 hs ?_|apply zD<;>intro h<;>try omega)<;>conv=>whnf
     all_goals first|omega|exact ⟨hkl,trivial,[some 0],rfl,rfl,⟨j8 (j3 _),trivial⟩,⟨rfl,rfl,rfl,⟨rfl,rfl,rfl,fun h=>h⟩,rfl,rfl,rfl,rfl,g9 om,trivial⟩⟩
   ·have hke:k=W.length:=by omega
    subst hke;rw [lbn (lbR _)];have lA:W.length<=(aA2 W).rows.length:=by show _<=(toC _).length;simp [toC]
    generalize (W.any fun a=>D6 a s)=b1;generalize p s=b2 at ex;cases b1<;>cases b2
    all_goals
     simp only [aq9,Bool.not_false,K9,a2i,if_true,a7N,if_false];conv=>whnf
     repeat' (first|refine zx ?_|refine j6 hs ?_|refine z6 lA zu ?_|apply zD<;>intro h<;>try omega)<;>conv=>whnf
    all_goals first
     |omega
     |(exfalso;contradiction)
     |exact ⟨hil,trivial,[some 0],rfl,rfl,⟨j8 (j3 _),trivial⟩,⟨rfl,rfl,rfl,⟨rfl,rfl,rfl,fun h=>h⟩,rfl,rfl,g9 om,trivial⟩⟩
     |(refine ⟨hil,trivial,[some 1],rfl,rfl,⟨i6 (rows:=(W++[s]).map F2) rfl rfl rfl ?_ rfl,trivial⟩,⟨rfl,rfl,rfl,⟨rfl,rfl,by simp [toC],fun h=>h⟩,rfl,rfl,g9 om,trivial⟩⟩
       exact S9 (f:=F2) (x:=s) rfl)
  ·have hie:i=R.length:=by omega
   subst hie;conv=>whnf
   repeat' (first|refine zx ?_|apply zD<;>intro h<;>try omega)<;>conv=>whnf
   all_goals first|omega|exact ⟨hlt,trivial,[some 0],rfl,rfl,⟨j8 (j3 _),trivial⟩,⟨rfl,rfl,rfl,⟨rfl,rfl,rfl,fun h=>h⟩,g9 om,trivial⟩⟩
 ·have hqe:q=l.length+1:=by omega
  subst hqe;conv=>whnf
  repeat' (first|refine zx ?_|apply zD<;>intro h<;>try omega)<;>conv=>whnf
  all_goals first|omega|exact p7 ⟨(show VC _ (fun id=>M3 [] id=true) (C.own 0 0 _ true) _ from w6 (k:=aA2 (J5 p l false (l.length+1))) rfl rfl (fun h=>h) rfl rfl zq),rz⟩
def lnF (m:Nat) (L:List LI):List LI:=L.filter fun s=>decide (s.length=m)
def b8B {m:Nat} {L:List LI} {k:Nat} {s:LI} (h:L[k]? =some s):lnF m (L.take (k+1))=if s.length=m then lnF m (L.take k)++[s] else lnF m (L.take k):=by
 unfold lnF;rw [K7 h,a5O,as4];by_cases hs:s.length=m
 ·rw [iA hs,iA (by simp [hs]),aX6]
 ·rw [iB hs,iB (by simp [hs]),aX6,Z3]
def az0 {t:k8} {kind:Int} {n:Nat} (h:ExP t kind n):∃s0,(Z1 t kind n false)[0]? =some s0/\lnF s0.length (Z1 t kind n false)=Z1 t kind n true:=by
 obtain ⟨rest,h1,h2,h3,h4⟩:=bO8 h;obtain ⟨s0,r,hs⟩:∃s0 r,Z1 t kind n true=s0::r:=by
  cases hm:Z1 t kind n true with
  |nil=>exact absurd hm h2
  |cons a b=>exact ⟨a,b,rfl⟩
 refine ⟨s0,by rw [h1,hs];rfl,?_⟩;have hs0:s0 ∈ Z1 t kind n true:=by rw [hs];simp
 unfold lnF;rw [h1,a5O];have e1:(Z1 t kind n true).filter (fun s=>decide (s.length=s0.length))=Z1 t kind n true:=List.filter_eq_self.2 fun a ha=>lbH (h3 a ha s0 hs0)
 have e2:rest.filter (fun s=>decide (s.length=s0.length))=[]:=by
  rw [List.filter_eq_nil_iff];intro b hb;have:=h4 s0 hs0 b hb;simp;omega
 rw [e1,e2,Z3]
def b4Y {t:k8} {kind:Int} {n:Nat} (hn:n<=6):(Z1 t kind n false).length<=2000/\∀s ∈ Z1 t kind n false,s.length<=1000:=by
 have sl:=a3e t kind n;have h1:=a9Z (p:=pX t kind n) (l:=F7 t kind n) ((F7 t kind n).length+1);have p8:=bp2 (l:=F7 t kind n) om;have h2:((F7 t kind n).length+1)*2 ^ (F7 t kind n).length<=7*256:=lbT om p8;exact ⟨by show (J5 _ _ _ _).length<=_;omega,fun s hs=>by have:=(a11.1 hs).2.1;omega⟩
def aS6 (t:k8) (kind:Int) (n:Nat) (hE:ExP t kind n) (hx:XT t kind n):ec 16 [trS t,eI kind] [] (.tup [a1o (Z1 t kind n true),eI 0]) []:=by
 have mi:=a7M t kind n hE hx;obtain ⟨s0,h0,he⟩:=az0 hE;obtain ⟨sz1,sz2⟩:=b4Y (t:=t) (kind:=kind) hx.h4;rw [← he];generalize Z1 t kind n false=L at mi h0 sz1 sz2;have m1:(L.map F2).length=L.length:=zq;obtain ⟨m,hm⟩:∃m,m=s0.length:=⟨_,rfl⟩;rw [← hm];refine ac Tryz.func16 ?_;conv=>whnf
 repeat' (first|refine zx ?_|apply zD<;>intro h<;>try omega)<;>conv=>whnf
 all_goals try omega
 refine k5 g8 (fun k=>(Jn 6++[a1o L,J,S.c (C.own 0 0 (lnF m (L.take k)).length true),eI k]++Jn 33,[aA2 (lnF m (L.take k))])) L.length tT [none] trivial
  ⟨rfl,rfl,rz,⟨rfl,rz,g9 rfl,trivial⟩⟩ ?_
 intro k hk _;by_cases hlt:k<L.length
 ·obtain ⟨s,hs⟩:∃s,L[k]? =some s:=⟨_,lbf hlt⟩;have e1:=b8B (m:=m) hs;have hl:=lbt (fun s=>decide (s.length=m)) (L.take k);have hl:(lnF m (L.take k)).length<=L.length:=lbS hl (by rw [lbs];omega);have m2:(s.map j4).length=s.length:=zq;have m3:(s0.map j4).length=s0.length:=zq;rw [e1];generalize lnF m (L.take k)=W at hl;have lA:W.length<=(aA2 W).rows.length:=by show _<=(toC _).length;simp [toC]
  have ex0:∀{K:List T->Prop},K (F2 s0)->∃row,0<=(0:Int)/\(L.map F2)[(0:Int).toNat]? =some row/\K row:=fun h=>⟨_,om,by rw [show (0:Int).toNat=0 from rfl,lba,h0];rfl,h⟩
  by_cases hsm:s.length=m
  ·rw [iA hsm];conv=>whnf
   repeat' (first|refine zx ?_|refine j6 hs ?_|refine j6 h0 ?_|refine N4 (n:=0) rfl h0 ?_|refine z6 lA zu ?_|apply zD<;>intro h<;>try omega)<;>conv=>whnf
   all_goals first
    |omega
    |(refine ⟨hlt,trivial,[some 1],rfl,rfl,⟨i6 (rows:=(W++[s]).map F2) rfl rfl rfl ?_ rfl,trivial⟩,⟨rfl,⟨rfl,rfl,by simp [toC],fun h=>h⟩,g9 om,trivial⟩⟩
      exact S9 (f:=F2) (x:=s) rfl)
  ·rw [iB hsm];conv=>whnf
   repeat' (first|refine zx ?_|refine j6 hs ?_|refine j6 h0 ?_|refine N4 (n:=0) rfl h0 ?_|apply zD<;>intro h<;>try omega)<;>conv=>whnf
   all_goals first|omega|exact ⟨hlt,trivial,[some 0],rfl,rfl,⟨j8 (j3 _),trivial⟩,⟨rfl,⟨rfl,rfl,rfl,fun h=>h⟩,g9 om,trivial⟩⟩
 ·have hke:k=L.length:=by omega
  subst hke;rw [lbn (lbR _)];conv=>whnf
  repeat' (first|refine zx ?_|apply zD<;>intro h<;>try omega)<;>conv=>whnf
  all_goals first|omega|exact p7 ⟨(show VC _ (fun id=>M3 [] id=true) (C.own 0 0 _ true) _ from w6 (k:=aA2 (lnF m L)) rfl rfl (fun h=>h) rfl rfl zq),rz⟩
def b81 {t:k8} {kind:Int} {r:Nat} (hr:H9 (p6 t kind) []=.row r):∀z,k6 (p6 t kind) z=false:=a5a hr
def ae6 (t:k8) (kind:Int) (hs:t.Sized) (hm:t.ev.moves.length<=8) (hh:t.ev.hhs<=6) (hf:t.finds.length<=20) (h:a5c t kind≠0):ec 62 [trS t,eI kind] [] (.tup [j7 [],eI (a5c t kind)]) []:=by
 rcases b1t (kind:=kind) hs hm hh hf with h1|⟨h1,r,hr⟩|⟨n,hE,hx⟩
 ·rw [a4w h1];exact a5J t kind 1 de (aE0 t kind hs h1)
 ·rw [a1v h1 hr];obtain ⟨k1,k2,k3⟩:=T6.1 h1;exact a5J t kind 15 de (ah9 t kind hs k1 k2 k3 hm (b81 hr))
 ·exact absurd (a3A hE) h
def b3n (t:k8) (kind:Int) (hs:t.Sized) (hm:t.ev.moves.length<=8) (hh:t.ev.hhs<=6) (hf:t.finds.length<=20):ec 18 [trS t,eI kind] [] (.tup [a1o (a4A t kind false),eI (a5c t kind)]) []:=by
 by_cases h:a5c t kind=0
 ·rcases b1t (kind:=kind) hs hm hh hf with h1|⟨h1,r,hr⟩|⟨n,hE,hx⟩
  ·rw [a4w h1] at h;cases h
  ·rw [a1v h1 hr] at h;cases h
  ·rw [a3h hE,a3A hE];exact a7M t kind n hE hx
 ·rw [a2E h];exact a6k t kind _ h (ae6 t kind hs hm hh hf h)
def b5v (t:k8) (kind:Int) (hs:t.Sized) (hm:t.ev.moves.length<=8) (hh:t.ev.hhs<=6) (hf:t.finds.length<=20):ec 16 [trS t,eI kind] [] (.tup [a1o (a4A t kind true),eI (a5c t kind)]) []:=by
 by_cases h:a5c t kind=0
 ·rcases b1t (kind:=kind) hs hm hh hf with h1|⟨h1,r,hr⟩|⟨n,hE,hx⟩
  ·rw [a4w h1] at h;cases h
  ·rw [a1v h1 hr] at h;cases h
  ·rw [a3h hE,a3A hE];exact aS6 t kind n hE hx
 ·rw [a2E h];exact aC1 t kind _ h (a6k t kind _ h (ae6 t kind hs hm hh hf h))
def aW4 (t:k8) (kind:Int) (hs:t.Sized) (hm:t.ev.moves.length<=8) (hh:t.ev.hhs<=6) (hf:t.finds.length<=20) (set:LI) (hl:set.length<=1000000):ec 21 [trS t,eI kind,j7 set] [] (m9 (at6 t kind set)) []:=by
 unfold at6;by_cases h:a0o t kind=0
 ·obtain ⟨k1,k2,k3⟩:=T6.1 h;have hhs:=(a34 (F3 k1).1).2.2.1;have e:t.ev.hhs=((t.ev.hhs.toNat:Nat):Int):=om;rw [lbH h,K9];exact af8 t kind t.ev.hhs.toNat ⟨hs,k1,k2,k3,hm,e,om,hf⟩ set hl
 ·rw [lbJ h,a2i,a2i];exact ay9 t kind hs h set
def b3A (s:LI) (h:a0m 3 s=true):at6 (W8 [fX] []) 0 s=pX (W8 [fX] []) 0 3 s:=by
 unfold at6;rw [lbH (T6.2 ⟨b3j,de,de⟩)];show (true && a0m 3 s && pX (W8 [fX] []) 0 3 s)=_;rw [h];rfl
def b6g:ec 13 [] [] (m9 true) []:=by
 have e1:=bu6;have zA:(W8 [fX] []).Sized:=a7b _ _ _ _ _ de de;have zB:(W8 [fX] [⟨0,0⟩]).Sized:=a7b _ _ _ _ _ de de;have f1:=b0c (W8 [fX] []) 0 zA de de de;have m1:=a7t (W8 [fX] []) 0 zA de de de;have m2:=a7t (W8 [fX] [⟨0,0⟩]) 0 zB de de de;have m3:=a7t (W8 [fX] []) 1 zA de de de;rw [a3h b2F,a3A b2F,bv1] at f1 m1;rw [a3h b2M,a3A b2M,bC1] at m2;rw [a3h b2H,a3A b2H,by0] at m3;have x1:=a3Q (W8 [fX] []) 0 zA de de de [0,2] de;have x2:=a3Q (W8 [fX] []) 0 zA de de de [2] de;have x3:=a3Q (W8 [fX] []) 0 zA de de de [] de;rw [b3A _ de,al4 (show [0] ⊆ [(0:Int),2] by decide) b4T] at x1;rw [b3A _ de,aQ3] at x2;have hn:pX (W8 [fX] []) 0 3 []=false:=by
  rw [← lbQ];intro h;have:=al4 (show [] ⊆ [(2:Int)] by decide) h;rw [aQ3] at this;cases this
 rw [b3A _ de,hn] at x3;have s1:=aT8 [[0],[1]] [[0],[1]] de de de de;have s2:=aT8 [[1]] [[1]] de de de de;rw [show decide ([[(0:Int)],[1]]=[[0],[1]])=true from rfl] at s1;rw [show decide ([[(1:Int)]]=[[1]])=true from rfl] at s2;refine ac Tryz.func13 ?_;conv=>whnf
 have r0:([[]]:List LI)[0]? =some []:=rfl
 repeat' (first|refine zz ?_|refine qp e1 ?_|refine qp f1 ?_|refine qp m1 ?_|refine qp m2 ?_|refine qp m3 ?_|refine qp x1 ?_|refine qp x2 ?_|refine qp x3 ?_|refine qp s1 ?_|refine qp s2 ?_|refine qp fX ?_|refine qp ?_|refine a43.weak ?_|refine j6 r0 ?_|refine .inl ⟨_,_,a07 x1 ⟨b4p (trT (W8 [fX] [])),a0Y (a8i rfl),a0Y (a8i rfl),trivial⟩ rfl,?_⟩|refine .inl ⟨_,_,a07 x2 ⟨b4p (trT (W8 [fX] [])),a0Y (a8i rfl),a0Y (a8i rfl),trivial⟩ rfl,?_⟩|refine .inl ⟨_,_,a07 x3 ⟨b4p (trT (W8 [fX] [])),a0Y (a8i rfl),a0Y (a8i rfl),trivial⟩ rfl,?_⟩|apply zD<;>intro h<;>try omega|refine zy ?_|fail)<;>conv=>whnf
 all_goals first|omega|(exfalso;contradiction)|exact j1 rfl
def b1w {t:k8} {kind:Int} (hs:t.Sized) (hm:t.ev.moves.length<=8) (hh:t.ev.hhs<=6) (hf:t.finds.length<=20) (short:Bool):(a4A t kind short).length<=2000/\∀s ∈ a4A t kind short,s.length<=1000:=by
 rcases b1t (kind:=kind) hs hm hh hf with h|⟨h,r,hr⟩|⟨n,hE,hx⟩
 ·rw [a2E (by rw [a4w h];decide)];exact ⟨zq,zq⟩
 ·rw [a2E (by rw [a1v h hr];decide)];exact ⟨zq,zq⟩
 ·rw [a3h hE];have h0:=b4Y (t:=t) (kind:=kind) hx.h4;cases short with
  |false=>exact h0
  |true=>
   obtain ⟨s0,_,he⟩:=az0 hE;rw [← he];exact ⟨lbS (lbt _ _) h0.1,fun s hs=>h0.2 s (lby.1 hs).1⟩
def a8W (a:List LI) (h:a.length<=2000/\∀s ∈ a,s.length<=1000):ec 19 [a1o a,a1o a] [] (m9 true) []:=by
 have:=aT8 a a om om (fun s hs=>by have:=h.2 s hs;omega) (fun s hs=>by have:=h.2 s hs;omega);rw [lbH rfl] at this;exact this
def av4 (t:k8) (kind:Int) (set:LI):ec 3 [trS t,eI kind,j7 set] [] (m9 true) []:=by
 have sa:=b6g;have sm:=b91 t 6;have m2:(set.map j4).length=set.length:=zq;cases hsm:a9n t 6 with
 |false=>
  rw [hsm] at sm;refine ac Tryz.func3 ?_;conv=>whnf
  repeat' (first|refine zx ?_|apply zD<;>intro<;>try omega)<;>conv=>whnf
  all_goals first
   |omega
   |(exfalso;contradiction)
   |exact j1 rfl
 |true=>
 rw [hsm] at sm;by_cases hl:6<set.length
 ·refine ac Tryz.func3 ?_;conv=>whnf
  repeat' (first|refine zx ?_|apply zD<;>intro<;>try omega)<;>conv=>whnf
  all_goals first|omega|(exfalso;contradiction)|exact j1 rfl
 obtain ⟨s1,s2,s3,s4,s5⟩:=aC0 de hsm;have fe:=b0c t kind s1 s2 om om;have mi:=a7t t kind s1 s2 om om;have fr:=b5v t kind s1 s2 om om;have mr:=b3n t kind s1 s2 om om;have ex:=a3Q t kind s1 s2 om om set om;have er:=aW4 t kind s1 s2 om om set om;have sf:=a8W _ (b1w (kind:=kind) s1 s2 om om true);have sn:=a8W _ (b1w (kind:=kind) s1 s2 om om false);generalize at6 t kind set=b at *;cases b<;>
 ·refine ac Tryz.func3 ?_;conv=>whnf
  repeat' (first|refine zx ?_|apply zD<;>intro<;>try omega)<;>conv=>whnf
  all_goals first|omega|(exfalso;contradiction)|exact j1 rfl
section
open Go.RowKit Go.ChangeShapes Go.WideShapes Go.Deep
section
variable {H:Type} {enc:TypeId × Value->H} {P:Program}
def aD6 (hl:laidOutB P=true) {W W':World} {sp:Nat->Bool}:∀{ts:List TypeId} {vs:List Value} {ds:List (DataW H)} {ps:List MemPlace},(∀ t ∈ ts,P.readableRec t=true/\t<P.types.size)->
 DataW.TrodAll enc P W 0 (fun _=>true) true ts vs ds ps->(∀ p ∈ ps,W.sameAt W' p)->(∀ p ∈ ps,sp p.block=true)->DataW.TrodAll enc P W' 0 sp true ts vs ds ps:=by
 intro ts;induction ts with
 |nil=>
  intro vs ds ps _ h _ _;obtain ⟨rfl,rfl,rfl⟩:=trodAll_nil h;exact trodAll_mk0
 |cons t ts ih=>
  intro vs ds ps hr h hsame hs;obtain ⟨v,vs',d,ds',p,q,rfl,rfl,rfl,h1,h2⟩:=trodAll_cons h;obtain ⟨ht,hlt⟩:=hr t zq;exact trodAll_cons_mk (WideElems.Trod_stays hl ht hlt h1 (fun x hx=>hsame x (by simp [hx])) (fun x hx=>hs x (by simp [hx]))) (ih (fun t ht=>hr t (by simp [ht])) h2 (fun x hx=>hsame x (by simp [hx])) (fun x hx=>hs x (by simp [hx])))
def b92 {f:Func} {s:ChangeSpec} {fresh handsOn:Bool} {W W':World} {args:Array Value} {ds gs:List (DataW H)} {before:List MemPlace} {tb:TypeId}
 (hW:DataW.Whole enc P f.params.toList s.vars false W args.toList ds gs before) (hl:laidOutB P=true) (hr:∀t ∈ f.params.toList,P.readableRec t=true/\t<P.types.size) (hv:s.vars=[])
 (hfn:s.fn H (ds++gs)={ results:=[.lit (.bool true)],args:=ds }) (hres:f.resultTypes=#[tb]) (hbool:P.underlying tb=some .bool) (hb:Below W.heap.size W W'):
 s.post enc P f false fresh handsOn false W args (.bool true) W':=by
 have hW':=hW;obtain ⟨p,q,hA,hV,rfl,hfz,hnd⟩:=hW;rw [hv] at hV;obtain ⟨rfl,rfl⟩:=trodVars_none hV;have hlt:∀x ∈ p,x.block<W.heap.size:=fun x hx=>by have:=hW'.lt x (by simpa using hx);simpa using this
 refine ⟨ds,[],p++[],[],p,[],hW',?_,?_,?_,hb.frame _,fun h=>by cases h⟩
 ·rw [hfn,hres];exact trodAll_mk1 (shut_bool hbool true)
 ·rw [hfn];exact aD6 hl hr hA (fun x hx=>hb.same (hlt x hx)) (fun x hx=>by simpa using hlt x hx)
 ·rw [hv,hfn];exact rfl
def Rd.of_each {α:Type} {k:Nat} {f:α->List Value} {w:World} {b off:Nat}:∀(n:Nat),(∀ i,i<n->∃x:α,∀j u,(f x)[j]? =some u->w.cell? ⟨b,off+(i*k+j),none⟩=some u)->∃xs,Rd k f w (some ⟨b,off,none⟩) n xs:=by
 intro n;induction n with
 |zero=>intro _;exact ⟨[],Rd.nil _⟩
 |succ n ih=>
  intro h;obtain ⟨xs,hx⟩:=ih (fun i hi=>h i om);obtain ⟨x,hxn⟩:=h n om;have hl:=hx.len;refine ⟨xs++[x],by simp [← hl],fun _=>⟨b,off,rfl,fun i y hy j u hu=>?_⟩⟩;by_cases hi:i<xs.length
  ·rw [lbb hi] at hy;obtain ⟨b',off',e,hc⟩:=hx.2 om;injection e with e;injection e with e1 e2;subst e1 e2;exact hc i y hy j u hu
  ·have hi2:i=n:=by
    have:=(lbe.1 hy).1;simp at this;omega
   subst hi2;have hy2:x=y:=by
    rw [lbc om,←hl] at hy;simpa using hy
   subst hy2;exact hxn j u hu
variable {w:World} {base:Nat} {spare:Nat->Bool} {held:Bool}
def b6q {α:Type} (f:α->Value) {t e:TypeId} {fuel:Nat} {v:Value} {x:DataW H × List MemPlace} (ht:P.underlying t=some (.slice e)) (hC:P.cellsOf e=1)
 (hdec:∀(u:Value) y n,DataW.trod enc P w base spare held n e [u]=some y->∃x:α,u=f x)
 (h:DataW.trod enc P w base spare held fuel t [v]=some x):∃A n c xs,v=.slice A n c/\Rd 1 (fun x=>[f x]) w A n xs/\n<=c/\c<=maxLen:=by
 rcases open_slice ht h with ⟨h0,_⟩|⟨a,len,cap,m,n,D,Pl,hcs,hb,hl,hm,hmm,hx,hi⟩
 ·injection h0 with h0;exact ⟨none,0,0,[],h0,Rd.nil _,lbR _,by unfold maxLen;omega⟩
 ·injection hcs with hv;by_cases hz:len=0
  ·subst hz;exact ⟨some a,0,cap,[],hv,Rd.nil _,hl,hm⟩
  have hlm:len<=m:=by rw [hmm];split<;>omega
  have key:∀i,i<m->∃x:α,w.cell? (a.add i)=some (f x):=by
   intro i him;obtain ⟨cs',hc,ht'⟩:=hi i him;rw [hC,Nat.mul_one] at hc;obtain ⟨_,hcl,hat⟩:=World.cells?_some hc
   match cs',hcl with
   |[u],_=>
    obtain ⟨x,rfl⟩:=hdec u _ _ ht';exact ⟨x,by have:=hat 0 om;rw [Go.Deep.add_add,b0p] at this;simpa using this⟩
  obtain ⟨x0,hu0⟩:=key 0 om;have hspot:a.spot=none:=by
   have:=World.cell?_spot hu0;simpa [Addr.add] using this
  obtain ⟨b,off,sp⟩:=a;simp only at hspot;subst hspot;have hadd:∀k,(⟨b,off,none⟩:Addr).add k=⟨b,off+k,none⟩:=by
   intro k;unfold Addr.add;split
   ·subst_vars;rfl
   ·rfl
  obtain ⟨xs,hxs⟩:=Rd.of_each (k:=1) (f:=fun x=>[f x]) (w:=w) (b:=b) (off:=off) len (fun i hil=>by
   obtain ⟨x,hx⟩:=key i om;rw [hadd] at hx;refine ⟨x,fun j u hu=>?_⟩
   match j,hu with
   |0,hu=>simp at hu;subst hu;simpa using hx)
  exact ⟨_,len,cap,xs,hv,hxs,hl,hm⟩
end
end
section
open Go.RowKit Go.ChangeShapes Go.WideShapes Go.Deep
section
variable {H:Type} {enc:TypeId × Value->H} {w:World} {base:Nat} {spare:Nat->Bool} {held:Bool}
def bi8 {k:TypeId} (hk:Tryz.prog.underlying k=some (.int .i64)) {u:Value} (h:∃y n,DataW.trod enc Tryz.prog w base spare held n k [u]=some y):∃a:Int,u=.int .i64 a:=by
 obtain ⟨y,n,h⟩:=h;obtain ⟨a,e,_,_⟩:=DataW.trod_int hk h;injection e with e;exact ⟨a,e⟩
end
def bm0:ownKnob Tryz.prog.godebug=none:=by kernel_rfl
def b71:laidOutB Tryz.prog=true:=by kernel_rfl
end
def b7f {α:Type} {k:Nat} {f:α->List Value} {row:α->List T} (hrow:∀x,row x=(f x).map T.atm) (hone:∀x,∀v ∈ f x,v.oneCell'=true) (hk:∀x,(f x).length=k)
 {w:World} {A:Option Addr} {n c:Nat} {xs:List α} (h:Rd k f w A n xs) (h1:n<=c) (h2:c<=maxLen):RT w (fun _=>False) (.sl k .any (xs.map row)) (.slice A n c):=by
 obtain ⟨hn,hc⟩:=h;have hlen:(xs.map row).length=n:=by simp [hn]
 rw [← hlen];have hat:∀i j t,at2 (xs.map row) i j=some t->∃x v,xs[i]? =some x/\(f x)[j]? =some v/\t=.atm v:=fun i j t ht=>by
  obtain ⟨r,q1,q2⟩:=J0 ht;rw [lba] at q1;cases hx:xs[i]? with
  |none=>rw [hx] at q1;cases q1
  |some x=>
   rw [hx] at q1;injection q1 with q1;subst q1;rw [hrow,lba] at q2;cases hv:(f x)[j]? with
   |none=>rw [hv] at q2;cases q2
   |some v=>rw [hv] at q2;injection q2 with q2;exact ⟨x,v,rfl,hv,q2.symm⟩
 rcases a4m n with h0|h0
 ·have hx:xs=[]:=lbF om;subst hx;exact .sl (b:=0) (off:=0) (fun _ _=>undef) zq zq h2 zi zi zq (by simp [at2]) (by simp [at2])
 ·obtain ⟨b,off,hA,hcell⟩:=hc h0;refine .sl (b:=b) (off:=off) (fun i j=>((xs[i]?).bind fun x=>(f x)[j]?).getD undef) ?_ om h2 zi zi (fun _=>hA) ?_ ?_
  ·intro r hr;obtain ⟨x,_,rfl⟩:=lbx.1 hr;rw [hrow,lbr,hk]
  ·intro i j t ht;obtain ⟨x,v,hx,hv,rfl⟩:=hat i j t ht;exact ⟨by rw [hcell i x hx j v hv];simp [hx,hv],fun h=>h⟩
  ·intro i j t ht;obtain ⟨x,v,hx,hv,rfl⟩:=hat i j t ht;have:((xs[i]?).bind fun x=>(f x)[j]?).getD undef=v:=by simp [hx,hv]
   rw [this];exact .atm (hone x v (lbm hv))
def bw4 {w:World} {n:Int}:RS w (fun _=>none) (fun _=>False) (eI n) (.int .i64 n):=RS.int
inductive aE3 (w:World):List S->List Value->Prop
 |nil:aE3 w [] []
 |cons {s:S} {v:Value} {ss:List S} {vs:List Value} (h:RS w (fun _=>none) (fun _=>False) s v) (hs:aE3 w ss vs):aE3 w (s::ss) (v::vs)
def aE3.get {w:World} {ss:List S} {vs:List Value} (h:aE3 w ss vs):vs.length=ss.length/\∀(j:Nat) (s:S),ss[j]? =some s->RS w (fun _=>none) (fun _=>False) s (vs.getD j undef):=by
 induction h with
 |nil=>exact ⟨rfl,zq⟩
 |cons h hs ih=>
  refine ⟨by simp [ih.1],fun j s hj=>?_⟩;cases j with
  |zero=>simp at hj;subst hj;exact h
  |succ j=>simpa using ih.2 j s (by simpa using hj)
def aT5 {P:Program} {g:FuncId} {ss:List S} {b:Bool} (h:e8 P g ss [] (m9 b) []) {w:World} {vs:List Value} (ha:aE3 w ss vs):
 Calls P g vs.toArray w fun e w'=>e=.returned (.bool b)/\Below w.heap.size w w':=by
 obtain ⟨h1,h2⟩:=ha.get;refine Calls.mono (h.2 w (fun _=>none) (fun _=>False) vs h1 h2 ⟨zq,zq,zq,zq,zq⟩ (fun _ h=>h.elim) (fun _ _=>rfl)) ?_;rintro e w' ⟨v,rfl,ι',M',q1,q2,q3,q4,q5⟩;rw [q1.inv_atm];exact ⟨rfl,q5.os,q5.tape,q5.output,q5.size,fun k hk=>q5.keep k hk zC⟩
open Go.RowKit Go.ChangeShapes Go.WideShapes Go.ChangeAt
def b6w {P:Program} {f:FuncId} {fn:Func} {s:ChangeSpec} {c:OpenClaim}
 (h1:c.wf (OpenSpec.ofChange s)=true) (h2:laidOutB P=true) (h3:mapsRowed P=true) (h4:fn.params.all (P.readableRec ·)=true) (h5:namedTie P c.named s.vars=true)
 (h6:(c.stops == [])=true) (h7:(P.stops == [])=true) (h8:(c.knobs == [])=true) (h9:(P.stopKnobs == [])=true)
 (h10:(c.inPlace == P.inPlace f)=true) (h11:(c.unfollowed == P.unfollowed f)=true) (h12:(c.recurses == P.recurses f)=true) (h13:(c.named == P.varsNamed f)=true)
 (h14:(c.maps == (fn.params.toList++s.plain.varTypes P).any (P.mapsRec ·))=true) (h15:(c.ifaces == (fn.params.toList++s.plain.varTypes P).any (P.ifacesRec ·))=true) (h16:(c.mapsOut == P.mapsAmong fn.resultTypes.toList)=true)
 (h17:(c.loops == (fn.params.toList++s.plain.varTypes P).any (P.loopsFrom ·))=true) (h18:(c.wideKeys == (fn.params.toList++s.plain.varTypes P++fn.resultTypes.toList).any (P.wideKeysFrom ·))=true)
 (h19:s.vars.all (P.varReadable ·)=true) (h20:fn.resultTypes.all (fun t=>P.readableRec t && decide (t<P.types.size))=true) (h21:(c.ifacesOut == fn.resultTypes.toList.any (P.ifacesRec ·))=true) (h22:(c.loopsOut == fn.resultTypes.toList.any (P.loopsFrom ·))=true)
 (h23:(c.plainKeys == P.plainKeys)=true) (h24:c.shortTexts.isNone=true) (h25:P.stopsHeard=true) (h26:P.mayEnter=true) (h27:(c.lifted == P.liftsFinal)=true) (h28:(P.make == some c.make)=true)
 (h29:c.domain.isEmpty=true) (h29b:(c.kinds == [])=true) (h30:(c.pinned == c.pinnedBy)=true)
 (h31:(c.veiled == (fn.params.toList++s.plain.varTypes P++fn.resultTypes.toList).any (P.veiledRec ·))=true) (h32:c.veiledFits P fn.params.toList (fn.params.toList++s.plain.varTypes P++fn.resultTypes.toList)=true):
 joinedFacts P f fn s c=true:=by
 unfold joinedFacts;rw [h1,h2,h3,h4,h5,h6,h7,h8,h9,h10,h11,h12,h13,h14,h15,h16,h17,h18,h19,h20,h21,h22,h23,h24,h25,h26,h27,h28,iA h29,h29b,h30,h31,h32]
 rfl
def bp3:laidOutB Tryz.pinned.checked.prog=true:=by kernel_rfl
def ba8:mapsRowed Tryz.pinned.checked.prog=true:=by kernel_rfl
def bp7:Tryz.pinned.checked.prog.plainKeys=true:=by kernel_rfl
def b8a:Tryz.pinned.checked.prog.stopsHeard=true:=by kernel_rfl
def b8E:Tryz.pinned.checked.prog.mayEnter=true:=by kernel_rfl
def bh9:(Rows.explainFewestRow.lifted == Tryz.pinned.checked.prog.liftsFinal)=true:=by kernel_rfl
def bf7:(Tryz.pinned.checked.prog.make == some Rows.explainFewestRow.make)=true:=by kernel_rfl
section
open Go.RowKit Go.ChangeShapes Go.WideShapes Go.Deep
section
variable {H:Type} {enc:TypeId × Value->H} {w:World} {base:Nat} {spare:Nat->Bool} {held:Bool}
def open_ints {r:Reach} {b0:Nat} {v:Value} {d:DataW H} {p:List MemPlace} (hv:Value.okWide Tryz.prog w r b0 33 v) (h:DataW.Trod enc Tryz.prog w base spare held 33 v d p):
 ∃A n c xs,v=.slice A n c/\Rd 1 (fun x=>[Value.int .i64 x]) w A n xs/\n<=c/\c<=maxLen:=by
 obtain ⟨a,len,cap,rfl⟩:=okWide_slice Tryz.underlying33 hv;obtain ⟨fuel,hf⟩:=h;exact b6q (f:=Value.int .i64) Tryz.underlying33 zr (fun u y n hy=>bi8 Tryz.underlying3 ⟨y,n,hy⟩) hf
end
def br3 {w:World} {A:Option Addr} {n c:Nat} {xs:LI} (h:Rd 1 (fun x=>[Value.int .i64 x]) w A n xs) (h1:n<=c) (h2:c<=maxLen):RS w (fun _=>none) (fun _=>False) (j7 xs) (.slice A n c):=
 .c (.t (b7f (k:=1) (f:=fun x=>[Value.int .i64 x]) (row:=j4) (fun _=>rfl) (by intro x v hv;simp at hv;subst hv;rfl) (fun _=>rfl) h h1 h2))
end

section
open Go.RowKit Go.ChangeShapes Go.WideShapes Go.Deep
inductive Sh where
 |int (k:IntKind)
 |bool
 |sl (row:List Sh)
inductive Fit:Sh->T->Prop
 |int {k:IntKind} {n:Int} (h:(Lit.int k n).wf=true):Fit (.int k) (.atm (.int k n))
 |bool {b:Bool}:Fit .bool (.atm (.bool b))
 |sl {row:List Sh} {rows:List (List T)} (hl:∀r ∈ rows,r.length=row.length) (h:∀r ∈ rows,∀(j:Nat) (s:Sh) (t:T),row[j]? =some s->r[j]? =some t->Fit s t):Fit (.sl row) (.sl row.length .any rows)
inductive M9 (P:Program):TypeId->List Sh->Prop
 |int {t:TypeId} {k:IntKind} (h:P.underlying t=some (.int k)):M9 P t [.int k]
 |bool {t:TypeId} (h:P.underlying t=some .bool):M9 P t [.bool]
 |sl {t e:TypeId} {row:List Sh} (h:P.underlying t=some (.slice e)) (hc:P.cellsOf e=row.length) (hp:0<row.length) (he:M9 P e row):M9 P t [.sl row]
 |struct {t:TypeId} {fs:Array Field} (parts:List (List Sh)) (h:P.underlying t=some (.struct fs)) (hl:parts.length=fs.size)
   (ho:∀(i:Nat) (f:Field) (p:List Sh),fs[i]? =some f->parts[i]? =some p->f.offset=(parts.take i).flatten.length/\P.cellsOf f.type=p.length)
   (hc:P.cellsOf t=parts.flatten.length)
   (he:∀(i:Nat) (f:Field) (p:List Sh),fs[i]? =some f->parts[i]? =some p->M9 P f.type p):M9 P t parts.flatten
section
variable {H:Type} {enc:TypeId × Value->H} {P:Program} {w:World} {base:Nat} {spare:Nat->Bool} {held:Bool}
def aV1 (w:World) (shs:List Sh) (cs:List Value):Prop:=
 cs.length=shs.length/\∃ts:List T,ts.length=shs.length/\∀(j:Nat) (s:Sh),shs[j]? =some s->∃u t,cs[j]? =some u/\ts[j]? =some t/\RT w (fun _=>False) t u/\Fit s t
def az5 {α:Type}:∀(parts:List (List α)) (j:Nat) (x:α),parts.flatten[j]? =some x->∃i p k,parts[i]? =some p/\p[k]? =some x/\j=(parts.take i).flatten.length+k
 |[],j,x,h=>by simp at h
 |p::r,j,x,h=>by
  rw [List.flatten_cons] at h;by_cases hj:j<p.length
  ·rw [lbb hj] at h;exact ⟨0,p,j,rfl,h,zq⟩
  ·rw [lbc om] at h;obtain ⟨i,q,k,h1,h2,h3⟩:=az5 r _ x h;exact ⟨i+1,q,k,by simpa using h1,h2,by rw [List.take_succ_cons,List.flatten_cons,lbq];omega⟩
def a2w {α:Type} {p:Nat->α->Prop}:∀(n:Nat),(∀ i,i<n->∃x,p i x)->∃xs:List α,xs.length=n/\∀i x,xs[i]? =some x->p i x
 |0,_=>⟨[],rfl,zq⟩
 |n+1,h=>by
  obtain ⟨xs,h1,h2⟩:=a2w n fun i hi=>h i om
  obtain ⟨x,hx⟩:=h n om;refine ⟨xs++[x],by simp [h1],fun i y hy=>?_⟩;by_cases hi:i<xs.length
  ·rw [lbb hi] at hy;exact h2 i y hy
  ·rw [lbc om] at hy;have:i=n:=by
    have:=(lbe.1 hy).1;simp at this;omega
   subst this;rw [h1] at hy;simp at hy;subst hy;exact hx
def bh5 {t:TypeId} {shs:List Sh} (h:M9 P t shs):∀(n:Nat) (cs:List Value) (x:DataW H × List MemPlace),DataW.trod enc P w base spare held n t cs=some x->aV1 w shs cs:=by
 induction h with
 |int h=>
  intro n cs x hx;obtain ⟨a,rfl,_,hw⟩:=DataW.trod_int h hx;exact ⟨rfl,[.atm (.int _ a)],rfl,fun j s hj=>by
   match j,hj with
   |0,hj=>simp at hj;subst hj;exact ⟨_,_,rfl,rfl,.atm rfl,.int hw⟩⟩
 |bool h=>
  intro n cs x hx;obtain ⟨a,rfl,_⟩:=DataW.trod_bool h hx;exact ⟨rfl,[.atm (.bool a)],rfl,fun j s hj=>by
   match j,hj with
   |0,hj=>simp at hj;subst hj;exact ⟨_,_,rfl,rfl,.atm rfl,.bool⟩⟩
 |@sl t e row h hc hp he ih=>
  intro n cs x hx;have key:∀(rows:List (List T)) (u:Value),cs=[u]->RT w (fun _=>False) (.sl row.length .any rows) u->(∀ r ∈ rows,r.length=row.length)->(∀ r ∈ rows,∀(j:Nat) (s:Sh) (t:T),row[j]? =some s->r[j]? =some t->Fit s t)->aV1 w [.sl row] cs:=by
   rintro rows u rfl hu h1 h2;exact ⟨rfl,[.sl row.length .any rows],rfl,fun j s hj=>by
    match j,hj with
    |0,hj=>simp at hj;subst hj;exact ⟨_,_,rfl,rfl,hu,.sl h1 h2⟩⟩
  rcases open_slice h hx with ⟨h0,_⟩|⟨a,len,cap,m,n,D,Pl,hcs,hb,hl,hm,hmm,hx,hi⟩
  ·exact key [] _ h0 (.sl (b:=0) (off:=0) (fun _ _=>undef) zq zq (by unfold maxLen;omega) zi zi zq (by simp [at2]) (by simp [at2])) zq zq
  ·by_cases hz:len=0
   ·subst hz;exact key [] _ hcs (.sl (b:=0) (off:=0) (fun _ _=>undef) zq zq hm zi zi zq (by simp [at2]) (by simp [at2])) zq zq
   have hlm:len<=m:=by rw [hmm];split<;>omega
   have each:∀i,i<len->∃cs':List Value,(∀ j,j<row.length->w.cell? (a.add (i*row.length+j))=cs'[j]?)/\aV1 w row cs':=by
    intro i hil;obtain ⟨cs',hc',ht'⟩:=hi i om;rw [hc] at hc';obtain ⟨_,hcl,hat⟩:=World.cells?_some hc';exact ⟨cs',fun j hj=>by rw [← Go.Deep.add_add];exact hat j hj,ih n cs' _ ht'⟩
   obtain ⟨css,hcl,hcs2⟩:=a2w len each;obtain ⟨rows,hrl,hrows⟩:=a2w (α:=List T) (p:=fun i ts=>ts.length=row.length/\∀(j:Nat) (s:Sh),row[j]? =some s->∃u t,(css.getD i [])[j]? =some u/\ts[j]? =some t/\RT w (fun _=>False) t u/\Fit s t) len (fun i hi=>by
    have hg:css[i]? =some (css[i]' om):=lbf om;obtain ⟨_,_,ts,h1,h2⟩:=hcs2 i _ hg;refine ⟨ts,h1,?_⟩;rw [lbl,hg];exact h2)
   have hcell:∀i j,i<len->j<row.length->w.cell? (a.add (i*row.length+j))=some ((css.getD i []).getD j undef):=by
    intro i j hi hj;have hg:css[i]? =some (css[i]' om):=lbf om;obtain ⟨h1,h2,_⟩:=hcs2 i _ hg;rw [h1 j hj];have hgd:css.getD i []=css[i]' om:=by rw [lbl,hg];rfl
    rw [hgd,lbl,lbf om];rfl
   have hspot:a.spot=none:=by
    have:=World.cell?_spot (hcell 0 0 om hp);simpa [Addr.add] using this
   obtain ⟨b,off,sp⟩:=a;simp only at hspot;subst hspot;have hadd:∀k,(⟨b,off,none⟩:Addr).add k=⟨b,off+k,none⟩:=by
    intro k;unfold Addr.add;split
    ·subst_vars;rfl
    ·rfl
   have hat:∀i j c,at2 rows i j=some c->i<len/\j<row.length/\∃r s,rows[i]? =some r/\r[j]? =some c/\row[j]? =some s:=by
    intro i j c hc;obtain ⟨r,q1,q2⟩:=J0 hc;have hil:i<len:=by rw [← hrl];exact (lbe.1 q1).1
    have hjl:j<row.length:=by rw [← (hrows i r q1).1];exact (lbe.1 q2).1
    exact ⟨hil,hjl,r,_,q1,q2,lbf hjl⟩
   refine key rows (.slice (some ⟨b,off,none⟩) len cap) hcs ?_ ?_ ?_
   ·rw [← hrl];refine .sl (b:=b) (off:=off) (fun i j=>(css.getD i []).getD j undef) ?_ om hm zi zi (fun _=>rfl) ?_ ?_
    ·intro r hr;obtain ⟨i,hi⟩:=aq1.1 hr;exact (hrows i r hi).1
    ·intro i j c hc;obtain ⟨hil,hjl,_⟩:=hat i j c hc;have:=hcell i j hil hjl;rw [hadd] at this;exact ⟨this,fun h=>h⟩
    ·intro i j c hc;obtain ⟨hil,hjl,r,s,q1,q2,q3⟩:=hat i j c hc;obtain ⟨u,t,h1,h2,h3,h4⟩:=(hrows i r q1).2 j s q3;rw [q2] at h2;injection h2 with h2;subst h2;rw [lbl (l:=css.getD i []),h1];exact h3
   ·intro r hr;obtain ⟨i,hi⟩:=aq1.1 hr;exact (hrows i r hi).1
   ·intro r hr j s t hs ht;obtain ⟨i,hi⟩:=aq1.1 hr;obtain ⟨u,t',h1,h2,h3,h4⟩:=(hrows i r hi).2 j s hs;rw [ht] at h2;injection h2 with h2;subst h2;exact h4
 |@struct t fs parts h hl ho hc he ih=>
  intro n cs x hx;obtain ⟨xs,n',hn',hy,hlen,hyl,hf⟩:=DataW.trod_struct h hx;have hlen':cs.length=parts.flatten.length:=by rw [hlen,hc]
  have each:∀j,j<parts.flatten.length->∃t,∀s,parts.flatten[j]? =some s->∃u,cs[j]? =some u/\RT w (fun _=>False) t u/\Fit s t:=by
   intro j hj;obtain ⟨i,p,k,q1,q2,q3⟩:=az5 parts j _ (lbf hj);have hi:i<fs.size:=by rw [← hl];exact (lbe.1 q1).1
   have hfi:fs[i]? =some fs[i]:=Array.getElem?_eq_getElem hi;obtain ⟨o1,o2⟩:=ho i _ p hfi q1;have h1:=hf i _ hfi;have hxi:xs[i]? =some (xs[i]' om):=lbf om;obtain ⟨r1,ts,r2,r3⟩:=ih i _ p hfi q1 n' _ _ (h1.trans hxi);obtain ⟨u,t,e1,e2,e3,e4⟩:=r3 k _ q2;refine ⟨t,fun s hs=>⟨u,?_,e3,?_⟩⟩
   ·have hk:k<p.length:=(lbe.1 q2).1;rw [lbi,o2,iA hk,lbj,o1,←q3] at e1;exact e1
   ·rw [lbf hj] at hs;injection hs with hs;rw [← hs];exact e4
  obtain ⟨ts,t1,t2⟩:=a2w parts.flatten.length each;refine ⟨hlen',ts,t1,fun j s hj=>?_⟩;have hjl:=(lbe.1 hj).1;have htj:ts[j]? =some (ts[j]' om):=lbf om;obtain ⟨u,h1,h2,h3⟩:=t2 j _ htj s hj;exact ⟨u,_,h1,htj,h2,h3⟩
end
def Fit.int_inv {k:IntKind} {t:T} (h:Fit (.int k) t):∃n,t=.atm (.int k n)/\(Lit.int k n).wf=true:=by cases h with|int h=>exact ⟨_,rfl,h⟩
def Fit.bool_inv {t:T} (h:Fit .bool t):∃b,t=.atm (.bool b):=by cases h with|bool=>exact ⟨_,rfl⟩
def b0v {α:Type} {f:α->List T} {p:α->Prop}:∀{rows:List (List T)},(∀ r ∈ rows,∃x,r=f x/\p x)->∃xs:List α,rows=xs.map f/\∀x ∈ xs,p x
 |[],_=>⟨[],rfl,zq⟩
 |r::rs,h=>by
  obtain ⟨x,rfl,hx⟩:=h r zq;obtain ⟨xs,rfl,hxs⟩:=b0v (rows:=rs) (f:=f) (p:=p) fun r hr=>h r (List.mem_cons_of_mem _ hr)
  exact ⟨x::xs,rfl,fun y hy=>by rcases lbA.1 hy with rfl|hy;exact hx;exact hxs y hy⟩
def Fit.sl_inv {α:Type} (f:α->List T) (p:α->Prop) {row:List Sh} {t:T} (h:Fit (.sl row) t)
 (hrow:∀r:List T,r.length=row.length->(∀ (j:Nat) (s:Sh) (t:T),row[j]? =some s->r[j]? =some t->Fit s t)->∃x,r=f x/\p x):
 ∃xs:List α,t=.sl row.length .any (xs.map f)/\∀x ∈ xs,p x:=by
 cases h with
 |sl hl h=>
  obtain ⟨xs,rfl,hx⟩:=b0v (f:=f) (p:=p) (fun r hr=>hrow r (hl r hr) (h r hr));exact ⟨xs,rfl,hx⟩
end
section
open Go.RowKit Go.ChangeShapes Go.WideShapes Go.Deep
abbrev l9:Sh:=.int .i64
def G0:M9 Tryz.prog 3 [l9]:=.int Tryz.underlying3
def b0h {P:Program} {t:TypeId} {fs:Array Field} {p0 p1:List Sh} (h:P.underlying t=some (.struct fs)) (hl:fs.size=2)
 (h0:∃f,fs[0]? =some f/\f.offset=0/\P.cellsOf f.type=p0.length/\M9 P f.type p0) (h1:∃f,fs[1]? =some f/\f.offset=p0.length/\P.cellsOf f.type=p1.length/\M9 P f.type p1)
 (hc:P.cellsOf t=p0.length+p1.length):M9 P t (p0++p1):=by
 obtain ⟨f0,a1,a2,a3,a4⟩:=h0;obtain ⟨f1,b1,b2,b3,b4⟩:=h1;have:=M9.struct (P:=P) (t:=t) (fs:=fs) [p0,p1] h (by simp [hl]) (fun i f p hf hp=>by
  match i,hp with
  |0,hp=>simp at hp;subst hp;rw [a1] at hf;injection hf with hf;subst hf;exact ⟨by simp [a2],a3⟩
  |1,hp=>simp at hp;subst hp;rw [b1] at hf;injection hf with hf;subst hf;exact ⟨by simp [b2],b3⟩
  |n+2,hp=>simp at hp) (by simp [hc]) (fun i f p hf hp=>by
  match i,hp with
  |0,hp=>simp at hp;subst hp;rw [a1] at hf;injection hf with hf;subst hf;exact a4
  |1,hp=>simp at hp;subst hp;rw [b1] at hf;injection hf with hf;subst hf;exact b4
  |n+2,hp=>simp at hp)
 simpa using this
def b2I:M9 Tryz.prog 264 [l9,l9]:=
 b0h (p0:=[l9]) (p1:=[l9]) Tryz.underlying264 zr ⟨_,rfl,rfl,zr,G0⟩ ⟨_,rfl,rfl,zr,G0⟩ zr
section
variable {H:Type} {enc:TypeId × Value->H} {w:World} {base:Nat} {spare:Nat->Bool} {held:Bool}
def b6Q {shs:List Sh} {l:List Value} (h:aV1 w shs l):∃ts:List T,ts.length=shs.length/\(∀ (j:Nat) (s:Sh) (t:T),shs[j]? =some s->ts[j]? =some t->Fit s t)/\RS w (fun _=>none) (fun _=>False) (.agg (ts.map C.t)) (.agg ⟨l⟩):=by
 obtain ⟨h0,ts,h1,h2⟩:=h;refine ⟨ts,h1,fun j s t hs ht=>?_,?_⟩
 ·obtain ⟨u,t',e1,e2,e3,e4⟩:=h2 j s hs;rw [ht] at e2;injection e2 with e2;subst e2;exact e4
 ·refine .agg l (by simp [h0,h1]) fun j c hc=>?_
  rw [lba] at hc;obtain ⟨t,ht,rfl⟩:=au6.1 hc;have hj:j<shs.length:=by rw [← h1];exact (lbe.1 ht).1
  obtain ⟨u,t',e1,e2,e3,e4⟩:=h2 j _ (lbf hj);rw [ht] at e2;injection e2 with e2;subst e2
  rw [lbl,e1];exact .t e3
end
end
section
open Go.RowKit Go.ChangeShapes Go.WideShapes Go.Deep
def b0L (P:Program):List Field->List (List Sh)->Nat->Prop
 |[],[],_=>True
 |f::fs,p::ps,o=>(f.offset=o/\P.cellsOf f.type=p.length/\M9 P f.type p)/\b0L P fs ps (o+p.length)
 |_,_,_=>False
def b0L.get {P:Program}:∀{fs:List Field} {ps:List (List Sh)} {o:Nat},b0L P fs ps o->ps.length=fs.length/\∀(i:Nat) (f:Field) (p:List Sh),fs[i]? =some f->ps[i]? =some p->f.offset=o+(ps.take i).flatten.length/\P.cellsOf f.type=p.length/\M9 P f.type p
 |[],[],o,_=>⟨rfl,zq⟩
 |f::fs,p::ps,o,h=>by
  obtain ⟨⟨h1,h2,h3⟩,h4⟩:=h;obtain ⟨l,g⟩:=b0L.get h4;refine ⟨by simp [l],fun i f' p' hf hp=>?_⟩;cases i with
  |zero=>simp at hf hp;subst hf hp;exact ⟨by simp [h1],h2,h3⟩
  |succ i=>
   obtain ⟨g1,g2,g3⟩:=g i f' p' (by simpa using hf) (by simpa using hp);exact ⟨by rw [g1];simp;omega,g2,g3⟩
 |[],_::_,_,h=>h.elim
 |_::_,[],_,h=>h.elim
def a03 {P:Program} {t:TypeId} {fs:Array Field} (parts:List (List Sh)) (h:P.underlying t=some (.struct fs)) (hf:b0L P fs.toList parts 0) (hc:P.cellsOf t=parts.flatten.length):M9 P t parts.flatten:=by
 obtain ⟨l,g⟩:=hf.get;refine M9.struct parts h (by simpa using l) (fun i f p hi hp=>?_) hc (fun i f p hi hp=>?_)
 ·obtain ⟨g1,g2,g3⟩:=g i f p (by simpa using hi) hp;exact ⟨by rw [g1];simp,g2⟩
 ·exact (g i f p (by simpa using hi) hp).2.2
def b8Q:M9 Tryz.prog 4 [.bool]:=.bool Tryz.underlying4
def b5u:M9 Tryz.prog 160 [l9,l9,l9]:=
 a03 [[l9],[l9],[l9]] Tryz.underlying160 ⟨⟨zr,zr,G0⟩,⟨zr,zr,G0⟩,⟨zr,zr,G0⟩,trivial⟩ zr
def b6R:M9 Tryz.prog 149 [l9,l9,l9,l9,l9,.bool]:=
 a03 [[l9],[l9],[l9],[l9],[l9],[.bool]] Tryz.underlying149 ⟨⟨zr,zr,G0⟩,⟨zr,zr,G0⟩,⟨zr,zr,G0⟩,⟨zr,zr,G0⟩,⟨zr,zr,G0⟩,⟨zr,zr,b8Q⟩,trivial⟩ zr
def b94:M9 Tryz.prog 255 [l9,l9,l9,l9,l9,l9]:=
 a03 [[l9],[l9],[l9],[l9],[l9],[l9]] Tryz.underlying255 ⟨⟨zr,zr,G0⟩,⟨zr,zr,G0⟩,⟨zr,zr,G0⟩,⟨zr,zr,G0⟩,⟨zr,zr,G0⟩,⟨zr,zr,G0⟩,trivial⟩ zr
def b2g:M9 Tryz.prog 266 [l9,l9,l9,l9]:=
 a03 [[l9],[l9],[l9],[l9]] Tryz.underlying266 ⟨⟨zr,zr,G0⟩,⟨zr,zr,G0⟩,⟨zr,zr,G0⟩,⟨zr,zr,G0⟩,trivial⟩ zr
def b7x:M9 Tryz.prog 43 [l9,l9,l9]:=
 a03 [[l9],[l9],[l9]] Tryz.underlying43 ⟨⟨zr,zr,G0⟩,⟨zr,zr,G0⟩,⟨zr,zr,G0⟩,trivial⟩ zr
def b5F:M9 Tryz.prog 45 [l9,l9]:=
 a03 [[l9],[l9]] Tryz.underlying45 ⟨⟨zr,zr,G0⟩,⟨zr,zr,G0⟩,trivial⟩ zr
def b3q:M9 Tryz.prog 22 [.sl [l9,l9,l9]]:=.sl Tryz.underlying22 zr de b5u
def b6f:M9 Tryz.prog 23 [.sl [l9,l9,l9,l9,l9,.bool]]:=.sl Tryz.underlying23 zr de b6R
def b66:M9 Tryz.prog 24 [.sl [l9,l9,l9,l9,l9,l9]]:=.sl Tryz.underlying24 zr de b94
def b05:M9 Tryz.prog 25 [.sl [l9,l9]]:=.sl Tryz.underlying25 zr de b2I
def aN4:M9 Tryz.prog 26 [.sl [l9,l9,l9,l9]]:=.sl Tryz.underlying26 zr de b2g
def b6x:M9 Tryz.prog 29 [.sl [l9,l9,l9]]:=.sl Tryz.underlying29 zr de b7x
def b2o:M9 Tryz.prog 30 [.sl [l9,l9]]:=.sl Tryz.underlying30 zr de b5F
abbrev bG8:List Sh:=[l9,l9,l9,.sl [l9,l9,l9],.sl [l9,l9,l9,l9,l9,.bool],.sl [l9,l9,l9,l9,l9,l9],.sl [l9,l9],.sl [l9,l9,l9,l9]]
def bE4:M9 Tryz.prog 28 bG8:=
 a03 [[l9],[l9],[l9],[.sl [l9,l9,l9]],[.sl [l9,l9,l9,l9,l9,.bool]],[.sl [l9,l9,l9,l9,l9,l9]],[.sl [l9,l9]],[.sl [l9,l9,l9,l9]]] Tryz.underlying28
  ⟨⟨zr,zr,G0⟩,⟨zr,zr,G0⟩,⟨zr,zr,G0⟩,⟨zr,zr,b3q⟩,⟨zr,zr,b6f⟩,⟨zr,zr,b66⟩,⟨zr,zr,b05⟩,⟨zr,zr,aN4⟩,trivial⟩ zr
abbrev bP0:List Sh:=bG8++[.sl [l9,l9,l9],.sl [l9,l9]]
def bw2:M9 Tryz.prog 32 bP0:=
 a03 [bG8,[.sl [l9,l9,l9]],[.sl [l9,l9]]] Tryz.underlying32
  ⟨⟨zr,zr,bE4⟩,⟨zr,zr,b6x⟩,⟨zr,zr,b2o⟩,trivial⟩ zr
def J8 {t:T} (h:Fit l9 t):∃n,t=ti n:=by obtain ⟨n,h,_⟩:=h.int_inv;exact ⟨n,h⟩
section
variable {α:Type} {t:T}
def b2j (h:Fit (.sl [l9,l9,l9]) t):∃l:List a0l,t=a7v l:=by
 obtain ⟨xs,rfl,_⟩:=h.sl_inv a0l.row (fun _=>True) (fun r hl hr=>by
  match r,hl with
  |[a,b,c],_=>
   obtain ⟨a,rfl⟩:=J8 (hr 0 _ _ rfl rfl)
   obtain ⟨b,rfl⟩:=J8 (hr 1 _ _ rfl rfl)
   obtain ⟨c,rfl⟩:=J8 (hr 2 _ _ rfl rfl)
   exact ⟨⟨a,b,c⟩,rfl,trivial⟩)
 exact ⟨xs,rfl⟩
def b6c (h:Fit (.sl [l9,l9,l9]) t):∃l:List a1M,t=av5 l:=by
 obtain ⟨xs,rfl,_⟩:=h.sl_inv a1M.row (fun _=>True) (fun r hl hr=>by
  match r,hl with
  |[a,b,c],_=>
   obtain ⟨a,rfl⟩:=J8 (hr 0 _ _ rfl rfl)
   obtain ⟨b,rfl⟩:=J8 (hr 1 _ _ rfl rfl)
   obtain ⟨c,rfl⟩:=J8 (hr 2 _ _ rfl rfl)
   exact ⟨⟨a,b,c⟩,rfl,trivial⟩)
 exact ⟨xs,rfl⟩
def b28 (h:Fit (.sl [l9,l9]) t):∃l:List W9,t=a9m l:=by
 obtain ⟨xs,rfl,_⟩:=h.sl_inv W9.row (fun _=>True) (fun r hl hr=>by
  match r,hl with
  |[a,b],_=>
   obtain ⟨a,rfl⟩:=J8 (hr 0 _ _ rfl rfl)
   obtain ⟨b,rfl⟩:=J8 (hr 1 _ _ rfl rfl)
   exact ⟨⟨a,b⟩,rfl,trivial⟩)
 exact ⟨xs,rfl⟩
def b16 (h:Fit (.sl [l9,l9]) t):∃l:List J1,t=Q9 l:=by
 obtain ⟨xs,rfl,_⟩:=h.sl_inv J1.row (fun _=>True) (fun r hl hr=>by
  match r,hl with
  |[a,b],_=>
   obtain ⟨a,rfl⟩:=J8 (hr 0 _ _ rfl rfl)
   obtain ⟨b,rfl⟩:=J8 (hr 1 _ _ rfl rfl)
   exact ⟨⟨a,b⟩,rfl,trivial⟩)
 exact ⟨xs,rfl⟩
def aW6 (h:Fit (.sl [l9,l9,l9,l9]) t):∃l:List a2j,t=a2H l:=by
 obtain ⟨xs,rfl,_⟩:=h.sl_inv a2j.row (fun _=>True) (fun r hl hr=>by
  match r,hl with
  |[a,b,c,d],_=>
   obtain ⟨a,rfl⟩:=J8 (hr 0 _ _ rfl rfl)
   obtain ⟨b,rfl⟩:=J8 (hr 1 _ _ rfl rfl)
   obtain ⟨c,rfl⟩:=J8 (hr 2 _ _ rfl rfl)
   obtain ⟨d,rfl⟩:=J8 (hr 3 _ _ rfl rfl)
   exact ⟨⟨a,b,c,d⟩,rfl,trivial⟩)
 exact ⟨xs,rfl⟩
def b65 (h:Fit (.sl [l9,l9,l9,l9,l9,l9]) t):∃l:List P5,t=a1y l:=by
 obtain ⟨xs,rfl,_⟩:=h.sl_inv P5.row (fun _=>True) (fun r hl hr=>by
  match r,hl with
  |[a,b,c,d,e,f],_=>
   obtain ⟨a,rfl⟩:=J8 (hr 0 _ _ rfl rfl)
   obtain ⟨b,rfl⟩:=J8 (hr 1 _ _ rfl rfl)
   obtain ⟨c,rfl⟩:=J8 (hr 2 _ _ rfl rfl)
   obtain ⟨d,rfl⟩:=J8 (hr 3 _ _ rfl rfl)
   obtain ⟨e,rfl⟩:=J8 (hr 4 _ _ rfl rfl)
   obtain ⟨f,rfl⟩:=J8 (hr 5 _ _ rfl rfl)
   exact ⟨⟨a,b,c,d,e,f⟩,rfl,trivial⟩)
 exact ⟨xs,rfl⟩
def b63 (h:Fit (.sl [l9,l9,l9,l9,l9,.bool]) t):∃l:List C6,t=a5i l:=by
 obtain ⟨xs,rfl,_⟩:=h.sl_inv C6.row (fun _=>True) (fun r hl hr=>by
  match r,hl with
  |[a,b,c,d,e,f],_=>
   obtain ⟨a,rfl⟩:=J8 (hr 0 _ _ rfl rfl)
   obtain ⟨b,rfl⟩:=J8 (hr 1 _ _ rfl rfl)
   obtain ⟨c,rfl⟩:=J8 (hr 2 _ _ rfl rfl)
   obtain ⟨d,rfl⟩:=J8 (hr 3 _ _ rfl rfl)
   obtain ⟨e,rfl⟩:=J8 (hr 4 _ _ rfl rfl)
   obtain ⟨f,rfl⟩:=(hr 5 _ _ rfl rfl).bool_inv
   exact ⟨⟨a,b,c,d,e,f⟩,rfl,trivial⟩)
 exact ⟨xs,rfl⟩
end
section
variable {H:Type} {enc:TypeId × Value->H} {w:World} {base:Nat} {spare:Nat->Bool} {held:Bool}
def open_trace {v:Value} {d:DataW H} {p:List MemPlace} {r:Reach} {b0:Nat} (hv:Value.okWide Tryz.prog w r b0 32 v) (h:DataW.Trod enc Tryz.prog w base spare held 32 v d p):∃t:k8,RS w (fun _=>none) (fun _=>False) (trS t) v:=by
 obtain ⟨⟨l⟩,rfl,_⟩:=okWide_struct Tryz.underlying32 hv;obtain ⟨fuel,hf⟩:=h;obtain ⟨ts,h1,h2,h3⟩:=b6Q (bh5 bw2 fuel _ _ hf)
 match ts,h1 with
 |[a,b,c,d,e,f,g,h,i,j],_=>
  obtain ⟨a,rfl⟩:=J8 (h2 0 _ _ rfl rfl);obtain ⟨b,rfl⟩:=J8 (h2 1 _ _ rfl rfl);obtain ⟨c,rfl⟩:=J8 (h2 2 _ _ rfl rfl);obtain ⟨d,rfl⟩:=b2j (h2 3 _ _ rfl rfl);obtain ⟨e,rfl⟩:=b63 (h2 4 _ _ rfl rfl);obtain ⟨f,rfl⟩:=b65 (h2 5 _ _ rfl rfl);obtain ⟨g,rfl⟩:=b16 (h2 6 _ _ rfl rfl);obtain ⟨h,rfl⟩:=aW6 (h2 7 _ _ rfl rfl);obtain ⟨i,rfl⟩:=b6c (h2 8 _ _ rfl rfl);obtain ⟨j,rfl⟩:=b28 (h2 9 _ _ rfl rfl);exact ⟨⟨⟨a,b,c,d,e,f,g,h⟩,i,j⟩,h3⟩
end
end
section
open Go.RowKit Go.ChangeShapes Go.WideShapes Go.ChangeAt
set_option maxRecDepth 100000 in
def a7y (os:Os) (started:os.Started) (H:Type) (enc:TypeId × Value->H):
 ReturnsInHanded {} Tryz.checked os 3 .any (Rows.explainTellsSpec.pre6 enc Tryz.prog Tryz.f3 Rows.explainTellsRow.domain false) (Rows.explainTellsSpec.post enc Tryz.prog Tryz.f3 false true false false):=by
 refine returnsInHanded_of_change (C:=Tryz.checked) bm0 started zr Tryz.func3
  (ChangeSpec.witness6 (enc:=enc) (C:=Tryz.checked) false ⟨#[],#[.agg #[.int .i64 0,.int .i64 0,.int .i64 0,.slice none 0 0,.slice none 0 0,.slice none 0 0,.slice none 0 0,.slice none 0 0,.slice none 0 0,.slice none 0 0],.int .i64 0,.slice none 0 0],[]⟩ 12 zr zr zr zr) ?_
 intro W base args ds gs before hval0 hW hcnd _;have hval:∀(j:Nat) t v,Tryz.f3.params[j]? =some t->args[j]? =some v->Value.okWide Tryz.prog W .any base t v:=hval0;have hW':=hW;obtain ⟨p,q,hA0,hV,rfl,hfz,hnd⟩:=hW;have hA:DataW.TrodAll enc Tryz.prog W 0 (fun _=>true) true Tryz.f3.params.toList args.toList ds p:=hA0;rw [Tryz.params3] at hA hval;obtain ⟨v0,vs0,d0,ds0,p0,q0,hargs,rfl,rfl,h0,r0⟩:=trodAll_cons hA;obtain ⟨v1,vs1,d1,ds1,p1,q1,rfl,rfl,rfl,h1,r1⟩:=trodAll_cons r0;obtain ⟨v2,vs2,d2,ds2,p2,q2,rfl,rfl,rfl,h2,r2⟩:=trodAll_cons r1;obtain ⟨rfl,rfl,rfl⟩:=trodAll_nil r2;obtain rfl:args=#[v0,v1,v2]:=by cases args;simp_all
 obtain ⟨rfl,rfl⟩:=trodVars_none hV;obtain ⟨a0,t0⟩:=Go.Proofs.YtikokmdpigploaaGreat.open_trace (hval 0 32 v0 rfl rfl) h0;obtain ⟨a1,rfl,rfl,rfl,w1⟩:=open_int Tryz.underlying3 (hval 1 3 v1 rfl rfl) h1;obtain ⟨A2,n2,c2,a2,rfl,s2,k2,l2⟩:=Go.Proofs.YtikokmdpigploaaGreat.open_ints (hval 2 33 v2 rfl rfl) h2;refine (aT5 (av4 a0 a1 a2) (.cons (t0) (.cons (bw4) (.cons (br3 s2 k2 l2) (.nil))))).mono fun ee W' ⟨he,hg⟩=>?_
 subst he;exact ⟨_,rfl,b92 hW' b71 (by rw [Tryz.params3];intro t ht;simp at ht;first|(rcases ht with rfl|rfl|rfl<;>exact ⟨zr,lbL zr⟩)|(rcases ht with rfl|rfl|rfl<;>exact ⟨zr,lbL zr⟩)) rfl rfl zr Tryz.underlying4 hg⟩
def a7Z:(Rows.explainTellsRow.inPlace == Tryz.pinned.checked.prog.inPlace 3)=true:=by kernel_rfl
def a9V:(Rows.explainTellsRow.unfollowed == Tryz.pinned.checked.prog.unfollowed 3)=true:=by kernel_rfl
def ab3:(Rows.explainTellsRow.recurses == Tryz.pinned.checked.prog.recurses 3)=true:=by kernel_rfl
def a8r:(Rows.explainTellsRow.named == Tryz.pinned.checked.prog.varsNamed 3)=true:=by kernel_rfl
def a8q:(Rows.explainTellsRow.loops == (Tryz.f3.params.toList++Rows.explainTellsSpec.plain.varTypes Tryz.pinned.checked.prog).any (Tryz.pinned.checked.prog.loopsFrom ·))=true:=by kernel_rfl
set_option maxRecDepth 100000 in
def a7z:joinedFacts Tryz.pinned.checked.prog 3 Tryz.f3 (Rows.explainTellsSpec) Rows.explainTellsRow=true:=b6w zr bp3 ba8 zr zr zr zr zr zr a7Z a9V ab3 a8r zr zr zr a8q zr zr zr zr zr bp7 zr b8a b8E bh9 bf7 zr zr zr zr zr
theorem explainTells_holds:Rows.ExplainTellsSaid:=
 OpenClaim.holds_of_wide 3 Tryz.f3 rfl rfl rfl rfl rfl rfl rfl rz rfl rfl rfl rfl rfl zr Tryz.func3 a7z
  (lbL zr) (by unfold Func.isWrapper;first|(rw [iA zk];kernel_rfl)|(rw [iB zk];exact rz))
  (fun os started H enc _=>a7y os started H enc)
end
end Go.Proofs.YtikokmdpigploaaGreat
