/- Part 3. -/
import Derived.Laws.Small
import Derived.Laws.StructEq
import Derived.Laws.Pointers
import Derived.Great.BuildSlice
import Derived.Laws.MakeOwn
import Derived.Laws.Tables
import Derived.Deep.Upon
import Derived.Test.YtaejgdbahjjncaaGreatWj2
namespace Go.Proofs.YtaejgdbahjjncaaGreat
set_option linter.unusedVariables false
set_option linter.unusedSimpArgs false
section
open Go.RowKit
section
variable {P:Program} {τ:Tab} {o:Oper} {ev:Operand->S} {H:Hp}
theorem R3.to {w:World} {ι:Io} {M:Ms} {a:Act} (h:R3 w ι M ev a) {x:Operand} {s:S} (e:ev x=s):RS w ι M s (a.eval x):=e ▸ h x
theorem aI2 (x:Operand) (ho:o.op=.move x∨o.op=.assign x):QOp P o ev H (ev x) []:=
 j8 fun a w ι M he hh=>⟨a.eval x,by rcases ho with ho|ho<;>simp [execOp,ho],he x⟩
theorem b2Q (c x y:Operand) (t:Bool) (ho:o.op=.pick c x y) (hc:ev c=d9 t):QOp P o ev H (cond t (ev x) (ev y)) []:=
 j8 fun a w ι M he hh=>⟨cond t (a.eval x) (a.eval y),by
  have h:=(he.to hc).inv_atm
  cases t<;>simp [execOp,ho,h,asBool],by cases t<;>exact he _⟩
def bb3:TypeDesc->Bool
 |.struct _=>true
 |.array _ _=>true
 |_=>false
theorem ak5 {t:TypeId} {d:TD} (h:at6 P t d) (w:World):(isAgg t).run P w=.ok d.agg w:=by
 obtain ⟨u,hu,hk⟩:=h.und
 have hr:(isAgg t).run P w=.ok (bb3 u) w:=by
  clear hk
  simp only [isAgg,Sem.run_bind,run_underlying hu,Result.andThen_ok]
  cases u<;>rfl
 rw [hr]
 cases hd:d.k<;>rw [hd] at hk<;>simp only at hk
 ·obtain ⟨h1,h2⟩:=hk
  rw [h1]
  cases u<;>first|exact h2.elim|rfl
 ·obtain ⟨h1,rfl⟩:=hk;rw [h1];rfl
 ·obtain ⟨h1,rfl⟩:=hk;rw [h1];rfl
 ·obtain ⟨h1,rfl⟩:=hk;rw [h1];rfl
 ·obtain ⟨h1,rfl⟩:=hk;rw [h1];rfl
 ·obtain ⟨h1,_,rfl,_⟩:=hk;rw [h1];rfl
theorem a2N {t:TypeId} {d:TD} (h:at6 P t d) (w:World):(sizeOf t).run P w=.ok d.size w:=by
 obtain ⟨i,hi,hs,_⟩:=h.info
 simp [sizeOf,typeInfo,hi,hs]
theorem a3W {t:TypeId} {d:TD} (h:at6 P t d) {w:World} {ι:Io} {M:Ms} {b off:Nat} {cells:List C}
 (hc:∀j c,cells[j]? =some c->∃u,w.cell? ⟨b,off+j,none⟩=some u∧RC w ι M c u) {s:S}
 (hs:(d.agg=true∧d.size<=cells.length∧s=.agg (cells.take d.size))∨(d.agg=false∧∃c,cells[0]? =some c∧s=.c c)):
 ∃v,(Instr.loadAt t (.pointer (some ⟨b,off,none⟩))).run P w=.ok v w∧RS w ι M s v:=by
 rcases hs with ⟨ha,hl,rfl⟩|⟨ha,c,h0,rfl⟩
 ·have hex:∀j,j<d.size->∃u,w.cell? ⟨b,off+j,none⟩=some u∧∃c,cells[j]? =some c∧RC w ι M c u:=fun j hj=>by
   obtain ⟨u,h1,h2⟩:=hc j _ (lbf (by omega))
   exact ⟨u,h1,_,lbf (by omega),h2⟩
  refine ⟨.agg ((List.range d.size).map fun j=>(w.cell? ⟨b,off+j,none⟩).getD undef).toArray,?_,?_⟩
  ·have:=run_loadCells (P:=P) w ⟨b,off,none⟩ d.size (fun j=>(w.cell? ⟨b,off+j,none⟩).getD undef) (fun j hj=>by
    obtain ⟨u,h1,_⟩:=hex j hj
    have e:(⟨b,off,none⟩:Addr).add j=⟨b,off+j,none⟩:=by unfold Addr.add;split<;>simp_all
    rw [e,h1];rfl)
   simp [Instr.loadAt,Instr.sureAddr,loadVar,ak5 h,a2N h,ha,this]
  ·refine .agg _ (by simp;omega) fun j c hj=>?_
   have hlt:j<d.size:=by have:=(lbe.1 hj).1;simp at this;omega
   obtain ⟨u,h1,c',h2,h3⟩:=hex j hlt
   rw [List.getElem?_take_of_lt hlt,h2] at hj
   injection hj with hj
   subst hj
   rw [lbl,lba,lbh hlt]
   simp [h1,h3]
 ·obtain ⟨u,h1,h2⟩:=hc 0 c h0
  refine ⟨u,?_,.c h2⟩
  simp only [a7v] at h1
  simp [Instr.loadAt,Instr.sureAddr,loadVar,ak5 h,ha,h1]
theorem b75 {rows:List (List C)} {r:Nat} {row:List C} (h:rows[r]? =some row) (j:Nat):at2 rows r j=row[j]?:=by simp [at2,h]
theorem E7.row {w:World} {ι:Io} {M:Ms} {k:Blk} {b cap size:Nat} (h:E7 w ι M k (.blk b cap size)) {r:Nat} {row:List C} (hr:k.rows[r]? =some row):
 ∀j c,row[j]? =some c->∃u,w.cell? ⟨b,r*size+j,none⟩=some u∧RC w ι M c u:=fun j c hj=>by
 obtain ⟨_,_,_,_,_,cur,hb,_,h8⟩:=h
 obtain ⟨u,h1,h2⟩:=h8 r j c (by rw [b75 hr];exact hj)
 exact ⟨u,by simp [World.cell?,hb,h1],h2⟩
theorem aJ5 {b:Blk} {r:Nat} {k:List C->Prop} (h:b6O b r k):∃row,b.rows[r]? =some row∧k row∧(b.box=true->b.rows=[row]∧r=0):=by
 unfold b6O at h
 split at h
 ·split at h
  ·rename_i hb _ _ row hr
   exact ⟨row,by rw [hr];rfl,h,fun _=>⟨hr,rfl⟩⟩
  ·exact h.elim
 ·obtain ⟨row,h1,h2⟩:=h
  rename_i hb
  exact ⟨row,h1,h2,fun h=>by rw [hb] at h;cases h⟩
theorem Y5 {b:Blk} {k:Prop} (h:a1r b k):b.mode≠.dead∧k:=by
 unfold a1r at h
 cases hb:b.mode<;>rw [hb] at h<;>first|exact h.elim|exact ⟨by simp,h⟩
theorem a37 {b:Blk} {k:Prop} (h:a3J b k):b.mode=.live∧b.app=false∧k:=by
 unfold a3J at h
 cases hb:b.mode<;>cases ha:b.app<;>rw [hb,ha] at h<;>first|exact h.elim|exact ⟨rfl,rfl,h⟩
theorem ax4 {b:Blk} {k k':Prop} (h:ag0 b k k'):b.mode=.live∧((b.app=true∧k)∨(b.app=false∧k')):=by
 unfold ag0 at h
 cases hb:b.mode<;>cases ha:b.app<;>rw [hb] at h<;>first|exact h.elim|(simp only [ha] at h;first|exact ⟨rfl,.inl ⟨rfl,h⟩⟩|exact ⟨rfl,.inr ⟨rfl,h⟩⟩)
theorem aM7 {d:TD} {row:List C} {o:Nat} {K:S->Prop} (h:b0O d row o K):
 ∃s,K s∧((d.agg=true∧d.size<=(row.drop o).length∧s=.agg ((row.drop o).take d.size))∨(d.agg=false∧∃c,(row.drop o)[0]? =some c∧s=.c c)):=by
 obtain ⟨_,h⟩:=a7p h
 cases ha:d.agg<;>rw [ha] at h
 ·obtain ⟨c,h1,h2⟩:=L7 h
  exact ⟨_,h2,.inr ⟨rfl,c,h1,rfl⟩⟩
 ·obtain ⟨h1,h2⟩:=ap6 h
  exact ⟨_,h2,.inl ⟨rfl,h1,rfl⟩⟩
theorem al1 (hτ:B2 P τ) {t:TypeId} {x:Operand} {K:S->Prop} (h:ao9 τ ev H t x K):∃s,K s∧∀(a:Act) (w:World) (ι:Io) (M:Ms),R3 w ι M ev a->j4 w ι M H->∃v ad,a.eval x=.pointer (some ad)∧(Instr.loadAt t (a.eval x)).run P w=.ok v w∧RS w ι M s v:=by
 unfold ao9 at h
 split at h
 ·exact h.elim
 rename_i d hd
 split at h
 ·rename_i id r off hx
  obtain ⟨b,hb,h⟩:=L7 h
  obtain ⟨hdead,h⟩:=Y5 h
  obtain ⟨row,hrow,h,_⟩:=aJ5 h
  obtain ⟨s,hs,hcase⟩:=aM7 h
  refine ⟨s,hs,fun a w ι M he hh=>?_⟩
  generalize hv:a.eval x=v
  have hr:=he.to hx
  rw [hv] at hr
  cases hr with
  |c hr=>cases hr with
   |@ptr _ _ _ bb cap size hi=>
    have hbr:=(hh.blk id b hb hdead _ hi).row hrow
    obtain ⟨v,h1,h2⟩:=a3W (hτ.td t d hd) (w:=w) (ι:=ι) (M:=M) (b:=bb) (off:=r*size+off) (cells:=row.drop off)
     (fun j c hj=>by rw [lbj] at hj;rw [U9];exact hbr _ _ hj) hcase
    exact ⟨v,_,rfl,h1,h2⟩
 ·rename_i cells hx
  have hcase:∃s,K s∧((d.agg=true∧d.size<=(cells.map C.t).length∧s=.agg ((cells.map C.t).take d.size))∨(d.agg=false∧∃c,(cells.map C.t)[0]? =some c∧s=.c c)):=by
   unfold aF4 at h
   cases ha:d.agg<;>rw [ha] at h
   ·obtain ⟨c,h1,h2⟩:=L7 h
    exact ⟨_,h2,.inr ⟨rfl,.t c,by simp [lba,h1],rfl⟩⟩
   ·obtain ⟨h1,h2⟩:=ap6 h
    rw [a0u,a7O] at h2
    exact ⟨_,h2,.inl ⟨rfl,by simpa using h1,rfl⟩⟩
  obtain ⟨s,hs,hcase⟩:=hcase
  refine ⟨s,hs,fun a w ι M he hh=>?_⟩
  generalize hv:a.eval x=v
  have hr:=(he.to hx).inv_t
  rw [hv] at hr
  cases hr with
  |@ptr _ b off f hc hr=>
   obtain ⟨v,h1,h2⟩:=a3W (hτ.td t d hd) (w:=w) (ι:=ι) (M:=M) (b:=b) (off:=off) (cells:=cells.map C.t)
    (fun j c hj=>by
      rw [lba] at hj
      cases hj':cells[j]? with
      |none=>rw [hj'] at hj;cases hj
      |some c'=>
       rw [hj'] at hj
       injection hj with hj
       subst hj
       exact ⟨f j,(hc j c' hj').1,.t (hr j c' hj')⟩) hcase
   exact ⟨v,_,rfl,h1,h2⟩
 ·exact h.elim
theorem aI5 (hτ:B2 P τ) {t:TypeId} {x:Operand} (ho:o.op=.load t x) {K:S->Prop} (h:ao9 τ ev H t x K):∃s,K s∧QOp P o ev H s []:=by
 obtain ⟨s,hs,hv⟩:=al1 hτ h
 refine ⟨s,hs,j8 fun a w ι M he hh=>?_⟩
 obtain ⟨v,ad,h0,h1,h2⟩:=hv a w ι M he hh
 exact ⟨v,by simp [execOp,ho,h1],h2⟩
end
end
section
open Go.RowKit
section
variable {P:Program} {τ:Tab} {o:Oper} {ev:Operand->S} {H:Hp}
theorem Addr.add_none (b off n:Nat):(⟨b,off,none⟩:Addr).add n=⟨b,off+n,none⟩:=by unfold Addr.add;split<;>simp_all
theorem at0 (hτ:B2 P τ) {s:TypeId} {f:Nat} {k:Nat->Prop} (h:aa5 τ s f k):
 ∃off fields fd,k off∧P.underlying s=some (.struct fields)∧fields[f]? =some fd∧fd.offset=off∧∃i,P.info? fd.type=some i∧i.size≠0:=by
 unfold aa5 at h
 split at h
 ·rename_i fs _ _ _ _ hd
  split at h
  ·rename_i off size _ hf
   obtain ⟨h0,hk⟩:=V6 h
   obtain ⟨u,hu,ha,fields,rfl,hm,hall,_⟩:=(hτ.td _ _ hd).und
   have h1:(fs.map (fun x=>(x.1,x.2.1)))[f]? =some (off,size):=by rw [lba,hf];rfl
   rw [hm,lba] at h1
   cases hfd:fields.toList[f]? with
   |none=>rw [hfd] at h1;cases h1
   |some fd=>
    rw [hfd] at h1
    injection h1 with h1
    injection h1 with h1 h2
    have hi:=hall fd (lbm hfd)
    obtain ⟨i,hi⟩:=aB3.1 hi
    refine ⟨off,fields,fd,hk,hu,by simpa using hfd,h1,i,hi,?_⟩
    have:P.cellsOf fd.type=i.size:=by simp [Program.cellsOf,hi]
    have h0':size≠0:=by intro hz;subst hz;simp at h0
    omega
  ·exact h.elim
 ·exact h.elim
theorem a8C {s:TypeId} {f:Nat} {fields:Array Field} {fd:Field} {i:TypeInfo} (hu:P.underlying s=some (.struct fields)) (hf:fields[f]? =some fd) (hi:P.info? fd.type=some i) (h0:i.size≠0)
 (w:World) (b off:Nat):(Instr.fieldAt s (.pointer (some ⟨b,off,none⟩)) f).run P w=.ok (.pointer (some ⟨b,off+fd.offset,none⟩)) w:=by
 simp [Instr.fieldAt,run_underlying hu,hf,Instr.sureAddr,fieldPlace,sizeOf,typeInfo,hi,h0,Addr.add_none]
theorem a7E (hτ:B2 P τ) {s:TypeId} {x:Operand} {f:Nat} (ho:o.op=.fieldAddr s x f) {K:S->Prop} (h:a5W τ ev s x f K):∃s,K s∧QOp P o ev H s []:=by
 obtain ⟨off,fields,fd,h,hu,hf,rfl,i,hi,h0⟩:=at0 hτ h
 split at h
 ·rename_i id r o' hx
  refine ⟨_,h,j8 fun a w ι M he hh=>?_⟩
  generalize hv:a.eval x=v
  have hr:=he.to hx
  rw [hv] at hr
  cases hr with
  |c hr=>cases hr with
   |@ptr _ _ _ b cap size hi'=>
    refine ⟨_,by simp [execOp,ho,hv,a8C hu hf hi h0];rfl,?_⟩
    rw [U9]
    exact .c (.ptr hi')
 ·rename_i cells hx
  obtain ⟨hl,h⟩:=a7p h
  refine ⟨_,h,j8 fun a w ι M he hh=>?_⟩
  generalize hv:a.eval x=v
  have hr:=(he.to hx).inv_t
  rw [hv] at hr
  cases hr with
  |@ptr _ b off f hc hr=>
   refine ⟨_,by simp [execOp,ho,hv,a8C hu hf hi h0],.c (.t (.ptr (b:=b) (off:=off+fd.offset) (fun j=>f (fd.offset+j)) (fun j c hj=>?_) (fun j c hj=>?_)))⟩
   ·rw [lbj] at hj
    rw [U9]
    exact hc _ _ hj
   ·rw [lbj] at hj
    exact hr _ _ hj
 ·exact h.elim
theorem Q9 (hτ:B2 P τ) {e:TypeId} {k:Nat->Prop} (h:a3L τ e k):∃d,τ e=some d∧k d.size∧∀w,(sizeOf e).run P w=.ok d.size w:=by
 unfold a3L at h
 split at h
 ·rename_i d hd
  exact ⟨d,hd,h,a2N (hτ.td _ _ hd)⟩
 ·exact h.elim
theorem J0 (hτ:B2 P τ) {t e:TypeId} {a:Bool} {s b:Nat} {z:List Value} (h:τ t=some ⟨.slice e,a,s,b,z⟩):P.underlying t=some (.slice e):=by
 obtain ⟨u,hu,_,rfl⟩:=(hτ.td _ _ h).und;exact hu
theorem aB4 (hτ:B2 P τ) {t e:TypeId} {a:Bool} {n s b:Nat} {z:List Value} (h:τ t=some ⟨.arr n e,a,s,b,z⟩):P.underlying t=some (.array n e):=by
 obtain ⟨u,hu,_,rfl⟩:=(hτ.td _ _ h).und;exact hu
theorem a8q {t e:TypeId} (hu:P.underlying t=some (.slice e)) {w:World} {size:Nat} (hs:(sizeOf e).run P w=.ok size w) {k:IntKind} {n:Int} {A:Option Addr} {len cap b off:Nat}
 (h0:0<=n) (h1:n<(len:Int)) (hA:0<len->A=some ⟨b,off,none⟩):
 (Instr.indexAt t (.slice A len cap) (.int k n)).run P w=.ok (.pointer (some ⟨b,off+n.toNat*size,none⟩)) w:=by
 have:=hA (by omega)
 subst this
 simp [Instr.indexAt,asIntOf,run_underlying hu,h0,h1,hs,Addr.add_none]
theorem a6l {t e:TypeId} {m:Nat} (hu:P.underlying t=some (.array m e)) {w:World} {size:Nat} (hs:(sizeOf e).run P w=.ok size w) {k:IntKind} {n:Int} {b off:Nat}
 (h0:0<=n) (h1:n<(m:Int)):
 (Instr.indexAt t (.pointer (some ⟨b,off,none⟩)) (.int k n)).run P w=.ok (.pointer (some ⟨b,off+n.toNat*size,none⟩)) w:=by
 simp [Instr.indexAt,asIntOf,run_underlying hu,Instr.sureAddr,h0,h1,hs,Addr.add_none]
theorem z6 {α:Type} {rows:List (List α)} {i j:Nat} {row:List α} {c:α} (h:rows[i]? =some row) (h':row[j]? =some c):at2 rows i j=some c:=by simp [at2,h,h']
theorem D6 {α:Type} {rows:List (List α)} {i j:Nat} {c:α} (h:at2 rows i j=some c):∃row,rows[i]? =some row∧row[j]? =some c:=by
 unfold at2 at h
 cases hr:rows[i]? with
 |none=>rw [hr] at h;cases h
 |some row=>rw [hr] at h;exact ⟨row,rfl,h⟩
theorem a7z (hτ:B2 P τ) {t:TypeId} {x i:Operand} (ho:o.op=.indexAddr t x i) {K:S->Prop} (h:a31 τ ev H t x i K):∃s,K s∧QOp P o ev H s []:=by
 unfold a31 at h
 split at h
 rotate_left
 ·exact h.elim
 rename_i k n hi
 split at h
 ·rename_i e _ _ _ _ ht
  have hu:=J0 hτ ht
  split at h
  ·rename_i size sk rows hx
   obtain ⟨d,hd,h,hsz⟩:=Q9 hτ h
   obtain ⟨hs,row,h0,hrow,hK⟩:=B6 h
   clear h
   have hs:d.size=size:=by simpa using hs
   subst hs
   refine ⟨_,hK,j8 fun a w ι M he hh=>?_⟩
   generalize hv:a.eval x=v
   have hiv:=(he.to hi).inv_atm
   have hr:=(he.to hx).inv_t
   rw [hv] at hr
   have hlt:n.toNat<rows.length:=(lbe.1 hrow).1
   cases hr with
   |@sl _ _ _ b off cap A f hrow' hcap hmax hk hn hA hc hr=>
    refine ⟨_,by simp [execOp,ho,hv,hiv];rw [a8q hu (hsz w) (b:=b) (off:=off) h0 (by omega) (fun h=>hA (by intro e;rw [e] at h;simp at h))];rfl,
     .c (.t (.ptr (fun j=>f n.toNat j) (fun j c hj=>?_) (fun j c hj=>hr _ _ _ (z6 hrow hj))))⟩
    have:=hc n.toNat j c (z6 hrow hj)
    rw [U9]
    exact this
  ·rename_i id lo len app hx
   obtain ⟨d,hd,h,hsz⟩:=Q9 hτ h
   obtain ⟨bk,hbk,h⟩:=L7 h
   obtain ⟨hdead,h⟩:=Y5 h
   obtain ⟨hs,⟨h0,h1⟩,h⟩:=B6 h
   have hs:d.size=bk.size:=by simpa using hs
   refine ⟨_,h,j8 fun a w ι M he hh=>?_⟩
   generalize hv:a.eval x=v
   have hiv:=(he.to hi).inv_atm
   have hr:=he.to hx
   rw [hv] at hr
   cases hr with
   |c hr=>cases hr with
    |@own _ _ _ _ b cap size A cap' h' q1 q2 q3 q4 q5=>
     obtain ⟨hq,_⟩:=hh.blk id bk hbk hdead _ h'
     refine ⟨_,by simp [execOp,ho,hv,hiv];rw [a8q hu (hsz w) (b:=b) (off:=lo*size) h0 h1 q2];rfl,?_⟩
     have e:lo*size+n.toNat*d.size=(lo+n.toNat)*size+0:=by rw [hs,hq,I3,a7v]
     rw [e]
     exact .c (.ptr h')
    |nil h=>simp at h1;omega
  ·exact h.elim
 ·rename_i m e _ _ _ _ ht
  have hu:=aB4 hτ ht
  obtain ⟨d,hd,h,hsz⟩:=Q9 hτ h
  split at h
  ·rename_i id r o' hx
   obtain ⟨⟨h0,h1⟩,h⟩:=h
   refine ⟨_,h,j8 fun a w ι M he hh=>?_⟩
   generalize hv:a.eval x=v
   have hiv:=(he.to hi).inv_atm
   have hr:=he.to hx
   rw [hv] at hr
   cases hr with
   |c hr=>cases hr with
    |ptr hi'=>
     refine ⟨_,by simp [execOp,ho,hv,hiv];rw [a6l hu (hsz w) h0 h1];rfl,?_⟩
     rw [U9]
     exact .c (.ptr hi')
  ·rename_i cells hx
   obtain ⟨⟨h0,h1⟩,h⟩:=h
   obtain ⟨hl,h⟩:=a7p h
   refine ⟨_,h,j8 fun a w ι M he hh=>?_⟩
   generalize hv:a.eval x=v
   have hiv:=(he.to hi).inv_atm
   have hr:=(he.to hx).inv_t
   rw [hv] at hr
   cases hr with
   |@ptr _ b off f hc hr=>
    refine ⟨_,by simp [execOp,ho,hv,hiv];rw [a6l hu (hsz w) h0 h1];rfl,.c (.t (.ptr (fun j=>f (n.toNat*d.size+j)) (fun j c hj=>?_) (fun j c hj=>?_)))⟩
    ·rw [lbj] at hj
     rw [U9]
     exact hc _ _ hj
    ·rw [lbj] at hj
     exact hr _ _ hj
  ·exact h.elim
 ·exact h.elim
theorem K3 {x:Option Operand} {dflt:Int} {k:Int->Prop} (h:N5 ev x dflt k):
 ∃n,k n∧((x=none∧n=dflt)∨∃y kk,x=some y∧ev y=a7 kk n):=by
 unfold N5 at h
 split at h
 ·exact ⟨_,h,.inl ⟨rfl,rfl⟩⟩
 ·split at h
  ·rename_i y _ kk n hy
   exact ⟨n,h,.inr ⟨y,kk,rfl,hy⟩⟩
  ·exact h.elim
theorem T9 {w:World} {ι:Io} {M:Ms} {a:Act} (he:R3 w ι M ev a) {lo hi:Option Operand} {l h:Int} {len cap:Nat}
 (hl:(lo=none∧l=0)∨∃y kk,lo=some y∧ev y=a7 kk l) (hh:(hi=none∧h=(len:Int))∨∃y kk,hi=some y∧ev y=a7 kk h)
 (h0:0<=l) (h1:l<=h) (h2:h<=(cap:Int)):
 (Instr.sliceBounds true len cap (lo.map a.eval) (hi.map a.eval) none).run P w=.ok (l.toNat,h.toNat,cap) w:=by
 have e1:∀(n:Int) (m:Nat) (kk:IntKind) c,0<=n->n<=(m:Int)->(Instr.sliceBound (.int kk n) m c).run P w=.ok n.toNat w:=fun n m kk c q1 q2=>by
  simp [Instr.sliceBound,asIntOf,q1,q2]
 rcases hl with ⟨rfl,rfl⟩|⟨y,kk,rfl,hy⟩<;>rcases hh with ⟨rfl,rfl⟩|⟨y',kk',rfl,hy'⟩
 ·simp [Instr.sliceBounds]
 ·simp [Instr.sliceBounds,(he.to hy').inv_atm,e1 _ _ _ _ (by omega) h2]
 ·simp only [Instr.sliceBounds,V5,Option.map_none,(he.to hy).inv_atm,Sem.run_bind,Sem.run_pure,Result.andThen_ok,Option.isSome_none,a5R,if_false,e1 _ _ _ _ h0 h1]
  simp
 ·simp only [Instr.sliceBounds,V5,Option.map_none,(he.to hy).inv_atm,(he.to hy').inv_atm,Sem.run_bind,Sem.run_pure,Result.andThen_ok,Option.isSome_none,a5R,if_false,if_true,e1 _ _ _ _ (Int.le_trans h0 h1) h2]
  rw [e1 _ _ _ _ h0 (by omega)]
  simp
theorem au2 {k:SK} {hi max:Option Operand} {α:Type} {rows:List α} {A:Option Addr}:(a09 k hi max=.nul->rows=[]∧A=none)∧(a09 k hi max=.non->A≠none):=by
 unfold a09;split<;>exact ⟨(fun h=>nomatch h),(fun h=>nomatch h)⟩
theorem aj3 (hτ:B2 P τ) {t:TypeId} {x:Operand} {lo hi:Option Operand} (ho:o.op=.slice t x lo hi none) {K:S->Prop} (h:a4h τ ev H t x lo hi none K):∃s,K s∧QOp P o ev H s []:=by
 unfold a4h at h
 split at h
 rotate_left
 ·exact h.elim
 rename_i e _ _ _ _ ht
 simp only at h
 have hu:=J0 hτ ht
 split at h
 ·rename_i rows hx
  obtain ⟨l,h,hl⟩:=K3 h
  obtain ⟨u,h,hhi⟩:=K3 h
  obtain ⟨d,hd,h,hsz⟩:=Q9 hτ h
  obtain ⟨⟨h0,h1,h2⟩,h⟩:=h
  refine ⟨_,h,j8 fun a w ι M he hh=>?_⟩
  generalize hv:a.eval x=v
  have hr:=(he.to hx).inv_t
  rw [hv] at hr
  cases hr with
  |@sl _ _ _ b off cap A f hrow hcap hmax hk hn hA hc hr=>
   obtain ⟨rfl,rfl,rfl⟩:=hn rfl
   obtain rfl:l=0:=by omega
   obtain rfl:u=0:=by omega
   have hb:=T9 (P:=P) (w:=w) (len:=0) he hl hhi (cap:=0) (by omega) (by omega) (by omega)
   refine ⟨.slice none 0 0,?_,?_⟩
   ·simp [execOp,ho,hv,Instr.sliceAt,run_underlying hu,Instr.slice,hb,hsz]
   ·exact .c (.t (.sl (rows:=[]) (b:=0) (off:=0) (fun _ _=>undef) (by simp) (by simp) (by simp) (by simp) (by simp) (by simp) (by intro i j c hc;simp [at2] at hc) (by intro i j c hc;simp [at2] at hc)))
 ·rename_i size k rows hnn hx
  obtain ⟨l,h,hl⟩:=K3 h
  obtain ⟨u,h,hhi⟩:=K3 h
  obtain ⟨d,hd,h,hsz⟩:=Q9 hτ h
  obtain ⟨hs,⟨h0,h1,h2⟩,h⟩:=B6 h
  have hs:d.size=size:=by simpa using hs
  subst hs
  refine ⟨_,h,j8 fun a w ι M he hh=>?_⟩
  generalize hv:a.eval x=v
  have hr:=(he.to hx).inv_t
  rw [hv] at hr
  cases hr with
  |@sl _ _ _ b off cap A f hrow hcap hmax hk hn hA hc hr=>
   have hb:=T9 (P:=P) (w:=w) he hl hhi (cap:=cap) h0 h1 (by omega)
   refine ⟨.slice (if cap=l.toNat then A else A.map (·.add (l.toNat*d.size))) (u.toNat - l.toNat) (cap - l.toNat),?_,?_⟩
   ·simp [execOp,ho,hv,Instr.sliceAt,run_underlying hu,Instr.slice,hb,hsz]
   ·have hlen:((rows.take u.toNat).drop l.toNat).length=u.toNat - l.toNat:=by simp;omega
    have hat:∀i j c,at2 ((rows.take u.toNat).drop l.toNat) i j=some c->at2 rows (l.toNat+i) j=some c:=fun i j c hc=>by
     obtain ⟨row,h1,h2⟩:=D6 hc
     rw [lbj,lbi] at h1
     split at h1
     ·exact z6 h1 h2
     ·cases h1
    rw [← hlen]
    refine .c (.t (.sl (b:=b) (off:=off+l.toNat*d.size) (fun i j=>f (l.toNat+i) j) ?_ (by omega) (by omega) ?_ ?_ ?_ ?_ ?_ (hx:=au2)))
    ·intro r hr
     exact hrow r (ab1 (aN6 hr))
    ·intro hf
     have hkf:k=.full∧hi=none:=by
      unfold a09 at hf
      split at hf
      ·exact ⟨rfl,rfl⟩
      ·cases hf
     obtain ⟨rfl,rfl⟩:=hkf
     rcases hhi with ⟨_,rfl⟩|⟨y,kk,hy,_⟩
     ·rw [hk rfl,hlen];simp
     ·cases hy
    ·intro hf
     unfold a09 at hf
     split at hf<;>cases hf
    ·intro hne
     have hlt:0<((rows.take u.toNat).drop l.toNat).length:=a5Q.2 hne
     rw [if_neg (by omega),hA (by intro e;subst e;simp at hlt)]
     simp [Addr.add_none]
    ·intro i j c hc'
     obtain ⟨q1,q2⟩:=hc _ _ _ (hat i j c hc')
     refine ⟨?_,q2⟩
     rw [← q1]
     congr 2
     rw [I3];omega
    ·intro i j c hc'
     exact hr _ _ _ (hat i j c hc')
 ·rename_i id l0 len app hx
  obtain ⟨l,h,hl⟩:=K3 h
  obtain ⟨u,h,hhi⟩:=K3 h
  obtain ⟨d,hd,h,hsz⟩:=Q9 hτ h
  obtain ⟨bk,hbk,h⟩:=L7 h
  obtain ⟨hdead,h⟩:=Y5 h
  obtain ⟨hs,⟨h0,h1,h2⟩,h⟩:=B6 h
  have hs:d.size=bk.size:=by simpa using hs
  refine ⟨_,h,j8 fun a w ι M he hh=>?_⟩
  generalize hv:a.eval x=v
  have hr:=he.to hx
  rw [hv] at hr
  cases hr with
  |c hr=>cases hr with
   |@own _ _ _ _ b cap size A cap' h' q1 q2 q3 q4 q5=>
    obtain ⟨hq,_⟩:=hh.blk id bk hbk hdead _ h'
    have hb:=T9 (P:=P) (w:=w) he hl hhi (cap:=cap') h0 h1 (by omega)
    refine ⟨.slice (if cap'=l.toNat then A else A.map (·.add (l.toNat*d.size))) (u.toNat - l.toNat) (cap' - l.toNat),?_,?_⟩
    ·simp [execOp,ho,hv,Instr.sliceAt,run_underlying hu,Instr.slice,hb,hsz]
    ·rw [show (u - l).toNat=u.toNat - l.toNat by omega]
     refine .c (.own h' (by omega) ?_ (by omega) (by omega) ?_)
     ·intro hpos
      rw [if_neg (by omega),q2 (by omega)]
      simp [Addr.add_none,hs,hq,I3]
     ·intro happ
      obtain ⟨ha,hlo⟩:app=true∧lo=none:=by simpa using happ
      subst hlo
      rcases hl with ⟨_,rfl⟩|⟨y,kk,hy,_⟩
      ·obtain ⟨r1,r2,r3⟩:=q5 ha
       subst r2
       simp [r1,r3,Addr.add_none]
      ·cases hy
   |nil h'=>
    have hl0:l=0:=by omega
    have hu0:u=0:=by simp at h2;omega
    subst hl0 hu0
    have hb:=T9 (P:=P) (w:=w) he hl hhi (cap:=0) h0 h1 (by omega)
    refine ⟨_,by simp [execOp,ho,hv,Instr.sliceAt,run_underlying hu,Instr.slice,hb,hsz];rfl,?_⟩
    exact .c (.nil h')
 ·exact h.elim
theorem a0h {w:World} {ι:Io} {M:Ms} {a:Act} (he:R3 w ι M ev a) {lo:Option Operand} {y z:Operand} {l h:Int} {len cap:Nat} {kk kz:IntKind}
 (hl:(lo=none∧l=0)∨∃y kk,lo=some y∧ev y=a7 kk l) (hh:ev y=a7 kk h) (hz:ev z=a7 kz h)
 (h0:0<=l) (h1:l<=h) (h2:h<=(cap:Int)):
 (Instr.sliceBounds true len cap (lo.map a.eval) (some (a.eval y)) (some (a.eval z))).run P w=.ok (l.toNat,h.toNat,h.toNat) w:=by
 have e1:∀(n:Int) (m:Nat) (kk:IntKind) c,0<=n->n<=(m:Int)->(Instr.sliceBound (.int kk n) m c).run P w=.ok n.toNat w:=fun n m kk c q1 q2=>by
  simp [Instr.sliceBound,asIntOf,q1,q2]
 rcases hl with ⟨rfl,rfl⟩|⟨x,kx,rfl,hx⟩
 ·simp only [Instr.sliceBounds,Option.map_none,(he.to hh).inv_atm,(he.to hz).inv_atm,Sem.run_bind,Sem.run_pure,Result.andThen_ok,if_true,e1 _ _ _ _ h1 h2]
  rw [e1 _ _ _ _ h1 (by omega)]
  simp
 ·simp only [Instr.sliceBounds,V5,(he.to hh).inv_atm,(he.to hz).inv_atm,(he.to hx).inv_atm,Sem.run_bind,Sem.run_pure,Result.andThen_ok,if_true,e1 _ _ _ _ (Int.le_trans h0 h1) h2]
  rw [e1 h _ _ _ (by omega) (by omega)]
  simp only [Result.andThen_ok]
  rw [e1 l _ _ _ h0 (by omega)]
  simp
theorem ai7 (hτ:B2 P τ) {t:TypeId} {x z:Operand} {lo hi:Option Operand} (ho:o.op=.slice t x lo hi (some z)) {K:S->Prop} (h:a4h τ ev H t x lo hi (some z) K):∃s,K s∧QOp P o ev H s []:=by
 unfold a4h at h
 split at h
 rotate_left
 ·exact h.elim
 rename_i e _ _ _ _ ht
 have hu:=J0 hτ ht
 simp only at h
 split at h
 rotate_left
 ·exact h.elim
 rename_i kz m hz
 split at h
 ·rename_i size k rows hx
  obtain ⟨l,h,hl⟩:=K3 h
  obtain ⟨u,h,hhi⟩:=K3 h
  obtain ⟨d,hd,h,hsz⟩:=Q9 hτ h
  obtain ⟨hsome,h⟩:=B6 h
  obtain ⟨hs,⟨h0,h1,rfl,h2⟩,hK⟩:=B6 h
  have hs:d.size=size:=by simpa using hs
  subst hs
  obtain ⟨y,kk,rfl,hy⟩:∃y kk,hi=some y∧ev y=a7 kk m:=by
   rcases hhi with ⟨rfl,_⟩|h
   ·cases hsome
   ·exact h
  refine ⟨_,hK,j8 fun a w ι M he hh=>?_⟩
  generalize hv:a.eval x=v
  have hr:=(he.to hx).inv_t
  rw [hv] at hr
  cases hr with
  |@sl _ _ _ b off cap A f hrow hcap hmax hk hn hA hc hr=>
   have hb:=a0h (P:=P) (w:=w) he hl hy hz (len:=rows.length) (cap:=cap) h0 h1 (by omega)
   refine ⟨.slice (if m.toNat=l.toNat then A else A.map (·.add (l.toNat*d.size))) (m.toNat - l.toNat) (m.toNat - l.toNat),?_,?_⟩
   ·simp [execOp,ho,hv,Instr.sliceAt,run_underlying hu,Instr.slice,hb,hsz]
   ·have hlen:((rows.take m.toNat).drop l.toNat).length=m.toNat - l.toNat:=by simp;omega
    have hat:∀i j c,at2 ((rows.take m.toNat).drop l.toNat) i j=some c->at2 rows (l.toNat+i) j=some c:=fun i j c hc=>by
     obtain ⟨row,h1,h2⟩:=D6 hc
     rw [lbj,lbi] at h1
     split at h1
     ·exact z6 h1 h2
     ·cases h1
    rw [← hlen]
    refine .c (.t (.sl (b:=b) (off:=off+l.toNat*d.size) (fun i j=>f (l.toNat+i) j) ?_ (by omega) (by omega) ?_ ?_ ?_ ?_ ?_))
    ·intro r hr
     exact hrow r (ab1 (aN6 hr))
    ·intro _;rfl
    ·intro hf;cases hf
    ·intro hne
     have hlt:0<((rows.take m.toNat).drop l.toNat).length:=a5Q.2 hne
     rw [if_neg (by omega),hA (by intro e;subst e;simp at hlt)]
     simp [Addr.add_none]
    ·intro i j c hc'
     obtain ⟨q1,q2⟩:=hc _ _ _ (hat i j c hc')
     refine ⟨?_,q2⟩
     rw [← q1]
     congr 2
     rw [I3];omega
    ·intro i j c hc'
     exact hr _ _ _ (hat i j c hc')
 ·rename_i id l0 len app hx
  obtain ⟨l,h,hl⟩:=K3 h
  obtain ⟨u,h,hhi⟩:=K3 h
  obtain ⟨hsome,h⟩:=B6 h
  obtain ⟨d,hd,h,hsz⟩:=Q9 hτ h
  obtain ⟨bk,hbk,h⟩:=L7 h
  obtain ⟨hdead,h⟩:=Y5 h
  obtain ⟨hs,⟨h0,h1,rfl,h2⟩,hK⟩:=B6 h
  have hs:d.size=bk.size:=by simpa using hs
  obtain ⟨y,kk,rfl,hy⟩:∃y kk,hi=some y∧ev y=a7 kk m:=by
   rcases hhi with ⟨rfl,_⟩|h
   ·cases hsome
   ·exact h
  refine ⟨_,hK,j8 fun a w ι M he hh=>?_⟩
  generalize hv:a.eval x=v
  have hr:=he.to hx
  rw [hv] at hr
  cases hr with
  |c hr=>cases hr with
   |@own _ _ _ _ b cap size A cap' h' q1 q2 q3 q4 q5=>
    obtain ⟨hq,_⟩:=hh.blk id bk hbk hdead _ h'
    have hb:=a0h (P:=P) (w:=w) he hl hy hz (len:=len) (cap:=cap') h0 h1 (by omega)
    refine ⟨.slice (if m.toNat=l.toNat then A else A.map (·.add (l.toNat*d.size))) (m.toNat - l.toNat) (m.toNat - l.toNat),?_,?_⟩
    ·simp [execOp,ho,hv,Instr.sliceAt,run_underlying hu,Instr.slice,hb,hsz]
    ·rw [show (m - l).toNat=m.toNat - l.toNat by omega]
     refine .c (.own h' (by omega) ?_ (by omega) (by omega) (by intro h;cases h))
     intro hpos
     rw [if_neg (by omega),q2 (by omega)]
     simp [Addr.add_none,hs,hq,I3]
   |nil h'=>
    have hl0:l=0:=by omega
    have hu0:m=0:=by simp at h2;omega
    subst hl0 hu0
    have hb:=a0h (P:=P) (w:=w) he hl hy hz (len:=0) (cap:=0) h0 h1 (by omega)
    refine ⟨_,by simp [execOp,ho,hv,Instr.sliceAt,run_underlying hu,Instr.slice,hb,hsz];rfl,?_⟩
    exact .c (.nil h')
 ·exact h.elim
theorem as8 (hτ:B2 P τ) {t:TypeId} {x:Operand} {lo hi max:Option Operand} (ho:o.op=.slice t x lo hi max) {K:S->Prop} (h:a4h τ ev H t x lo hi max K):∃s,K s∧QOp P o ev H s []:=by
 cases max with
 |none=>exact aj3 hτ ho h
 |some z=>exact ai7 hτ ho h
end
end
section
open Go.RowKit
section
variable {P:Program} {τ:Tab} {o:Oper} {ev:Operand->S} {H:Hp}
theorem aB7 {op:BinOp} {t:TypeId} {x y:Operand} {a b:Value} (w:World) (h1:∀cs,a≠.agg cs) (h2:a≠.nilIface):(eqGuard op t x y a b).run P w=.ok () w:=by
 unfold eqGuard
 generalize (match op with|.eql|.neq=>true|_=>false:Bool)=q
 cases a<;>first
  |exact absurd rfl h2
  |exact absurd rfl (h1 _)
  |(cases q<;>simp)
theorem a1B {op:BinOp} {t yt:TypeId} {x y:Operand} (ho:o.op=.binOp op t x y yt) {a:Act} {w:World} {v:Value}
 (h1:∀cs,a.eval x≠.agg cs) (h2:a.eval x≠.nilIface) (h:(binOp op t (a.eval x) (a.eval y)).run P w=.ok v w):(execOp a.eval o).run P w=.ok (.value v) w:=by
 simp [execOp,ho,aB7 w h1 h2,h]
theorem aO9 {op:BinOp} {t yt:TypeId} {x y:Operand} (ho:o.op=.binOp op t x y yt) {k k':IntKind} {p q:Int} (hx:ev x=a7 k p) (hy:ev y=a7 k' q) {K:S->Prop}
 (h:b8D op k k' p q K):∃s,K s∧QOp P o ev H s []:=by
 have key:∀(s:S) (v:Value),(∀ w,(binOp op t (.int k p) (.int k' q)).run P w=.ok v w)->(∀ w ι M,RS w ι M s v)->QOp P o ev H s []:=fun s v hr hs=>
  j8 fun a w ι M he hh=>by
   have e1:=(he.to hx).inv_atm
   have e2:=(he.to hy).inv_atm
   exact ⟨v,a1B ho (by rw [e1];simp) (by rw [e1];simp) (by rw [e1,e2];exact hr w),hs w ι M⟩
 unfold b8D at h
 split at h
 ·obtain ⟨h0,n,hn,h⟩:=h
  refine ⟨_,h,key _ (.int k n) (fun w=>?_) (fun _ _ _=>.int)⟩
  simp only [binOp,Op.shift]
  rw [Sem.run_ite,if_neg (by omega)]
  unfold G0 at hn
  rw [hn]
  rfl
 ·obtain ⟨h0,n,hn,h⟩:=h
  unfold b02 at hn
  subst hn
  refine ⟨_,h,key _ _ (fun w=>?_) (fun _ _ _=>.int)⟩
  simp only [binOp,Op.shift]
  rw [Sem.run_ite,if_neg (by omega)]
  rfl
 ·rename_i op' hne1 hne2
  obtain ⟨hk,h'⟩:=B6 h
  clear h
  have hk:k=k':=by simpa using hk
  subst hk
  revert h'
  intro h
  split at h
  case h_1=>
   obtain ⟨n,hn,h⟩:=h
   exact ⟨_,h,key _ _ (fun w=>by simp [binOp,Op.intArith];rw [← hn]) (fun _ _ _=>.int)⟩
  case h_2=>
   obtain ⟨n,hn,h⟩:=h
   exact ⟨_,h,key _ _ (fun w=>by simp [binOp,Op.intArith];rw [← hn]) (fun _ _ _=>.int)⟩
  case h_3=>
   obtain ⟨n,hn,h⟩:=h
   exact ⟨_,h,key _ _ (fun w=>by simp [binOp,Op.intArith];rw [← hn]) (fun _ _ _=>.int)⟩
  case h_4=>
   obtain ⟨h0,n,hn,h⟩:=h
   exact ⟨_,h,key _ _ (fun w=>by simp [binOp,Op.intDiv,h0];rw [← hn]) (fun _ _ _=>.int)⟩
  case h_5=>
   obtain ⟨h0,h⟩:=h
   exact ⟨_,h,key _ _ (fun w=>by simp [binOp,Op.intDiv,h0]) (fun _ _ _=>.int)⟩
  case h_6=>exact ⟨_,h.get,key _ (.bool (decide (p=q))) (fun w=>by simp [binOp,Op.intCmp];rfl) (fun _ _ _=>.bool)⟩
  case h_7=>exact ⟨_,h.get,key _ (.bool (decide (p≠q))) (fun w=>by simp [binOp,Op.intCmp];rfl) (fun _ _ _=>.bool)⟩
  case h_8=>exact ⟨_,h.get,key _ _ (fun w=>by simp [binOp,Op.intCmp]) (fun _ _ _=>.bool)⟩
  case h_9=>exact ⟨_,h.get,key _ _ (fun w=>by simp [binOp,Op.intCmp]) (fun _ _ _=>.bool)⟩
  case h_10=>exact ⟨_,h.get,key _ _ (fun w=>by simp [binOp,Op.intCmp]) (fun _ _ _=>.bool)⟩
  case h_11=>exact ⟨_,h.get,key _ _ (fun w=>by simp [binOp,Op.intCmp]) (fun _ _ _=>.bool)⟩
  case h_12=>
   obtain ⟨n,hn,h⟩:=h
   refine ⟨_,h,key _ (.int k n) (fun w=>?_) (fun _ _ _=>.int)⟩
   cases op<;>first|exact False.elim hn|(simp [a4n] at hn;simp [binOp,Op.intBits,hn];done)
theorem a82:∀{cs:List C} {k:List Int->Prop},aL9 cs k->∃ul:List Int,cs=ul.map (fun a=>C.t (.atm (.int .i64 a)))∧k ul
 |[],k,h=>⟨[],rfl,h⟩
 |c::cs,k,h=>by
  unfold aL9 at h
  split at h
  ·rename_i heq;cases heq
  ·rename_i a cs' heq
   injection heq with h1 h2
   subst h1;subst h2
   obtain ⟨ul,rfl,hk⟩:=a82 h
   exact ⟨a::ul,rfl,hk⟩
  ·exact h.elim
theorem a6Y {w:World} {ι:Io} {M:Ms} {cs:List C} {ul:List Int} {v:Value} (h:RS w ι M (.agg cs) v) (e:cs=ul.map (fun a=>C.t (.atm (.int .i64 a)))):v=.agg (ul.map (Value.int .i64)).toArray:=by
 subst e
 cases h with
 |agg vs hl hr=>
  congr 2
  refine List.ext_getElem (by simpa using hl) fun i h1 h2=>?_
  have:=hr i _ (lbf (by simpa using h2))
  simp only [av0] at this ⊢
  rw [lbl,lbf h1] at this
  exact (RS.c this).inv_atm
theorem aS5 (hτ:B2 P τ) {op:BinOp} {t yt:TypeId} {x y:Operand} (ho:o.op=.binOp op t x y yt) {K:S->Prop} (h:b7U P τ op t (ev x) (ev y) K):∃s,K s∧QOp P o ev H s []:=by
 unfold b7U at h
 split at h
 ·rename_i k a k' b hx hy
  exact aO9 ho hx hy h
 ·rename_i p q hx hy
  split at h
  ·rename_i ht
   obtain ⟨u,hu,_,rfl⟩:=(hτ.td _ _ ht).und
   split at h
   ·refine ⟨_,h.get,j8 fun a w ι M he hh=>⟨_,a1B ho (v:=.bool (p == q)) ?_ ?_ ?_,.bool⟩⟩
    ·simp [(he.to hx).inv_atm]
    ·simp [(he.to hx).inv_atm]
    ·rw [(he.to hx).inv_atm,(he.to hy).inv_atm];exact run_eql_bool w t p q hu
   ·refine ⟨_,h.get,j8 fun a w ι M he hh=>⟨_,a1B ho (v:=.bool (!(p == q))) ?_ ?_ ?_,.bool⟩⟩
    ·simp [(he.to hx).inv_atm]
    ·simp [(he.to hx).inv_atm]
    ·rw [(he.to hx).inv_atm,(he.to hy).inv_atm];simp [binOp,run_equal_bool w t p q hu]
   ·exact h.elim
  ·exact h.elim
 ·rename_i cx s hx hy
  split at h
  ·rename_i e _ _ _ _ ht
   have hu:=J0 hτ ht
   have key:∀(k:Bool->Prop),az7 cx k->∃r,k r∧∀(a:Act) (w:World) (ι:Io) (M:Ms),R3 w ι M ev a->∃A n c,a.eval x=.slice A n c∧A.isNone=r:=by
    intro k hk
    unfold az7 at hk
    split at hk
    ·refine ⟨true,hk,fun a w ι M he=>?_⟩
     have hr:=(he.to hx).inv_t
     generalize a.eval x=v at *
     cases hr with
     |sl f hrow hcap hmax hk hn hA hc hr=>exact ⟨_,_,_,rfl,by rw [(hn rfl).2.1];rfl⟩
    ·refine ⟨true,hk,fun a w ι M he=>?_⟩
     have hr:=(he.to hx).inv_t
     generalize a.eval x=v at *
     cases hr with
     |sl f hrow hcap hmax hk hn hA hc hr hx=>exact ⟨_,_,_,rfl,by rw [(hx.1 rfl).2];rfl⟩
    ·refine ⟨false,hk,fun a w ι M he=>?_⟩
     have hr:=(he.to hx).inv_t
     generalize a.eval x=v at *
     cases hr with
     |@sl _ _ _ _ _ _ A f hrow hcap hmax hk hn hA hc hr hx=>
      refine ⟨_,_,_,rfl,?_⟩
      cases A with
      |none=>exact absurd rfl (hx.2 rfl)
      |some a=>rfl
    ·rename_i rows _ _ _
     refine ⟨false,hk.2,fun a w ι M he=>?_⟩
     have hr:=(he.to hx).inv_t
     generalize a.eval x=v at *
     cases hr with
     |sl f hrow hcap hmax hk' hn hA hc hr=>exact ⟨_,_,_,rfl,by rw [hA (by intro e;subst e;simp at hk)];rfl⟩
    ·refine ⟨false,hk.2,fun a w ι M he=>?_⟩
     have hr:=(he.to hx).inv_c
     generalize a.eval x=v at *
     cases hr with
     |own h' q1 q2 q3 q4 q5=>exact ⟨_,_,_,rfl,by rw [q2 hk.1];rfl⟩
     |nil h'=>have:=hk.1;omega
    ·exact hk.elim
   have hnil:∀(a:Act) (w:World) (ι:Io) (M:Ms),R3 w ι M ev a->∃c,a.eval y=.slice none 0 c:=fun a w ι M he=>by
    have hr:=(he.to hy).inv_t
    generalize a.eval y=v at *
    cases hr with
    |sl f hrow hcap hmax hk hn hA hc hr=>obtain ⟨_,rfl,_⟩:=hn rfl;exact ⟨_,rfl⟩
   split at h
   ·obtain ⟨r,h,hr⟩:=key _ h
    refine ⟨_,h,j8 fun a w ι M he hh=>?_⟩
    obtain ⟨A,n,c,e1,rfl⟩:=hr a w ι M he
    obtain ⟨c',e2⟩:=hnil a w ι M he
    exact ⟨.bool A.isNone,a1B ho (by simp [e1]) (by simp [e1]) (by rw [e1,e2];exact Lib.run_eql_slice_nil w t e A n c 0 c' hu),.bool⟩
   ·obtain ⟨r,h,hr⟩:=key _ h
    refine ⟨_,h,j8 fun a w ι M he hh=>?_⟩
    obtain ⟨A,n,c,e1,rfl⟩:=hr a w ι M he
    obtain ⟨c',e2⟩:=hnil a w ι M he
    exact ⟨.bool (!A.isNone),a1B ho (by simp [e1]) (by simp [e1]) (by rw [e1,e2];exact run_neq_slice_nil_any w t e A n c 0 c' hu),.bool⟩
   ·exact h.elim
  ·exact h.elim
 ·rename_i pcs hx hy
  obtain ⟨hu,h⟩:=h
  have hp:∀(a:Act) (w:World) (ι:Io) (M:Ms),R3 w ι M ev a->∃p,a.eval x=.pointer (some p):=fun a w ι M he=>by
   have hr:=(he.to hx).inv_t
   generalize a.eval x=v at *
   cases hr with
   |ptr f hc hr=>exact ⟨_,rfl⟩
  split at h
  ·refine ⟨_,h,j8 fun a w ι M he hh=>?_⟩
   obtain ⟨p,e1⟩:=hp a w ι M he
   have e2:=(he.to hy).inv_atm
   exact ⟨.bool false,a1B ho (by simp [e1]) (by simp [e1]) (by rw [e1,e2];exact run_eql_pointer_nil w t (some p) hu),.bool⟩
  ·refine ⟨_,h,j8 fun a w ι M he hh=>?_⟩
   obtain ⟨p,e1⟩:=hp a w ι M he
   have e2:=(he.to hy).inv_atm
   exact ⟨.bool true,a1B ho (by simp [e1]) (by simp [e1]) (by rw [e1,e2];exact run_neq_pointer_nil w t (some p) hu),.bool⟩
  ·exact h.elim
 ·rename_i cs ds hx hy
  unfold b9M at h
  obtain ⟨ul,e1,h⟩:=a82 h
  obtain ⟨bs,e2,h⟩:=a82 h
  obtain ⟨⟨⟨hg,hE⟩,hl⟩,h⟩:=h
  split at h
  ·refine ⟨_,h.get,j8 fun a w ι M he hh=>⟨.bool (ul == bs),?_,.bool⟩⟩
   rw [execOp,ho]
   simp only [a6Y (he.to hx) e1,a6Y (he.to hy) e2]
   simp [run_eqGuard_agg _ _ _ _ _ _ _ hg,run_eql_struct,hE ul bs w rfl hl]
  ·refine ⟨_,h.get,j8 fun a w ι M he hh=>⟨.bool (!(ul == bs)),?_,.bool⟩⟩
   rw [execOp,ho]
   simp only [a6Y (he.to hx) e1,a6Y (he.to hy) e2]
   simp [run_eqGuard_agg _ _ _ _ _ _ _ hg,run_neq_struct,hE ul bs w rfl hl]
  ·exact h.elim
 ·exact h.elim
theorem b1J {op:UnOp} {t:TypeId} {x:Operand} (ho:o.op=.unOp op t x) {K:S->Prop} (h:aun op (ev x) K):∃s,K s∧QOp P o ev H s []:=by
 unfold aun at h
 split at h
 ·rename_i k n hx
  obtain ⟨m,hm,h⟩:=h
  exact ⟨_,h,j8 fun a w ι M he hh=>⟨.int k m,by simp [execOp,ho,(he.to hx).inv_atm,Op.unary,Op.intArith];rw [hm];simp,.int⟩⟩
 ·rename_i b hx
  exact ⟨_,h,j8 fun a w ι M he hh=>⟨.bool (!b),by simp [execOp,ho,(he.to hx).inv_atm,Op.unary],.bool⟩⟩
 ·exact h.elim
theorem aW3 {x:Operand} (ho:o.op=.nilCheck x) {K:S->Prop} (h:aT7 (ev x) K):∃s,K s∧QOp P o ev H s []:=by
 unfold aT7 at h
 split at h
 ·rename_i id r o' hx
  exact ⟨_,h,j8 fun a w ι M he hh=>by
   have hr:=he.to hx
   generalize hv:a.eval x=v at hr
   cases hr with
   |c hr=>cases hr with
    |ptr hi=>exact ⟨_,by simp [execOp,ho,hv],.c (.ptr hi)⟩⟩
 ·rename_i cs hx
  exact ⟨_,h,j8 fun a w ι M he hh=>by
   have hr:=he.to hx
   generalize hv:a.eval x=v at hr
   cases hr with
   |c hr=>cases hr with
    |t hr=>cases hr with
     |ptr f hc hr=>exact ⟨_,by simp [execOp,ho,hv],.c (.t (.ptr f hc hr))⟩⟩
 ·exact h.elim
theorem aH9 (hτ:B2 P τ) {src dst:TypeId} {x:Operand} (ho:o.op=.convert src dst x) {K:S->Prop} (h:b45 τ src dst (ev x) K):∃s,K s∧QOp P o ev H s []:=by
 unfold b45 at h
 split at h
 ·rename_i k0 n d k _ _ _ _ hx hs hd
  obtain ⟨m,hm,h⟩:=h
  obtain ⟨u,hu,_⟩:=(hτ.td _ _ hs).und
  obtain ⟨u',hu',_,rfl⟩:=(hτ.td _ _ hd).und
  exact ⟨_,h,j8 fun a w ι M he hh=>⟨.int k m,by
   rw [hm]
   simp [execOp,ho,(he.to hx).inv_atm,convert,run_underlying hu,run_underlying hu',Conv.intToInt],.int⟩⟩
 ·exact h.elim
theorem a9K {x:Operand} {i:Nat} (ho:o.op=.extract x i) {ss:List S} (hx:ev x=.tup ss) {s:S} (hs:ss[i]? =some s):QOp P o ev H s []:=
 j8 fun a w ι M he hh=>by
  generalize hv:a.eval x=v
  have hr:=he.to hx
  rw [hv] at hr
  cases hr with
  |tup vs hl hr=>
   have hlt:i<vs.length:=by rw [hl];exact (lbe.1 hs).1
   have:=hr i s hs
   rw [lbl,lbf hlt] at this
   exact ⟨vs[i],by simp [execOp,ho,hv,Instr.extract,hlt],this⟩
theorem aS2 (hτ:B2 P τ) {c:Call} {t:TypeId} {ts:List TypeId} {x:Operand} {xs:List Operand} (ho:o.op=.call c) (hc:c.callee=.builtin .len) (hts:c.argTypes.toList=t::ts) (hxs:c.args.toList=x::xs) {K:S->Prop}
 (h:b7K τ t (ev x) K):∃s,K s∧QOp P o ev H s []:=by
 obtain ⟨callee,args,argTypes⟩:=c
 simp only at hc hts hxs
 subst hc
 obtain rfl:argTypes=(t::ts).toArray:=by rw [← hts]
 obtain rfl:args=(x::xs).toArray:=by rw [← hxs]
 unfold b7K at h
 split at h
 ·rename_i e _ _ _ _ ht
  have hu:=J0 hτ ht
  split at h
  ·rename_i sz k rows hx
   refine ⟨_,h,j8 fun a w ι M he hh=>⟨.int .i64 rows.length,?_,.int⟩⟩
   have hr:=(he.to hx).inv_t
   generalize hv:a.eval x=v at *
   cases hr
   simp [execOp,ho,resolve,invoke,builtin,Builtin.len_,hv,run_underlying hu,goInt]
  ·rename_i id lo len app hx
   refine ⟨_,h,j8 fun a w ι M he hh=>⟨.int .i64 len,?_,.int⟩⟩
   have hr:=(he.to hx).inv_c
   generalize hv:a.eval x=v at *
   cases hr<;>simp [execOp,ho,resolve,invoke,builtin,Builtin.len_,hv,run_underlying hu,goInt]
  ·exact h.elim
 ·rename_i n e _ _ _ _ ht
  have hu:=aB4 hτ ht
  refine ⟨_,h,j8 fun a w ι M he hh=>⟨.int .i64 n,?_,.int⟩⟩
  simp [execOp,ho,resolve,invoke,builtin,Builtin.len_,run_underlying hu,goInt]
 ·exact h.elim
theorem af9 {c:Call} (mx:Bool) (ho:o.op=.call c) (hc:c.callee=.builtin (cond mx .max .min)) {K:S->Prop}
 (h:b6f mx (c.args.toList.map ev) K):∃s,K s∧QOp P o ev H s []:=by
 obtain ⟨callee,args,argTypes⟩:=c
 simp only at hc h
 subst hc
 unfold b6f at h
 split at h
 ·rename_i k p k' q hx
  obtain ⟨args⟩:=args
  rcases args with _|⟨x,_|⟨y,_|⟨z,r⟩⟩⟩<;>simp at hx
  obtain ⟨hx,hy⟩:=hx
  refine ⟨_,h,j8 fun a w ι M he hh=>⟨.int k (cond mx (if q > p then q else p) (if q<p then q else p)),?_,.int⟩⟩
  cases mx<;>simp [execOp,ho,resolve,invoke,builtin,Builtin.min_,Builtin.max_,Builtin.min2,Builtin.max2,(he.to hx).inv_atm,(he.to hy).inv_atm]
 ·exact h.elim
theorem b1t {l:List S} {cs:List C} (h:b3x l=some cs):l=cs.map S.c:=by
 induction l generalizing cs with
 |nil=>simp [b3x] at h;subst h;rfl
 |cons s l ih=>cases s<;>simp [b3x] at h
               split at h
               ·rename_i xs hxs;injection h with h;subst h;rw [ih hxs];rfl
               ·cases h
theorem a7o {l:List C} {ts:List T} (h:aU1 l=some ts):l=ts.map C.t:=by
 induction l generalizing ts with
 |nil=>simp [aU1] at h;subst h;rfl
 |cons s l ih=>cases s<;>simp [aU1] at h
               split at h
               ·rename_i xs hxs;injection h with h;subst h;rw [ih hxs];rfl
               ·cases h
theorem aR7 {l:List (List C)} {ts:List (List T)} (h:aE9 l=some ts):l=toC ts:=by
 induction l generalizing ts with
 |nil=>simp [aE9] at h;subst h;rfl
 |cons s l ih=>simp only [aE9] at h
               split at h
               ·rename_i a b ha hb;injection h with h;subst h;rw [ih hb,a7o ha];rfl
               ·cases h
theorem a8V {fn:Fn} {first caps:Array Operand} (ho:o.op=.makeFunc fn first caps) (hf:first.toList=[]) {cs:List C} (hc:caps.toList.map ev=cs.map S.c):QOp P o ev H (.c (.fn fn cs)) []:=
 j8 fun a w ι M he hh=>by
  obtain rfl:first=#[]:=by simpa using hf
  refine ⟨.func fn #[] (caps.toList.map a.eval).toArray,by simp [execOp,ho,Instr.makeFunc];apply Array.ext';simp,.c (.fn _ ?_ fun j c hj=>?_)⟩
  ·rw [lbr];simpa using congrArg List.length hc
  ·have h1:(caps.toList.map ev)[j]? =some (.c c):=by rw [hc,lba,hj];rfl
   rw [lba] at h1
   cases hx:caps.toList[j]? with
   |none=>rw [hx] at h1;cases h1
   |some x=>
    rw [hx] at h1
    injection h1 with h1
    rw [lbl,lba,hx]
    exact (he.to h1).inv_c
theorem a7Z {fn:Fn} {first caps:Array Operand} (ho:o.op=.makeFunc fn first caps) (hf:first.toList=[]) {ts:List T} (hc:caps.toList.map ev=(ts.map C.t).map S.c):QOp P o ev H (.c (.t (.fn fn ts))) []:=
 j8 fun a w ι M he hh=>by
  obtain rfl:first=#[]:=by simpa using hf
  refine ⟨.func fn #[] (caps.toList.map a.eval).toArray,by simp [execOp,ho,Instr.makeFunc];apply Array.ext';simp,.c (.t (.fn _ ?_ fun j c hj=>?_))⟩
  ·rw [lbr];simpa using congrArg List.length hc
  ·have h1:(caps.toList.map ev)[j]? =some (.c (.t c)):=by rw [hc,lba,lba,hj];rfl
   rw [lba] at h1
   cases hx:caps.toList[j]? with
   |none=>rw [hx] at h1;cases h1
   |some x=>
    rw [hx] at h1
    injection h1 with h1
    rw [lbl,lba,hx]
    exact (he.to h1).inv_t
end
end
section
open Go.RowKit
def a2e (w:World) (ι:Io) (M:Ms) (cs:List C) (vs:Array Value):Prop:=vs.size=cs.length∧∀(j:Nat) (c:C),cs[j]? =some c->∃u,vs[j]? =some u∧RC w ι M c u
theorem RS.cells {w:World} {ι:Io} {M:Ms} {s:S} {v:Value} (h:RS w ι M s v) {cs:List C} (hc:(∃ c,s=.c c∧cs=[c])∨s=.agg cs):a2e w ι M cs v.cells:=by
 rcases hc with ⟨c,rfl,rfl⟩|rfl
 ·have hr:=h.inv_c
  have h1:=hr.one
  have:v.cells=#[v]:=by cases v<;>first|rfl|(simp [Value.oneCell'] at h1)
  rw [this]
  refine ⟨rfl,fun j c' hj=>?_⟩
  cases j with
  |zero=>simp at hj;subst hj;exact ⟨v,rfl,hr⟩
  |succ j=>simp at hj
 ·cases h with
  |agg vs hl hr=>
   refine ⟨by simpa [Value.cells] using hl,fun j c hj=>?_⟩
   have hlt:j<vs.length:=by rw [hl];exact (lbe.1 hj).1
   have:=hr j c hj
   rw [lbl,lbf hlt] at this
   exact ⟨vs[j],by simp [Value.cells,hlt],this⟩
theorem a2e.agg {w:World} {ι:Io} {M:Ms} {cs:List C} {vs:Array Value} (h:a2e w ι M cs vs):RS w ι M (.agg cs) (.agg vs):=by
 have:RS w ι M (.agg cs) (.agg vs.toList.toArray):=.agg vs.toList (by simpa using h.1) fun j c hj=>by
  obtain ⟨u,h1,h2⟩:=h.2 j c hj
  rw [lbl]
  simpa [h1] using h2
 simpa using this
theorem a2e.const {w:World} {ι:Io} {M:Ms} {vs:Array Value} (h:∀v ∈ vs.toList,v.oneCell'=true):a2e w ι M (vs.toList.map C8) vs:=
 ⟨by simp,fun j c hj=>by
   rw [lba] at hj
   cases hv:vs.toList[j]? with
   |none=>rw [hv] at hj;cases hj
   |some v=>
    rw [hv] at hj
    injection hj with hj
    subst hj
    exact ⟨v,by simpa using hv,RC.const (h v (lbm hv))⟩⟩
theorem a2e.one {w:World} {ι:Io} {M:Ms} {cs:List C} {vs:Array Value} (h:a2e w ι M cs vs):∀v ∈ vs.toList,v.oneCell'=true:=fun v hv=>by
 obtain ⟨j,hj⟩:=aT1.1 hv
 have hlt:j<cs.length:=by
  have:=(lbe.1 hj).1
  rw [← h.1];simpa using this
 obtain ⟨u,h1,h2⟩:=h.2 j _ (lbf hlt)
 have:u=v:=by
  have hj':vs[j]? =some v:=by simpa using hj
  rw [hj'] at h1;injection h1 with h1;exact h1.symm
 exact this ▸ h2.one
theorem aa2 (off:Nat) (vs:Array Value) (cells:Array Value) (h:off+vs.size<=cells.size):
 ∃r,vs.zipIdx.foldl (fun cs (x:Value × Nat)=>cs.setIfInBounds (off+x.2) x.1) cells=r∧r.size=cells.size∧
  ∀m,r[m]? =if off<=m∧m<off+vs.size then vs[m - off]? else cells[m]?:=by
 refine ⟨_,rfl,?_⟩
 rw [← Array.foldl_toList,Array.toList_zipIdx]
 have key:∀(l:List Value) (j:Nat) (c:Array Value),off+j+l.length<=c.size->
  ((l.zipIdx j).foldl (fun cs (x:Value × Nat)=>cs.setIfInBounds (off+x.2) x.1) c).size=c.size∧
  ∀m,((l.zipIdx j).foldl (fun cs (x:Value × Nat)=>cs.setIfInBounds (off+x.2) x.1) c)[m]? =if off+j<=m∧m<off+j+l.length then l[m - (off+j)]? else c[m]?:=by
  intro l
  induction l with
  |nil=>intro j c hc;simp
        intro m h1 h2;omega
  |cons v l ih=>
   intro j c hc
   simp only [lbu] at hc
   obtain ⟨h1,h2⟩:=ih (j+1) (c.setIfInBounds (off+j) v) (by rw [Array.size_setIfInBounds];omega)
   simp only [List.zipIdx_cons,ad4]
   refine ⟨by rw [h1];simp,fun m=>?_⟩
   rw [h2]
   by_cases hm:m=off+j
   ·subst hm
    rw [if_neg (by omega),if_pos (by simp)]
    simp [show off+j<c.size by omega]
   ·by_cases hm2:off+(j+1)<=m∧m<off+(j+1)+l.length
    ·rw [if_pos hm2,if_pos (by simp only [lbu];omega),show m - (off+j)=(m - (off+(j+1)))+1 by omega]
     simp
    ·rw [if_neg hm2,if_neg (by simp only [lbu];omega),Array.getElem?_setIfInBounds_ne (by omega)]
 have:=key vs.toList 0 cells (by simpa using h)
 simpa using this
theorem a2e.over {w:World} {ι:Io} {M:Ms} {cells cs:List C} {arr vs:Array Value} (h:a2e w ι M cells arr) (h':a2e w ι M cs vs) {off:Nat} (hl:off+cs.length<=cells.length):
 a2e w ι M (cells.take off++cs++cells.drop (off+cs.length)) (vs.zipIdx.foldl (fun cs (x:Value × Nat)=>cs.setIfInBounds (off+x.2) x.1) arr):=by
 obtain ⟨r,hr,hs,hm⟩:=aa2 off vs arr (by rw [h.1,h'.1];exact hl)
 rw [hr]
 refine ⟨by rw [hs,h.1];simp;omega,fun j c hj=>?_⟩
 rw [hm,h'.1]
 by_cases h1:j<off
 ·rw [if_neg (by omega)]
  rw [lbD,lbb (by simp;omega),List.getElem?_take_of_lt h1] at hj
  exact h.2 j c hj
 ·by_cases h2:j<off+cs.length
  ·rw [if_pos (by omega)]
   rw [lbb (by simp;omega),lbc (by simp;omega)] at hj
   have:(cells.take off).length=off:=by simp;omega
   rw [this] at hj
   exact h'.2 _ c hj
  ·rw [if_neg (by omega)]
   rw [lbc (by simp;omega),lbj] at hj
   have:(cells.take off++cs).length=off+cs.length:=by simp;omega
   rw [this,show off+cs.length+(j - (off+cs.length))=j by omega] at hj
   exact h.2 j c hj
section
variable {P:Program} {τ:Tab} {o:Oper} {ev:Operand->S} {H:Hp}
theorem aq3 {w:World} {ι:Io} {M:Ms} {a:Act} (he:R3 w ι M ev a) {fs:List (Nat × Nat × Bool)}:∀(parts:List (Nat × Operand)) (cells:List C) (arr:Array Value) {k:List C->Prop},
 a2e w ι M cells arr->aK5 fs cells (parts.map fun p=>(p.1,ev p.2)) k->
 ∃cells',k cells'∧∃r,Instr.fill ((fs.map (fun x=>(x.1,x.2.1)))[·]?) arr (parts.map fun p=>(p.1,a.eval p.2))=some r∧a2e w ι M cells' r
 |[],cells,arr,k,hr,h=>⟨cells,h,arr,rfl,hr⟩
 |(i,x)::rest,cells,arr,k,hr,h=>by
  obtain ⟨cs,h,hcs⟩:=a1m h
  unfold a9c at h
  split at h
  ·rename_i off size ag hf
   obtain ⟨hb,h⟩:=B6 h
   have hb:cs.length=size∧0<size:=by simpa [R5] using hb
   obtain ⟨hlen,h⟩:=a73 h (by intro e;subst e;simp at hb;omega)
   have hv:=(he x).cells hcs
   obtain ⟨cells',hk,r,hr1,hr2⟩:=aq3 he rest _ _ (hr.over hv hlen) h
   refine ⟨cells',hk,r,?_,hr2⟩
   simp only [a9L,Instr.fill]
   rw [lba,hf]
   simp only [V5]
   rw [if_neg (by have q1:=hv.1;have q2:=hr.1;have q3:=hlen;simp at q3 ⊢;omega)]
   exact hr1
  ·exact h.elim
theorem an9 {w:World} {ι:Io} {M:Ms} {a:Act} (he:R3 w ι M ev a) {size:Nat}:∀(parts:List (Nat × Operand)) (cells:List C) (arr:Array Value) {k:List C->Prop},
 a2e w ι M cells arr->aL2 size cells (parts.map fun p=>(p.1,ev p.2)) k->
 ∃cells',k cells'∧∃r,Instr.fill (fun i=>some (i*size,size)) arr (parts.map fun p=>(p.1,a.eval p.2))=some r∧a2e w ι M cells' r
 |[],cells,arr,k,hr,h=>⟨cells,h,arr,rfl,hr⟩
 |(i,x)::rest,cells,arr,k,hr,h=>by
  obtain ⟨cs,h,hcs⟩:=a1m h
  obtain ⟨hb,h⟩:=B6 h
  have hb:cs.length=size∧0<size:=by simpa [R5] using hb
  obtain ⟨hlen,h⟩:=a73 h (by intro e;subst e;simp at hb;omega)
  have hv:=(he x).cells hcs
  obtain ⟨cells',hk,r,hr1,hr2⟩:=an9 he rest _ _ (hr.over hv hlen) h
  refine ⟨cells',hk,r,?_,hr2⟩
  simp only [a9L,Instr.fill]
  rw [if_neg (by have q1:=hv.1;have q2:=hr.1;have q3:=hlen;simp at q3 ⊢;omega)]
  exact hr1
theorem a5p {s:S} {k:List C->Prop} (h:a29 s k):∃cs,k cs∧a29 s (·=cs):=by
 cases s<;>first|exact ⟨_,h,rfl⟩|exact h.elim
theorem a3D {s:S} {k k':List C->Prop} (h:a29 s k) (hk:∀cs,k cs->k' cs):a29 s k':=by
 cases s<;>first|exact hk _ h|exact h.elim
theorem am0 {fs:List (Nat × Nat × Bool)}:∀(parts:List (Nat × S)) (cells:List C) {k:List C->Prop},aK5 fs cells parts k->∃c,k c∧aK5 fs cells parts (·=c)
 |[],cells,k,h=>⟨cells,h,rfl⟩
 |(i,s)::rest,cells,k,h=>by
  obtain ⟨cs,h,hcs⟩:=a5p h
  unfold a9c at h
  split at h
  ·rename_i off size ag hf
   obtain ⟨hb,h⟩:=B6 h
   have hb':cs.length=size∧0<size:=by simpa [R5] using hb
   have hne:cs≠[]:=by intro e;subst e;simp at hb';omega
   obtain ⟨hlen,h⟩:=a73 h hne
   obtain ⟨c,h1,h2⟩:=am0 rest _ h
   refine ⟨c,h1,a3D hcs ?_⟩
   rintro _ rfl
   unfold a9c
   rw [hf]
   simp only [hb,cond_true]
   exact aM3 hlen hne h2
  ·exact h.elim
theorem am9 {size:Nat}:∀(parts:List (Nat × S)) (cells:List C) {k:List C->Prop},aL2 size cells parts k->∃c,k c∧aL2 size cells parts (·=c)
 |[],cells,k,h=>⟨cells,h,rfl⟩
 |(i,s)::rest,cells,k,h=>by
  obtain ⟨cs,h,hcs⟩:=a5p h
  obtain ⟨hb,h⟩:=B6 h
  have hb':cs.length=size∧0<size:=by simpa [R5] using hb
  have hne:cs≠[]:=by intro e;subst e;simp at hb';omega
  obtain ⟨hlen,h⟩:=a73 h hne
  obtain ⟨c,h1,h2⟩:=am9 rest _ h
  refine ⟨c,h1,a3D hcs ?_⟩
  rintro _ rfl
  simp only [hb,cond_true]
  exact aM3 hlen hne h2
theorem a85 (a:Act) (parts:Array (Nat × Operand)):(parts.map fun (i,x)=>(i,a.eval x)).toList=parts.toList.map fun p=>(p.1,a.eval p.2):=by simp
theorem aA4 (hτ:B2 P τ) {t:TypeId} {parts:Array (Nat × Operand)} (ho:o.op=.build t parts) {K:S->Prop} (h:av9 τ ev t parts.toList K):∃s,K s∧QOp P o ev H s []:=by
 unfold av9 at h
 split at h
 ·rename_i fs _ _ _ z ht
  rw [a0u] at h
  obtain ⟨u,hu,_,fields,rfl,_,_,hm⟩:=(hτ.td _ _ ht).und
  obtain ⟨i,hi,_,_,z',hz,hzs,hone,_⟩:=(hτ.td _ _ ht).info
  simp only at hzs hone
  subst hzs
  obtain ⟨cs,hk,hd⟩:=am0 _ _ h
  refine ⟨_,hk,j8 fun a w ι M he hh=>?_⟩
  obtain ⟨cs',rfl,r,h1,h2⟩:=aq3 he parts.toList _ z'.cells (a2e.const hone) hd
  refine ⟨.agg r,?_,h2.agg⟩
  have hb:P.built t (parts.map fun (i,x)=>(i,a.eval x)).toList=some r:=by
   rw [a85]
   simp only [Program.built,hi,hu,hz,hm]
   simpa using h1
  simp only [execOp,ho,Sem.run_bind,run_build w t _ r hb,Result.andThen_ok]
  rfl
 ·rename_i n e _ _ _ z ht
  obtain ⟨d,hd,h,_⟩:=Q9 hτ h
  rw [a0u] at h
  have hu:=aB4 hτ ht
  obtain ⟨i,hi,_,_,z',hz,hzs,hone,_⟩:=(hτ.td _ _ ht).info
  obtain ⟨ie,hie,hse,_⟩:=(hτ.td _ _ hd).info
  simp only at hzs hone
  subst hzs
  obtain ⟨cs,hk,hd'⟩:=am9 _ _ h
  refine ⟨_,hk,j8 fun a w ι M he hh=>?_⟩
  obtain ⟨cs',rfl,r,h1,h2⟩:=an9 he parts.toList _ z'.cells (a2e.const hone) hd'
  refine ⟨.agg r,?_,h2.agg⟩
  have hb:P.built t (parts.map fun (i,x)=>(i,a.eval x)).toList=some r:=by
   rw [a85]
   simp only [Program.built,hi,hu,hz,hie,hse]
   exact h1
  simp only [execOp,ho,Sem.run_bind,run_build w t _ r hb,Result.andThen_ok]
  rfl
 ·exact h.elim
theorem H7.new {w w':World} {ι:Io} {M:Ms} {n:Nat} {s:S} {v:Value} {e:TypeId} {size cap:Nat} {rows:List (List C)} {box ap:Bool} {cur:Array Value}
 (hos:w'.os=w.os) (htape:w'.tape=w.tape) (hout:w'.output=w.output) (hheap:w'.heap=w.heap.push (.cells cur e (0,0)))
 (hn:ι n=none) (h0:0<size) (hl:rows.length<=cap) (hm:cap<=maxLen) (hrow:∀r ∈ rows,r.length=size) (hsz:cur.size=cap*size)
 (hc:∀i j c,at2 rows i j=some c->∃u,cur[i*size+j]? =some u∧RC w ι M c u)
 (hs:∀(ι':Io) (M':Ms),ι' n=some (.blk w.heap.size cap size)->RS w' ι' M' s v):H7 w ι M n s [⟨.live,e,size,rows,box,ap⟩] v w':=by
 have hsize:w'.heap.size=w.heap.size+1:=by rw [hheap];simp
 have hold:∀b,b<w.heap.size->w'.heap[b]? =w.heap[b]?:=fun b hb=>by rw [hheap,Array.getElem?_push,if_neg (by omega)]
 have hnew:w'.heap[w.heap.size]? =some (.cells cur e (0,0)):=by rw [hheap];simp
 refine ⟨fun _=>.blk w.heap.size cap size,hs _ _ ?_,⟨hos,htape,hout,by omega,hold⟩,?_,?_,?_⟩
 ·unfold A8;rw [if_pos (by simp)]
 ·intro k blk hk
  cases k with
  |succ k=>simp at hk
  |zero=>
   simp at hk
   subst hk
   refine ⟨rfl,rfl,h0,hl,hm,hrow,cur,hnew,hsz,fun i j c hij=>?_⟩
   obtain ⟨u,h1,h2⟩:=hc i j c hij
   refine ⟨u,h1,h2.keep (fun b hb _=>hold b hb) ?_ (fun id l hid=>?_)⟩
   ·rintro b (hb|⟨k,hk,c',s',he⟩)
    ·exact .inl hb
    ·injection he with he;exact .inr (by omega)
   ·unfold A8
    split
    ·rename_i hc'
     have:id=n:=by simp at hc';omega
     subst this
     rw [hn] at hid
     cases hid
    ·exact hid
 ·intro k b c s' hk he
  injection he with he
  omega
 ·intro k k' b c s' c' s'' hk hk' _ _
  simp at hk hk'
  omega
theorem ab3 {cs:List C} {i j:Nat} {c:C} (h:at2 [cs] i j=some c):i=0∧cs[j]? =some c:=by
 obtain ⟨row,h1,h2⟩:=D6 h
 cases i with
 |zero=>simp at h1;subst h1;exact ⟨rfl,h2⟩
 |succ i=>simp at h1
theorem aT6 {t:TypeId} {x:Operand} (ho:o.op=.box t x) {K:S->List Blk->Prop} (h:b6m ev H.length t x K):∃s B,K s B∧QOp P o ev H s B:=by
 unfold b6m at h
 obtain ⟨cs,h,hcs⟩:=a1m h
 split at h
 ·exact h.elim
 rename_i c r
 have hown:K (.c (.ptr H.length 0 0)) [N4 t (c::r).length [c::r] true]->∃s B,K s B∧QOp P o ev H s B:=fun h=>by
  refine ⟨_,_,h,fun a w ι M he hh hm hf=>?_⟩
  obtain ⟨ha1,ha2⟩:=(he x).cells hcs
  refine n8 (w':=w.alloc (.cells (a.eval x).cells t)) (v:=.pointer (some ⟨w.heap.size,0,none⟩)) (by simp [execOp,ho,Instr.box,newVar,newRow]) ?_
  refine H7.new (cap:=1) (cur:=(a.eval x).cells) rfl rfl rfl rfl (hf 0 (by simp)) (by simp) (by simp) (by unfold maxLen;omega) (by simp) (by rw [ha1];simp) ?_ ?_
  ·intro i j c' hij
   obtain ⟨rfl,hj⟩:=ab3 hij
   obtain ⟨u,h1,h2⟩:=ha2 j c' hj
   exact ⟨u,by simpa using h1,h2⟩
  ·intro ι' M' hi
   have:=RC.ptr (w:=w.alloc (.cells (a.eval x).cells t)) (M:=M') (r:=0) (o:=0) hi
   simp only [a5B,D8] at this
   exact .c this
 split at h
 ·rename_i ts hts
  have hts:=a7o hts
  obtain ⟨h|h⟩:=h
  rotate_left
  ·exact hown h
  refine ⟨_,_,h,fun a w ι M he hh hm hf=>?_⟩
  obtain ⟨ha1,ha2⟩:=(he x).cells hcs
  refine n8 (w':=w.alloc (.cells (a.eval x).cells t)) (v:=.pointer (some ⟨w.heap.size,0,none⟩)) (by simp [execOp,ho,Instr.box,newVar,newRow]) ?_
  have hext:Ext w (w.alloc (.cells (a.eval x).cells t)):=⟨rfl,rfl,rfl,by simp,fun b hb=>heap_alloc_old w _ hb⟩
  refine H7.of_none ?_ hext
  have hat:∀j c',ts[j]? =some c'->∃u,(a.eval x).cells[j]? =some u∧RT w M c' u:=fun j c' hj=>by
   obtain ⟨u,h1,h2⟩:=ha2 j (.t c') (by rw [hts,lba,hj];rfl)
   refine ⟨u,by simpa using h1,?_⟩
   cases h2 with
   |t h2=>exact h2
  refine .c (.t (.ptr (b:=w.heap.size) (off:=0) (fun j=>(a.eval x).cells.getD j undef) ?_ ?_))
  ·intro j c' hj
   obtain ⟨u,s1,s2⟩:=hat j c' hj
   refine ⟨?_,fun hM=>absurd (hm _ hM) (by omega)⟩
   have hn:=heap_alloc_new w (.cells (a.eval x).cells t)
   simp only [World.cell?]
   rw [hn]
   simp [s1]
  ·intro j c' hj
   obtain ⟨u,s1,s2⟩:=hat j c' hj
   have:(a.eval x).cells.getD j undef=u:=by simp [s1]
   show RT _ M c' ((a.eval x).cells.getD j undef)
   rw [this]
   exact s2.keep (fun b hb _=>hext.keep b hb) (fun b h=>.inl h)
 ·exact hown h
theorem aB1 (hτ:B2 P τ) {t:TypeId} (ho:o.op=.alloc t) {K:S->List Blk->Prop} (h:aR0 τ H.length t K):∃s B,K s B∧QOp P o ev H s B:=by
 unfold aR0 at h
 split at h
 ·rename_i d hd
  rw [a0u] at h
  obtain ⟨hb,h⟩:=V6 h
  have hb:d.zero.length≠0:=by intro e;simp [e] at hb
  refine ⟨_,_,h,fun a w ι M he hh hm hf=>?_⟩
  obtain ⟨i,hi,_,_,z,hz,hzs,hone,_⟩:=(hτ.td _ _ hd).info
  obtain ⟨ha1,ha2⟩:=a2e.const (w:=w) (ι:=ι) (M:=M) (vs:=z.cells) (by rw [hzs];exact hone)
  rw [hzs] at ha1 ha2
  refine n8 (w':=w.alloc (.cells z.cells t)) (v:=.pointer (some ⟨w.heap.size,0,none⟩)) (by simp [execOp,ho,Instr.alloc,zeroValue,typeInfo,hi,hz,newVar,newRow]) ?_
  refine H7.new (cap:=1) (cur:=z.cells) rfl rfl rfl rfl (hf 0 (by simp)) (by simp;omega) (by simp) (by unfold maxLen;omega) (by simp) (by rw [ha1];simp) ?_ ?_
  ·intro i j c' hij
   obtain ⟨rfl,hj⟩:=ab3 hij
   obtain ⟨u,h1,h2⟩:=ha2 j c' hj
   exact ⟨u,by simpa using h1,h2⟩
  ·intro ι' M' hi
   have:=RC.ptr (w:=w.alloc (.cells z.cells t)) (M:=M') (r:=0) (o:=0) hi
   simp only [a5B,D8] at this
   exact .c this
 ·exact h.elim
theorem a2i {z:Array Value} {size n i j:Nat} (hz:z.size=size) (hi:i<n) (hj:j<size):(madeCells z (n*size))[i*size+j]? =z[j]?:=by
 have hlt:i*size+j<n*size:=by
  have:i*size+size<=n*size:=by rw [← lbU];exact lbT _ hi
  omega
 unfold madeCells
 rw [Array.getElem?_map,Array.getElem?_range,if_pos hlt]
 have hmod:(i*size+j) % z.size=j:=by rw [hz,ah3,Nat.mul_add_mod];exact b0v hj
 simp only [V5,hmod]
 rw [Array.getElem?_eq_getElem (by omega),getElem!_pos]
theorem aE0 (hτ:B2 P τ) {t:TypeId} {l c:Operand} (ho:o.op=.makeSlice t l c) {K:S->List Blk->Prop} (h:aZ3 τ ev H.length t l c K):∃s B,K s B∧QOp P o ev H s B:=by
 unfold aZ3 at h
 split at h
 ·rename_i k1 p k2 q e _ _ _ _ hl hc ht
  split at h
  ·rename_i d hd
   obtain ⟨hb,⟨h0,h1,h2⟩,h⟩:=V6 h
   rw [a0u] at h
   have hb:d.size≠0:=by intro e;simp [e] at hb
   refine ⟨_,_,h,fun a w ι M he hh hm hf=>?_⟩
   obtain ⟨i,hi,hs,hby,z,hz,hzs,hone,hzl⟩:=(hτ.td _ _ hd).info
   have hu:=J0 hτ ht
   have hq:q*(i.bytes:Int)<=q*((d.bytes:Int)+1):=lbV (by omega) (by omega)
   have hq1:q<=q*((d.bytes:Int)+1):=by
    have:q*1<=q*((d.bytes:Int)+1):=lbV (by omega) (by omega)
    omega
   have hmk:=run_make (P:=P) w t e i z hu hi hz k1 k2 p q h0 h1 (by rw [ab9];omega) (by omega)
   have hsz:z.cells.size=i.size:=by
    rw [hs,←hzl,←hzs];simp
   refine n8 (w':=w.alloc (.cells (madeCells z.cells (q.toNat*i.size)) e)) (v:=.slice (some ⟨w.heap.size,0,none⟩) p.toNat q.toNat)
    (by simp only [execOp,ho,(he.to hl).inv_atm,(he.to hc).inv_atm,Sem.run_bind,hmk,Result.andThen_ok];rfl) ?_
   obtain ⟨ha1,ha2⟩:=a2e.const (w:=w) (ι:=ι) (M:=M) (vs:=z.cells) (by rw [hzs];exact hone)
   rw [hzs] at ha1 ha2
   refine H7.new (cap:=q.toNat) (cur:=madeCells z.cells (q.toNat*i.size)) rfl rfl rfl rfl (hf 0 (by simp)) (by omega) (by simp;omega) (by unfold maxLen;omega) ?_ (by rw [size_madeCells,hs]) ?_ ?_
   ·intro r hr
    rw [(a8g.1 hr).2,←ha1,hsz,hs]
   ·intro i' j c' hij
    obtain ⟨row,hr1,hr2⟩:=D6 hij
    rw [lbk] at hr1
    split at hr1
    ·rename_i hlt
     injection hr1 with hr1
     subst hr1
     obtain ⟨u,q1,q2⟩:=ha2 j c' hr2
     have hj:j<i.size:=by rw [← hsz];exact (lb4.1 q1).1
     exact ⟨u,by rw [← hs,a2i hsz (by omega) hj,q1],q2⟩
    ·cases hr1
   ·intro ι' M' hi
    exact .c (.own hi (by omega) (fun _=>by rw [a5B]) (by omega) (by unfold maxLen;omega) (fun _=>⟨rfl,rfl,rfl⟩))
  ·exact h.elim
 ·exact h.elim
end
end
section
open Go.RowKit
structure w7 (w:World) (ι:Io) (M:Ms) (size:Nat) (rows:List (List C)) (vals:List Value):Prop where
 len:vals.length=rows.length*size
 row:∀r ∈ rows,r.length=size
 cell:∀i j c,at2 rows i j=some c->∃u,vals[i*size+j]? =some u∧RC w ι M c u
theorem w7.at {w:World} {ι:Io} {M:Ms} {size:Nat} {rows:List (List C)} {vals:List Value} (h:w7 w ι M size rows vals) {q:Nat} {u:Value} (hu:vals[q]? =some u):
 ∃i j c,q=i*size+j∧at2 rows i j=some c∧RC w ι M c u:=by
 have hq:q<rows.length*size:=by rw [← h.len];exact (lbe.1 hu).1
 have h0:0<size:=by
  rcases a3m size with h|h
  ·subst h;simp at hq
  ·exact h
 have hi:q / size<rows.length:=by rw [Nat.div_lt_iff_lt_mul h0];exact hq
 have hj:q % size<size:=a5y _ h0
 have hr:=h.row rows[q / size] (lbE hi)
 have hc:at2 rows (q / size) (q % size)=some (rows[q / size][q % size]'(by omega)):=z6 (lbf hi) (lbf (by omega))
 have e:q=q / size*size+q % size:=by rw [ah3];exact (Nat.div_add_mod q size).symm
 obtain ⟨u',h1,h2⟩:=h.cell _ _ _ hc
 rw [← e,hu] at h1
 injection h1 with h1
 subst h1
 exact ⟨_,_,_,e,hc,h2⟩
theorem w7.one {w:World} {ι:Io} {M:Ms} {size:Nat} {rows:List (List C)} {vals:List Value} (h:w7 w ι M size rows vals):∀u ∈ vals,u.oneCell'=true:=fun u hu=>by
 obtain ⟨q,hq⟩:=aT1.1 hu
 obtain ⟨_,_,_,_,_,h⟩:=h.at hq
 exact h.one
theorem w7.nil (w:World) (ι:Io) (M:Ms) (size:Nat):w7 w ι M size [] []:=⟨by simp,by simp,by simp [at2]⟩
theorem w7.append {w:World} {ι:Io} {M:Ms} {size:Nat} {r1 r2:List (List C)} {v1 v2:List Value} (h1:w7 w ι M size r1 v1) (h2:w7 w ι M size r2 v2):
 w7 w ι M size (r1++r2) (v1++v2):=by
 refine ⟨by rw [lbq,lbq,h1.len,h2.len,I3],?_,?_⟩
 ·intro r hr
  rcases lbz.1 hr with hr|hr
  ·exact h1.row r hr
  ·exact h2.row r hr
 ·intro i j c hc
  obtain ⟨row,hr1,hr2⟩:=D6 hc
  by_cases hi:i<r1.length
  ·rw [lbb hi] at hr1
   obtain ⟨u,q1,q2⟩:=h1.cell i j c (z6 hr1 hr2)
   exact ⟨u,by rw [lbb (lbe.1 q1).1];exact q1,q2⟩
  ·rw [lbc (by omega)] at hr1
   obtain ⟨u,q1,q2⟩:=h2.cell _ j c (z6 hr1 hr2)
   refine ⟨u,?_,q2⟩
   have e:i*size+j=r1.length*size+((i - r1.length)*size+j):=by
    rw [← U9,←I3,show r1.length+(i - r1.length)=i by omega]
   rw [lbc (by rw [h1.len,e];omega),h1.len,show i*size+j - r1.length*size=(i - r1.length)*size+j by omega]
   exact q1
theorem aN0 {w:World} {ι:Io} {M:Ms} {size:Nat} {k:SK} {rows:List (List T)} {A:Option Addr} {n cap:Nat} (h:RT w M (.sl size k rows) (.slice A n cap)):
 n=rows.length∧∃vals,w7 w ι M size (toC rows) vals∧(rows≠[]->∃b off,A=some ⟨b,off,none⟩∧∀q u,vals[q]? =some u->w.cell? ⟨b,off+q,none⟩=some u):=by
 cases h with
 |@sl _ _ _ b off _ _ f hrow hcap hmax hk hn hA hc hr=>
  refine ⟨rfl,(List.range (rows.length*size)).map (fun q=>f (q / size) (q % size)),?_,fun hne=>⟨b,off,hA hne,fun q u hq=>?_⟩⟩
  ·refine ⟨by simp [toC],?_,?_⟩
   ·intro r hr'
    obtain ⟨r',h1,rfl⟩:=lbx.1 hr'
    rw [lbr]
    exact hrow r' h1
   ·intro i j c hij
    obtain ⟨row,h1,h2⟩:=D6 hij
    unfold toC at h1
    rw [lba] at h1
    cases hri:rows[i]? with
    |none=>rw [hri] at h1;cases h1
    |some row'=>
     rw [hri] at h1
     injection h1 with h1
     subst h1
     rw [lba] at h2
     cases hrj:row'[j]? with
     |none=>rw [hrj] at h2;cases h2
     |some c'=>
      rw [hrj] at h2
      injection h2 with h2
      subst h2
      have hi:i<rows.length:=(lbe.1 hri).1
      have hj:j<size:=by rw [← hrow row' (lbm hri)];exact (lbe.1 hrj).1
      have hlt:i*size+j<rows.length*size:=by
       have:i*size+size<=rows.length*size:=by rw [← lbU];exact lbT _ hi
       omega
      have e1:(i*size+j) / size=i:=by
       rw [ah3,Nat.mul_add_div (by omega),Nat.div_eq_of_lt hj,a7v]
      have e2:(i*size+j) % size=j:=by
       rw [ah3,Nat.mul_add_mod];exact b0v hj
      refine ⟨f i j,?_,.t (hr i j c' (z6 hri hrj))⟩
      rw [lba,lbh hlt]
      simp [e1,e2]
  ·have hlt:q<rows.length*size:=by have:=(lbe.1 hq).1;simpa using this
   rw [lba,lbh hlt] at hq
   injection hq with hq
   subst hq
   have h0:0<size:=by
    rcases a3m size with h|h
    ·subst h;simp at hlt
    ·exact h
   have hi:q / size<rows.length:=by rw [Nat.div_lt_iff_lt_mul h0];exact hlt
   have hj:q % size<size:=a5y _ h0
   have hrl:=hrow rows[q / size] (lbE hi)
   have:=(hc (q / size) (q % size) _ (z6 (lbf hi) (lbf (by omega)))).1
   rw [show q / size*size+q % size=q by rw [ah3];exact Nat.div_add_mod q size] at this
   exact this
theorem a4x {w:World} {ι:Io} {M:Ms} {k:Blk} {b cap size:Nat} (h:E7 w ι M k (.blk b cap size)) {lo len:Nat} (hl:lo+len<=k.rows.length):
 ∃vals,w7 w ι M size ((k.rows.drop lo).take len) vals∧∀q u,vals[q]? =some u->w.cell? ⟨b,lo*size+q,none⟩=some u:=by
 obtain ⟨h1,h2,h3,h4,h5,cur,h6,h7,h8⟩:=h
 have hmul:lo*size+len*size<=cap*size:=by rw [← I3];exact lbT _ (by omega)
 refine ⟨(cur.toList.drop (lo*size)).take (len*size),⟨?_,?_,?_⟩,?_⟩
 ·rw [lbs,a3Y,a1A,h7,lbs,a3Y]
  rw [a1h (by omega),a1h (by omega)]
 ·intro r hr
  exact h5 r (aN6 (ab1 hr))
 ·intro i j c hij
  obtain ⟨row,q1,q2⟩:=D6 hij
  rw [lbi] at q1
  split at q1
  ·rename_i hi
   rw [lbj] at q1
   obtain ⟨u,r1,r2⟩:=h8 _ _ _ (z6 q1 q2)
   refine ⟨u,?_,r2⟩
   have hj:j<size:=by rw [← h5 row (lbm q1)];exact (lbe.1 q2).1
   have hlt:i*size+j<len*size:=by
    have:i*size+size<=len*size:=by rw [← lbU];exact lbT _ hi
    omega
   rw [List.getElem?_take_of_lt hlt,lbj,←U9,←I3]
   simpa using r1
  ·cases q1
 ·intro q u hq
  rw [lbi] at hq
  split at hq
  ·rw [lbj] at hq
   simp [World.cell?,h6]
   simpa using hq
  ·cases hq
section
variable {P:Program} {τ:Tab} {o:Oper} {ev:Operand->S} {H:Hp}
theorem aJ7 (hτ:B2 P τ) {size:Nat} {t e:TypeId} (hu:P.underlying t=some (.slice e)) {x:Operand} {k:List (List C)->Prop} (h:b72 size H (ev x) k):
 ∃xr,k xr∧∀(a:Act) (w:World) (ι:Io) (M:Ms),R3 w ι M ev a->j4 w ι M H->∃news,w7 w ι M size xr news∧Src P size t (a.eval x) xr.length news w∧
  (xr.length=0∨∃ad c,a.eval x=.slice (some ad) xr.length c∧∀j v,news[j]? =some v->w.cell? (ad.add j)=some v):=by
 unfold b72 at h
 split at h
 ·rename_i s sk rows hx
  refine ⟨_,h.2,fun a w ι M he hh=>?_⟩
  have hr:=(he.to hx).inv_t
  generalize a.eval x=v at *
  by_cases hne:rows=[]
  ·subst hne
   cases hr with
   |@sl _ _ _ b off cap A f hrow hcap hmax hk hn hA hc hr=>
    refine ⟨[],w7.nil w ι M size,?_,.inl rfl⟩
    cases A with
    |none=>exact Src.ofNil w hu _
    |some ad=>exact Src.ofSlice w hu ad 0 _ [] (by simp) (by simp) (by simp)
  ·have hs:s=size:=by
    rcases h.1 with h|h
    ·exact absurd (lbF h) hne
    ·exact h
   subst hs
   cases hr with
   |@sl _ _ _ b off cap A f hrow hcap hmax hk hn hA hc hr hxx=>
    obtain ⟨_,vals,h1,h2⟩:=aN0 (ι:=ι) (RT.sl f hrow hcap hmax hk hn hA hc hr hxx)
    obtain ⟨b,off,rfl,h3⟩:=h2 hne
    have h3':∀j v,vals[j]? =some v->w.cell? ((⟨b,off,none⟩:Addr).add j)=some v:=fun j v hj=>by rw [Addr.add_none];exact h3 j v hj
    have e:rows.length=(toC rows).length:=by simp [toC]
    rw [e]
    exact ⟨vals,h1,Src.ofSlice w hu _ _ _ vals h1.len h3' h1.one,.inr ⟨_,_,rfl,h3'⟩⟩
 ·rename_i id lo len app hx
  obtain ⟨bk,hbk,h⟩:=L7 h
  obtain ⟨hdead,h⟩:=Y5 h
  obtain ⟨hs,hl,h⟩:=B6 h
  have hs:bk.size=size:=by simpa using hs
  refine ⟨_,h,fun a w ι M he hh=>?_⟩
  have hr:=(he.to hx).inv_c
  generalize a.eval x=v at *
  have hlen:((bk.rows.drop lo).take len).length=len:=by simp;omega
  cases hr with
  |@own _ _ _ _ b cap sz A cap' h' q1 q2 q3 q4 q5=>
   have hb:=hh.blk id bk hbk hdead _ h'
   obtain rfl:sz=size:=hb.1.symm.trans hs
   obtain ⟨vals,h1,h2⟩:=a4x hb hl
   rw [hlen]
   by_cases h0:len=0
   ·subst h0
    have:vals=[]:=lbF (by rw [h1.len];simp)
    subst this
    refine ⟨[],h1,?_,.inl rfl⟩
    cases A with
    |none=>exact Src.ofNil w hu _
    |some ad=>exact Src.ofSlice w hu ad 0 _ [] (by simp) (by simp) (by simp)
   ·obtain rfl:=q2 (by omega)
    have h3':∀j v,vals[j]? =some v->w.cell? ((⟨b,lo*sz,none⟩:Addr).add j)=some v:=fun j v hj=>by rw [Addr.add_none];exact h2 j v hj
    have hvl:=h1.len
    rw [hlen] at hvl
    exact ⟨vals,h1,Src.ofSlice w hu _ _ _ vals hvl h3' h1.one,.inr ⟨_,_,rfl,h3'⟩⟩
  |nil h'=>
   have hb:=hh.blk id bk hbk hdead _ h'
   have hb':bk.rows=[]:=hb
   refine ⟨[],by rw [hb'];exact w7.nil w ι M size,?_,.inl (by simp)⟩
   rw [hb']
   cases ‹Option Addr› with
   |none=>exact Src.ofNil w hu _
   |some ad=>exact Src.ofSlice w hu ad 0 _ [] (by simp) (by simp) (by simp)
 ·exact h.elim
end
end
section
open Go.RowKit
section
variable {P:Program} {τ:Tab} {o:Oper} {ev:Operand->S} {H:Hp}
theorem J9 {c:Call} (ho:o.op=.call c) (hc:c.callee=.builtin .append) {t:TypeId} {s x:Operand} (ht:c.argTypes.toList=[t,t]) (ha:c.args.toList=[s,x]) {a:Act} {w w':World} {v:Value}
 (h:(Builtin.append_ #[t,t] o.type #[a.eval s,a.eval x]).run P w=.ok v w'):(execOp a.eval o).run P w=.ok (.value v) w':=by
 obtain ⟨callee,args,argTypes⟩:=c
 simp only at hc ht ha
 subst hc
 obtain rfl:argTypes=#[t,t]:=by apply Array.ext';simpa using ht
 obtain rfl:args=#[s,x]:=by apply Array.ext';simpa using ha
 simp [execOp,ho,resolve,invoke,builtin,h]
theorem aG5 {size:Nat} {cur:Array Value} {vals rest:List Value} {i j:Nat} {u:Value} (hcur:cur.toList=vals++rest) (h:vals[i*size+j]? =some u):cur[i*size+j]? =some u:=by
 have:cur.toList[i*size+j]? =some u:=by rw [hcur,lbb (lbe.1 h).1];exact h
 simpa using this
theorem a1Q (hτ:B2 P τ) {t e:TypeId} {d:TD} (hu:P.underlying t=some (.slice e)) (hd:τ e=some d) (h0:d.size≠0) {w:World} {ι:Io} {M:Ms} {ty:TypeId}
 {base:Option Addr} {sLen sCap:Nat} {r1 r2:List (List C)} {olds news:List Value} {x:Value} (h1:w7 w ι M d.size r1 olds) (h2:w7 w ι M d.size r2 news) (hl:r1.length=sLen)
 (hold:(Builtin.firstCells d.size sLen (.slice base sLen sCap)).run P w.drew=.ok olds.toArray w.drew) (hs:Src P d.size t x r2.length news w) (hg:sCap<sLen+r2.length)
 (hb:(r1.length+r2.length)*(d.bytes+1)<=140737488355328):
 ∃cap cur,(Builtin.append_ #[t,t] ty #[.slice base sLen sCap,x]).run P w=.ok (.slice (some ⟨w.heap.size,0,none⟩) (sLen+r2.length) cap) (w.drew.alloc (.cells cur e))∧
  cur.size=cap*d.size∧sLen+r2.length<=cap∧cap<=maxLen∧∀i j c,at2 (r1++r2) i j=some c->∃u,cur[i*d.size+j]? =some u∧RC w ι M c u:=by
 obtain ⟨i,hi,hsz,hby,z,hz,hzs,hone,hzl⟩:=(hτ.td _ _ hd).info
 rw [← hsz] at h0 h1 h2 hold hs
 have hb1:(sLen+r2.length)*i.bytes<=140737488355328:=by
  refine lbR (Nat.mul_le_mul_left _ (Nat.le_succ _)) ?_
  rw [hby,←hl];exact hb
 have hb2:sLen+r2.length<=140737488355328:=by
  refine lbR (a8a _ (Nat.succ_pos d.bytes)) ?_
  rw [← hl];exact hb
 have hmx:sLen+r2.length<=maxLen:=by unfold maxLen;omega
 have hrun:=run_append_grow_src (P:=P) w t t ty e i z hu hi hz base sLen sCap olds hold x r2.length news hs hg (by omega) (growslice_fits hg hb1)
 refine ⟨_,_,hrun,?_,grownCap_ge _ _ _ _,grownCap_le_maxLen _ _ _ _ hmx,?_⟩
 ·have hzc:z.cells.size=i.size:=by rw [hsz,←hzl,←hzs];simp
  simp only [Array.size_append,a4p,size_zeroCells,hzc,lbq,h1.len,h2.len,hl,←I3,←hsz]
  congr 1
  have:=grownCap_ge w (sLen+r2.length) sCap e
  omega
 ·intro i' j c hc
  obtain ⟨u,q1,q2⟩:=(h1.append h2).cell i' j c hc
  exact ⟨u,by rw [← hsz];exact aG5 (rest:=(Builtin.zeroCells z.cells (grownCap w (sLen+r2.length) sCap e - (sLen+r2.length))).toList) (by simp) q1,q2⟩
theorem aW2 {n:Nat} (h:n<=140737488355328):n<=maxLen:=by unfold maxLen;omega
theorem H7.nil {w:World} {ι:Io} {M:Ms} {n:Nat} {e:TypeId} {size:Nat} {box ap:Bool} {A:Option Addr}:H7 w ι M n (.c (.own n 0 0 true)) [⟨.live,e,size,[],box,ap⟩] (.slice A 0 0) w:=by
 refine ⟨fun _=>.nil,.c (.nil ?_),Ext.refl w,?_,?_,?_⟩
 ·unfold A8;rw [if_pos (by simp)]
 ·intro k blk hk
  cases k with
  |succ k=>simp at hk
  |zero=>simp at hk;subst hk;exact ⟨rfl,rfl⟩
 ·intro k b c s _ h;cases h
 ·intro k k' b c s c' s' _ _ h;cases h
theorem U3 {w:World} {size n cap:Nat} {A:Option Addr} {vals:List Value} (hl:vals.length=n*size) (h:vals=[]∨∃b off,A=some ⟨b,off,none⟩∧∀q u,vals[q]? =some u->w.cell? ⟨b,off+q,none⟩=some u):
 (Builtin.firstCells size n (.slice A n cap)).run P w.drew=.ok vals.toArray w.drew:=by
 rcases h with rfl|⟨b,off,rfl,h⟩
 ·cases A with
  |none=>exact run_firstCells_none w.drew size n n cap
  |some ad=>exact run_firstCells_some w.drew size n ad n cap [] hl (by simp)
 ·exact run_firstCells_some w.drew size n _ n cap vals hl (fun j v hj=>by rw [Addr.add_none];simpa using h j v hj)
theorem a0b {w:World} {ι:Io} {M:Ms} {n b cap size len:Nat} (hi:ι n=some (.blk b cap size)) (hl:len<=cap) (hm:cap<=maxLen):RS w ι M (.c (.own n 0 len true)) (.slice (some ⟨b,0,none⟩) len cap):=
 .c (.own hi (by omega) (fun _=>by rw [a5B]) hl hm (fun _=>⟨rfl,rfl,rfl⟩))
theorem j4.other {w w':World} {ι ι':Io} {M M':Ms} (hH:j4 w ι M H) {id b cap size:Nat} {k:Blk} (hk:H[id]? =some k) (hl:k.mode=.live) (hi:ι id=some (.blk b cap size)) (hap:k.app=false)
 (hkeep:∀b',b'<w.heap.size->b'≠b->w'.heap[b']? =w.heap[b']?) (hm:∀b,M' b->M b∨w.heap.size<=b) (he:∀id l,ι id=some l->ι' id=some l):
 ∀id' k',id'≠id->H[id']? =some k'->k'.mode≠.dead->∀l,ι id'=some l->E7 w' ι' M' k' l:=by
 intro id' k' hne hk' hd l hl'
 have hb:=hH.blk id' k' hk' hd l hl'
 have hMb:M b:=hH.liv id k hk hl b cap size hi
 cases l with
 |nil=>exact hb
 |blk b' cap' size'=>
  obtain ⟨q1,q2,q3,q4,q5,cur,q6,q7,q8⟩:=hb
  have hne':b'≠b:=by
   intro e
   subst e
   cases hm':k'.mode with
   |live=>exact hne (hH.inj id' id k' k hk' hk hm' hl _ _ _ _ _ hl' hi)
   |froz=>exact hH.fro id' k' hk' hm' _ _ _ hl' hMb
   |old=>
    have:=(hH.old id' id k' k hk' hk hm' hl _ _ _ _ _ hl' hi).1
    rw [hap] at this;cases this
   |dead=>exact hd hm'
  refine ⟨q1,q2,q3,q4,q5,cur,(hkeep b' (A9 q6) hne').trans q6,q7,fun i j c hc=>?_⟩
  obtain ⟨u,r1,r2⟩:=q8 i j c hc
  refine ⟨u,r1,r2.keep (fun b'' hb'' hM=>hkeep b'' hb'' (by rintro rfl;exact hM hMb)) hm he⟩
theorem getElem?_set_ne' {l:List Blk} {i j:Nat} {v:Blk} (h:j≠i):(l.set i v)[j]? =l[j]?:=by rw [List.getElem?_set_ne (Ne.symm h)]
theorem E7.grow {w w':World} {ι ι':Io} {M M':Ms} {kk:Blk} {b cap size:Nat} {e:TypeId} {cur0 cur:Array Value} (h:E7 w ι M kk (.blk b cap size)) (h0:w.heap[b]? =some (.cells cur0 e (0,0)))
 (h1:w'.heap[b]? =some (.cells cur e (0,0))) (h2:cur.size=cur0.size) (h3:∀q,q<kk.rows.length*size->cur[q]? =cur0[q]?) (hr:∀c u,RC w ι M c u->RC w' ι' M' c u):
 E7 w' ι' M' kk (.blk b cap size):=by
 obtain ⟨q1,q2,q3,q4,q5,cur',q6,q7,q8⟩:=h
 rw [h0] at q6
 injection q6 with q6
 injection q6 with e1 e2
 subst e1 e2
 refine ⟨q1,q2,q3,q4,q5,cur,h1,by rw [h2];exact q7,fun i j c hc=>?_⟩
 obtain ⟨u,r1,r2⟩:=q8 i j c hc
 obtain ⟨row,s1,s2⟩:=D6 hc
 have hi:=(lbe.1 s1).1
 have hj:j<size:=by rw [← q5 row (lbm s1)];exact (lbe.1 s2).1
 have hlt:i*size+j<kk.rows.length*size:=by
  have:i*size+size<=kk.rows.length*size:=by rw [← lbU];exact lbT _ hi
  omega
 exact ⟨u,by rw [h3 _ hlt];exact r1,hr c u r2⟩
def b6M (w w':World) (k kd:Blk) (ap:Bool) (b bn size:Nat) (n:Nat) (e:TypeId) (cur:Array Value):Prop:=
 (kd.mode=.dead∧k.app=false)∨(kd=a3E k∧ap=true∧k.rows.length<=n∧
   ((bn≠b∧w'.heap[b]? =w.heap[b]?)∨(bn=b∧∃cur0,w.heap[b]? =some (.cells cur0 e (0,0))∧cur.size=cur0.size∧∀q,q<k.rows.length*size->cur[q]? =cur0[q]?)))
theorem E1.append {w w':World} {ι:Io} {M:Ms} (hH:j4 w ι M H) (hM:MB w M) (hF:a0R ι H.length) {id b cap size:Nat} {k kd:Blk} (hk:H[id]? =some k) (hl:k.mode=.live)
 (hi:ι id=some (.blk b cap size)) {bn cap' len:Nat} {ap:Bool} {e:TypeId} {rows:List (List C)} {cur:Array Value} (hdead:b6M w w' k kd ap b bn size rows.length e cur) (hos:w'.os=w.os) (htape:w'.tape=w.tape) (hout:w'.output=w.output)
 (hsize:w.heap.size<=w'.heap.size) (hkeep:∀b',b'<w.heap.size->b'≠b->w'.heap[b']? =w.heap[b']?) (hbn:bn=b∨w.heap.size<=bn) (hnew:w'.heap[bn]? =some (.cells cur e (0,0)))
 (h0:0<size) (hlen:rows.length=len) (hle:len<=cap') (hm:cap'<=maxLen) (hrow:∀r ∈ rows,r.length=size) (hsz:cur.size=cap'*size)
 (hc:∀i j c,at2 rows i j=some c->∃u,cur[i*size+j]? =some u∧RC w ι M c u):
 E1 w ι M H (.c (.own H.length 0 len true)) ((H.set id kd)++[⟨.live,e,size,rows,false,ap⟩]) (.slice (some ⟨bn,0,none⟩) len cap') w':=by
 have hidl:id<H.length:=(lbe.1 hk).1
 have hMb:M b:=hH.liv id k hk hl b cap size hi
 have hblt:b<w.heap.size:=hM b hMb
 let ι':Io:=fun j=>if j=H.length then some (.blk bn cap' size) else ι j
 let M':Ms:=fun b'=>M b'∨b'=bn
 have hext:∀id l,ι id=some l->ι' id=some l:=fun j l hj=>by
  show (if j=H.length then _ else _)=_
  rw [if_neg (by rintro rfl;rw [hF _ (lbQ _)] at hj;cases hj),hj]
 have hMn:∀b',M' b'->M b'∨w.heap.size<=b':=by
  rintro b' (h|rfl)
  ·exact .inl h
  ·rcases hbn with rfl|h
   ·exact .inl hMb
   ·exact .inr h
 have hnl:ι' H.length=some (.blk bn cap' size):=by show (if _ then _ else _)=_;rw [if_pos rfl]
 have hold:∀j,j<H.length->ι' j=ι j:=fun j hj=>by show (if _ then _ else _)=_;rw [if_neg (by omega)]
 have hkdl:kd.mode≠.live∧kd.mode≠.froz:=by
  rcases hdead with ⟨h,_⟩|⟨rfl,_⟩
  ·rw [h];exact ⟨(by intro h;cases h),(by intro h;cases h)⟩
  ·exact ⟨(by intro h;cases h),(by intro h;cases h)⟩
 have hget:∀j kk,((H.set id kd)++[(⟨.live,e,size,rows,false,ap⟩:Blk)])[j]? =some kk->
  (j=id∧kk=kd)∨(j≠id∧j<H.length∧H[j]? =some kk)∨(j=H.length∧kk=⟨.live,e,size,rows,false,ap⟩):=by
  intro j kk hj
  by_cases hjl:j<H.length
  ·rw [lbb (by simpa using hjl)] at hj
   by_cases hjd:j=id
   ·subst hjd
    rw [List.getElem?_set_self (by simpa using hjl)] at hj
    injection hj with hj
    exact .inl ⟨rfl,hj.symm⟩
   ·rw [getElem?_set_ne' hjd] at hj
    exact .inr (.inl ⟨hjd,hjl,hj⟩)
  ·rw [lbc (by simpa using hjl)] at hj
   have:j=H.length:=by
    have:=(lbe.1 hj).1
    simp at this
    omega
   subst this
   simp at hj
   exact .inr (.inr ⟨rfl,hj.symm⟩)
 have hkeepR:∀c u,RC w ι M c u->RC w' ι' M' c u:=fun c u h=>h.keep (fun b'' hb'' hM'=>hkeep b'' hb'' (by rintro rfl;exact hM' hMb)) hMn hext
 have hsame:∀kk cap0,kk.rows.length<=k.rows.length->k.app=true->E7 w ι M kk (.blk b cap0 size)->E7 w' ι' M' kk (.blk b cap0 size):=by
  intro kk cap0 hle' hka hb
  rcases hdead with ⟨_,h⟩|⟨_,_,_,h|⟨rfl,cur0,h1,h2,h3⟩⟩
  ·rw [hka] at h;cases h
  ·have hb2:=hb;obtain ⟨q1,q2,q3,q4,q5,cur',q6,q7,q8⟩:=hb2
   exact hb.grow q6 (h.2.trans q6) rfl (fun _ _=>rfl) hkeepR
  ·exact hb.grow h1 hnew h2 (fun q hq=>h3 q (a27 hq (lbT _ hle'))) hkeepR
 refine ⟨ι',M',a0b hnl hle hm,⟨?_,?_,?_,?_,?_⟩,?_,?_,⟨hos,htape,hout,hsize,?_,hold,hMn,fun b' h=>.inl (.inl h),?_,by simp⟩⟩
 ·intro j kk hj hd l hl'
  rcases hget j kk hj with ⟨rfl,rfl⟩|⟨h1,h2,h3⟩|⟨rfl,rfl⟩
  ·have hdead2:=hdead;rcases hdead2 with ⟨h,_⟩|⟨rfl,_⟩
   ·exact absurd h hd
   ·rw [hold j hidl,hi] at hl'
    injection hl' with hl'
    subst hl'
    have hb:=hH.blk j k hk (by rw [hl];intro h;cases h) _ hi
    cases hka:k.app with
    |true=>exact hsame (a3E k) cap (lbQ _) hka hb
    |false=>
     rcases hdead with ⟨h,_⟩|⟨_,_,_,h|⟨rfl,cur0,h1,h2,h3⟩⟩
     ·cases h
     ·have hb2:=hb;obtain ⟨q1,q2,q3,q4,q5,cur',q6,q7,q8⟩:=hb2
      exact E7.grow (kk:=a3E k) hb q6 (h.2.trans q6) rfl (fun _ _=>rfl) hkeepR
     ·exact E7.grow (kk:=a3E k) hb h1 hnew h2 h3 hkeepR
  ·rw [hold j h2] at hl'
   cases hka:k.app with
   |false=>exact hH.other hk hl hi hka hkeep hMn hext j kk h1 h3 hd l hl'
   |true=>
    have hb:=hH.blk j kk h3 hd l hl'
    cases l with
    |nil=>exact hb
    |blk b' c' s'=>
     by_cases hbb:b'=b
     ·subst hbb
      cases hm':kk.mode with
      |live=>exact absurd (hH.inj j id kk k h3 hk hm' hl _ _ _ _ _ hl' hi) h1
      |froz=>exact absurd hMb (hH.fro j kk h3 hm' _ _ _ hl')
      |dead=>exact absurd hm' hd
      |old=>
       obtain ⟨_,rfl,h5⟩:=hH.old j id kk k h3 hk hm' hl _ _ _ _ _ hl' hi
       exact hsame kk c' h5 hka hb
     ·have hb2:=hb;obtain ⟨q1,q2,q3,q4,q5,cur',q6,q7,q8⟩:=hb2
      exact hb.grow q6 ((hkeep b' (A9 q6) hbb).trans q6) rfl (fun _ _=>rfl) hkeepR
  ·rw [hnl] at hl'
   injection hl' with hl'
   subst hl'
   refine ⟨rfl,h0,(show rows.length<=cap' by omega),hm,hrow,cur,hnew,hsz,fun i j c hij=>?_⟩
   obtain ⟨u,r1,r2⟩:=hc i j c hij
   exact ⟨u,r1,hkeepR c u r2⟩
 ·intro j kk hj hlv b' c' s' hij
  rcases hget j kk hj with ⟨rfl,rfl⟩|⟨h1,h2,h3⟩|⟨rfl,rfl⟩
  ·exact absurd hlv hkdl.1
  ·rw [hold j h2] at hij
   exact .inl (hH.liv j kk h3 hlv _ _ _ hij)
  ·rw [hnl] at hij
   injection hij with hij
   injection hij with hij
   exact .inr hij.symm
 ·intro j kk hj hlv b' c' s' hij
  rcases hget j kk hj with ⟨rfl,rfl⟩|⟨h1,h2,h3⟩|⟨rfl,rfl⟩
  ·exact absurd hlv hkdl.2
  ·rw [hold j h2] at hij
   have hnm:=hH.fro j kk h3 hlv _ _ _ hij
   have hbl:b'<w.heap.size:=by
    obtain ⟨_,_,_,_,_,cur',q,_⟩:=hH.blk j kk h3 (by rw [hlv];intro h;cases h) _ hij
    exact A9 q
   rintro (h|rfl)
   ·exact hnm h
   ·rcases hbn with rfl|h
    ·exact hnm hMb
    ·omega
  ·cases hlv
 ·intro j j' kk kk' hj hj' hlv hlv' b' c' s' c'' s'' hij hij'
  rcases hget j kk hj with ⟨rfl,rfl⟩|⟨h1,h2,h3⟩|⟨rfl,rfl⟩
  ·exact absurd hlv hkdl.1
  ·rcases hget j' kk' hj' with ⟨rfl,rfl⟩|⟨h1',h2',h3'⟩|⟨rfl,rfl⟩
   ·exact absurd hlv' hkdl.1
   ·rw [hold j h2] at hij
    rw [hold j' h2'] at hij'
    exact hH.inj j j' kk kk' h3 h3' hlv hlv' _ _ _ _ _ hij hij'
   ·rw [hold j h2] at hij
    rw [hnl] at hij'
    injection hij' with hij'
    injection hij' with hij'
    subst hij'
    have hbl:bn<w.heap.size:=by
     obtain ⟨_,_,_,_,_,cur',q,_⟩:=hH.blk j kk h3 (by rw [hlv];intro h;cases h) _ hij
     exact A9 q
    rcases hbn with rfl|h
    ·exact absurd (hH.inj j id kk k h3 hk hlv hl _ _ _ _ _ hij hi) h1
    ·omega
  ·rcases hget j' kk' hj' with ⟨rfl,rfl⟩|⟨h1',h2',h3'⟩|⟨rfl,rfl⟩
   ·exact absurd hlv' hkdl.1
   ·rw [hold j' h2'] at hij'
    rw [hnl] at hij
    injection hij with hij
    injection hij with hij
    subst hij
    have hbl:bn<w.heap.size:=by
     obtain ⟨_,_,_,_,_,cur',q,_⟩:=hH.blk j' kk' h3' (by rw [hlv'];intro h;cases h) _ hij'
     exact A9 q
    rcases hbn with rfl|h
    ·exact absurd (hH.inj j' id kk' k h3' hk hlv' hl _ _ _ _ _ hij' hi) h1'
    ·omega
   ·rfl
 ·intro j j' kk kk' hj hj' hlv hlv' b' c' s' c'' s'' hij hij'
  rcases hget j' kk' hj' with ⟨rfl,rfl⟩|⟨h1',h2',h3'⟩|⟨rfl,rfl⟩
  ·exact absurd hlv' hkdl.1
  ·rw [hold j' h2'] at hij'
   rcases hget j kk hj with ⟨rfl,rfl⟩|⟨h1,h2,h3⟩|⟨rfl,rfl⟩
   ·rw [hold j hidl,hi] at hij
    injection hij with hij
    injection hij with e1 e2 e3
    subst e1
    exact absurd (hH.inj j' j kk' k h3' hk hlv' hl _ _ _ _ _ hij' hi) h1'
   ·rw [hold j h2] at hij
    exact hH.old j j' kk kk' h3 h3' hlv hlv' _ _ _ _ _ hij hij'
   ·cases hlv
  ·rw [hnl] at hij'
   injection hij' with hij'
   injection hij' with e1 e2 e3
   subst e1 e2 e3
   rcases hget j kk hj with ⟨rfl,rfl⟩|⟨h1,h2,h3⟩|⟨rfl,rfl⟩
   ·rw [hold j hidl,hi] at hij
    injection hij with hij
    injection hij with e1 e2 e3
    subst e1 e3
    rcases hdead with ⟨h,_⟩|⟨rfl,hap,hle',_⟩
    ·rw [h] at hlv;cases hlv
    ·exact ⟨hap,rfl,hle'⟩
   ·rw [hold j h2] at hij
    have hbl:bn<w.heap.size:=by
     obtain ⟨_,_,_,_,_,cur',q,_⟩:=hH.blk j kk h3 (by rw [hlv];intro h;cases h) _ hij
     exact A9 q
    rcases hbn with rfl|h
    ·obtain ⟨q1,q2,q3⟩:=hH.old j id kk k h3 hk hlv hl _ _ _ _ _ hij hi
     rcases hdead with ⟨_,h⟩|⟨rfl,hap,hle',_⟩
     ·rw [q1] at h;cases h
     ·exact ⟨hap,q2,lbR q3 hle'⟩
    ·omega
   ·cases hlv
 ·rintro b' (h|rfl)
  ·exact a27 (hM b' h) hsize
  ·exact A9 hnew
 ·intro j hj
  rw [lbq,List.length_set] at hj
  simp at hj
  show (if _ then _ else _)=_
  rw [if_neg (by omega)]
  exact hF j (by omega)
 ·intro b' hb' hnl'
  exact hkeep b' hb' (by rintro rfl;exact hnl' ⟨id,k,cap,size,hk,hl,hi⟩)
 ·rintro b' ⟨j,kk,c',s',hj,hlv,hij⟩
  rcases hget j kk hj with ⟨rfl,rfl⟩|⟨h1,h2,h3⟩|⟨rfl,rfl⟩
  ·exact absurd hlv hkdl.1
  ·rw [hold j h2] at hij
   exact .inl ⟨j,kk,c',s',h3,hlv,hij⟩
  ·rw [hnl] at hij
   injection hij with hij
   injection hij with hij
   subst hij
   rcases hbn with rfl|h
   ·exact .inl ⟨id,k,cap,size,hk,hl,hi⟩
   ·exact .inr h
end
end
end Go.Proofs.YtaejgdbahjjncaaGreat
