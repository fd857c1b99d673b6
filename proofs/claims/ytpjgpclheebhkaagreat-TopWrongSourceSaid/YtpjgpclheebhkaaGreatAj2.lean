/- Part 2. -/
import Derived.Test.YtpjgpclheebhkaaGreatChecked
import Derived.WalkLawsBesides
import Derived.Deep.AppendLies
import Derived.Shelf.SlLaysF0
import Derived.Shelf.Lays
import Derived.Shelf.Lays2
import Derived.Test.YtpjgpclheebhkaaGreatProg
import Derived.Test.YtpjgpclheebhkaaGreatAj1
namespace Go.Proofs.YtpjgpclheebhkaaGreat
set_option linter.unusedVariables false
set_option linter.unusedSimpArgs false
section
open Go.RowKit
theorem ak7 {P:Program} {t:TypeId} (h:a8d P t=true):∃u,P.underlying t=some u∧∀m,u≠.interface m:=by
 unfold a8d at h
 split at h
 ·cases h
 ·rename_i u hu hne
  exact ⟨u,hne,fun m e=>hu m e⟩
 ·cases h
theorem ao7 {P:Program} {t:TypeId} {name:String} {f:FuncId} {b:Bool} {e:TypeId} (h:a92 P t name f b e=true):
 ∃i m,P.info? t=some i∧P.underlying t=some (.pointer e)∧i.methods.find? (fun m=>m.name == name)=some m∧m.path=#[]∧m.func=some (f,b):=by
 unfold a92 at h
 split at h
 ·rename_i i e' hi hu
  simp only [lbO] at h
  obtain ⟨h1,h2⟩:=h
  obtain rfl:e'=e:=by simpa using h1
  split at h2
  ·rename_i m hm
   simp only [lbO] at h2
   obtain ⟨h3,h4⟩:=h2
   split at h4
   ·rename_i g c hf
    simp only [lbO] at h4
    obtain ⟨h5,h6⟩:=h4
    obtain rfl:g=f:=by simpa using h5
    obtain rfl:c=b:=by simpa using h6
    exact ⟨i,m,hi,hu,hm,by simpa using h3,hf⟩
   ·cases h4
  ·cases h2
 ·cases h
section
variable {P:Program} {τ:Tab} {o:Oper} {ev:Operand->S} {H:Hp}
theorem aU0 {t:TypeId} {x:Operand} (ho:o.op=.makeInterface t x) {K:S->Prop} (h:b9k P t (ev x) K):∃s,K s∧QOp P o ev H s []:=by
 obtain ⟨h1,h2⟩:=h
 rw [y5] at h2
 obtain ⟨u,hu,hne⟩:=ak7 h1
 refine ⟨_,h2,i6 fun a w ι M he hh=>⟨.iface t (a.eval x),?_,.ifc (he x)⟩⟩
 have hrun:(Instr.makeInterface t (a.eval x)).run P w=.ok (.iface t (a.eval x)) w:=by
  simp only [Instr.makeInterface]
  cases u<;>first|(exact absurd rfl (hne _))|simp [run_underlying hu]
 simp [execOp,ho,hrun]
theorem aT8 {x:Operand} {t0 t:TypeId} {ok:Bool} (ho:o.op=.typeAssert x t0 t ok) {K:S->Prop} (h:aK1 P t ok (ev x) K):∃s,K s∧QOp P o ev H s []:=by
 unfold aK1 at h
 split at h
 ·rename_i d s hx
  obtain ⟨h1,h2⟩:=h
  obtain ⟨h3,h4⟩:=w8 h2
  obtain rfl:d=t:=by simpa using h3
  rw [y5] at h4
  clear h2
  obtain ⟨u,hu,hne⟩:=ak7 h1
  have hrun:∀(v:Value) (w:World),(Instr.typeAssert (.iface d v) t0 d ok).run P w=.ok (if ok then .tuple #[v,.bool true] else v) w:=fun v w=>by
   simp only [Instr.typeAssert]
   cases u<;>first|(exact absurd rfl (hne _))|(cases ok<;>simp [run_underlying hu])
  cases ok with
  |true=>
   refine ⟨_,h4,i6 fun a w ι M he hh=>?_⟩
   have hr:=he.to hx
   generalize hv:a.eval x=v at hr
   cases hr with
   |@ifc _ _ v hr=>
    refine ⟨.tuple #[v,.bool true],?_,?_⟩
    ·have:=hrun v w
     simp [execOp,ho,hv,this]
    ·exact .tup [v,.bool true] rfl fun j s' hj=>by
      rcases j with _|_|j
      ·simp at hj;subst hj;exact hr
      ·simp at hj;subst hj;exact RS.bool
      ·simp at hj
  |false=>
   refine ⟨_,h4,i6 fun a w ι M he hh=>?_⟩
   have hr:=he.to hx
   generalize hv:a.eval x=v at hr
   cases hr with
   |@ifc _ _ v hr=>
    refine ⟨v,?_,hr⟩
    have:=hrun v w
    simp [execOp,ho,hv,this]
 ·exact h.elim
theorem b4k (hτ:v6 P τ) {t:TypeId} {x:S} {K:S->Prop} (h:a5m τ (b6Z x) H t (.tmp 0) K):∃s,K s∧∀(v:Value) (w:World) (ι:Io) (M:Ms),RS w ι M x v->j3 w ι M H->∃u ad,v=.pointer (some ad)∧(Instr.loadAt t v).run P w=.ok u w∧RS w ι M s u:=by
 obtain ⟨s,h1,h2⟩:=a7z (P:=P) hτ h
 refine ⟨s,h1,fun v w ι M hr hh=>?_⟩
 have:=h2 ({ tmps:=#[v],defers:=[] }:Act) w ι M (fun y=>?_) hh
 ·exact this
 ·cases y with
  |tmp t=>cases t with
   |zero=>exact hr
   |succ t=>exact .junk
  |_=>exact .junk
theorem b1f {t:TypeId} {name:String} {f:FuncId} {b:Bool} {e:TypeId} (h:a92 P t name f b e=true) {v:Value} {w:World} (n:Nat):
 (method (n + 1) t v name).run P w = (receiverAt t (.val v) b (some ((name.splitOn ".").getLastD name)) >>= fun r => pure (f, r)).run P w := by
 obtain ⟨i,m,hi,hu,hm,hp,hf⟩:=ao7 h
 simp [method,typeInfo,hi,hm,hp,hf,follow]
theorem b3g {t e:TypeId} (hu:P.underlying t=some (.pointer e)) {v:Value} {w:World} {wr:Option String}:(receiverAt t (.val v) true wr).run P w=.ok v w:=by
 simp [receiverAt,run_underlying hu,Go.Place.get]
theorem b0W {t e:TypeId} (hu:P.underlying t=some (.pointer e)) {ad:Addr} {u:Value} {w:World} {name:String} (hl:(Instr.loadAt e (.pointer (some ad))).run P w=.ok u w):(receiverAt t (.val (.pointer (some ad))) false (some name)).run P w=.ok u w:=by
 simp [Instr.loadAt,Instr.sureAddr] at hl
 have hw : Builtin.ssaWrapNilChk_ #[t] t #[.pointer (some ad), strVal "", strVal name] = pure (.pointer (some ad)) := rfl
 simp [receiverAt,run_underlying hu,Go.Place.get,hw,asAddr,hl]
theorem a9W {c:Call} (ho:o.op=.call c) {r:Operand} {name:String} (hc:c.callee=.invoke r name) {t:TypeId} {f:FuncId} {b:Bool} {e:TypeId} (hm:a92 P t name f b e=true) {a:Act} {v u:Value} (hv:a.eval r=.iface t v)
 {w : World} (hr : (receiverAt t (.val v) b (some ((name.splitOn ".").getLastD name))).run P w = .ok u w) (he : aE3 P f) : (execOp a.eval o).run P w = .ok (.enter f (u :: c.args.toList.map a.eval).toArray) w := by
 obtain ⟨fn,hfn,hb,hnm⟩:=he
 have hn:fn.body≠none:=by intro e;rw [e] at hb;cases hb
 have e1:(#[u]++c.args.map a.eval)=(u::c.args.toList.map a.eval).toArray:=by apply Array.ext';simp
 have e2:P.types.size+Made.depth=(P.types.size+Made.depth - 1)+1:=by have:0<Made.depth:=by decide
                                                                     omega
 have hmr:=b1f hm (v:=v) (w:=w) (P.types.size+Made.depth - 1)
 rw [← e2] at hmr
 have e0:(#[Value.iface t v]++c.args.map a.eval)[0]? =some (.iface t v):=by rw [Array.getElem?_append_left (by simp)];rfl
 have e3:(Array.map a.eval c.args).extract 0 c.args.size=Array.map a.eval c.args:=by apply Array.ext';simp;exact lbn (by simp)
 generalize (some ((name.splitOn ".").getLastD name)) = wr at hr hmr
 have hmr:(method (P.types.size+Made.depth) t v name).run P w=.ok (f,u) w:=by rw [hmr];simp [hr]
 simp [execOp,e0,e3,ho,resolve,hc,hv,invoke,callMethod,hmr,hr,callFunc,hfn,hn,hnm,e1]
theorem ao0 (hτ:v6 P τ) {c:Call} (ho:o.op=.call c) {r:Operand} {name:String} (hc:c.callee=.invoke r name) {Kq:S->List Blk->Prop} {Kg:S->Hp->Prop} (h:a32 P τ H (ev r) name (c.args.toList.map ev) Kq Kg):
 (∃ s B,Kq s B∧QOp P o ev H s B)∨(∃ s H',Kg s H'∧GOp P o ev H s H'):=by
 unfold a32 at h
 split at h
 rotate_left
 ·exact h.elim
 rename_i t x hx
 obtain ⟨f,b,e,hm,h⟩:=h
 obtain ⟨i,m,hi,hu,_⟩:=ao7 hm
 have key : ∃ x' : S, a79 P f (x' :: c.args.toList.map ev) H Kq Kg ∧ ∀ (v : Value) (w : World) (ι : Io) (M : Ms), RS w ι M x v -> j3 w ι M H -> ∃ u, (receiverAt t (.val v) b (some ((name.splitOn ".").getLastD name))).run P w = .ok u w ∧ RS w ι M x' u := by
   cases b with
   |true=>exact ⟨x,h,fun v w ι M hr _=>⟨v,b3g hu,hr⟩⟩
   |false=>
    obtain ⟨s,h1,h2⟩:=b4k (P:=P) hτ h
    refine ⟨s,h1,fun v w ι M hr hh=>?_⟩
    obtain ⟨u,ad,rfl,h3,h4⟩:=h2 v w ι M hr hh
    exact ⟨u,b0W hu h3,h4⟩
 obtain ⟨x',h,hx'⟩:=key
 have args : ∀ (a : Act) (w : World) (ι : Io) (M : Ms), L8 w ι M ev a -> j3 w ι M H -> ∃ v u, a.eval r = .iface t v ∧ (receiverAt t (.val v) b (some ((name.splitOn ".").getLastD name))).run P w = .ok u w ∧
     (u::c.args.toList.map a.eval).length=(x'::c.args.toList.map ev).length∧∀j s,(x'::c.args.toList.map ev)[j]? =some s->RS w ι M s ((u::c.args.toList.map a.eval).getD j undef):=fun a w ι M he hh=>by
   have hr:=he.to hx
   generalize hv:a.eval r=v at hr
   cases hr with
   |@ifc _ _ v hr=>
    obtain ⟨u,h3,h4⟩:=hx' v w ι M hr hh
    refine ⟨v,u,rfl,h3,by simp,fun j s hj=>?_⟩
    cases j with
    |zero=>simp at hj;subst hj;exact h4
    |succ j=>
     rw [List.getElem?_cons_succ,lba] at hj
     obtain ⟨y,hy,rfl⟩:=a7O.1 hj
     rw [lbl,List.getElem?_cons_succ,lba,hy]
     exact he y
 rcases h with ⟨r',B,hq,hk⟩|⟨r',H',hq,hk⟩
 ·refine .inl ⟨r',B,a0x hk,fun a w ι M he hh hm' hfr=>?_⟩
  obtain ⟨v,u,h1,h2,h3,h4⟩:=args a w ι M he hh
  exact a3k (a9W ho hc hm h1 h2 hq.1) (hq.2 w ι M _ h3 h4 hh hm' hfr)
 ·refine .inr ⟨r',H',a0x hk,fun a w ι M he hh hm' hfr=>?_⟩
  obtain ⟨v,u,h1,h2,h3,h4⟩:=args a w ι M he hh
  exact a3k (a9W ho hc hm h1 h2 hq.1) (hq.2 w ι M _ h3 h4 hh hm' hfr)
end
end
section
open Go.RowKit
theorem C5.newB {w w':World} {ι:Io} {M:Ms} {n:Nat} {s:S} {v:Value} {size cap:Nat} {blk:Blk} {cur:Array Value}
 (hos:w'.os=w.os) (htape:w'.tape=w.tape) (hout:w'.output=w.output) (hheap:w'.heap=w.heap.push (a2E blk cur)) (hlive:blk.mode=.live) (hsize0:blk.size=size)
 (hn:ι n=none) (h0:0<size) (hl:blk.rows.length<=cap) (hm:a0L blk.mp cap) (hrow:∀r ∈ blk.rows,r.length=size) (hsz:cur.size=cap*size)
 (hc:∀i j c,at2 blk.rows i j=some c->∃u,cur[i*size+j]? =some u∧RC w ι M c u)
 (hs:∀(ι':Io) (M':Ms),ι' n=some (.blk w.heap.size cap size)->RS w' ι' M' s v):C5 w ι M n s [blk] v w':=by
 have hsize:w'.heap.size=w.heap.size+1:=by rw [hheap];simp
 have hold:∀b,b<w.heap.size->w'.heap[b]? =w.heap[b]?:=fun b hb=>by rw [hheap,Array.getElem?_push,if_neg (by omega)]
 have hnew:w'.heap[w.heap.size]? =some (a2E blk cur):=by rw [hheap];simp
 refine ⟨fun _=>.blk w.heap.size cap size,hs _ _ ?_,⟨hos,htape,hout,by omega,hold⟩,?_,?_,?_⟩
 ·unfold s8;rw [if_pos (by simp)]
 ·intro k b hk
  cases k with
  |succ k=>simp at hk
  |zero=>
   simp at hk
   subst hk
   refine ⟨hlive,hsize0,h0,hl,hm,hrow,cur,hnew,hsz,fun i j c hij=>?_⟩
   obtain ⟨u,h1,h2⟩:=hc i j c hij
   refine ⟨u,h1,h2.keep (fun b hb _=>hold b hb) ?_ (fun id l hid=>?_)⟩
   ·rintro b (hb|⟨k,hk,c',s',he⟩)
    ·exact .inl hb
    ·injection he with he
     exact .inr (by omega)
   ·exact a2z (fun k hk=>by
     have:k=0:=by simpa using hk
     subst this
     exact hn) hid
 ·intro k b c' s' hk he
  injection he with he
  omega
 ·intro k k' b c1 s1 c2 s2 hk hk' _ _
  have h1:k<1:=hk
  have h2:k'<1:=hk'
  omega
theorem aW6:∀{row:List C} {l:List Int} {c:C},ac8 row=some (l,c)->row=l.map a6h++[c]
 |[],l,c,h=>by cases h
 |[x],l,c,h=>by
  simp only [ac8,lb4,Prod.mk.injEq] at h
  obtain ⟨rfl,rfl⟩:=h;rfl
 |x::y::r,l,c,h=>by
  unfold ac8 at h
  split at h
  ·rename_i a
   split at h
   ·rename_i l' c' h'
    simp only [lb4,Prod.mk.injEq] at h
    obtain ⟨rfl,rfl⟩:=h
    rw [aW6 h'];rfl
   ·cases h
  ·cases h
theorem a14:∀{rows:List (List C)} {L:List (List Int × C)},a3u rows=some L->rows=L.map fun x=>x.1.map a6h++[x.2]
 |[],L,h=>by
  simp only [a3u,lb4] at h
  subst h;rfl
 |r::rs,L,h=>by
  unfold a3u at h
  split at h
  ·rename_i x xs h1 h2
   simp only [lb4] at h
   subst h
   rw [a3q,←a14 h2,←aW6 (l:=x.1) (c:=x.2) h1]
  ·cases h
def L0 (size N:Nat) (cur:Array Value):List MapEntry:=(List.range N).map fun i=>{ key:=a81 size i cur,val:=cur.getD (i*size+(size - 1)) undef,born:=i }
theorem a7M {k:Blk} {cur:Array Value} (h:k.mp=true):a2E k cur=.map (L0 k.size k.rows.length cur).toArray k.rows.length:=by unfold a2E;rw [h];rfl
theorem b67 {w:World} {ι:Io} {M:Ms} {a:Int} {v:Value} (h:RC w ι M (a6h a) v):v=.int .i64 a:=by
 cases h with
 |t h=>cases h;rfl
theorem a6x:∀{l:List Int},2<=l.length->a3w l=.agg (l.map (Value.int .i64)).toArray
 |[],h=>by simp at h
 |[_],h=>by simp at h
 |_::_::_,_=>rfl
theorem aN6 {s:S} {k:List Int->Prop} (h:b6m s k):∃l,k l∧∀{w:World} {ι:Io} {M:Ms} {v:Value},RS w ι M s v->v=a3w l:=by
 unfold b6m at h
 split at h
 ·rename_i a
  exact ⟨[a],h,fun hr=>hr.inv_atm⟩
 ·rename_i cs
  have key:∀{cs:List C} {k:List Int->Prop},a7f cs k->∃l,k l∧cs=l.map a6h:=by
   intro cs
   induction cs with
   |nil=>intro k h;exact ⟨[],h,rfl⟩
   |cons c cs ih=>
    intro k h
    unfold a7f at h
    split at h
    ·cases ‹_::_=[]›
    ·rename_i a cs' he
     injection he with e1 e2
     subst e1 e2
     obtain ⟨l,h1,h2⟩:=ih h
     exact ⟨_::l,h1,by rw [h2];rfl⟩
    ·exact h.elim
  obtain ⟨l,h1,rfl⟩:=key h
  obtain ⟨h2,h1⟩:=w8 h1
  refine ⟨l,h1,fun {w ι M v} hr=>?_⟩
  have h2:2<=l.length:=by simpa using h2
  cases hr with
  |agg vs hl hr=>
   have e:vs=l.map (Value.int .i64):=by
    refine I6 fun j=>?_
    rw [lba]
    cases hj:l[j]? with
    |none=>
     rw [List.getElem?_eq_none_iff] at hj
     rw [lbr] at hl
     rw [lbd (by omega)];rfl
    |some a=>
     have:=hr j (a6h a) (by rw [lba,hj];rfl)
     have hlt:=(lbe.1 hj).1
     rw [lbr] at hl
     have hv:=b67 this
     rw [lbl,lbf (by omega)] at hv
     rw [lbf (by omega)]
     exact congrArg some hv
   rw [e,a6x h2]
 ·exact h.elim
theorem aW1 {id:Nat} {H:Hp} {k:Blk->Prop} (h:b8W id H k):∃b,H[id]? =some b∧b.mode=.live∧(b.mp=true∧b.app=false)∧k b:=by
 obtain ⟨b,h1,h2⟩:=H9 h
 split at h2
 ·rename_i h3 h4 h5;exact ⟨b,h1,h3,⟨h4,h5⟩,h2⟩
 ·exact h2.elim
theorem aS3 {w:World} {ι:Io} {M:Ms} {rows:List (List C)} {L:List (List Int × C)} {n size:Nat} {cur:Array Value} (hL:rows=L.map fun x=>x.1.map a6h++[x.2]) (hn:1<=n) (hs:size=n+1) (hr:∀r ∈ rows,r.length=size)
 (hc:∀i j c,at2 rows i j=some c->∃u,cur[i*size+j]? =some u∧RC w ι M c u):
 (∀ l ∈ L.map (·.1),l.length=n)∧(L0 size rows.length cur).map (·.key)=(L.map (·.1)).map a3w∧∀(i:Nat) (x:List Int × C),L[i]? =some x->RC w ι M x.2 (cur.getD (i*size+(size - 1)) undef):=by
 have hlen:∀x ∈ L,x.1.length=n:=fun x hx=>by
  have:=hr (x.1.map a6h++[x.2]) (by rw [hL];exact lby.2 ⟨x,hx,rfl⟩)
  simp at this;omega
 have row:∀(i:Nat) (x:List Int × C),L[i]? =some x->rows[i]? =some (x.1.map a6h++[x.2]):=fun i x h=>by rw [hL,lba,h];rfl
 have key:∀(i:Nat) (x:List Int × C),L[i]? =some x->∀(j:Nat) (a:Int),x.1[j]? =some a->cur.getD (i*size+j) undef=.int .i64 a:=fun i x hx j a ha=>by
  have hj:=(lbe.1 ha).1
  obtain ⟨u,h1,h2⟩:=hc i j (a6h a) (p8 (row i x hx) (by rw [lbb (by simpa using hj),lba,ha];rfl))
  rw [J9,h1]
  exact b67 h2
 refine ⟨fun l hl=>?_,?_,fun i x hx=>?_⟩
 ·obtain ⟨x,hx,rfl⟩:=lby.1 hl
  exact hlen x hx
 ·refine I6 fun i=>?_
  rw [lba,lba,lba]
  unfold L0
  rw [lba,hL,lbr]
  cases hx:L[i]? with
  |none=>
   rw [List.getElem?_eq_none_iff] at hx
   rw [lbd (by simpa using hx)];rfl
  |some x=>
   have hi:=(lbe.1 hx).1
   rw [lbh hi]
   simp only [a0n,lb4]
   have hxl:=hlen x (lbm hx)
   have k:=key i x hx
   subst hs
   rcases n with _|_|n
   ·omega
   ·obtain ⟨a,ha⟩:=aD9.1 hxl
    have:=k 0 a (by rw [ha];rfl)
    rw [ha]
    show cur.getD (i*2) undef=.int .i64 a
    exact this
   ·rw [a6x (by omega)]
    show Value.agg ((List.range (n+2)).map fun j=>cur.getD (i*(n+3)+j) undef).toArray=_
    congr 2
    refine I6 fun j=>?_
    rw [lba,lba]
    cases hj:x.1[j]? with
    |none=>
     rw [List.getElem?_eq_none_iff] at hj
     rw [lbd (by simpa using (show n+2<=j by omega))];rfl
    |some a=>
     have hlt:=(lbe.1 hj).1
     rw [lbh (by omega)]
     simp only [a0n,lb4]
     exact k j a hj
 ·have hxl:=hlen x (lbm hx)
  obtain ⟨u,h1,h2⟩:=hc i n x.2 (p8 (row i x hx) (by rw [lbc (by simp [hxl])];simp [hxl]))
  rw [J9,show size - 1=n by omega,h1]
  exact h2
theorem aa4 {w:World} {ι:Io} {M:Ms} {ks:List Int}:∀(L:List (List Int × C)) (es:List MapEntry) (i:Nat),L.length=es.length->(∀ (j:Nat) (x:List Int × C) (e:MapEntry),L[j]? =some x->es[j]? =some e->RC w ι M x.2 e.val)->
 (match a1w ks L with
 |some c=>∃j v,a3Y ks (L.map (·.1)) es i=some (j,v)∧RC w ι M c v
 |none=>a3Y ks (L.map (·.1)) es i=none)
 |[],[],i,_,_=>rfl
 |[],_::_,i,h,_=>by simp at h
 |_::_,[],i,h,_=>by simp at h
 |x::L,e::es,i,h,hr=>by
  have ih:=aa4 (ks:=ks) L es (i+1) (by simpa using h) fun j x' e' h1 h2=>hr (j+1) x' e' (by simpa using h1) (by simpa using h2)
  unfold a1w
  rw [a3q]
  unfold a3Y
  cases ks == x.1 with
  |true=>exact ⟨i,e.val,rfl,hr 0 x e rfl rfl⟩
  |false=>exact ih
section
variable {P:Program} {τ:Tab} {o:Oper} {ev:Operand->S} {H:Hp}
theorem ab1 {t:TypeId} (ho:o.op=.makeMap t none) {kt e:TypeId} {z:Value} {m:Nat} (hT:b0t P t kt e z m):QOp P o ev H (.c (.mp H.length)) [aE9 t (m+1) []]:=by
 intro a w ι M he hh hm hf
 have hrun:(execOp a.eval o).run P w=.ok (.value (.map (some w.heap.size))) (w.alloc (.map #[] 0)):=by
  simp [execOp,ho,Instr.makeMap]
 refine m8 hrun ?_
 refine C5.newB (blk:=aE9 t (m+1) []) (size:=m+1) (cap:=maxLen) (cur:=(List.replicate (maxLen*(m+1)) undef).toArray) rfl rfl rfl ?_ rfl rfl (hf 0 (by simp)) (by omega) (D5 _) ⟨lbS _,fun _=>rfl⟩ (fun r hr=>by cases hr) (by simp) (fun i j c hc=>by simp [aE9,at2] at hc) fun ι' M' hi=>.c (.mp hi)
 show w.heap.push (.map #[] 0)=_
 rw [a7M rfl];rfl
theorem b1P {id:Nat} {b:Blk} {w:World} {ι:Io} {M:Ms} (hH:j3 w ι M H) (hb:H[id]? =some b) (hl:b.mode=.live) (hm:b.mp=true) {v:Value} (hv:RC w ι M (.mp id) v) {L:List (List Int × C)} (hL:a3u b.rows=some L) {n:Nat} (hn:1<=n) (hs:b.size=n+1):
 ∃bb cur,ι id=some (.blk bb maxLen b.size)∧v=.map (some bb)∧w.heap[bb]? =some (.map (L0 b.size b.rows.length cur).toArray b.rows.length)∧cur.size=maxLen*b.size∧b.rows.length<=maxLen∧(∀ r ∈ b.rows,r.length=b.size)∧
  (∀ i j c,at2 b.rows i j=some c->∃u,cur[i*b.size+j]? =some u∧RC w ι M c u):=by
 cases hv with
 |@mp _ bb cap size hi=>
  obtain ⟨q1,q2,q3,q4,q5,cur,q6,q7,q8⟩:=hH.blk id b hb (by rw [hl];intro h;cases h) _ hi
  obtain rfl:=q4.2 hm
  rw [a7M hm] at q6
  subst q1
  exact ⟨bb,cur,hi,rfl,q6,q7,q3,q5,q8⟩
theorem am1 {t:TypeId} {x k:Operand} {ok:Bool} (ho:o.op=.lookup t x k ok) {K:S->Prop} (h:a1B P H t ok (ev x) (ev k) K):∃s,K s∧QOp P o ev H s []:=by
 unfold a1B at h
 split at h
 rotate_left
 ·exact h.elim
 rename_i id hx
 obtain ⟨ks,h,hk⟩:=aN6 h
 obtain ⟨b,hb,hl,⟨hm,hap⟩,h⟩:=aW1 h
 obtain ⟨kt,e,z,hT,hs,h⟩:=h
 split at h
 rotate_left
 ·exact h.elim
 rename_i L hL
 have run:∀(a:Act) (w:World) (ι:Io) (M:Ms),L8 w ι M ev a->j3 w ι M H->∃r,(execOp a.eval o).run P w=.ok (.value (if ok then .tuple #[r,.bool (a1w ks L).isSome] else r)) w∧match a1w ks L with
  |some c=>RC w ι M c r
  |none=>r=z:=fun a w ι M he hh=>by
  obtain ⟨bb,cur,h1,h2,h3,h4,h5,h6,h7⟩:=b1P hh hb hl hm (he.to hx).inv_c hL hT.n hs
  obtain ⟨e1,e2,e3⟩:=aS3 (a14 hL) hT.n hs h6 h7
  have hlen:L.length=(L0 b.size b.rows.length cur).length:=by
   rw [a14 hL];simp [L0]
  have fr:=aa4 (ks:=ks) (w:=w) (ι:=ι) (M:=M) L (L0 b.size b.rows.length cur) 0 hlen fun j x en hx hen=>by
   have:=e3 j x hx
   unfold L0 at hen
   have hj:=(lbe.1 hx).1
   rw [lba,lbh (by rw [a14 hL,lbr];exact hj)] at hen
   injection hen with hen
   rw [← hen];exact this
  have ck:=hT.k.ck
  have fnd:=hT.k.fnd ks (L0 b.size b.rows.length cur) (L.map (·.1)) w rfl e2 e1
  have hkv:=hk (he k)
  cases hf:a1w ks L with
  |some c=>
   rw [hf] at fr
   obtain ⟨j,v,f1,f2⟩:=fr
   rw [f1] at fnd
   refine ⟨v,?_,f2⟩
   cases ok<;>simp [execOp,ho,Instr.lookup,run_underlying hT.u,h2,MapKept.run_getObj_map h3,hkv,ck _ ks w rfl,fnd]
  |none=>
   rw [hf] at fr
   rw [fr] at fnd
   refine ⟨z,?_,rfl⟩
   cases ok<;>simp [execOp,ho,Instr.lookup,run_underlying hT.u,h2,MapKept.run_getObj_map h3,hkv,ck _ ks w rfl,fnd,hT.zv w]
 cases hf:a1w ks L with
 |some c=>
  rw [hf] at h
  cases ok with
  |true=>
   refine ⟨_,h,i6 fun a w ι M he hh=>?_⟩
   obtain ⟨r,h1,h2⟩:=run a w ι M he hh
   rw [hf] at h1 h2
   exact ⟨_,h1,.tup [r,.bool true] rfl fun j s hj=>by
    rcases j with _|_|j
    ·simp at hj;subst hj;exact .c h2
    ·simp at hj;subst hj;exact RS.bool
    ·simp at hj⟩
  |false=>
   refine ⟨_,h,i6 fun a w ι M he hh=>?_⟩
   obtain ⟨r,h1,h2⟩:=run a w ι M he hh
   rw [hf] at h1 h2
   exact ⟨_,h1,.c h2⟩
 |none=>
  rw [hf] at h
  cases ok with
  |true=>
   refine ⟨_,h,i6 fun a w ι M he hh=>?_⟩
   obtain ⟨r,h1,h2⟩:=run a w ι M he hh
   rw [hf] at h1 h2
   subst h2
   exact ⟨_,h1,.tup [r,.bool false] rfl fun j s hj=>by
    rcases j with _|_|j
    ·simp at hj;subst hj;exact .c (RC.const hT.zo)
    ·simp at hj;subst hj;exact RS.bool
    ·simp at hj⟩
  |false=>
   refine ⟨_,h,i6 fun a w ι M he hh=>?_⟩
   obtain ⟨r,h1,h2⟩:=run a w ι M he hh
   rw [hf] at h1 h2
   subst h2
   exact ⟨_,h1,.c (RC.const hT.zo)⟩
def af6 (N size:Nat) (cur:Array Value) (vals:List Value):Array Value:=((List.range (maxLen*size)).map fun q=>if q<N*size then cur.getD q undef else vals.getD (q - N*size) undef).toArray
theorem b3D {N size:Nat} {cur:Array Value} {vals:List Value}:(af6 N size cur vals).size=maxLen*size:=by simp [af6]
theorem a9v {N size q:Nat} {cur:Array Value} {vals:List Value} (h:q<maxLen*size):(af6 N size cur vals)[q]? =some (if q<N*size then cur.getD q undef else vals.getD (q - N*size) undef):=by
 unfold af6
 rw [List.getElem?_toArray,lba,lbh h];rfl
theorem aF9 {i N size j:Nat} (hi:i<N) (hj:j<size):i*size+j<N*size:=by
 have:i*size+size<=N*size:=by rw [← lbV];exact lbU _ hi
 omega
theorem aR2 {N size i j:Nat} {cur:Array Value} {vals:List Value} (hN:N<=maxLen) (hi:i<N) (hj:j<size):(af6 N size cur vals).getD (i*size+j) undef=cur.getD (i*size+j) undef:=by
 have h:=aF9 hi hj
 have h2:=lbU size hN
 rw [J9,a9v (by omega),if_pos h];rfl
theorem aL1 {N size j:Nat} {cur:Array Value} {vals:List Value} (hN:N<maxLen) (hj:j<size):(af6 N size cur vals).getD (N*size+j) undef=vals.getD j undef:=by
 have h:=aF9 hN hj
 rw [J9,a9v h,if_neg (by omega),Nat.add_sub_cancel_left];rfl
theorem aB0 {size i i':Nat} {cur cur':Array Value} (hs:2<=size) (h:∀j,j<size->cur.getD (i*size+j) undef=cur'.getD (i'*size+j) undef):a81 size i cur=a81 size i' cur':=by
 rcases size with _|_|_|n
 ·omega
 ·omega
 ·exact h 0 (by omega)
 ·show Value.agg ((List.range (n+2)).map fun j=>cur.getD (i*(n+3)+j) undef).toArray=Value.agg ((List.range (n+2)).map fun j=>cur'.getD (i'*(n+3)+j) undef).toArray
  congr 2
  refine lbp fun j hj=>h j ?_
  have:=lbC.1 hj
  omega
theorem b19 {ks:List Int} {size i:Nat} {v:Value} {cur:Array Value} (hn:1<=ks.length) (hs:size=ks.length+1) (h:∀j,j<size->cur.getD (i*size+j) undef=(ks.map (Value.int .i64)++[v]).getD j undef):a81 size i cur=a3w ks:=by
 subst hs
 match ks,hn with
 |[a],_=>exact h 0 (by simp)
 |a::b::r,_=>
  show Value.agg ((List.range (r.length+2)).map fun j=>cur.getD (i*(r.length+3)+j) undef).toArray=Value.agg ((a::b::r).map (Value.int .i64)).toArray
  congr 2
  refine I6 fun j=>?_
  rw [lba,lba]
  by_cases hj:j<r.length+2
  ·rw [lbh hj,lbf (l:=a::b::r) (by simpa using hj)]
   have this:cur.getD (i*(r.length+3)+j) undef=_:=h j (by simp;omega)
   simp only [a0n,lb4]
   rw [this,lbl,lbb (by simpa using hj),lba,lbf (l:=a::b::r) (by simpa using hj)]
   rfl
  ·rw [lbd (by simpa using hj),lbd (by simpa using hj)];rfl
theorem an2 {t:TypeId} {x k v:Operand} (ho:o.op=.mapUpdate t x k v) {Kg:S->Hp->Prop} (h:a6O P H t (ev x) (ev k) (ev v) Kg):∃s H',Kg s H'∧GOp P o ev H s H':=by
 unfold a6O at h
 split at h
 rotate_left
 ·exact h.elim
 rename_i id c hx hvv
 obtain ⟨ks,h,hk⟩:=aN6 h
 obtain ⟨b,hb,hl,⟨hm,hap⟩,h⟩:=aW1 h
 obtain ⟨kt,e,z,hT,hs,h⟩:=h
 split at h
 rotate_left
 ·exact h.elim
 rename_i L hL
 split at h
 ·exact h.elim
 rename_i hf
 obtain ⟨hN,h⟩:=h
 rw [x3] at h
 refine ⟨_,_,h,fun a w ι M he hh hM hF=>?_⟩
 obtain ⟨bb,cur,h1,h2,h3,h4,h5,h6,h7⟩:=b1P hh hb hl hm (he.to hx).inv_c hL hT.n hs
 obtain ⟨e1,e2,e3⟩:=aS3 (a14 hL) hT.n hs h6 h7
 have hlen:L.length=(L0 b.size b.rows.length cur).length:=by
  rw [a14 hL];simp [L0]
 have fr:=aa4 (ks:=ks) (w:=w) (ι:=ι) (M:=M) L (L0 b.size b.rows.length cur) 0 hlen fun j x en hx hen=>by
  have:=e3 j x hx
  unfold L0 at hen
  have hj:=(lbe.1 hx).1
  rw [lba,lbh (by rw [a14 hL,lbr];exact hj)] at hen
  injection hen with hen
  rw [← hen];exact this
 rw [hf] at fr
 have fnd:=hT.k.fnd ks (L0 b.size b.rows.length cur) (L.map (·.1)) w rfl e2 e1
 rw [fr] at fnd
 have hkv:=hk (he k)
 have hrv:=(he.to hvv).inv_c
 generalize hN0:b.rows.length=N at *
 have hmax:N+1<=maxLen:=by unfold maxLen;omega
 have hMb:M bb:=hh.liv id b hb hl _ _ _ h1
 have hblt:=x9 h3
 let new:MapEntry:={ key:=a3w ks,val:=a.eval v,born:=N }
 let w':World:={ w with heap:=w.heap.setIfInBounds bb (.map (L0 b.size N cur++[new]).toArray (N+1)) }
 have hrun:(execOp a.eval o).run P w=.ok .skip w':=by
  simp [execOp,ho,Instr.mapUpdate,run_underlying hT.u,h2,MapKept.run_getObj_map h3,hkv,hT.k.ck _ ks w rfl,fnd,MapKept.run_setObj_map _ h3]
  rfl
 have hkeep:∀b',b'≠bb->w'.heap[b']? =w.heap[b']?:=fun b' hb'=>Array.getElem?_setIfInBounds_ne (Ne.symm hb')
 have hat:w'.heap[bb]? =some (.map (L0 b.size N cur++[new]).toArray (N+1)):=by
  show (w.heap.setIfInBounds bb _)[bb]? =_
  rw [Array.getElem?_setIfInBounds_self_of_lt hblt]
 have hkR:∀c u,RC w ι M c u->RC w' ι M c u:=fun c u hr=>hr.keep (fun b' _ hb'=>hkeep b' (by rintro rfl;exact hb' hMb)) (fun _ h=>.inl h) (fun _ _ h=>h)
 have sz2:2<=b.size:=by have:=hT.n;omega
 refine a7L hrun (B4.store hh hM hF hb hl hap h1 (show (p5 b _).mode=.live from hl) rfl rfl rfl (by show (w.heap.setIfInBounds bb _).size=_;simp) hkeep
  ⟨rfl,by show 0<b.size;omega,by show (b.rows++_).length<=maxLen;rw [lbq,hN0];exact hmax,⟨lbS _,fun _=>rfl⟩,?_,af6 N b.size cur (ks.map (Value.int .i64)++[a.eval v]),?_,b3D,?_⟩)
 ·intro r hr
  rcases lbA.1 (show r ∈ b.rows++_ from hr) with hr|hr
  ·exact h6 r hr
  ·rw [az5.1 hr];show _=b.size;simp [hs]
 ·rw [hat,a7M (k:=p5 b (b.rows++[ks.map a6h++[c]])) hm]
  congr 1
  show Obj.map _ _=Obj.map (L0 b.size (b.rows++[ks.map a6h++[c]]).length _).toArray (b.rows++[ks.map a6h++[c]]).length
  rw [lbq,hN0]
  show Obj.map _ _=Obj.map (L0 b.size (N+1) _).toArray (N+1)
  congr 2
  unfold L0
  rw [a5M,lbD]
  congr 1
  ·refine lbp fun i hi=>?_
   have hi:=lbC.1 hi
   rw [aB0 sz2 fun j hj=>(aR2 (vals:=ks.map (Value.int .i64)++[a.eval v]) (cur:=cur) (by omega) hi hj).symm,aR2 (by omega) hi (by omega)]
  ·show [new]=[_]
   congr 1
   have e1:=b19 (ks:=ks) (v:=a.eval v) (i:=N) (cur:=af6 N b.size cur (ks.map (Value.int .i64)++[a.eval v])) hT.n hs fun j hj=>aL1 (by omega) hj
   have e2:=aL1 (cur:=cur) (vals:=ks.map (Value.int .i64)++[a.eval v]) (N:=N) (size:=b.size) (j:=b.size - 1) (by omega) (by omega)
   show new=({ key:=a81 b.size N (af6 N b.size cur (ks.map (Value.int .i64)++[a.eval v])),val:=(af6 N b.size cur (ks.map (Value.int .i64)++[a.eval v])).getD (N*b.size+(b.size - 1)) undef,born:=N }:MapEntry)
   rw [e1,e2]
   show new=({ key:=a3w ks,val:=_,born:=N }:MapEntry)
   have:(ks.map (Value.int .i64)++[a.eval v]).getD (b.size - 1) undef=a.eval v:=by
    rw [hs,a5T,lbl,lbc (by simp)];simp
   rw [this]
 ·intro i j c0 hc
  obtain ⟨row,r1,r2⟩:=x5 (show at2 (b.rows++[ks.map a6h++[c]]) i j=some c0 from hc)
  show ∃u,(af6 N b.size cur _)[i*b.size+j]? =some u∧_
  by_cases hi:i<N
  ·rw [lbb (by omega)] at r1
   have hj:j<b.size:=by rw [← h6 row (lbm r1)];exact (lbe.1 r2).1
   obtain ⟨u,u1,u2⟩:=h7 i j c0 (p8 r1 r2)
   have h:=aF9 hi hj
   have h2:=lbU b.size (show N<=maxLen by omega)
   rw [a9v (by omega),if_pos h,J9,u1]
   exact ⟨u,rfl,hkR _ _ u2⟩
  ·rw [lbc (by omega)] at r1
   have hi0:=(lbe.1 r1).1
   obtain rfl:i=N:=by simp at hi0;omega
   simp [hN0] at r1
   subst r1
   have hj:j<b.size:=by have:=(lbe.1 r2).1;simp at this;omega
   have h:=aF9 (show i<maxLen by omega) hj
   rw [a9v h,if_neg (by omega),Nat.add_sub_cancel_left]
   refine ⟨_,rfl,?_⟩
   by_cases hj2:j<ks.length
   ·rw [lbb (by simpa using hj2),lba,lbf hj2] at r2
    injection r2 with r2
    subst r2
    rw [lbl,lbb (by simpa using hj2),lba,lbf hj2]
    exact .t (.atm rfl)
   ·obtain rfl:j=ks.length:=by omega
    rw [lbc (by simp)] at r2
    simp at r2
    subst r2
    rw [lbl,lbc (by simp)]
    simp only [lbr,Nat.sub_self]
    exact hkR _ _ hrv
end
end
section
open Go.RowKit
section
variable {P:Program} {τ:Tab} {o:Oper} {ev:Operand->S} {H:Hp}
theorem ar4 {w:World} {ι:Io} {M:Ms} {a:Act} (he:L8 w ι M ev a) {args:Array Operand} {caps:List S} {vs:List Value} (hl:vs.length=caps.length)
 (hr:∀j s,caps[j]? =some s->RS w ι M s (vs.getD j undef)):
 (args.toList.map a.eval++vs).length=(args.toList.map ev++caps).length∧∀j s,(args.toList.map ev++caps)[j]? =some s->RS w ι M s ((args.toList.map a.eval++vs).getD j undef):=by
 refine ⟨by simp [hl],fun j s hj=>?_⟩
 by_cases h:j<args.toList.length
 ·rw [lbb (by simpa using h),lba,lbf h] at hj
  injection hj with hj
  subst hj
  rw [lbl,lbb (by simpa using h),lba,lbf h]
  exact he _
 ·rw [lbc (by simpa using h)] at hj
  have:=hr _ s hj
  rw [lbl] at this ⊢
  rw [lbc (by simpa using h)]
  simpa using this
theorem a8Q {c:Call} (ho:o.op=.call c) {f:Operand} (hc:c.callee=.value f) {g:FuncId} {caps:List S}
 (hf:∀(a:Act) (w:World) (ι:Io) (M:Ms),L8 w ι M ev a->∃vs:List Value,a.eval f=.func (.func g) #[] vs.toArray∧vs.length=caps.length∧∀j s,caps[j]? =some s->RS w ι M s (vs.getD j undef))
 {Kq:S->List Blk->Prop} {Kg:S->Hp->Prop} (h:a79 P g (c.args.toList.map ev++caps) H Kq Kg):
 (∃ s B,Kq s B∧QOp P o ev H s B)∨(∃ s H',Kg s H'∧GOp P o ev H s H'):=by
 obtain ⟨callee,args,argTypes⟩:=c
 simp only at hc h
 subst hc
 have hex:aE3 P g->∀(a:Act) (w:World) (vs:List Value),a.eval f=.func (.func g) #[] vs.toArray->(execOp a.eval o).run P w=.ok (.enter g (args.toList.map a.eval++vs).toArray) w:=by
  rintro ⟨fn,hfn,hb,hnm⟩ a w vs hv
  have hn:fn.body≠none:=by intro e;rw [e] at hb;cases hb
  have e:(args.map a.eval++vs.toArray)=(args.toList.map a.eval++vs).toArray:=by apply Array.ext';simp
  simp [execOp,ho,resolve,hv,Deferred.ofValue,invoke,callFunc,hfn,hn,hnm,e]
 rcases h with ⟨r,B,hq,hk⟩|⟨r,H',hq,hk⟩
 ·refine .inl ⟨r,B,a0x hk,fun a w ι M he hh hm hfr=>?_⟩
  obtain ⟨vs,h1,h2,h3⟩:=hf a w ι M he
  obtain ⟨q1,q2⟩:=ar4 he (args:=args) h2 h3
  exact a3k (hex hq.1 a w vs h1) (hq.2 w ι M _ q1 q2 hh hm hfr)
 ·refine .inr ⟨r,H',a0x hk,fun a w ι M he hh hm hfr=>?_⟩
  obtain ⟨vs,h1,h2,h3⟩:=hf a w ι M he
  obtain ⟨q1,q2⟩:=ar4 he (args:=args) h2 h3
  exact a3k (hex hq.1 a w vs h1) (hq.2 w ι M _ q1 q2 hh hm hfr)
theorem a58 (hτ:v6 P τ) {Kq:S->List Blk->Prop} {Kg:S->Hp->Prop} (h:aop P τ ev H o.op Kq Kg):(∃ s B,Kq s B∧QOp P o ev H s B)∨(∃ s H',Kg s H'∧GOp P o ev H s H'):=by
 have one:∀{K:S->Prop},(∀ s,K s->Kq s [])->(∃ s,K s∧QOp P o ev H s [])->(∃ s B,Kq s B∧QOp P o ev H s B)∨(∃ s H',Kg s H'∧GOp P o ev H s H'):=fun hK ⟨s,h1,h2⟩=>.inl ⟨s,[],hK s h1,h2⟩
 generalize hop:o.op=op at h
 unfold aop at h
 split at h
 case h_1 x=>rw [y5] at h;exact .inl ⟨_,_,h,aQ6 x (.inl hop)⟩
 case h_2 x=>rw [y5] at h;exact .inl ⟨_,_,h,aQ6 x (.inr hop)⟩
 case h_3 c x y=>
  split at h
  ·rename_i t hc
   rw [y5,y5] at h
   have:=b4F (P:=P) (H:=H) c x y t hop hc
   cases t<;>exact .inl ⟨_,_,h,this⟩
  ·exact h.elim
 case h_4 t x=>exact one (fun _ h=>a0x h) (aR0 hτ hop h)
 case h_5 t x v=>obtain ⟨H',h1,h2⟩:=az6 hτ hop h;exact .inr ⟨_,_,h1,h2⟩
 case h_6 s x f=>exact one (fun _ h=>h) (a7Q hτ hop h)
 case h_7 t x i=>exact one (fun _ h=>h) (a7P hτ hop h)
 case h_8 t x lo hi max=>exact one (fun _ h=>h) (ay2 hτ hop h)
 case h_9 op t x y yt=>exact one (fun _ h=>h) (b0a hτ hop h)
 case h_10 op t x=>exact one (fun _ h=>h) (b3n hop h)
 case h_11 src dst x=>exact one (fun _ h=>h) (aQ4 hτ hop h)
 case h_12 t l c=>
  rw [C0,y3] at h
  exact .inl (aM2 hτ hop h)
 case h_13 t parts=>exact one (fun _ h=>h) (aH8 hτ hop h)
 case h_14 t n parts=>
  rw [C0,y3] at h
  exact .inl (a7a hτ hop h)
 case h_15 t x=>
  rw [C0,y3] at h
  exact .inl (b0v hop h)
 case h_16 t=>
  rw [C0,y3] at h
  exact .inl (aI7 hτ hop h)
 case h_17 x i=>
  split at h
  ·rename_i ss hx
   obtain ⟨s,h1,h2⟩:=H9 h
   exact .inl ⟨_,_,a0x h2,aa2 hop hx h1⟩
  ·exact h.elim
 case h_18 fn first caps=>
  split at h
  ·rename_i cs hf hcs
   have hcs:=b34 hcs
   split at h
   ·rename_i ts hts
    rw [a7J hts] at hcs
    exact .inl ⟨_,_,h,a8c hop hf hcs⟩
   ·exact .inl ⟨_,_,h,a9c hop hf hcs⟩
  ·exact h.elim
 case h_19 c=>
  split at h
  ·rename_i hc
   split at h
   ·rename_i t ts x xs ht hx
    exact one (fun _ h=>h) (b07 hτ hop hc ht hx h)
   ·exact h.elim
  ·rename_i hc
   split at h
   ·rename_i t t' s x ht hx
    cases hb:Nat.beq t t' with
    |true=>
     rw [hb,cond_true] at h
     obtain rfl:t=t':=by simpa using hb
     rw [C0,y3] at h
     exact an0 hτ hop hc ht hx h
    |false=>
     rw [hb,cond_false,C0,y3] at h
     exact .inl (aQ3 hτ hop hc ht hx h)
   ·exact h.elim
  ·rename_i hc
   split at h
   ·rename_i t x ht hx
    exact one (fun _ h=>h) (aX1 hτ hop hc ht hx h)
   ·exact h.elim
  ·rename_i hc
   split at h
   ·rename_i t t' s x ht hx
    obtain ⟨hb,h'⟩:=w8 h
    obtain rfl:t=t':=by simpa using hb
    exact .inr (aR1 hτ hop hc ht hx h')
   ·exact h.elim
  ·rename_i hc
   split at h
   ·rename_i t x ht hx
    exact .inr (ay9 hτ hop hc ht hx h)
   ·exact h.elim
  ·rename_i hc
   exact one (fun _ h=>h) (ai0 false hop hc h)
  ·rename_i hc
   exact one (fun _ h=>h) (ai0 true hop hc h)
  ·rename_i f hc
   split at h
   ·rename_i g caps hf
    refine a8Q hop hc (fun a w ι M he=>?_) h
    have hr:=(he.to hf).inv_t
    generalize a.eval f=v at *
    cases hr with
    |fn vs hl hr=>
     refine ⟨vs,rfl,by simpa using hl,fun j s hj=>?_⟩
     rw [lba] at hj
     cases hj':caps[j]? with
     |none=>rw [hj'] at hj;cases hj
     |some c=>
      rw [hj'] at hj
      injection hj with hj
      subst hj
      exact .c (.t (hr j c hj'))
   ·rename_i g caps hf
    refine a8Q hop hc (fun a w ι M he=>?_) h
    have hr:=(he.to hf).inv_c
    generalize a.eval f=v at *
    cases hr with
    |fn vs hl hr=>
     refine ⟨vs,rfl,by simpa using hl,fun j s hj=>?_⟩
     rw [lba] at hj
     cases hj':caps[j]? with
     |none=>rw [hj'] at hj;cases hj
     |some c=>
      rw [hj'] at hj
      injection hj with hj
      subst hj
      exact .c (hr j c hj')
   ·exact h.elim
  ·rename_i r name hc
   exact ao0 hτ hop hc h
  ·exact h.elim
 case h_20 x=>exact one (fun _ h=>h) (b15 hop h)
 case h_21 t x=>exact one (fun _ h=>h) (aU0 hop h)
 case h_22 x t0 t ok=>exact one (fun _ h=>h) (aT8 hop h)
 case h_23 t=>
  rw [C0,y3] at h
  obtain ⟨kt,e,z,m,hT,h⟩:=h
  exact .inl ⟨_,_,h,ab1 hop hT⟩
 case h_24 t x k ok=>exact one (fun _ h=>h) (am1 hop h)
 case h_25 t x k v=>exact .inr (an2 hop h)
 case h_26=>exact h.elim
end
end
section
open Go.RowKit
def a9P (dst:Option Tmp) (s:S) (env:Env) (k:Env->Prop):Prop:=
 match dst with
 |none=>k env
 |some d=>a3F d s env k
def aP1 (dst:Option Tmp) (s:S) (env:Env):Env:=
 match dst with
 |none=>env
 |some d=>env.set d s
theorem a0J {dst:Option Tmp} {s:S} {env:Env} {k:Env->Prop}:a9P dst s env k↔k (aP1 dst s env):=by
 cases dst with
 |none=>rfl
 |some d=>exact x3
abbrev av2:S:=.tup []
theorem RS.skip {w:World} {ι:Io} {M:Ms}:RS w ι M av2 undef:=.tup [] rfl (by simp)
def a80 (ops:List Oper) (o:Oper) (env:Env) (X Y:Prop):Prop:=
 match o.guard with
 |none=>X
 |some (j,want)=>match ops[j]? with
  |none=>False
  |some oj=>match oj.dst with
   |none=>False
   |some d=>match B2 env (.tmp d) with
    |.c (.t (.atm (.bool b)))=>match want with
     |true=>cond b X Y
     |false=>cond b Y X
    |.tup _=>Y
    |_=>False
def a3G (acc:List Nat) (o:Oper):Nat:=o.after.toList.foldl (fun s e=>cond (Region.binds .any e) (s ||| (1 <<< e.on) ||| acc.getD e.on 0) s) 0
def a1r:List Oper->List Nat->List Nat
 |[],acc=>acc
 |o::r,acc=>a1r r (acc++[a3G acc o])
def a0p (ops:List Oper):List Nat:=a1r ops []
def W8 (ops:List Oper) (o:Oper):List Nat:=
 (o.op.operands.toList.filterMap fun x=>match x with|.tmp t=>some t|_=>none)++
 (match o.guard with
  |some (j,_)=>match ops[j]? with
   |some oj=>oj.dst.toList
   |none=>[]
  |none=>[])
def R2 (ops:List Oper) (i:Nat):List Nat:=(List.range i).filter fun j=>!((a0p ops).getD i 0).testBit j
def a08 (ops:List Oper) (i j:Nat):Bool:=match ops[j]? with
 |some o=>o.guard.isNone && o.dst.isSome && (W8 ops o).all fun t=>ops.zipIdx.all fun y=>match y.1.dst with
  |some d=>!(Nat.beq d t) || Nat.blt y.2 j || Nat.blt i y.2
  |none=>true
 |none=>false
def C8 (ops:List Oper) (i:Nat):Bool:=
 ((List.range ops.length).all fun j=>cond (Nat.blt i j) (((a0p ops).getD j 0).testBit i) true) && (R2 ops i).all (a08 ops i)
def ag9 (τ:Tab) (t:TypeId) (b:Blk):Prop:=∃d,τ t=some d∧Nat.beq (d.zero.map t6).length 0=false∧b=I8 t (d.zero.map t6).length [d.zero.map t6] true
def b0n (P:Program) (τ:Tab) (env:Env) (H':Hp) (op:Op) (s0:S) (K:Prop):Prop:=match op with
 |.alloc t=>∃n b,(s0=.c (.ptr n 0 0)∧H'[n]? =some b∧ag9 τ t b)∧K
 |op=>aop P τ (B2 env) H' op (fun s B=>(B=[]∧s=s0)∧K) (fun _ _=>False)
def a0m (P:Program) (τ:Tab) (ops:List Oper) (env:Env) (H':Hp) (K:Prop):List Nat->Prop
 |[]=>K
 |j::r=>match ops[j]? with
  |some o=>match o.dst with
   |some d=>b0n P τ env H' o.op (B2 env (.tmp d)) (a0m P τ ops env H' K r)
   |none=>False
  |none=>False
def V8 (P:Program) (τ:Tab) (ops:List Oper) (drawn:Bool) (o:Oper) (ih:Nat->Env->Hp->(Env->Hp->Prop)->Prop) (i:Nat) (env:Env) (H:Hp) (K:Env->Hp->Prop):Prop:=
 a80 ops o env
  (aop P τ (B2 env) H o.op (fun s B=>a9P o.dst s env fun env'=>a98 H B fun H'=>ih (i+1) env' H' K)
    (fun s H'=>match drawn with
      |true=>C8 ops i=true∧∃L,R2 ops i=L∧a0m P τ ops env H' (a9P o.dst s env fun env'=>ih (i+1) env' H' K) L
      |false=>a9P o.dst s env fun env'=>ih (i+1) env' H' K))
  (a9P o.dst av2 env fun env'=>ih (i+1) env' H K)
def b95 (_:Nat) (env:Env) (H:Hp) (K:Env->Hp->Prop):Prop:=K env H
noncomputable def aQ0 (P:Program) (τ:Tab) (ops:List Oper) (drawn:Bool) (rest:List Oper):Nat->Env->Hp->(Env->Hp->Prop)->Prop:=
 List.rec (motive:=fun _=>Nat->Env->Hp->(Env->Hp->Prop)->Prop) b95 (fun o _ ih=>V8 P τ ops drawn o ih) rest
noncomputable def a6A (P:Program) (τ:Tab) (ops:List Oper) (drawn:Bool) (i:Nat) (rest:List Oper) (env:Env) (H:Hp) (K:Env->Hp->Prop):Prop:=aQ0 P τ ops drawn rest i env H K
abbrev a2Q (w:World) (ι:Io) (M:Ms) (env:Env) (a:Act):Prop:=∀(t:Nat) (s:S),env[t]? =some s->RS w ι M s (a.tmps.getD t undef)
def Sim (w0:World) (ι0:Io) (M0:Ms) (H0:Hp) (a:Act) (w:World) (env:Env) (H:Hp):Prop:=
 ∃(ι:Io) (M:Ms),a.defers=[]∧a.tmps.size=env.length∧a2Q w ι M env a∧j3 w ι M H∧MB w M∧a1c ι H.length∧a3x w0 ι0 M0 H0 w ι M H
theorem a2Q.ev {w:World} {ι:Io} {M:Ms} {env:Env} {a:Act} (h:a2Q w ι M env a):L8 w ι M (B2 env) a:=by
 intro x
 cases x with
 |tmp t=>
  show RS w ι M (env.getD t .junk) (a.tmps.getD t undef)
  rw [lbl]
  cases ht:env[t]? with
  |none=>exact .junk
  |some s=>exact h t s ht
 |const v=>exact RS.const v
 |global g=>exact .junk
 |func f=>exact .c (.t (.fn [] rfl (by simp)))
theorem a2Q.put {w:World} {ι:Io} {M:Ms} {env:Env} {a:Act} (h:a2Q w ι M env a) (hsz:a.tmps.size=env.length) {s:S} {v:Value} (hs:RS w ι M s v) (dst:Option Tmp):a2Q w ι M (aP1 dst s env) (a.put dst v):=by
 cases dst with
 |none=>exact h
 |some d=>
  intro t s' ht
  simp only [aP1] at ht
  by_cases htd:t=d
  ·subst htd
   have hlt:t<env.length:=by have:=(lbe.1 ht).1;simpa using this
   rw [List.getElem?_set_self hlt] at ht
   injection ht with ht
   subst ht
   show RS w ι M s ((a.tmps.setIfInBounds t v).getD t undef)
   simpa [show t<a.tmps.size by omega] using hs
  ·rw [List.getElem?_set_ne (Ne.symm htd)] at ht
   show RS w ι M s' ((a.tmps.setIfInBounds d v).getD t undef)
   have:=h t s' ht
   rw [J9] at this ⊢
   rwa [Array.getElem?_setIfInBounds_ne (Ne.symm htd)]
theorem a1s (dst:Option Tmp) (s:S) (env:Env):(aP1 dst s env).length=env.length:=by cases dst<;>simp [aP1]
theorem a3X (a:Act) (dst:Option Tmp) (v:Value):(a.put dst v).tmps.size=a.tmps.size:=by cases dst<;>simp [Act.put]
theorem a07 (a:Act) (dst:Option Tmp) (v:Value):(a.put dst v).defers=a.defers:=by cases dst<;>rfl
def a4m (ops:List Oper) (o:Oper) (env:Env) (y:Bool):Prop:=
 match o.guard with
 |none=>y=true
 |some (j,want)=>∃oj d,ops[j]? =some oj∧oj.dst=some d∧((∃ b,B2 env (.tmp d)=d9 b∧y=(b == want))∨∃ss,B2 env (.tmp d)=.tup ss∧y=false)
theorem af0 {ops:List Oper} {o:Oper} {env:Env} {X Y:Prop} (h:a80 ops o env X Y):∃y,a4m ops o env y∧cond y X Y:=by
 unfold a80 at h
 unfold a4m
 split at h
 ·exact ⟨true,rfl,h⟩
 ·rename_i j want _
  split at h
  ·exact h.elim
  ·rename_i oj hj
   split at h
   ·exact h.elim
   ·rename_i d hd
    split at h
    ·rename_i b hb
     refine ⟨b == want,⟨oj,d,hj,hd,.inl ⟨b,hb,rfl⟩⟩,?_⟩
     cases want<;>cases b<;>exact h
    ·rename_i ss hb
     exact ⟨false,⟨oj,d,hj,hd,.inr ⟨ss,hb,rfl⟩⟩,h⟩
    ·exact h.elim
theorem a3f {w:World} {ι:Io} {M:Ms} {env:Env} {a:Act} {ops:Array Oper} {o:Oper} {y:Bool} (hsz:a.tmps.size=env.length) (h:a4m ops.toList o env y)
 (he:∀j want oj d,o.guard=some (j,want)->ops[j]? =some oj->oj.dst=some d->RS w ι M (B2 env (.tmp d)) (a.tmps.getD d undef)):
 Region.wanted o (yielded ops a.tmps)=y:=by
 unfold a4m at h
 unfold Region.wanted
 cases hg:o.guard with
 |none=>rw [hg] at h;exact h.symm
 |some jw=>
  obtain ⟨j,want⟩:=jw
  rw [hg] at h
  obtain ⟨oj,d,h1,h2,h3⟩:=h
  have h1':ops[j]? =some oj:=by simpa using h1
  have hr:=he j want oj d hg h1' h2
  have hne:B2 env (.tmp d)≠.junk:=by
   rcases h3 with ⟨b,h3,-⟩|⟨ss,h3,-⟩<;>rw [h3]<;>intro h<;>cases h
  have hlt:d<a.tmps.size:=by
   rcases A6 d a.tmps.size with hlt|hge
   ·exact hlt
   ·have:B2 env (.tmp d)=.junk:=by
     show env.getD d .junk=_
     rw [lbl,lbd (by omega)];rfl
    exact absurd this hne
  have hy:yielded ops a.tmps j=match a.tmps.getD d undef with|.bool b=>some b|_=>none:=by
   unfold yielded
   rw [h1']
   simp only [Option.bind_some,h2]
   rw [J9,Array.getElem?_eq_getElem hlt]
   simp only [ac4]
   split<;>rename_i hv
   ·injection hv with hv;rw [hv]
   ·split<;>rename_i hv'
    ·exact absurd (congrArg some hv') (hv _)
    ·rfl
  simp only [hy]
  rcases h3 with ⟨b,h3,rfl⟩|⟨ss,h3,rfl⟩
  ·rw [h3] at hr
   rw [hr.inv_atm]
   cases b<;>cases want<;>rfl
  ·rw [h3] at hr
   generalize a.tmps.getD d undef=v at *
   cases hr with
   |tup vs hl hr=>rfl
section
variable {P:Program} {τ:Tab}
theorem Sim.post {w0:World} {ι0:Io} {M0:Ms} {H0:Hp} (hM0:MB w0 M0) {a:Act} {w w':World} {ι:Io} {M:Ms} {env:Env} {H H':Hp} {s:S} {v:Value} (hd:a.defers=[]) (hsz:a.tmps.size=env.length)
 (he:a2Q w ι M env a) (hH:j3 w ι M H) (hM:MB w M) (hF:a1c ι H.length) (hst:a3x w0 ι0 M0 H0 w ι M H) (hp:B4 w ι M H s H' v w') (dst:Option Tmp):
 Sim w0 ι0 M0 H0 (a.put dst v) w' (aP1 dst s env) H':=by
 obtain ⟨ι',M',h1,h2,h3,h4,h5⟩:=hp
 have hk:∀b,b<w.heap.size->¬M b->w'.heap[b]? =w.heap[b]?:=fun b hb hnm=>h5.keep b hb fun hl=>hnm (a2i.inM hH hl)
 have hi:∀id l,ι id=some l->ι' id=some l:=fun id l hl=>by
  have hlt:id<H.length:=by
   rcases A6 id H.length with h|h
   ·exact h
   ·rw [hF id h] at hl;cases hl
  rw [h5.same id hlt,hl]
 refine ⟨ι',M',by rw [a07,hd],by rw [a3X,a1s,hsz],a2Q.put (fun t s ht=>(he t s ht).keep hk h5.mnew hi) hsz h1 dst,h2,h3,h4,hst.trans hM0 h5⟩
theorem b6E (hτ:v6 P τ) {ops:Array Oper} {Q:Exit->Act->World->Prop} {K:Env->Hp->Prop} {w0:World} {ι0:Io} {M0:Ms} {H0:Hp} (hM0:MB w0 M0)
 (hK:∀env H a w,K env H->Sim w0 ι0 M0 H0 a w env H->Q .normal a w):
 ∀(rest:List Oper) (i:Nat) (env:Env) (H:Hp) (a:Act) (w:World),ops.toList.drop i=rest->a6A P τ ops.toList false i rest env H K->Sim w0 ι0 M0 H0 a w env H->
  wpOps P ops Q (List.range' i rest.length) a w:=by
 intro rest
 induction rest with
 |nil=>intro i env H a w _ h hs;exact hK env H a w h hs
 |cons o rest ih=>
  intro i env H a w hd h hs
  have hget:ops[i]? =some o:=by
   have:(ops.toList.drop i)[0]? =some o:=by rw [hd];rfl
   rw [lbj] at this
   simpa using this
  have hd':ops.toList.drop (i+1)=rest:=by
   rw [← List.drop_drop,hd];rfl
  obtain ⟨ι,M,hdf,hsz,he,hH,hM,hF,hst⟩:=hs
  obtain ⟨y,hw,h⟩:=af0 h
  have hwr:=a3f hsz hw (fun j want oj d _ _ _=>he.ev (.tmp d))
  simp only [lbu,List.range'_succ,wpOps,hget]
  rw [hwr]
  cases y with
  |false=>
   simp only [a8N,if_false]
   rw [cond_false,a0J] at h
   exact ih (i+1) _ H _ w hd' h ⟨ι,M,by rw [a07,hdf],by rw [a3X,a1s,hsz],he.put hsz .skip o.dst,hH,hM,hF,hst⟩
  |true=>
   simp only [if_true]
   refine .inl ?_
   rw [cond_true] at h
   rcases a58 hτ h with ⟨s,B,h,hq⟩|⟨s,H',h,hg⟩
   ·rw [a0J,S0] at h
    refine hq a w ι M he.ev hH hM (fun k _=>hF _ (by omega)) _ _ fun v w' hp=>?_
    exact ih (i+1) _ _ _ w' hd' h (Sim.post hM0 hdf hsz he hH hM hF hst (hp.gpost hH hM hF) o.dst)
   ·have h':a9P o.dst s env fun env'=>a6A P τ ops.toList false (i+1) rest env' H' K:=h
    rw [a0J] at h'
    refine hg a w ι M he.ev hH hM hF _ _ fun v w' hp=>?_
    exact ih (i+1) _ _ _ w' hd' h' (Sim.post hM0 hdf hsz he hH hM hF hst hp o.dst)
end
end
section
open Go.RowKit
def a4o (ops:List Oper):Bool:=ops.zipIdx.all fun x=>x.1.after.toList.all fun e=>!(Region.binds .any e) || Nat.blt e.on x.2
def a6u (ops:List Oper):Bool:=ops.zipIdx.all fun x=>ops.zipIdx.all fun y=>Nat.beq x.2 y.2 || (match x.1.dst,y.1.dst with|some a,some b=>!(Nat.beq a b)|_,_=>true)
def aU3 (ops:List Oper):Bool:=
 ops.zipIdx.all fun x=>(W8 ops x.1).all fun t=>ops.zipIdx.all fun y=>match y.1.dst with
  |some d=>!(Nat.beq d t) || Nat.beq x.2 y.2 || cond (Nat.blt y.2 x.2) (((a0p ops).getD x.2 0).testBit y.2) (((a0p ops).getD y.2 0).testBit x.2)
  |none=>true
def a5k (ops:List Oper):Bool:=a4o ops && a6u ops && aU3 ops
theorem a7h:∀(r:List Oper) (acc:List Nat),∃s,a1r r acc=acc++s∧s.length=r.length∧∀i o,r[i]? =some o->s[i]? =some (a3G ((a1r r acc).take (acc.length+i)) o)
 |[],acc=>⟨[],by simp [a1r],rfl,by simp⟩
 |o::r,acc=>by
  obtain ⟨s,h1,h2,h3⟩:=a7h r (acc++[a3G acc o])
  refine ⟨a3G acc o::s,by rw [a1r,h1];simp,by simp [h2],fun i o' hi=>?_⟩
  cases i with
  |zero=>
   simp at hi
   subst hi
   rw [a1r,h1]
   simp
  |succ i=>
   have:=h3 i o' (by simpa using hi)
   rw [a1r]
   simp only [lbq,List.length_singleton] at this
   rw [show acc.length+(i+1)=acc.length+1+i by omega]
   simpa using this
theorem ao3 {ops:List Oper} {i:Nat} {o:Oper} (h:ops[i]? =some o):(a0p ops).getD i 0=a3G ((a0p ops).take i) o:=by
 obtain ⟨s,h1,h2,h3⟩:=a7h ops []
 have:=h3 i o h
 simp only [a8T] at h1
 have e:a0p ops=s:=h1
 rw [lbl,e,this]
 simp only [a5n,y3,ac4]
 rw [← h1]
theorem a1O (acc:List Nat) (j:Nat):∀(es:List Edge) (s0:Nat),
 (es.foldl (fun s e=>cond (Region.binds .any e) (s ||| (1 <<< e.on) ||| acc.getD e.on 0) s) s0).testBit j=true->s0.testBit j=true∨∃e ∈ es,Region.binds .any e=true∧(e.on=j∨(acc.getD e.on 0).testBit j=true)
 |[],s0,h=>.inl h
 |e::es,s0,h=>by
  rw [List.foldl_cons] at h
  rcases a1O acc j es _ h with h|⟨e',h1,h2⟩
  ·cases hb:Region.binds .any e with
   |false=>rw [hb] at h;exact .inl h
   |true=>
    rw [hb] at h
    simp only [cond_true,Nat.testBit_or,lbP,Nat.testBit_shiftLeft] at h
    rcases h with (h|h)|h
    ·exact .inl h
    ·refine .inr ⟨e,by simp,hb,.inl ?_⟩
     simp only [lbO,lbJ] at h
     obtain ⟨h1,h2⟩:=h
     have:j - e.on=0:=by
      rcases a3U (j - e.on) with h|h
      ·exact h
      ·rw [Nat.testBit_one_eq_true_iff_self_eq_zero] at h2;exact h2
     omega
    ·exact .inr ⟨e,by simp,hb,.inr h⟩
  ·exact .inr ⟨e',by simp [h1],h2⟩
theorem ay7 {ops:List Oper} (hb:a4o ops=true) {i:Nat} {o:Oper} (h:ops[i]? =some o) {e:Edge} (he:e ∈ o.after.toList) (hbi:Region.binds .any e=true):e.on<i:=by
 have:=lbw.1 hb (o,i) (by rw [a7N];exact h)
 have:=lbw.1 this e he
 simp only [hbi,aI0,aH2,K5] at this
 exact this
theorem ae7 {ops:List Oper} (hb:a4o ops=true) {S:Nat->Prop} (hS:∀i o,ops[i]? =some o->S i->∀e ∈ o.after.toList,Region.binds .any e=true->S e.on):
 ∀(i:Nat) (o:Oper) (j:Nat),ops[i]? =some o->((a0p ops).getD i 0).testBit j=true->S i->S j:=by
 intro i
 induction i using Nat.strongRecOn with
 |_ i ih=>
  intro o j ho hj hi
  rw [ao3 ho] at hj
  rcases a1O _ j _ _ hj with h|⟨e,he,hbi,h⟩
  ·simp at h
  ·have hlt:=ay7 hb ho he hbi
   have hs:=hS i o ho hi e he hbi
   rcases h with rfl|h
   ·exact hs
   ·have hio:i<ops.length:=(lbe.1 ho).1
    refine ih e.on hlt ops[e.on] j (lbf (by omega)) ?_ hs
    rw [lbl,List.getElem?_take_of_lt hlt] at h
    rw [lbl]
    exact h
theorem a0R {ops:List Oper} (hb:a4o ops=true) {S:Nat->Prop} (hS:∀i o,ops[i]? =some o->S i->∀e ∈ o.after.toList,Region.binds .any e=true->S e.on)
 {i:Nat} {o:Oper} {j:Nat} (ho:ops[i]? =some o) (hr:∀e ∈ o.after.toList,Region.binds .any e=true->S e.on) (hj:((a0p ops).getD i 0).testBit j=true):S j:=by
 rw [ao3 ho] at hj
 rcases a1O _ j _ _ hj with h|⟨e,he,hbi,h⟩
 ·simp at h
 ·have hlt:=ay7 hb ho he hbi
  have hs:=hr e he hbi
  rcases h with rfl|h
  ·exact hs
  ·have hio:i<ops.length:=(lbe.1 ho).1
   refine ae7 hb hS e.on ops[e.on] j (lbf (by omega)) ?_ hs
   rw [lbl,List.getElem?_take_of_lt hlt] at h
   rw [lbl]
   exact h
end
section
open Go.RowKit
theorem a7j {ev ev':Operand->S} {x:Option Operand} {d:Int} {k:Int->Prop} (h:∀y,x=some y->ev y=ev' y):F8 ev x d k=F8 ev' x d k:=by
 cases x with
 |none=>rfl
 |some y=>simp only [F8,h y rfl]
theorem aw1 {P:Program} {τ:Tab} {ev ev':Operand->S} {H:Hp} {op:Op} {Kq:S->List Blk->Prop} {Kg:S->Hp->Prop} (h:∀x ∈ op.operands.toList,ev x=ev' x):
 aop P τ ev H op Kq Kg=aop P τ ev' H op Kq Kg:=by
 cases op with
 |move x=>simp only [aop,h x (by simp [Op.operands])]
 |assign x=>simp only [aop,h x (by simp [Op.operands])]
 |pick c a b=>simp only [aop,h c (by simp [Op.operands]),h a (by simp [Op.operands]),h b (by simp [Op.operands])]
 |load t x=>simp only [aop,a5m,h x (by simp [Op.operands])]
 |store t x v=>simp only [aop,a8e,h x (by simp [Op.operands]),h v (by simp [Op.operands])]
 |fieldAddr s x f=>simp only [aop,a1i,h x (by simp [Op.operands])]
 |indexAddr t x i=>simp only [aop,Y4,h x (by simp [Op.operands]),h i (by simp [Op.operands])]
 |slice t x lo hi mx=>
  have e1:∀d k,F8 ev lo d k=F8 ev' lo d k:=fun d k=>a7j fun y hy=>h y (by subst hy;simp [Op.operands])
  have e2:∀d k,F8 ev hi d k=F8 ev' hi d k:=fun d k=>a7j fun y hy=>h y (by subst hy;simp [Op.operands])
  cases mx with
  |none=>simp only [aop,a23,h x (by simp [Op.operands]),e1,e2]
  |some y=>simp only [aop,a23,h x (by simp [Op.operands]),h y (by simp [Op.operands]),e1,e2]
 |binOp op t x y yt=>simp only [aop,h x (by simp [Op.operands]),h y (by simp [Op.operands])]
 |unOp op t x=>simp only [aop,h x (by simp [Op.operands])]
 |convert s d x=>simp only [aop,h x (by simp [Op.operands])]
 |makeSlice t l c=>simp only [aop,ao8,h l (by simp [Op.operands]),h c (by simp [Op.operands])]
 |build t parts=>
  have e:(parts.toList.map fun p=>(p.1,ev p.2))=parts.toList.map fun p=>(p.1,ev' p.2):=lbp fun p hp=>by rw [h p.2 (by simp only [Op.operands];exact lby.2 ⟨p,hp,rfl⟩)]
  simp only [aop,a5H,e]
 |buildSlice t n parts=>
  have e:(parts.toList.map fun p=>(p.1,ev p.2))=parts.toList.map fun p=>(p.1,ev' p.2):=lbp fun p hp=>by rw [h p.2 (by simp only [Op.operands];exact lby.2 ⟨p,hp,rfl⟩)]
  simp only [aop,K4,e]
 |box t x=>simp only [aop,b5I,h x (by simp [Op.operands])]
 |alloc t=>rfl
 |extract x i=>simp only [aop,h x (by simp [Op.operands])]
 |nilCheck x=>simp only [aop,h x (by simp [Op.operands])]
 |makeInterface t x=>simp only [aop,h x (by simp [Op.operands])]
 |typeAssert x t0 t ok=>simp only [aop,h x (by simp [Op.operands])]
 |makeMap t r=>cases r<;>rfl
 |lookup t x k ok=>simp only [aop,h x (by simp [Op.operands]),h k (by simp [Op.operands])]
 |mapUpdate t x k v=>simp only [aop,h x (by simp [Op.operands]),h k (by simp [Op.operands]),h v (by simp [Op.operands])]
 |makeFunc fn first caps=>
  have e:caps.toList.map ev=caps.toList.map ev':=lbp fun x hx=>h x (by simp [Op.operands];exact .inr (by simpa using hx))
  simp only [aop,e]
 |call c=>
  obtain ⟨callee,args,ats⟩:=c
  have ea:∀x ∈ args.toList,ev x=ev' x:=fun x hx=>h x (by simp [Op.operands,Call.operands];exact .inr (by simpa using hx))
  have em:args.toList.map ev=args.toList.map ev':=lbp ea
  cases callee with
  |value f=>
   have ef:=h f (by simp [Op.operands,Call.operands])
   simp only [aop,ef,em]
  |invoke r m=>
   have er:=h r (by simp [Op.operands,Call.operands])
   simp only [aop,er,em]
  |builtin b=>
   cases b with
   |len=>
    simp only [aop]
    split
    ·rename_i t ts x xs h1 h2
     rw [ea x (by rw [h2];simp)]
    ·rfl
   |append=>
    simp only [aop]
    split
    ·rename_i t t' s x h1 h2
     simp only [a1x,b2G,ea s (by rw [h2];simp),ea x (by rw [h2];simp)]
    ·rfl
   |cap=>
    simp only [aop]
    split
    ·rename_i t x h1 h2
     rw [ea x (by rw [h2];simp)]
    ·rfl
   |copy=>
    simp only [aop]
    split
    ·rename_i t t' x s h1 h2
     simp only [ar3,ea x (by rw [h2];simp),ea s (by rw [h2];simp)]
    ·rfl
   |clear=>
    simp only [aop]
    split
    ·rename_i t x h1 h2
     simp only [aI6,ea x (by rw [h2];simp)]
    ·rfl
   |min=>simp only [aop,em]
   |max=>simp only [aop,em]
   |_=>rfl
 |_=>rfl
def evR (o:Oper) (env:Env):Operand->S:=fun x=>
 match x with
 |.tmp t=>cond ((o.op.operands.toList.filterMap fun x=>match x with|.tmp t=>some t|_=>none).contains t) (B2 env (.tmp t)) .junk
 |x=>B2 env x
theorem b4K {o:Oper} {env:Env} {x:Operand} (h:x ∈ o.op.operands.toList):B2 env x=evR o env x:=by
 cases x with
 |tmp t=>
  have:(o.op.operands.toList.filterMap fun x=>match x with|.tmp t=>some t|_=>none).contains t=true:=by
   rw [aD5,List.mem_filterMap]
   exact ⟨.tmp t,h,rfl⟩
  simp only [evR,this,cond_true]
 |_=>rfl
theorem aw6 {P:Program} {τ:Tab} {ev:Operand->S} {H:Hp} {t:TypeId} {Kq:S->List Blk->Prop} {Kg:S->Hp->Prop} (h:aop P τ ev H (.alloc t) Kq Kg):∃b,Kq (.c (.ptr H.length 0 0)) [b]∧ag9 τ t b:=by
 simp only [aop] at h
 rw [C0,y3] at h
 unfold a5A at h
 split at h
 ·rename_i d hd
  rw [D2] at h
  obtain ⟨hz,h⟩:=Q0 h
  exact ⟨_,h,d,hd,hz,rfl⟩
 ·exact h.elim
theorem at9 {P:Program} {τ:Tab} (hτ:v6 P τ) {o:Oper} {t:TypeId} (ho:o.op=.alloc t) {n:Nat} {b:Blk} (hb:ag9 τ t b) (ev:Operand->S) (H0:Hp) (hn:H0.length=n):QOp P o ev H0 (.c (.ptr n 0 0)) [b]:=by
 subst hn
 obtain ⟨d,hd,hz,rfl⟩:=hb
 have h:aop P τ ev H0 o.op (fun s B=>s=.c (.ptr H0.length 0 0)∧B=[I8 t (d.zero.map t6).length [d.zero.map t6] true]) (fun _ _=>False):=by
  rw [ho]
  simp only [aop]
  rw [C0,y3]
  unfold a5A
  rw [hd]
  simp only
  rw [D2,hz]
  exact ⟨trivial,rfl⟩
 rcases a58 hτ h with ⟨s,B,⟨rfl,rfl⟩,hq⟩|⟨s,H2,h,_⟩
 ·exact hq
 ·exact h.elim
def b6T (P:Program) (ops:List Oper) (env:Env) (H':Hp) (j:Nat):Prop:=∃oj d,ops[j]? =some oj∧oj.dst=some d∧(QOp P oj (evR oj env) H' (B2 env (.tmp d)) []∨
 ∃t n b,oj.op=.alloc t∧B2 env (.tmp d)=.c (.ptr n 0 0)∧H'[n]? =some b∧∀ev H0,H0.length=n->QOp P oj ev H0 (.c (.ptr n 0 0)) [b])
inductive Kd where
 |skip
 |quiet (B:List Blk)
 |gen
def aK3 (P:Program) (ops:List Oper) (envs:Nat->Env) (hs:Nat->Hp) (rs:Nat->S) (kd:Nat->Kd) (i:Nat):Prop:=
 ∃o,ops[i]? =some o∧envs (i+1)=aP1 o.dst (rs i) (envs i)∧match kd i with
  |.skip=>a4m ops o (envs i) false∧rs i=av2∧hs (i+1)=hs i
  |.quiet B=>a4m ops o (envs i) true∧QOp P o (evR o (envs i)) (hs i) (rs i) B∧hs (i+1)=hs i++B
  |.gen=>a4m ops o (envs i) true∧GOp P o (evR o (envs i)) (hs i) (rs i) (hs (i+1))∧C8 ops i=true∧∀j ∈ R2 ops i,b6T P ops (envs i) (hs (i+1)) j
theorem a7Z {P:Program} {τ:Tab} (hτ:v6 P τ) {ops:List Oper} {env:Env} {H':Hp} {K:Prop}:∀{L:List Nat},a0m P τ ops env H' K L->K∧∀j ∈ L,b6T P ops env H' j
 |[],h=>⟨h,by simp⟩
 |j::r,h=>by
  unfold a0m at h
  split at h
  ·rename_i o ho
   split at h
   ·rename_i d hd
    unfold b0n at h
    split at h
    ·rename_i t hop
     obtain ⟨n,b,⟨h1,h2,h3⟩,h⟩:=h
     obtain ⟨h4,h5⟩:=a7Z hτ h
     refine ⟨h4,fun i hi=>?_⟩
     rcases lbB.1 hi with rfl|hi
     ·exact ⟨o,d,ho,hd,.inr ⟨t,n,b,hop,h1,h2,fun ev H0 hn=>at9 hτ hop h3 ev H0 hn⟩⟩
     ·exact h5 i hi
    ·have hcong:=aw1 (P:=P) (τ:=τ) (H:=H') (op:=o.op) (ev:=B2 env) (ev':=evR o env) (fun x hx=>b4K hx)
      (Kq:=fun s B=>(B=[]∧s=B2 env (.tmp d))∧a0m P τ ops env H' K r) (Kg:=fun _ _=>False)
     rw [hcong] at h
     rcases a58 hτ h with ⟨s,B,⟨⟨rfl,rfl⟩,h⟩,hq⟩|⟨s,H2,h,hg⟩
     ·obtain ⟨h1,h2⟩:=a7Z hτ h
      refine ⟨h1,fun i hi=>?_⟩
      rcases lbB.1 hi with rfl|hi
      ·exact ⟨o,d,ho,hd,.inl hq⟩
      ·exact h2 i hi
     ·exact h.elim
   ·exact h.elim
  ·exact h.elim
def b4H (ops:List Oper) (hs:Nat->Hp) (rs:Nat->S) (kd:Nat->Kd) (i:Nat):Prop:=∀o t,ops[i]? =some o->o.op=.alloc t->o.guard=none->∃b,kd i=.quiet [b]∧rs i=.c (.ptr (hs i).length 0 0)
theorem aa1 {P:Program} {τ:Tab} (hτ:v6 P τ) {ops:List Oper} {K:Env->Hp->Prop}:∀(rest:List Oper) (i:Nat) (env:Env) (H:Hp),ops.drop i=rest->a6A P τ ops true i rest env H K->
 ∃(envs:Nat->Env) (hs:Nat->Hp) (rs:Nat->S) (kd:Nat->Kd),envs i=env∧hs i=H∧K (envs ops.length) (hs ops.length)∧∀j,i<=j->j<ops.length->aK3 P ops envs hs rs kd j∧b4H ops hs rs kd j
 |[],i,env,H,hd,h=>⟨fun _=>env,fun _=>H,fun _=>.junk,fun _=>.skip,rfl,rfl,h,fun j h1 h2=>by
    have:=congrArg List.length hd
    simp at this
    omega⟩
 |o::rest,i,env,H,hd,h=>by
  have hget:ops[i]? =some o:=by
   have:(ops.drop i)[0]? =some o:=by rw [hd];rfl
   rw [lbj] at this
   simpa using this
  have hil:i<ops.length:=(lbe.1 hget).1
  have hd':ops.drop (i+1)=rest:=by rw [← List.drop_drop,hd];rfl
  have build:∀(r:S) (k:Kd) (env':Env) (H':Hp),a6A P τ ops true (i+1) rest env' H' K->env'=aP1 o.dst r env->
   (match k with
     |.skip=>a4m ops o env false∧r=av2∧H'=H
     |.quiet B=>a4m ops o env true∧QOp P o (evR o env) H r B∧H'=H++B
     |.gen=>a4m ops o env true∧GOp P o (evR o env) H r H'∧C8 ops i=true∧∀j ∈ R2 ops i,b6T P ops env H' j)->
   (∀ t,o.op=.alloc t->o.guard=none->∃b,k=.quiet [b]∧r=.c (.ptr H.length 0 0))->
   ∃(envs:Nat->Env) (hs:Nat->Hp) (rs:Nat->S) (kd:Nat->Kd),envs i=env∧hs i=H∧K (envs ops.length) (hs ops.length)∧∀j,i<=j->j<ops.length->aK3 P ops envs hs rs kd j∧b4H ops hs rs kd j:=by
   intro r k env' H' hrest henv hk hal
   obtain ⟨envs,hs,rs,kd,h1,h2,h3,h4⟩:=aa1 hτ rest (i+1) env' H' hd' hrest
   refine ⟨fun j=>if j=i then env else envs j,fun j=>if j=i then H else hs j,fun j=>if j=i then r else rs j,fun j=>if j=i then k else kd j,by simp,by simp,?_,fun j hj hjl=>?_⟩
   ·simp only [show ¬ops.length=i by omega,if_false];exact h3
   ·by_cases hji:j=i
    ·subst hji
     refine ⟨⟨o,hget,?_,?_⟩,?_⟩
     ·simp only [show ¬j+1=j by omega,if_false,if_true,h1,henv]
     ·simp only [if_true,show ¬j+1=j by omega,if_false,h2]
      exact hk
     ·intro o1 t ho1 ht hg
      rw [hget] at ho1
      injection ho1 with ho1
      subst ho1
      simp only [if_true]
      exact hal t ht hg
    ·obtain ⟨⟨o',q1,q2,q3⟩,q4⟩:=h4 j (by omega) hjl
     refine ⟨⟨o',q1,?_,?_⟩,by unfold b4H at q4 ⊢;simp only [hji,if_false];exact q4⟩
     ·simp only [hji,show ¬j+1=i by omega,if_false];exact q2
     ·simp only [hji,show ¬j+1=i by omega,if_false];exact q3
  obtain ⟨y,hw,h⟩:=af0 h
  cases y with
  |false=>
   rw [cond_false,a0J] at h
   refine build av2 .skip _ H h rfl ⟨hw,rfl,rfl⟩ fun t ht hg=>?_
   unfold a4m at hw
   rw [hg] at hw
   cases hw
  |true=>
   rw [cond_true] at h
   by_cases hal:∃t,o.op=.alloc t
   ·obtain ⟨t,ht⟩:=hal
    rw [ht] at h
    obtain ⟨b,h,hb⟩:=aw6 h
    rw [a0J,S0] at h
    exact build _ (.quiet [b]) _ _ h rfl ⟨hw,at9 hτ ht hb _ _ rfl,rfl⟩ fun _ _ _=>⟨b,rfl,rfl⟩
   have hno:∀r k,∀t,o.op=.alloc t->o.guard=none->∃b,k=Kd.quiet [b]∧r=S.c (.ptr H.length 0 0):=fun r k t ht=>absurd ⟨t,ht⟩ hal
   have hcong:=aw1 (P:=P) (τ:=τ) (H:=H) (op:=o.op) (ev:=B2 env) (ev':=evR o env) (fun x hx=>b4K hx)
    (Kq:=fun s B=>a9P o.dst s env fun env'=>a98 H B fun H'=>a6A P τ ops true (i+1) rest env' H' K)
    (Kg:=fun s H'=>C8 ops i=true∧∃L,R2 ops i=L∧a0m P τ ops env H' (a9P o.dst s env fun env'=>a6A P τ ops true (i+1) rest env' H' K) L)
   have h0:aop P τ (B2 env) H o.op (fun s B=>a9P o.dst s env fun env'=>a98 H B fun H'=>a6A P τ ops true (i+1) rest env' H' K)
    (fun s H'=>C8 ops i=true∧∃L,R2 ops i=L∧a0m P τ ops env H' (a9P o.dst s env fun env'=>a6A P τ ops true (i+1) rest env' H' K) L):=h
   rw [hcong] at h0
   rcases a58 hτ h0 with ⟨s,B,h,hq⟩|⟨s,H',⟨hb,L,hL,h⟩,hg⟩
   ·rw [a0J,S0] at h
    exact build s (.quiet B) _ _ h rfl ⟨hw,hq,rfl⟩ (hno _ _)
   ·obtain ⟨h,hl⟩:=a7Z hτ h
    rw [a0J] at h
    exact build s .gen _ H' h rfl ⟨hw,hg,hb,by rw [hL];exact hl⟩ (hno _ _)
end
section
open Go.RowKit
theorem j3.pre1 {w:World} {ι:Io} {M:Ms} {H X:Hp} (h:j3 w ι M (H++X)):j3 w ι M H:=by
 have e:∀(id:Nat) (k:Blk),H[id]? =some k->(H++X)[id]? =some k:=fun id k hk=>by
  rw [lbb (lbe.1 hk).1];exact hk
 exact ⟨fun id k hk=>h.blk id k (e id k hk),fun id k hk=>h.liv id k (e id k hk),fun id k hk=>h.fro id k (e id k hk),fun id id' k k' hk hk'=>h.inj id id' k k' (e id k hk) (e id' k' hk'),fun id id' k k' hk hk'=>h.old id id' k k' (e id k hk) (e id' k' hk')⟩
theorem j3.extend {w:World} {ι:Io} {M:Ms} {H X:Hp} (h:j3 w ι M H) (hF:a1c ι H.length):j3 w ι M (H++X):=by
 have e:∀(id:Nat) (k:Blk),(H++X)[id]? =some k->∀l,ι id=some l->H[id]? =some k:=fun id k hk l hl=>by
  by_cases hid:id<H.length
  ·rw [lbb hid] at hk;exact hk
  ·rw [hF id (by omega)] at hl;cases hl
 exact ⟨fun id k hk hd l hl=>h.blk id k (e id k hk l hl) hd l hl,fun id k hk hm b c s hl=>h.liv id k (e id k hk _ hl) hm b c s hl,fun id k hk hm b c s hl=>h.fro id k (e id k hk _ hl) hm b c s hl,
  fun id id' k k' hk hk' hm hm' b c s c' s' hl hl'=>h.inj id id' k k' (e id k hk _ hl) (e id' k' hk' _ hl') hm hm' b c s c' s' hl hl',
  fun id id' k k' hk hk' hm hm' b c s c' s' hl hl'=>h.old id id' k k' (e id k hk _ hl) (e id' k' hk' _ hl') hm hm' b c s c' s' hl hl'⟩
theorem C5.insert {w:World} {ι:Io} {M:Ms} {H:Hp} {n:Nat} {s:S} {B:List Blk} {v:Value} {w':World} (hH:j3 w ι M H) (hM:MB w M) (hB:∀k,k<B.length->H[n+k]? =B[k]?)
 (hf:∀k,k<B.length->ι (n+k)=none) (h:C5 w ι M n s B v w'):
 ∃new:Nat->Loc,RS w' (s8 ι n B.length new) (a3r M B.length new) s v∧Ext w w'∧j3 w' (s8 ι n B.length new) (a3r M B.length new) H∧MB w' (a3r M B.length new)∧
  (∀ b,a3r M B.length new b->M b∨w.heap.size<=b)∧(∀ b,a2i (s8 ι n B.length new) H b->a2i ι H b∨w.heap.size<=b):=by
 obtain ⟨new,h1,h2,h3,h4,h5⟩:=h
 have hM':∀b,a3r M B.length new b->M b∨w.heap.size<=b:=by
  rintro b (hb|⟨k,hk,cap,size,he⟩)
  ·exact .inl hb
  ·exact .inr (h4 k b cap size hk he).1
 have hcase:∀id l,s8 ι n B.length new id=some l->(ι id=some l∧¬(n<=id∧id<n+B.length))∨∃k,k<B.length∧id=n+k∧l=new k:=by
  intro id l hl
  unfold s8 at hl
  split at hl
  ·injection hl with hl
   exact .inr ⟨id - n,by omega,by omega,hl.symm⟩
  ·rename_i hc;exact .inl ⟨hl,hc⟩
 have hext:∀id l,ι id=some l->s8 ι n B.length new id=some l:=fun id l hl=>a2z hf hl
 have hlt:∀id b cap size,ι id=some (.blk b cap size)->∀k,H[id]? =some k->k.mode≠.dead->b<w.heap.size:=fun id b cap size hi k hk hd=>by
  obtain ⟨_,_,_,_,_,cur,hc,_⟩:=hH.blk id k hk hd _ hi
  exact x9 hc
 refine ⟨new,h1,h2,⟨?_,?_,?_,?_,?_⟩,?_,hM',?_⟩
 ·intro id k hk hd l hl
  rcases hcase id l hl with ⟨hl,_⟩|⟨j,hj,rfl,rfl⟩
  ·have hb:=hH.blk id k hk hd l hl
   cases l with
   |nil=>exact hb
   |blk b cap size=>
    obtain ⟨q1,q2,q3,q4,q5,cur,q6,q7,q8⟩:=hb
    refine ⟨q1,q2,q3,q4,q5,cur,(h2.keep b (x9 q6)).trans q6,q7,fun i j c hc=>?_⟩
    obtain ⟨u,hu,hr⟩:=q8 i j c hc
    exact ⟨u,hu,hr.keep (fun b hb _=>h2.keep b hb) hM' hext⟩
  ·rw [hB j hj] at hk
   exact (h3 j k hk).2
 ·intro id k hk hm b cap size hl
  rcases hcase id _ hl with ⟨hl,_⟩|⟨j,hj,rfl,he⟩
  ·exact .inl (hH.liv id k hk hm b cap size hl)
  ·exact .inr ⟨j,hj,cap,size,he.symm⟩
 ·intro id k hk hm b cap size hl
  rcases hcase id _ hl with ⟨hl,_⟩|⟨j,hj,rfl,he⟩
  ·have hb:=hlt id b cap size hl k hk (by rw [hm];intro h;cases h)
   rintro (h|⟨k',hk',cap',size',he⟩)
   ·exact hH.fro id k hk hm b cap size hl h
   ·have:=(h4 _ _ _ _ hk' he).1;omega
  ·rw [hB j hj] at hk
   have:=(h3 j k hk).1
   rw [hm] at this;cases this
 ·intro id id' k k' hk hk' hm hm' b cap size cap' size' hl hl'
  rcases hcase id _ hl with ⟨hl,_⟩|⟨j,hj,rfl,he⟩<;>rcases hcase id' _ hl' with ⟨hl',_⟩|⟨j',hj',rfl,he'⟩
  ·exact hH.inj id id' k k' hk hk' hm hm' b cap size cap' size' hl hl'
  ·have:=hlt id b cap size hl k hk (by rw [hm];intro h;cases h)
   have:=(h4 _ _ _ _ hj' he'.symm).1
   omega
  ·have:=hlt id' b cap' size' hl' k' hk' (by rw [hm'];intro h;cases h)
   have:=(h4 _ _ _ _ hj he.symm).1
   omega
  ·have:=h5 _ _ _ _ _ _ _ hj hj' he.symm he'.symm
   omega
 ·intro id id' k k' hk hk' hm hm' b cap size cap' size' hl hl'
  rcases hcase id _ hl with ⟨hl,_⟩|⟨j,hj,rfl,he⟩
  ·rcases hcase id' _ hl' with ⟨hl',_⟩|⟨j',hj',rfl,he'⟩
   ·exact hH.old id id' k k' hk hk' hm hm' b cap size cap' size' hl hl'
   ·have:=hlt id b cap size hl k hk (by rw [hm];intro h;cases h)
    have:=(h4 _ _ _ _ hj' he'.symm).1
    omega
  ·rw [hB j hj] at hk
   have:=(h3 j k hk).1
   rw [hm] at this;cases this
 ·rintro b (hb|⟨k,hk,cap,size,he⟩)
  ·exact lb9 (hM b hb) h2.size
  ·exact (h4 k b cap size hk he).2
 ·rintro b ⟨id,k,cap,size,hk,hm,hl⟩
  rcases hcase id _ hl with ⟨hl,_⟩|⟨j,hj,rfl,he⟩
  ·exact .inl ⟨id,k,cap,size,hk,hm,hl⟩
  ·exact .inr (h4 _ _ _ _ hj he.symm).1
section
variable {P:Program} {ops:Array Oper} {envs:Nat->Env} {hs:Nat->Hp} {rs:Nat->S} {kd:Nat->Kd}
def x6 (ops:Array Oper) (i:Nat):Option Nat:=(ops[i]?).bind (·.dst)
theorem a2t (hd:a6u ops.toList=true) {i j t:Nat} (hi:x6 ops i=some t) (hj:x6 ops j=some t):i=j:=by
 unfold x6 at hi hj
 cases hoi:ops[i]? with
 |none=>rw [hoi] at hi;cases hi
 |some oi=>
  cases hoj:ops[j]? with
  |none=>rw [hoj] at hj;cases hj
  |some oj=>
   rw [hoi] at hi
   rw [hoj] at hj
   have hi:oi.dst=some t:=hi
   have hj:oj.dst=some t:=hj
   have:=lbw.1 hd (oi,i) (by rw [a7N];simpa using hoi)
   have:=lbw.1 this (oj,j) (by rw [a7N];simpa using hoj)
   simp only [hi,hj,a6j,aI0,a9I] at this
   exact n7 this
theorem a76 (hd:aU3 ops.toList=true) {i j t:Nat} {oi:Oper} (hi:ops[i]? =some oi) (hr:t ∈ W8 ops.toList oi) (hj:x6 ops j=some t) (hne:i≠j):
 (j<i->((a0p ops.toList).getD i 0).testBit j=true)∧(i<j->((a0p ops.toList).getD j 0).testBit i=true):=by
 unfold x6 at hj
 cases hoj:ops[j]? with
 |none=>rw [hoj] at hj;cases hj
 |some oj=>
  rw [hoj] at hj
  have hj:oj.dst=some t:=hj
  have:=lbw.1 hd (oi,i) (by rw [a7N];simpa using hi)
  have:=lbw.1 this t hr
  have:=lbw.1 this (oj,j) (by rw [a7N];simpa using hoj)
  simp only [hj,a6j,aI0,aH2,lbP] at this
  have this:=this.resolve_left (fun h=>hne (n7 h))
  refine ⟨fun hlt=>?_,fun hlt=>?_⟩
  ·rw [show Nat.blt j i=true by rw [K5];exact hlt] at this
   simpa using this
  ·rw [show Nat.blt j i=false by rw [← lbR,K5];omega] at this
   simpa using this
theorem am9 {i j:Nat} (hb:C8 ops.toList i=true) (hj:j<ops.size) (hlt:i<j):((a0p ops.toList).getD j 0).testBit i=true:=by
 unfold C8 at hb
 rw [lbO] at hb
 have:=lbw.1 hb.1 j (by simpa using hj)
 rw [show Nat.blt i j=true by rw [K5];exact hlt] at this
 simpa using this
theorem aj5 {i j:Nat} (hlt:j<i) (hno:j ∉ R2 ops.toList i):((a0p ops.toList).getD i 0).testBit j=true:=by
 unfold R2 at hno
 rw [lbz] at hno
 cases h:((a0p ops.toList).getD i 0).testBit j with
 |true=>rfl
 |false=>exact absurd ⟨lbC.2 hlt,by rw [h];rfl⟩ hno
theorem aG9 {i j:Nat} (hb:C8 ops.toList i=true) (hj:j ∈ R2 ops.toList i):a08 ops.toList i j=true:=by
 unfold C8 at hb
 rw [lbO] at hb
 exact lbw.1 hb.2 j hj
theorem a4c {i j y t d:Nat} {oj:Oper} (hf:a08 ops.toList i j=true) (hoj:ops[j]? =some oj) (ht:t ∈ W8 ops.toList oj) (hy:x6 ops y=some t):y<j∨i<y:=by
 unfold a08 at hf
 have hoj':ops.toList[j]? =some oj:=by simpa using hoj
 rw [hoj'] at hf
 simp only [lbO] at hf
 have:=lbw.1 hf.2 t ht
 unfold x6 at hy
 cases hoy:ops[y]? with
 |none=>rw [hoy] at hy;cases hy
 |some oy=>
  rw [hoy] at hy
  have hy:oy.dst=some t:=hy
  have:=lbw.1 this (oy,y) (by rw [a7N];simpa using hoy)
  simp only [hy,a6j,aI0,aH2,lbP,K5] at this
  exact this
theorem aa8 {i j:Nat} {oj:Oper} (hf:a08 ops.toList i j=true) (hoj:ops[j]? =some oj):oj.guard=none:=by
 unfold a08 at hf
 have hoj':ops.toList[j]? =some oj:=by simpa using hoj
 rw [hoj'] at hf
 simp only [lbO] at hf
 simpa using hf.1.1
variable (hT:∀j,j<ops.size->aK3 P ops.toList envs hs rs kd j)
include hT
theorem a5y {p j:Nat} (hpj:p<=j) (hj:j<=ops.size):(envs j).length=(envs p).length:=by
 induction j with
 |zero=>obtain rfl:p=0:=by omega
        rfl
 |succ j ih=>
  by_cases h:p=j+1
  ·subst h;rfl
  ·obtain ⟨o,_,h1,_⟩:=hT j (by omega)
   rw [h1,a1s,ih (by omega) (by omega)]
theorem a44 {p j t:Nat} (hpj:p<=j) (hj:j<=ops.size) (hno:∀i,p<=i->i<j->x6 ops i≠some t):(envs j)[t]? =(envs p)[t]?:=by
 induction j with
 |zero=>obtain rfl:p=0:=by omega
        rfl
 |succ j ih=>
  by_cases h:p=j+1
  ·subst h;rfl
  ·obtain ⟨o,ho,h1,_⟩:=hT j (by omega)
   have hn:=hno j (by omega) (by omega)
   have ho':ops[j]? =some o:=by simpa using ho
   unfold x6 at hn
   rw [ho'] at hn
   rw [h1,←ih (by omega) (by omega) (fun i h1 h2=>hno i h1 (by omega))]
   cases hd:o.dst with
   |none=>rfl
   |some d=>
    have:d≠t:=fun e=>hn (by show o.dst=some t;rw [hd,e])
    show ((envs j).set d (rs j))[t]? =_
    rw [List.getElem?_set_ne this]
theorem aA1 (hdo:a6u ops.toList=true) {p i j t:Nat} (hpi:p<=i) (hij:i<j) (hj:j<=ops.size) (hd:x6 ops i=some t) (ht:t<(envs p).length):(envs j)[t]? =some (rs i):=by
 have h0:(envs j)[t]? =(envs (i+1))[t]?:=a44 hT (by omega) hj fun i' h1 h2 he=>by
  have:=a2t hdo hd he
  omega
 obtain ⟨o,ho,h1,_⟩:=hT i (by omega)
 have ho':ops[i]? =some o:=by simpa using ho
 unfold x6 at hd
 rw [ho'] at hd
 have hd:o.dst=some t:=hd
 rw [h0,h1,hd]
 show ((envs i).set t (rs i))[t]? =_
 rw [List.getElem?_set_self (by rw [a5y hT hpi (by omega)];exact ht)]
theorem M3 {i j:Nat} (hij:i<=j) (hj:j<=ops.size) (hno:∀k,i<=k->k<j->kd k≠.gen):∃X,hs j=hs i++X:=by
 induction j with
 |zero=>obtain rfl:i=0:=by omega
        exact ⟨[],by simp⟩
 |succ j ih=>
  by_cases h:i=j+1
  ·subst h;exact ⟨[],by simp⟩
  ·obtain ⟨X,hX⟩:=ih (by omega) (by omega) (fun k h1 h2=>hno k h1 (by omega))
   obtain ⟨o,_,_,h2⟩:=hT j (by omega)
   have hg:=hno j (by omega) (by omega)
   cases hk:kd j with
   |skip=>rw [hk] at h2;exact ⟨X,by rw [h2.2.2,hX]⟩
   |quiet B=>rw [hk] at h2;exact ⟨X++B,by rw [h2.2.2,hX,lbE]⟩
   |gen=>exact absurd hk hg
end
def bl3 (P:Program) (ops:Array Oper) (envs:Nat->Env) (hs:Nat->Hp) (kd:Nat->Kd) (j p:Nat):Prop:=
 (∃ q,p=q+1∧a08 ops.toList q j=true)∧∃oj d,ops[j]? =some oj∧oj.dst=some d∧(QOp P oj (evR oj (envs p)) (hs p) (B2 (envs p) (.tmp d)) []∨
   ∃b b',kd j=.quiet [b']∧B2 (envs p) (.tmp d)=.c (.ptr (hs j).length 0 0)∧(hs p)[(hs j).length]? =some b∧∀ev H0,H0.length=(hs j).length->QOp P oj ev H0 (.c (.ptr (hs j).length 0 0)) [b])
structure a5O (P:Program) (ops:Array Oper) (envs:Nat->Env) (hs:Nat->Hp) (rs:Nat->S) (kd:Nat->Kd) (w0:World) (ι0:Io) (M0:Ms) (H0:Hp) (listed:Array Bool) (a:Act) (w:World) (p q:Nat):Prop where
 hpq:p<=q
 hqn:q<=ops.size
 seg:∀j,p<=j->j<q->kd j≠.gen
 fin:q=ops.size∨kd q=.gen
 h0:H0.length<=(hs 0).length
 mono:∀i j,i<=j->j<=q->(hs i).length<=(hs j).length
 lsz:listed.size=ops.size
 low:∀j,j<p->listed.getD j false=true∨bl3 P ops envs hs kd j p
 high:∀j,q<=j->listed.getD j false=false
 closed:∀i o,ops[i]? =some o->listed.getD i false=true->∀e ∈ o.after.toList,Region.binds .any e=true->listed.getD e.on false=true
 rel:∃(ι:Io) (M:Ms),a.defers=[]∧a.tmps.size=(envs p).length∧
  (∀ i t,p<=i->listed.getD i false=true->x6 ops i=some t->t<(envs p).length->RS w ι M (rs i) (a.tmps.getD t undef))∧
  (∀ t s,(∀ i,p<=i->listed.getD i false=true->x6 ops i≠some t)->(∀ i,i<p->listed.getD i false=false->x6 ops i≠some t)->(envs p)[t]? =some s->RS w ι M s (a.tmps.getD t undef))∧
  j3 w ι M (hs q)∧MB w M∧(∀ i B,i<q->listed.getD i false=false->kd i=.quiet B->∀k,k<B.length->ι ((hs i).length+k)=none)∧
  a1c ι (hs q).length∧a3x w0 ι0 M0 H0 w ι M (hs q)
end
section
open Go.RowKit
section
variable {P:Program} {ops:Array Oper} {envs:Nat->Env} {hs:Nat->Hp} {rs:Nat->S} {kd:Nat->Kd}
variable {w0:World} {ι0:Io} {M0:Ms} {H0:Hp} {listed:Array Bool} {a:Act} {w:World} {p q:Nat}
theorem a5O.full (hT:∀j,j<ops.size->aK3 P ops.toList envs hs rs kd j) (hdo:a6u ops.toList=true) (hI:a5O P ops envs hs rs kd w0 ι0 M0 H0 listed a w p q) (hall:∀j,j<q->listed.getD j false=true):
 Sim w0 ι0 M0 H0 a w (envs q) (hs q):=by
 obtain ⟨ι,M,hd,hsz,h1,h2,hH,hM,hf,hF,hst⟩:=hI.rel
 refine ⟨ι,M,hd,by rw [hsz,a5y hT hI.hpq hI.hqn],fun t s ht=>?_,hH,hM,hF,hst⟩
 have htl:t<(envs p).length:=by rw [← a5y hT hI.hpq hI.hqn];exact (lbe.1 ht).1
 by_cases hex:∃i,p<=i∧i<q∧x6 ops i=some t
 ·obtain ⟨i,h3,h4,h5⟩:=hex
  rw [aA1 hT hdo h3 h4 hI.hqn h5 htl] at ht
  injection ht with ht
  subst ht
  exact h1 i t h3 (hall i h4) h5 htl
 ·have hno:∀i,p<=i->i<q->x6 ops i≠some t:=fun i h3 h4 h5=>hex ⟨i,h3,h4,h5⟩
  rw [a44 hT hI.hpq hI.hqn hno] at ht
  refine h2 t s (fun i h3 h4=>hno i h3 ?_) (fun i h3 h4=>?_) ht
  ·rcases A6 i q with h|h
   ·exact h
   ·rw [hI.high i h] at h4;cases h4
  ·have:=hI.hpq
   rw [hall i (by omega)] at h4;cases h4
theorem a5O.reads (hT:∀j,j<ops.size->aK3 P ops.toList envs hs rs kd j) (hb:a4o ops.toList=true) (hdo:a6u ops.toList=true) (hdep:aU3 ops.toList=true)
 (hI:a5O P ops envs hs rs kd w0 ι0 M0 H0 listed a w p q) {ι:Io} {M:Ms}
 (h1:∀i t,p<=i->listed.getD i false=true->x6 ops i=some t->t<(envs p).length->RS w ι M (rs i) (a.tmps.getD t undef))
 (h2:∀t s,(∀ i,p<=i->listed.getD i false=true->x6 ops i≠some t)->(∀ i,i<p->listed.getD i false=false->x6 ops i≠some t)->(envs p)[t]? =some s->RS w ι M s (a.tmps.getD t undef))
 {i:Nat} {o:Oper} (ho:ops[i]? =some o) (hpi:p<=i) (hiN:i<=ops.size) (hun:listed.getD i false=false) (hready:∀e ∈ o.after.toList,Region.binds .any e=true->listed.getD e.on false=true)
 {t:Nat} (ht:t ∈ W8 ops.toList o):RS w ι M (B2 (envs i) (.tmp t)) (a.tmps.getD t undef):=by
 show RS w ι M ((envs i).getD t .junk) _
 rw [lbl]
 have ho':ops.toList[i]? =some o:=by simpa using ho
 have hS:∀i o,ops.toList[i]? =some o->(listed.getD i false=true)->∀e ∈ o.after.toList,Region.binds .any e=true->listed.getD e.on false=true:=fun i o h=>hI.closed i o (by simpa using h)
 have hlow:∀j,j<p->listed.getD j false=false->x6 ops j≠some t:=fun j hj hl hd=>by
  obtain ⟨m1,m2⟩:=a76 hdep ho ht hd (by omega)
  have:=a0R hb hS ho' hready (m1 (by omega))
  rw [hl] at this;cases this
 cases hg:(envs i)[t]? with
 |none=>exact .junk
 |some s=>
  have htl:t<(envs p).length:=by rw [← a5y hT hpi hiN];exact (lbe.1 hg).1
  show RS w ι M s _
  by_cases hex:∃j,p<=j∧j≠i∧x6 ops j=some t
  ·obtain ⟨j,hpj,hne,hj⟩:=hex
   obtain ⟨m1,m2⟩:=a76 hdep ho ht hj (Ne.symm hne)
   rcases at6 hne with hlt|hgt
   ·have hl:=a0R hb hS ho' hready (m1 hlt)
    rw [aA1 hT hdo hpj hlt hiN hj htl] at hg
    injection hg with hg
    subst hg
    exact h1 j t hpj hl hj htl
   ·have hjl:listed.getD j false≠true:=fun hjl=>by
     have hoj:∃oj,ops.toList[j]? =some oj:=by
      unfold x6 at hj
      cases h:ops[j]? with
      |none=>rw [h] at hj;cases hj
      |some oj=>exact ⟨oj,by simpa using h⟩
     obtain ⟨oj,hoj⟩:=hoj
     have:=ae7 hb hS j oj i hoj (m2 hgt) hjl
     rw [hun] at this;cases this
    rw [a44 hT hpi hiN (fun i' h3 h4 h5=>by have:=a2t hdo hj h5;omega)] at hg
    refine h2 t s (fun i' h3 h4 h5=>?_) hlow hg
    have:=a2t hdo hj h5
    subst this
    exact hjl h4
  ·have hno:∀i',p<=i'->i'≠i->x6 ops i'≠some t:=fun i' h3 h4 h5=>hex ⟨i',h3,h4,h5⟩
   rw [a44 hT hpi hiN (fun i' h3 h4=>hno i' h3 (by omega))] at hg
   refine h2 t s (fun i' h3 h4=>hno i' h3 ?_) hlow hg
   rintro rfl
   rw [hun] at h4;cases h4
theorem a5O.reads_late (hb:a4o ops.toList=true) (hdo:a6u ops.toList=true) (hdep:aU3 ops.toList=true)
 (hI:a5O P ops envs hs rs kd w0 ι0 M0 H0 listed a w p q) {ι:Io} {M:Ms}
 (h2:∀t s,(∀ i,p<=i->listed.getD i false=true->x6 ops i≠some t)->(∀ i,i<p->listed.getD i false=false->x6 ops i≠some t)->(envs p)[t]? =some s->RS w ι M s (a.tmps.getD t undef))
 {i r:Nat} {o:Oper} (ho:ops[i]? =some o) (hip:i<p) (hr:p=r+1) (hf:a08 ops.toList r i=true) (hun:listed.getD i false=false) (hready:∀e ∈ o.after.toList,Region.binds .any e=true->listed.getD e.on false=true)
 {t:Nat} (ht:t ∈ W8 ops.toList o):RS w ι M (B2 (envs p) (.tmp t)) (a.tmps.getD t undef):=by
 show RS w ι M ((envs p).getD t .junk) _
 rw [lbl]
 have ho':ops.toList[i]? =some o:=by simpa using ho
 have hS:∀i o,ops.toList[i]? =some o->(listed.getD i false=true)->∀e ∈ o.after.toList,Region.binds .any e=true->listed.getD e.on false=true:=fun i o h=>hI.closed i o (by simpa using h)
 cases hg:(envs p)[t]? with
 |none=>exact .junk
 |some s=>
  refine h2 t s (fun j h3 h4 h5=>?_) (fun j h3 h4 h5=>?_) hg
  ·have hoj:∃oj,ops.toList[j]? =some oj:=by
    unfold x6 at h5
    cases h:ops[j]? with
    |none=>rw [h] at h5;cases h5
    |some oj=>exact ⟨oj,by simpa using h⟩
   obtain ⟨oj,hoj⟩:=hoj
   have:=ae7 hb hS j oj i hoj ((a76 hdep ho ht h5 (by omega)).2 (by omega)) h4
   rw [hun] at this;cases this
  ·by_cases hji:j=i
   ·subst hji
    rcases a4c (d:=0) hf ho ht h5 with h|h<;>omega
   have hlt:j<i:=by
    rcases a4c (d:=0) hf ho ht h5 with h|h
    ·exact h
    ·omega
   have:=a0R hb hS ho' hready ((a76 hdep ho ht h5 (by omega)).1 hlt)
   rw [h4] at this;cases this
theorem S2 {listed:Array Bool} {i:Nat} (h:i<listed.size):(listed.setIfInBounds i true).getD i false=true:=by simp [h]
theorem U3 {listed:Array Bool} {i j:Nat} (h:(listed.setIfInBounds i true).getD j false=true):j=i∨listed.getD j false=true:=by
 by_cases hij:i=j
 ·exact .inl hij.symm
 ·rw [getD_set_ne false hij] at h;exact .inr h
theorem a5O.step (hT:∀j,j<ops.size->aK3 P ops.toList envs hs rs kd j) (hI:a5O P ops envs hs rs kd w0 ι0 M0 H0 listed a w p q) (hd:a.defers=[]) (hsz:a.tmps.size=(envs p).length)
 {i:Nat} {o:Oper} (ho:ops[i]? =some o) (hpi:p<=i) (hiq:i<q) (hun:listed.getD i false=false) (hready:∀e ∈ o.after.toList,Region.binds .any e=true->listed.getD e.on false=true)
 (hdo:a6u ops.toList=true) {v:Value} {w':World} {ι':Io} {M':Ms}
 (h1:∀i t,p<=i->listed.getD i false=true->x6 ops i=some t->t<(envs p).length->RS w' ι' M' (rs i) (a.tmps.getD t undef))
 (h2:∀t s,(∀ i,p<=i->listed.getD i false=true->x6 ops i≠some t)->(∀ i,i<p->listed.getD i false=false->x6 ops i≠some t)->(envs p)[t]? =some s->RS w' ι' M' s (a.tmps.getD t undef))
 (hr:RS w' ι' M' (rs i) v) (hH:j3 w' ι' M' (hs q)) (hM:MB w' M')
 (hf:∀j B,j<q->j≠i->listed.getD j false=false->kd j=.quiet B->∀k,k<B.length->ι' ((hs j).length+k)=none) (hF:a1c ι' (hs q).length) (hst:a3x w0 ι0 M0 H0 w' ι' M' (hs q)):
 a5O P ops envs hs rs kd w0 ι0 M0 H0 (listed.setIfInBounds i true) (a.put o.dst v) w' p q:=by
 have hil:i<listed.size:=by rw [hI.lsz];exact (lb5.1 ho).1
 have hdi:x6 ops i=o.dst:=by unfold x6;rw [ho];rfl
 refine ⟨hI.hpq,hI.hqn,hI.seg,hI.fin,hI.h0,hI.mono,by simpa using hI.lsz,fun j hj=>?_,fun j hj=>?_,?_,ι',M',by rw [a07,hd],by rw [a3X,hsz],?_,?_,hH,hM,?_,hF,hst⟩
 ·exact (hI.low j hj).imp (fun h=>getD_set_true h) id
 ·rw [getD_set_ne false (by omega)];exact hI.high j hj
 ·intro j oj hoj hl e he hb
  rcases U3 hl with rfl|hl
  ·rw [ho] at hoj
   injection hoj with hoj
   subst hoj
   exact getD_set_true (hready e he hb)
  ·exact getD_set_true (hI.closed j oj hoj hl e he hb)
 ·intro j t hpj hl hdj htl
  by_cases hji:j=i
  ·subst hji
   rw [hdi] at hdj
   rw [hdj]
   show RS w' ι' M' (rs j) ((a.tmps.setIfInBounds t v).getD t undef)
   simpa [show t<a.tmps.size by omega] using hr
  ·have hl':=(U3 hl).resolve_left hji
   have hne:o.dst≠some t:=fun h=>by rw [← hdi] at h;exact hji (a2t hdo hdj h)
   have:=h1 j t hpj hl' hdj htl
   cases hdd:o.dst with
   |none=>exact this
   |some d=>
    have:d≠t:=fun e=>hne (by rw [hdd,e])
    show RS w' ι' M' (rs j) ((a.tmps.setIfInBounds d v).getD t undef)
    rw [J9,Array.getElem?_setIfInBounds_ne this]
    rw [J9] at *
    assumption
 ·intro t s hno hno2 hs'
  have hne:o.dst≠some t:=fun h=>hno i hpi (S2 hil) (by rw [hdi,h])
  have:=h2 t s (fun j h3 h4=>hno j h3 (getD_set_true h4)) (fun j h3 h4=>hno2 j h3 (by rw [getD_set_ne false (by omega)];exact h4)) hs'
  cases hdd:o.dst with
  |none=>exact this
  |some d=>
   have hdt:d≠t:=fun e=>hne (by rw [hdd,e])
   show RS w' ι' M' s ((a.tmps.setIfInBounds d v).getD t undef)
   rw [J9,Array.getElem?_setIfInBounds_ne hdt]
   rw [J9] at this
   exact this
 ·intro j B hjq hl hk
  have hji:j≠i:=by rintro rfl;rw [S2 hil] at hl;cases hl
  rw [getD_set_ne false (Ne.symm hji)] at hl
  exact hf j B hjq hji hl hk
theorem a5O.late (hI:a5O P ops envs hs rs kd w0 ι0 M0 H0 listed a w p q) (hd:a.defers=[]) (hsz:a.tmps.size=(envs p).length)
 {i:Nat} {o:Oper} {d:Nat} (ho:ops[i]? =some o) (hod:o.dst=some d) (hip:i<p) (hready:∀e ∈ o.after.toList,Region.binds .any e=true->listed.getD e.on false=true)
 (hdo:a6u ops.toList=true) {v:Value} {w':World} {ι':Io} {M':Ms}
 (h1:∀i t,p<=i->listed.getD i false=true->x6 ops i=some t->t<(envs p).length->RS w' ι' M' (rs i) (a.tmps.getD t undef))
 (h2:∀t s,(∀ i,p<=i->listed.getD i false=true->x6 ops i≠some t)->(∀ i,i<p->listed.getD i false=false->x6 ops i≠some t)->(envs p)[t]? =some s->RS w' ι' M' s (a.tmps.getD t undef))
 (hr:RS w' ι' M' (B2 (envs p) (.tmp d)) v) (hH:j3 w' ι' M' (hs q)) (hM:MB w' M')
 (hf:∀j B,j<q->j≠i->listed.getD j false=false->kd j=.quiet B->∀k,k<B.length->ι' ((hs j).length+k)=none) (hF:a1c ι' (hs q).length) (hst:a3x w0 ι0 M0 H0 w' ι' M' (hs q)):
 a5O P ops envs hs rs kd w0 ι0 M0 H0 (listed.setIfInBounds i true) (a.put o.dst v) w' p q:=by
 have hil:i<listed.size:=by rw [hI.lsz];exact (lb5.1 ho).1
 have hdi:x6 ops i=some d:=by unfold x6;rw [ho];exact hod
 have hpq:=hI.hpq
 refine ⟨hI.hpq,hI.hqn,hI.seg,hI.fin,hI.h0,hI.mono,by simpa using hI.lsz,fun j hj=>?_,fun j hj=>?_,?_,ι',M',by rw [a07,hd],by rw [a3X,hsz],?_,?_,hH,hM,?_,hF,hst⟩
 ·exact (hI.low j hj).imp (fun h=>getD_set_true h) id
 ·rw [getD_set_ne false (by omega)];exact hI.high j hj
 ·intro j oj hoj hl e he hb
  rcases U3 hl with rfl|hl
  ·rw [ho] at hoj
   injection hoj with hoj
   subst hoj
   exact getD_set_true (hready e he hb)
  ·exact getD_set_true (hI.closed j oj hoj hl e he hb)
 ·intro j t hpj hl hdj htl
  have hji:j≠i:=by omega
  have hl':=(U3 hl).resolve_left hji
  have:=h1 j t hpj hl' hdj htl
  have hdt:d≠t:=fun e=>hji (a2t hdo hdj (by rw [← e];exact hdi))
  rw [hod]
  show RS w' ι' M' (rs j) ((a.tmps.setIfInBounds d v).getD t undef)
  rw [J9,Array.getElem?_setIfInBounds_ne hdt]
  rw [J9] at this
  exact this
 ·intro t s hno hno2 hs'
  rw [hod]
  show RS w' ι' M' s ((a.tmps.setIfInBounds d v).getD t undef)
  by_cases hdt:d=t
  ·subst hdt
   have htl:=(lbe.1 hs').1
   have he:B2 (envs p) (.tmp d)=s:=by
    show (envs p).getD d .junk=s
    rw [lbl,hs'];rfl
   rw [he] at hr
   simpa [show d<a.tmps.size by omega] using hr
  ·have:=h2 t s (fun j h3 h4=>hno j h3 (getD_set_true h4)) (fun j h3 h4 h5=>by
    by_cases hji:j=i
    ·subst hji;rw [hdi] at h5;injection h5 with h5;exact hdt h5
    ·exact hno2 j h3 (by rw [getD_set_ne false (Ne.symm hji)];exact h4) h5) hs'
   rw [J9,Array.getElem?_setIfInBounds_ne hdt]
   rw [J9] at this
   exact this
 ·intro j B hjq hl hk
  have hji:j≠i:=by rintro rfl;rw [S2 hil] at hl;cases hl
  rw [getD_set_ne false (Ne.symm hji)] at hl
  exact hf j B hjq hji hl hk
theorem aU7 (kd:Nat->Kd) (p n:Nat) (h:p<=n):∃q,p<=q∧q<=n∧(∀ j,p<=j->j<q->kd j≠.gen)∧(q=n∨kd q=.gen):=by
 obtain ⟨m,hm⟩:∃m,m=n - p:=⟨_,rfl⟩
 induction m generalizing p with
 |zero=>exact ⟨p,lbS _,h,fun j _ _=>by omega,.inl (by omega)⟩
 |succ m ih=>
  cases hk:kd p with
  |gen=>exact ⟨p,lbS _,h,fun j _ _=>by omega,.inr hk⟩
  |skip=>
   obtain ⟨q,h1,h2,h3,h4⟩:=ih (p+1) (by omega) (by omega)
   refine ⟨q,by omega,h2,fun j h5 h6=>?_,h4⟩
   by_cases hj:j=p
   ·subst hj;rw [hk];intro h;cases h
   ·exact h3 j (by omega) h6
  |quiet B=>
   obtain ⟨q,h1,h2,h3,h4⟩:=ih (p+1) (by omega) (by omega)
   refine ⟨q,by omega,h2,fun j h5 h6=>?_,h4⟩
   by_cases hj:j=p
   ·subst hj;rw [hk];intro h;cases h
   ·exact h3 j (by omega) h6
def unl (n:Nat) (listed:Array Bool):Nat:=((List.range n).filter fun j=>!listed.getD j false).length
theorem b7w {n:Nat} {listed:Array Bool} {i:Nat} (hi:i<n) (hs:listed.size=n) (hu:listed.getD i false=false):unl n (listed.setIfInBounds i true)<unl n listed:=by
 unfold unl
 have h1:((List.range n).filter fun j=>!(listed.setIfInBounds i true).getD j false)=((List.range n).filter fun j=>!listed.getD j false).filter fun j=>j≠i:=by
  rw [List.filter_filter]
  apply List.filter_congr
  intro j hj
  by_cases hji:j=i
  ·subst hji;simp [hs,hi]
  ·rw [getD_set_ne false (Ne.symm hji)];simp [hji]
 rw [h1]
 have hmem:i ∈ (List.range n).filter fun j=>!listed.getD j false:=by simp [hi];simpa using hu
 have:∀(l:List Nat),i ∈ l->(l.filter fun j=>j≠i).length<l.length:=by
  intro l
  induction l with
  |nil=>intro h;cases h
  |cons x l ih=>
   intro h
   by_cases hx:x=i
   ·subst hx
    simp only [List.filter_cons,ne_eq,not_true_eq_false,decide_false,a8N,if_false,lbu]
    have:=lbt (fun j=>decide ¬j=x) l
    exact Nat.lt_succ_of_le this
   ·rcases lbB.1 h with h|h
    ·exact absurd h.symm hx
    ·simp [List.filter_cons,hx]
     simpa using ih h
 exact this _ hmem
theorem a7u (hb:a4o ops.toList=true) (hsz:listed.size=ops.size) (h:Region.ready .any ops listed=[]):∀i,i<ops.size->listed.getD i false=true:=by
 intro i
 induction i using Nat.strongRecOn with
 |_ i ih=>
  intro hi
  cases hl:listed.getD i false with
  |true=>rfl
  |false=>
   have:i ∈ Region.ready .any ops listed:=by
    rw [mem_ready]
    refine ⟨by simp [hsz,hi] at hl ⊢;exact hl,ops[i],by simp,fun e he hbi=>?_⟩
    have hlt:=ay7 hb (i:=i) (o:=ops[i]) (by simp) (by simpa using he) hbi
    exact ih e.on hlt (by omega)
   rw [h] at this;cases this
theorem b03 {n:Nat} (h:unl n listed=0):∀i,i<n->listed.getD i false=true:=by
 intro i hi
 unfold unl at h
 have:=lbG h
 rw [List.filter_eq_nil_iff] at this
 have:=this i (by simpa using hi)
 simpa using this
theorem b6X (hI:a5O P ops envs hs rs kd w0 ι0 M0 H0 listed a w p q) (hall:∀i,i<ops.size->listed.getD i false=true):q=ops.size:=by
 rcases A6 q ops.size with h|h
 ·have:=hI.high q (lbS _)
  rw [hall q h] at this;cases this
 ·have:=hI.hqn;omega
theorem b5r (hM0:MB w0 M0) (hT:∀j,j<ops.size->aK3 P ops.toList envs hs rs kd j) (hA:∀j,j<ops.size->b4H ops.toList hs rs kd j) (hb:a4o ops.toList=true) (hdo:a6u ops.toList=true) (hdep:aU3 ops.toList=true) {Q:Exit->Act->World->Prop}
 (hK:∀a w,Sim w0 ι0 M0 H0 a w (envs ops.size) (hs ops.size)->Q .normal a w):∀(fuel:Nat) (listed:Array Bool) (a:Act) (w:World) (p q:Nat),a5O P ops envs hs rs kd w0 ι0 M0 H0 listed a w p q->unl ops.size listed<=fuel->
   wpAny P .any ops Q fuel listed a w:=by
 have hend:∀(listed:Array Bool) (a:Act) (w:World) (p q:Nat),a5O P ops envs hs rs kd w0 ι0 M0 H0 listed a w p q->(∀ i,i<ops.size->listed.getD i false=true)->Q .normal a w:=fun listed a w p q hI hall=>by
  obtain rfl:=b6X hI hall
  exact hK a w (hI.full hT hdo hall)
 intro fuel
 induction fuel with
 |zero=>
  intro listed a w p q hI hu
  have hall:=b03 (listed:=listed) (n:=ops.size) (by omega)
  refine ⟨?_,hend listed a w p q hI hall⟩
  cases hr:Region.ready .any ops listed with
  |nil=>rfl
  |cons i l=>
   have hi:i ∈ Region.ready .any ops listed:=by rw [hr];simp
   rw [mem_ready] at hi
   obtain ⟨h1,o,ho,_⟩:=hi
   have hlt:=(lb5.1 ho).1
   have h2:=hall i hlt
   have hsz:=hI.lsz
   simp [hsz,hlt] at h1 h2
   rw [h1] at h2;cases h2
 |succ fuel ih=>
  intro listed a w p q hI hu
  refine ⟨fun hr=>hend listed a w p q hI (a7u hb hI.lsz hr),fun i hi=>?_⟩
  rw [mem_ready] at hi
  obtain ⟨hl,o,ho,hready⟩:=hi
  have hiN:=(lb5.1 ho).1
  have hsz0:=hI.lsz
  have hun:listed.getD i false=false:=by simp [hsz0,hiN] at hl ⊢;exact hl
  have hready':∀e ∈ o.after.toList,Region.binds .any e=true->listed.getD e.on false=true:=fun e he=>hready e (by simpa using he)
  have hu':unl ops.size (listed.setIfInBounds i true)<=fuel:=by
   have:=b7w hiN hsz0 hun;omega
  have hS:∀i o,ops.toList[i]? =some o->(listed.getD i false=true)->∀e ∈ o.after.toList,Region.binds .any e=true->listed.getD e.on false=true:=fun i o h=>hI.closed i o (by simpa using h)
  unfold wpOp
  rw [ho]
  simp only
  obtain ⟨ι,M,hd,hsz,h1,h2,hH,hM,hf,hF,hst⟩:=hI.rel
  by_cases hip:i<p
  · -- one that came late
    rcases hI.low i hip with h|⟨⟨r,hpr,hfine⟩,oj,d,hoj,hod,hq⟩
    ·rw [h] at hun;cases hun
    rw [ho] at hoj
    injection hoj with hoj
    subst hoj
    have hgd:=aa8 hfine ho
    have hreads:=fun t ht=>hI.reads_late hb hdo hdep h2 ho hip hpr hfine hun hready' (t:=t) ht
    rw [show Region.wanted o (yielded ops a.tmps)=true by unfold Region.wanted;rw [hgd]]
    simp only [if_true]
    refine .inl ?_
    obtain ⟨X,hX⟩:=M3 hT hI.hpq hI.hqn hI.seg
    have hHp:j3 w ι M (hs p):=by rw [hX] at hH;exact hH.pre1
    have hev:L8 w ι M (evR o (envs p)) a:=by
     intro x
     cases x with
     |tmp t=>
      show RS w ι M (cond _ _ _) _
      cases hc:(o.op.operands.toList.filterMap fun x=>match x with|.tmp t=>some t|_=>none).contains t with
      |true=>
       refine hreads t ?_
       unfold W8
       rw [lbA]
       exact .inl (aD5.1 hc)
      |false=>exact .junk
     |const v=>exact RS.const v
     |global g=>exact .junk
     |func f=>exact .c (.t (.fn [] rfl (by simp)))
    rcases hq with hq|⟨b1,b2,hkd,hev1,hb1,hq⟩
    ·refine hq a w ι M hev hHp hM (by simp) _ _ fun v w' hp=>?_
     obtain ⟨new,q1,q2,q3,q4,q5,q6⟩:=hp.insert hH hM (by simp) (by simp)
     have hsame:∀id,s8 ι (hs p).length ([]:List Blk).length new id=ι id:=fun id=>by unfold s8;rw [if_neg (by simp)]
     have keep:∀{s v},RS w ι M s v->RS w' (s8 ι (hs p).length ([]:List Blk).length new) (a3r M ([]:List Blk).length new) s v:=fun h=>h.keep (fun b hb _=>q2.keep b hb) q5 (fun id l hl=>by rw [hsame];exact hl)
     refine ih _ _ _ p q (hI.late hd hsz ho hod hip hready' hdo (fun j t h3 h4 h5 h6=>keep (h1 j t h3 h4 h5 h6)) (fun t s h3 h4 h5=>keep (h2 t s h3 h4 h5)) q1 q3 q4 ?_ ?_ ?_) hu'
     ·intro j B' h4 _ h6 h7 k hk
      rw [hsame]
      exact hf j B' h4 h6 h7 k hk
     ·intro id hid
      rw [hsame]
      exact hF id hid
     ·refine ⟨q2.os.trans hst.os,q2.tape.trans hst.tape,q2.output.trans hst.output,lbT hst.size q2.size,fun b hb' hl'=>(q2.keep b (lb9 hb' hst.size)).trans (hst.keep b hb' hl'),?_,?_,?_,?_,hst.len⟩
      ·intro id hid
       rw [hsame]
       exact hst.same id hid
      ·intro b hb'
       rcases q5 b hb' with h|h
       ·exact hst.mnew b h
       ·exact .inr (lbT hst.size h)
      ·intro b hb'
       rcases hst.mold b hb' with h|h
       ·exact .inl (.inl h)
       ·exact .inr h
      ·intro b hb'
       rcases q6 b hb' with h|h
       ·exact hst.live b h
       ·exact .inr (lbT hst.size h)
    ·have hiq:i<q:=by have:=hI.hpq;omega
     have hnp:(hs i).length<(hs p).length:=(lbe.1 hb1).1
     have hHn:j3 w ι M ((hs p).take (hs i).length):=by
      have e:hs p=(hs p).take (hs i).length++(hs p).drop (hs i).length:=(lb6 _ _).symm
      rw [e] at hHp;exact hHp.pre1
     have hlen:((hs p).take (hs i).length).length=(hs i).length:=by rw [lbs];omega
     have hni:∀k,k<([b1]:List Blk).length->ι ((hs i).length+k)=none:=fun k hk=>hf i [b2] hiq hun hkd k hk
     refine hq (evR o (envs p)) _ hlen a w ι M hev hHn hM (by rw [hlen];exact hni) _ _ fun v w' hp=>?_
     rw [hlen] at hp
     have hBq:∀k,k<([b1]:List Blk).length->(hs q)[(hs i).length+k]? =([b1]:List Blk)[k]?:=fun k hk=>by
      obtain rfl:k=0:=by simpa using hk
      rw [hX,at7,lbb hnp,hb1];rfl
     obtain ⟨new,q1,q2,q3,q4,q5,q6⟩:=hp.insert hH hM hBq hni
     have hext:∀id l,ι id=some l->s8 ι (hs i).length ([b1]:List Blk).length new id=some l:=fun id l hl=>a2z hni hl
     have keep:∀{s v},RS w ι M s v->RS w' (s8 ι (hs i).length ([b1]:List Blk).length new) (a3r M ([b1]:List Blk).length new) s v:=fun h=>h.keep (fun b hb _=>q2.keep b hb) q5 hext
     have hsucc:(hs (i+1)).length=(hs i).length+1:=by
      obtain ⟨oi,_,_,hki⟩:=hT i (by omega)
      rw [hkd] at hki
      rw [hki.2.2];simp
     have hqlen:(hs i).length+1<=(hs q).length:=by rw [hX];simp;omega
     have hH0:H0.length<=(hs i).length:=lbT hI.h0 (hI.mono 0 i (D5 _) (by omega))
     refine ih _ _ _ p q (hI.late hd hsz ho hod hip hready' hdo (fun j t h3 h4 h5 h6=>keep (h1 j t h3 h4 h5 h6)) (fun t s h3 h4 h5=>keep (h2 t s h3 h4 h5)) (by rw [hev1];exact q1) q3 q4 ?_ ?_ ?_) hu'
     ·intro j B' h4 h5 h6 h7 k hk
      have hfj:=hf j B' h4 h6 h7 k hk
      unfold s8
      rw [if_neg ?_,hfj]
      rintro ⟨r1,r2⟩
      have r2:(hs j).length+k<(hs i).length+1:=r2
      rcases at6 h5 with hji|hji
      ·have hm:=hI.mono (j+1) i hji (by omega)
       obtain ⟨oj,_,_,hkj⟩:=hT j (by omega)
       rw [h7] at hkj
       rw [hkj.2.2] at hm
       simp at hm
       omega
      ·have hm:=hI.mono (i+1) j hji (by omega)
       omega
     ·intro id hid
      unfold s8
      rw [if_neg (by simp;omega)]
      exact hF id hid
     ·refine ⟨q2.os.trans hst.os,q2.tape.trans hst.tape,q2.output.trans hst.output,lbT hst.size q2.size,fun b hb' hl'=>(q2.keep b (lb9 hb' hst.size)).trans (hst.keep b hb' hl'),?_,?_,?_,?_,hst.len⟩
      ·intro id hid
       unfold s8
       rw [if_neg (by omega)]
       exact hst.same id hid
      ·intro b hb'
       rcases q5 b hb' with h|h
       ·exact hst.mnew b h
       ·exact .inr (lbT hst.size h)
      ·intro b hb'
       rcases hst.mold b hb' with h|h
       ·exact .inl (.inl h)
       ·exact .inr h
      ·intro b hb'
       rcases q6 b hb' with h|h
       ·exact hst.live b h
       ·exact .inr (lbT hst.size h)
  have hpi:p<=i:=by omega
  have hiq:i<=q:=by
   rcases A6 q i with h|h
   ·have hkq:kd q=.gen:=hI.fin.resolve_left (by omega)
    obtain ⟨oq,hoq,_,h3⟩:=hT q (by omega)
    rw [hkq] at h3
    have:=a0R hb hS (by simpa using ho) hready' (am9 h3.2.2.1 hiN h)
    rw [hI.high q (lbS _)] at this;cases this
   ·exact h
  obtain ⟨o',ho',henv,hk⟩:=hT i hiN
  have:o'=o:=by
   have:ops[i]? =some o':=by simpa using ho'
   rw [ho] at this;injection this with this;exact this.symm
  subst this
  have hreads:=fun t ht=>hI.reads hT hb hdo hdep h1 h2 ho hpi (Nat.le_of_lt hiN) hun hready' (t:=t) ht
  have hlenI:a.tmps.size=(envs i).length:=by rw [hsz,a5y hT hpi (by omega)]
  have hguard:∀j want oj d,o'.guard=some (j,want)->ops[j]? =some oj->oj.dst=some d->RS w ι M (B2 (envs i) (.tmp d)) (a.tmps.getD d undef):=fun j want oj d hg hoj hdj=>by
   refine hreads d ?_
   unfold W8
   rw [lbA]
   refine .inr ?_
   have hoj':ops.toList[j]? =some oj:=by simpa using hoj
   rw [hg]
   simp [hoj',hdj]
  have hev:L8 w ι M (evR o' (envs i)) a:=by
   intro x
   cases x with
   |tmp t=>
    show RS w ι M (cond _ _ _) _
    cases hc:(o'.op.operands.toList.filterMap fun x=>match x with|.tmp t=>some t|_=>none).contains t with
    |true=>
     refine hreads t ?_
     unfold W8
     rw [lbA]
     exact .inl (aD5.1 hc)
    |false=>exact .junk
   |const v=>exact RS.const v
   |global g=>exact .junk
   |func f=>exact .c (.t (.fn [] rfl (by simp)))
  by_cases hlt:i<q
  ·obtain ⟨X,hX⟩:=M3 hT (Nat.le_of_lt hlt) hI.hqn (fun k h3 h4=>hI.seg k (by omega) h4)
   cases hkd:kd i with
   |skip=>
    rw [hkd] at hk
    obtain ⟨hw,hr,_⟩:=hk
    rw [a3f hlenI hw hguard]
    simp only [a8N,if_false]
    refine ih _ _ _ p q (hI.step hT hd hsz ho hpi hlt hun hready' hdo h1 h2 (by rw [hr];exact .skip) hH hM (fun j B h4 _ h5 h6=>hf j B h4 h5 h6) hF hst) hu'
   |quiet B=>
    rw [hkd] at hk
    obtain ⟨hw,hqop,hB⟩:=hk
    rw [a3f hlenI hw hguard]
    simp only [if_true]
    refine .inl ?_
    have hfi:=hf i B hlt hun hkd
    have hHi:j3 w ι M (hs i):=by rw [hX] at hH;exact hH.pre1
    refine hqop a w ι M hev hHi hM hfi _ _ fun v w' hp=>?_
    obtain ⟨X1,hX1⟩:=M3 hT (show i+1<=q by omega) hI.hqn (fun k h3 h4=>hI.seg k (by omega) h4)
    have hBq:∀k,k<B.length->(hs q)[(hs i).length+k]? =B[k]?:=fun k hk=>by
     rw [hX1,hB,lbE,lbc (by omega),lbb (by omega)]
     congr 1;omega
    obtain ⟨new,q1,q2,q3,q4,q5,q6⟩:=hp.insert hH hM hBq hfi
    have hext:∀id l,ι id=some l->s8 ι (hs i).length B.length new id=some l:=fun id l hl=>a2z hfi hl
    have keep:∀{s v},RS w ι M s v->RS w' (s8 ι (hs i).length B.length new) (a3r M B.length new) s v:=fun h=>h.keep (fun b hb _=>q2.keep b hb) q5 hext
    have hqlen:(hs i).length+B.length<=(hs q).length:=by rw [hX1,hB];simp
    have hH0:H0.length<=(hs i).length:=lbT hI.h0 (hI.mono 0 i (D5 _) (by omega))
    refine ih _ _ _ p q (hI.step hT hd hsz ho hpi hlt hun hready' hdo (fun j t h3 h4 h5 h6=>keep (h1 j t h3 h4 h5 h6)) (fun t s h3 h4 h5=>keep (h2 t s h3 h4 h5)) q1 q3 q4 ?_ ?_ ?_) hu'
    ·intro j B' h4 h5 h6 h7 k hk
     have hfj:=hf j B' h4 h6 h7 k hk
     unfold s8
     rw [if_neg ?_,hfj]
     -- the new ids of two places are apart
     rintro ⟨r1,r2⟩
     rcases at6 h5 with hji|hji
     ·have hm:=hI.mono (j+1) i hji (by omega)
      obtain ⟨oj,_,_,hkj⟩:=hT j (by omega)
      rw [h7] at hkj
      rw [hkj.2.2] at hm
      simp at hm
      omega
     ·have hm:=hI.mono (i+1) j hji (by omega)
      rw [hB] at hm
      simp at hm
      omega
    ·intro id hid
     unfold s8
     rw [if_neg (by omega)]
     exact hF id hid
    ·refine ⟨q2.os.trans hst.os,q2.tape.trans hst.tape,q2.output.trans hst.output,lbT hst.size q2.size,fun b hb' hl'=>(q2.keep b (lb9 hb' hst.size)).trans (hst.keep b hb' hl'),?_,?_,?_,?_,hst.len⟩
     ·intro id hid
      unfold s8
      rw [if_neg (by omega)]
      exact hst.same id hid
     ·intro b hb'
      rcases q5 b hb' with h|h
      ·exact hst.mnew b h
      ·exact .inr (lbT hst.size h)
     ·intro b hb'
      rcases hst.mold b hb' with h|h
      ·exact .inl (.inl h)
      ·exact .inr h
     ·intro b hb'
      rcases q6 b hb' with h|h
      ·exact hst.live b h
      ·exact .inr (lbT hst.size h)
   |gen=>exact absurd hkd (hI.seg i hpi hlt)
  · -- a general operation: the segment before it is done
    obtain rfl:i=q:=by omega
    have hkq:kd i=.gen:=hI.fin.resolve_left (by omega)
    rw [hkq] at hk
    obtain ⟨hw,hg,hbar,hlate⟩:=hk
    rw [a3f hlenI hw hguard]
    simp only [if_true]
    refine .inl ?_
    refine hg a w ι M hev hH hM hF _ _ fun v w' hp=>?_
    obtain ⟨ι1,M1,g1,hH1,hM1,hF1,g5⟩:=hp
    have hkb:∀b,b<w.heap.size->¬M b->w'.heap[b]? =w.heap[b]?:=fun b hb hnm=>g5.keep b hb fun hl=>hnm (a2i.inM hH hl)
    have hki:∀id l,ι id=some l->ι1 id=some l:=fun id l hl=>by
     have hlt:id<(hs i).length:=by
      rcases A6 id (hs i).length with h|h
      ·exact h
      ·rw [hF id h] at hl;cases hl
     rw [g5.same id hlt,hl]
    have keep:∀{s v},RS w ι M s v->RS w' ι1 M1 s v:=fun h=>h.keep hkb g5.mnew hki
    have hst1:=hst.trans hM0 g5
    have hlen1:(envs (i+1)).length=(envs i).length:=by rw [henv,a1s]
    obtain ⟨q',r1,r2,r3,r4⟩:=aU7 kd (i+1) ops.size (by omega)
    obtain ⟨X,hX⟩:=M3 hT r1 r2 r3
    have hdi:x6 ops i=o'.dst:=by unfold x6;rw [ho];rfl
    have henvne:∀t,o'.dst≠some t->(envs (i+1))[t]? =(envs i)[t]?:=fun t hne=>by
     rw [henv]
     cases hdd:o'.dst with
     |none=>rfl
     |some d=>
      have hdt:d≠t:=fun e=>hne (by rw [hdd,e])
      show ((envs i).set d (rs i))[t]? =_
      rw [List.getElem?_set_ne hdt]
    have hmono:∀x y,x<=y->y<=q'->(hs x).length<=(hs y).length:=fun x y hxy hyq=>by
     rcases A6 i y with hy|hy
     ·obtain ⟨Y,hY⟩:=M3 hT (show i+1<=y from hy) (by omega) (fun k h3' h4'=>r3 k h3' (by omega))
      rcases A6 i x with hx|hx
      ·obtain ⟨Z,hZ⟩:=M3 hT hxy (by omega) (fun k h3' h4'=>r3 k (by omega) (by omega))
       rw [hZ];simp
      ·have m1:=hI.mono x i hx (lbS _)
       have m2:=g5.len
       rw [hY];simp;omega
     ·exact hI.mono x y hxy hy
    refine ih _ _ _ (i+1) q' ⟨r1,r2,r3,r4,hI.h0,hmono,by simpa using hsz0,fun j hj=>?_,fun j hj=>?_,?_,ι1,M1,by rw [a07,hd],by rw [a3X,hlenI,hlen1],?_,?_,?_,hM1,?_,?_,?_⟩ hu'
    ·by_cases hji:j=i
     ·subst hji;exact .inl (S2 (by omega))
     ·cases hl:listed.getD j false with
      |true=>exact .inl (getD_set_true hl)
      |false=>
       by_cases hjl:j ∈ R2 ops.toList i
       ·have hfine:=aG9 hbar hjl
        obtain ⟨oj,d,hoj,hod,hq⟩:=hlate j hjl
        have hoj':ops[j]? =some oj:=by simpa using hoj
        refine .inr ⟨⟨i,rfl,hfine⟩,oj,d,hoj',hod,?_⟩
        have hev1:evR oj (envs (i+1))=evR oj (envs i):=by
         funext x
         cases x with
         |tmp t=>
          show cond _ _ _=cond _ _ _
          cases hc:(oj.op.operands.toList.filterMap fun x=>match x with|.tmp t=>some t|_=>none).contains t with
          |false=>rfl
          |true=>
           have ht:t ∈ W8 ops.toList oj:=by
            unfold W8
            rw [lbA]
            exact .inl (aD5.1 hc)
           have hne:o'.dst≠some t:=fun he=>by
            have:=a4c (d:=0) hfine hoj' ht (hdi.trans he)
            omega
           show (envs (i+1)).getD t .junk=(envs i).getD t .junk
           rw [lbl,lbl,henvne t hne]
         |const v=>rfl
         |global g=>rfl
         |func f=>rfl
        have hne:o'.dst≠some d:=fun he=>hji (a2t hdo (show x6 ops j=some d by unfold x6;rw [hoj'];exact hod) (hdi.trans he))
        have hd1:B2 (envs (i+1)) (.tmp d)=B2 (envs i) (.tmp d):=by
         show (envs (i+1)).getD d .junk=(envs i).getD d .junk
         rw [lbl,lbl,henvne d hne]
        rw [hev1,hd1]
        rcases hq with hq|⟨tt,n,bb,hal,hn1,hn2,hq⟩
        ·exact .inl hq
        ·obtain ⟨b2,hk2,hr2⟩:=hA j (by omega) oj tt hoj hal (aa8 hfine hoj')
         have hdl:d<(envs 0).length:=by
          rw [← a5y hT (D5 i) (by omega)]
          rcases A6 d (envs i).length with h|h
          ·exact h
          ·have:B2 (envs i) (.tmp d)=.junk:=by
            show (envs i).getD d .junk=_
            rw [lbl,lbd (by omega)];rfl
           rw [this] at hn1;cases hn1
         have hsl:=aA1 hT hdo (D5 j) (show j<i by omega) (by omega) (show x6 ops j=some d by unfold x6;rw [hoj'];exact hod) hdl
         have hrj:B2 (envs i) (.tmp d)=rs j:=by
          show (envs i).getD d .junk=_
          rw [lbl,hsl];rfl
         have hnn:n=(hs j).length:=by
          have e:=hn1.symm.trans (hrj.trans hr2)
          injection e with e
          injection e
         subst hnn
         exact .inr ⟨bb,b2,hk2,hn1,hn2,hq⟩
       ·have:=a0R hb hS (by simpa using ho) hready' (aj5 (by omega) hjl)
        rw [hl] at this;cases this
    ·rw [getD_set_ne false (by omega)];exact hI.high j (by omega)
    ·intro j oj hoj hl' e he' hb'
     rcases U3 hl' with rfl|hl'
     ·rw [ho] at hoj
      injection hoj with hoj
      subst hoj
      exact getD_set_true (hready' e he' hb')
     ·exact getD_set_true (hI.closed j oj hoj hl' e he' hb')
    ·intro j t hj hl' _ _
     rcases U3 hl' with rfl|hl'
     ·omega
     ·rw [hI.high j (by omega)] at hl';cases hl'
    ·intro t s _ hno2 hs'
     have htl:t<(envs i).length:=by rw [← hlen1];exact (lbe.1 hs').1
     by_cases hdt:o'.dst=some t
     ·have:(envs (i+1))[t]? =some (rs i):=by
       rw [henv,hdt]
       show ((envs i).set t (rs i))[t]? =_
       rw [List.getElem?_set_self htl]
      rw [this] at hs'
      injection hs' with hs'
      subst hs'
      rw [hdt]
      show RS w' ι1 M1 (rs i) ((a.tmps.setIfInBounds t v).getD t undef)
      simpa [show t<a.tmps.size by omega] using g1
     ·rw [henvne t hdt] at hs'
      have hold:RS w ι M s (a.tmps.getD t undef):=by
       by_cases hex:∃j,p<=j∧j<i∧x6 ops j=some t
       ·obtain ⟨j,h3,h4,h5⟩:=hex
        have htp:t<(envs p).length:=by rw [← a5y hT hpi (by omega)];exact htl
        rw [aA1 hT hdo h3 h4 (by omega) h5 htp] at hs'
        injection hs' with hs'
        subst hs'
        refine h1 j t h3 ?_ h5 htp
        cases hl:listed.getD j false with
        |true=>rfl
        |false=>exact absurd h5 (hno2 j (by omega) (by rw [getD_set_ne false (by omega)];exact hl))
       ·rw [a44 hT hpi (by omega) (fun j h3 h4 h5=>hex ⟨j,h3,h4,h5⟩)] at hs'
        refine h2 t s (fun j h3 h4 h5=>?_) (fun j h3 h4 h5=>?_) hs'
        ·rcases A6 j i with h|h
         ·exact hex ⟨j,h3,h,h5⟩
         ·rw [hI.high j h] at h4;cases h4
        ·exact hno2 j (by omega) (by rw [getD_set_ne false (by omega)];exact h4) h5
      cases hdd:o'.dst with
      |none=>exact keep hold
      |some d=>
       have hdt':d≠t:=fun e=>hdt (by rw [hdd,e])
       show RS w' ι1 M1 s ((a.tmps.setIfInBounds d v).getD t undef)
       have:=keep hold
       rw [J9,Array.getElem?_setIfInBounds_ne hdt']
       rw [J9] at this
       exact this
    ·rw [hX];exact hH1.extend hF1
    ·intro j B h4 h5 h6 k hk
     rcases A6 i j with hij|hij
     ·obtain ⟨Y,hY⟩:=M3 hT (show i+1<=j from hij) (by omega) (fun k h3' h4'=>r3 k h3' (by omega))
      exact hF1 _ (by rw [hY];simp;omega)
     ·have hji:j≠i:=by rintro rfl;rw [S2 (by omega)] at h5;cases h5
      rw [getD_set_ne false (Ne.symm hji)] at h5
      have h7:=hf j B (by omega) h5 h6 k hk
      have hm:=hI.mono (j+1) i (by omega) (lbS _)
      obtain ⟨oj,_,_,hkj⟩:=hT j (by omega)
      rw [h6] at hkj
      rw [hkj.2.2] at hm
      simp at hm
      rw [g5.same _ (by omega)]
      exact h7
    ·intro id hid
     exact hF1 id (by rw [hX] at hid;simp at hid;omega)
    ·refine ⟨hst1.os,hst1.tape,hst1.output,hst1.size,hst1.keep,hst1.same,hst1.mnew,hst1.mold,?_,by rw [hX];have:=hst1.len;simp;omega⟩
     rintro b ⟨id,k,cap,size,hk,hm,hi'⟩
     have hid:id<(hs (i+1)).length:=by
      rcases A6 id (hs (i+1)).length with h|h
      ·exact h
      ·rw [hF1 id h] at hi';cases hi'
     rw [hX,lbb hid] at hk
     exact hst1.live b ⟨id,k,cap,size,hk,hm,hi'⟩
end
theorem a8H {P:Program} {τ:Tab} (hτ:v6 P τ) {ops:Array Oper} {Q:Exit->Act->World->Prop} {K:Env->Hp->Prop} {w0:World} {ι0:Io} {M0:Ms} {H0:Hp} (hM0:MB w0 M0)
 (hK:∀env H a w,K env H->Sim w0 ι0 M0 H0 a w env H->Q .normal a w) {env:Env} {H:Hp} {a:Act} {w:World}
 (hr:a5k ops.toList=true) (h:a6A P τ ops.toList true 0 ops.toList env H K) (hs:Sim w0 ι0 M0 H0 a w env H):wpAny P .any ops Q ops.size (Array.replicate ops.size false) a { w with drawn:=w.drawn+1 }:=by
 simp only [a5k,lbO] at hr
 obtain ⟨⟨hb,hdo⟩,hdep⟩:=hr
 obtain ⟨envs,hps,rs,kd,h1,h2,h3,h4⟩:=aa1 hτ ops.toList 0 env H rfl h
 have hT:∀j,j<ops.size->aK3 P ops.toList envs hps rs kd j:=fun j hj=>(h4 j (D5 _) (by simpa using hj)).1
 have hA:∀j,j<ops.size->b4H ops.toList hps rs kd j:=fun j hj=>(h4 j (D5 _) (by simpa using hj)).2
 obtain ⟨q,q1,q2,q3,q4⟩:=aU7 kd 0 ops.size (D5 _)
 obtain ⟨X,hX⟩:=M3 hT q1 q2 q3
 obtain ⟨ι,M,hd,hsz,he,hH,hM,hF,hst⟩:=hs
 have hnone:∀j,(Array.replicate ops.size false).getD j false=false:=fun j=>by
  by_cases hj:j<ops.size
  ·simp [hj]
  ·simp [hj]
 refine b5r hM0 hT hA hb hdo hdep (fun a w hs=>hK _ _ a w (by simpa using h3) hs) ops.size _ a _ 0 q ?_ ?_
 ·refine ⟨q1,q2,q3,q4,by rw [h2];exact hst.len,fun x y hxy hyq=>by obtain ⟨Y,hY⟩:=M3 hT hxy (by omega) (fun k h1 h2=>q3 k (by omega) (by omega));rw [hY];simp,by simp,fun j hj=>by omega,fun j _=>hnone j,(fun i o _ hl=>absurd hl (by rw [hnone i];simp)),⟨ι,M,hd,by rw [h1];exact hsz,(fun i t _ hl=>absurd hl (by rw [hnone i];simp)),?_,?_,hM,?_,?_,?_⟩⟩
  ·intro t s _ _ ht
   rw [h1] at ht
   exact (he t s ht).keep (w:=w) (w':={ w with drawn:=w.drawn+1 }) (fun _ _ _=>rfl) (fun b h=>.inl h) (fun _ _ h=>h)
  ·rw [hX,h2]
   have:=j3.extend (X:=X) hH hF
   exact ⟨fun id k hk hd l hl=>by
    have hb:=this.blk id k hk hd l hl
    cases l with
    |nil=>exact hb
    |blk b cap size=>
     obtain ⟨r1,r2,r3,r4,r5,cur,r6,r7,r8⟩:=hb
     exact ⟨r1,r2,r3,r4,r5,cur,r6,r7,fun i j c hc=>by
      obtain ⟨u,s1,s2⟩:=r8 i j c hc
      exact ⟨u,s1,s2.keep (w:=w) (w':={ w with drawn:=w.drawn+1 }) (fun _ _ _=>rfl) (fun b h=>.inl h) (fun _ _ h=>h)⟩⟩,this.liv,this.fro,this.inj,this.old⟩
  ·intro i B hi _ hk k hkB
   obtain ⟨Y,hY⟩:=M3 hT (D5 i) (by omega) (fun k h1 h2=>q3 k h1 (by omega))
   exact hF _ (by rw [hY,h2];simp;omega)
  ·intro id hid
   exact hF id (by rw [hX,h2] at hid;simp at hid;omega)
  ·rw [hX,h2]
   refine ⟨hst.os,hst.tape,hst.output,hst.size,hst.keep,hst.same,hst.mnew,hst.mold,?_,by have:=hst.len;simp;omega⟩
   rintro b ⟨id,k,cap,size,hk,hm,hi⟩
   have hid:id<H.length:=by
    rcases A6 id H.length with h|h
    ·exact h
    ·rw [hF id h] at hi;cases hi
   rw [lbb hid] at hk
   exact hst.live b ⟨id,k,cap,size,hk,hm,hi⟩
 ·unfold unl
  have:=lbt (fun j=>!(Array.replicate ops.size false).getD j false) (List.range ops.size)
  simpa using this
end
section
open Go.RowKit
def a7i (i:Nat):List Nat->Nat
 |[]=>0
 |x::r=>cond (Nat.beq x i) 0 (a7i i r+1)
def a5Q (π:List Nat) (o:Oper):Oper:={ o with after:=(o.after.toList.map fun e=>{ e with on:=a7i e.on π }).toArray,guard:=o.guard.map fun g=>(a7i g.1 π,g.2) }
def J6 (π:List Nat) (ops:List Oper):List Oper:=π.filterMap fun i=>(ops[i]?).map (a5Q π)
def a7t (π:List Nat) (n:Nat):Bool:=Nat.beq π.length n && π.all (fun i=>Nat.blt i n) && (List.range n).all (fun p=>match π[p]? with|some i=>Nat.beq (a7i i π) p|none=>false) && (List.range n).all (fun i=>match π[a7i i π]? with|some j=>Nat.beq j i|none=>false)
def a7l (o:Option (List Nat)) (ops:List Oper):List Oper:=match o with
 |none=>ops
 |some π=>J6 π ops
def b1M (o:Option (List Nat)) (n:Nat):Bool:=match o with
 |none=>true
 |some π=>a7t π n
structure b3W (ops:List Oper) (K:List Oper->Prop):Prop where
 out:∃o,b1M o ops.length=true∧a5k (a7l o ops)=true∧K (a7l o ops)
structure a3p (π:List Nat) (n:Nat):Prop where
 len:π.length=n
 lt:∀p i:Nat,π[p]? =some i->i<n
 pos:∀i:Nat,i<n->π[a7i i π]? =some i
 inv:∀p i:Nat,π[p]? =some i->a7i i π=p
theorem aN4 {π:List Nat} {n:Nat} (h:a7t π n=true):a3p π n:=by
 unfold a7t at h
 simp only [lbO] at h
 obtain ⟨⟨⟨h1,h2⟩,h3⟩,h4⟩:=h
 have hl:=n7 h1
 refine ⟨hl,fun p i hp=>?_,fun i hi=>?_,fun p i hp=>?_⟩
 ·have:=lbw.1 h2 i (lbm hp)
  simpa using this
 ·have:=lbw.1 h4 i (lbC.2 hi)
  split at this
  ·rename_i j hj
   rw [hj,n7 this]
  ·cases this
 ·have hlt:=(lbe.1 hp).1
  have:=lbw.1 h3 p (lbC.2 (by omega))
  rw [hp] at this
  exact n7 this
theorem aB9 {i:Nat}:∀{π:List Nat},i ∉ π->a7i i π=π.length
 |[],_=>rfl
 |x::r,h=>by
  unfold a7i
  have h1:Nat.beq x i=false:=by
   cases hb:Nat.beq x i with
   |false=>rfl
   |true=>exact absurd (by rw [n7 hb];simp) h
  rw [h1,cond_false,aB9 (fun hm=>h (by simp [hm]))];rfl
theorem a5f {α β:Type} {f:α->Option β}:∀{l:List α},(∀ x ∈ l,(f x).isSome=true)->∀p:Nat,(l.filterMap f)[p]? =(l[p]?).bind f
 |[],_,p=>by simp
 |x::r,h,p=>by
  obtain ⟨y,hy⟩:=b22.1 (h x (by simp))
  rw [List.filterMap_cons_some hy]
  cases p with
  |zero=>simp [hy]
  |succ p=>simpa using a5f (fun x hx=>h x (by simp [hx])) p
theorem a5r {α β:Type} {f:α->Option β}:∀{l:List α},(∀ x ∈ l,(f x).isSome=true)->(l.filterMap f).length=l.length
 |[],_=>rfl
 |x::r,h=>by
  obtain ⟨y,hy⟩:=b22.1 (h x (by simp))
  rw [List.filterMap_cons_some hy,lbu,lbu,a5r fun x hx=>h x (by simp [hx])]
theorem aQ5 {π:List Nat} {ops:List Oper} (hP:a3p π ops.length) {p i:Nat} (hp:π[p]? =some i):(J6 π ops)[p]? =(ops[i]?).map (a5Q π):=by
 unfold J6
 rw [a5f (fun x hx=>?_),hp]
 ·rfl
 ·obtain ⟨q,hq⟩:=List.getElem?_of_mem hx
  have:=hP.lt q x hq
  rw [lbf this];rfl
theorem a6Y {π:List Nat} {ops:List Oper} (hP:a3p π ops.length):(J6 π ops).length=ops.length:=by
 rw [← hP.len]
 unfold J6
 refine a5r fun x hx=>?_
 obtain ⟨q,hq⟩:=List.getElem?_of_mem hx
 have:=hP.lt q x hq
 rw [lbf this];rfl
section
variable {P:Program} {Q:Exit->Act->World->Prop} {md:Region.Mode} {π:List Nat} {ops ops':Array Oper}
structure aK2 (π:List Nat) (n:Nat) (listed listed':Array Bool):Prop where
 s:listed.size=n
 s':listed'.size=n
 eq:∀p i:Nat,π[p]? =some i->listed'.getD p false=listed.getD i false
theorem b6i {n p i:Nat} (hP:a3p π n) {listed listed':Array Bool} (h:aK2 π n listed listed') (hp:π[p]? =some i):aK2 π n (listed.setIfInBounds i true) (listed'.setIfInBounds p true):=by
 refine ⟨by simp [h.s],by simp [h.s'],fun q j hq=>?_⟩
 have h1:=hP.lt p i hp
 have h2:=hP.lt q j hq
 have h3:p<n:=by rw [← hP.len];exact (lbe.1 hp).1
 have h4:q<n:=by rw [← hP.len];exact (lbe.1 hq).1
 have he:=h.eq q j hq
 by_cases hqp:q=p
 ·subst hqp
  rw [hp] at hq
  injection hq with hq
  subst hq
  simp [h.s,h.s',h1,h3]
 ·have hji:j≠i:=fun e=>by
   subst e
   have a:=hP.inv p j hp
   have b:=hP.inv q j hq
   omega
  rw [J9] at he ⊢
  rw [J9] at he ⊢
  rw [Array.getElem?_setIfInBounds_ne (Ne.symm hqp),Array.getElem?_setIfInBounds_ne (Ne.symm hji)]
  exact he
theorem a66 (hP:a3p π ops.size) (ho:ops'.toList=J6 π ops.toList) {listed listed':Array Bool} (h:aK2 π ops.size listed listed') {p i:Nat} (hp:π[p]? =some i):
 p ∈ Region.ready md ops' listed'↔i ∈ Region.ready md ops listed:=by
 have hP':a3p π ops.toList.length:=by simpa using hP
 have hlen:ops'.size=ops.size:=by
  have:=congrArg List.length ho
  rw [a6Y hP'] at this
  simpa using this
 have hi:=hP.lt p i hp
 have hpn:p<ops.size:=by rw [← hP.len];exact (lbe.1 hp).1
 have hop:ops'[p]? =(ops[i]?).map (a5Q π):=by
  have:=aQ5 hP' hp
  rw [← ho] at this
  simpa using this
 have hoi:ops[i]? =some ops[i]:=Array.getElem?_eq_getElem hi
 have hl:=h.eq p i hp
 have hD:∀(l:Array Bool) (j:Nat),j<l.size->l.getD j true=l.getD j false:=fun l j hj=>by simp [hj]
 unfold Region.ready
 rw [lbz,lbz,lbC,lbC,hop,hoi]
 simp only [a0n,ac4]
 rw [hD listed i (by rw [h.s];exact hi),hD listed' p (by rw [h.s'];exact hpn),hl,hlen]
 have e:(a5Q π ops[i]).after.all (fun e=>!Region.binds md e || listed'.getD e.on false)=ops[i].after.all (fun e=>!Region.binds md e || listed.getD e.on false):=by
  rw [← Array.all_toList,←Array.all_toList]
  show ((ops[i].after.toList.map fun e=>({ e with on:=a7i e.on π }:Edge)).toArray.toList).all _=_
  rw [List.all_map]
  congr 1
  funext e
  show (!Region.binds md { e with on:=a7i e.on π } || listed'.getD (a7i e.on π) false)=_
  have hb:Region.binds md { e with on:=a7i e.on π }=Region.binds md e:=rfl
  rw [hb]
  congr 1
  by_cases hn:e.on<ops.size
  ·exact h.eq _ _ (hP.pos _ hn)
  ·have hm:e.on ∉ π:=fun hm=>by
    obtain ⟨q,hq⟩:=List.getElem?_of_mem hm
    exact hn (hP.lt q _ hq)
   rw [aB9 hm,hP.len]
   simp [h.s,h.s',hn]
 rw [e]
 simp [hi,hpn]
theorem b42 (hP:a3p π ops.size) (ho:ops'.toList=J6 π ops.toList) {p i:Nat} (hp:π[p]? =some i) {K K':Act->World->Prop} (hK:∀a w,K' a w->K a w) {a:Act} {w:World} (h:wpOp P ops' Q p K' a w):wpOp P ops Q i K a w:=by
 have hP':a3p π ops.toList.length:=by simpa using hP
 have hi:=hP.lt p i hp
 have hget:∀q j,π[q]? =some j->ops'[q]? =(ops[j]?).map (a5Q π):=fun q j hq=>by
  have:=aQ5 hP' hq
  rw [← ho] at this
  simpa using this
 have hlen:ops'.size=ops.size:=by
  have:=congrArg List.length ho
  rw [a6Y hP'] at this
  simpa using this
 have hoi:ops[i]? =some ops[i]:=Array.getElem?_eq_getElem hi
 have hy:∀j,yielded ops' a.tmps (a7i j π)=yielded ops a.tmps j:=fun j=>by
  unfold yielded
  by_cases hn:j<ops.size
  ·rw [hget _ _ (hP.pos j hn),Array.getElem?_eq_getElem hn];rfl
  ·have hm:j ∉ π:=fun hm=>by
    obtain ⟨q,hq⟩:=List.getElem?_of_mem hm
    exact hn (hP.lt q _ hq)
   rw [aB9 hm,hP.len,Array.getElem?_eq_none (by omega),Array.getElem?_eq_none (by omega)]
 have hw:Region.wanted (a5Q π ops[i]) (yielded ops' a.tmps)=Region.wanted ops[i] (yielded ops a.tmps):=by
  unfold Region.wanted a5Q
  cases ops[i].guard with
  |none=>rfl
  |some g=>simp only [a0n];rw [hy]
 have h2:wpOp P ops Q i K' a w:=by
  unfold wpOp at h ⊢
  rw [hget p i hp,hoi] at h
  rw [hoi]
  simp only [a0n] at h
  rw [hw] at h
  exact h
 exact wpOp_mono hK h2
theorem aY3 (hP:a3p π ops.size) (ho:ops'.toList=J6 π ops.toList):∀(fuel:Nat) (listed listed':Array Bool) (a:Act) (w:World),aK2 π ops.size listed listed'->wpAny P md ops' Q fuel listed' a w->wpAny P md ops Q fuel listed a w:=by
 have hP':a3p π ops.toList.length:=by simpa using hP
 have hlen:ops'.size=ops.size:=by
  have:=congrArg List.length ho
  rw [a6Y hP'] at this
  simpa using this
 have hnil:∀listed listed',aK2 π ops.size listed listed'->(Region.ready md ops' listed'=[]↔Region.ready md ops listed=[]):=fun listed listed' h=>by
  constructor
  ·intro he
   cases hr:Region.ready md ops listed with
   |nil=>rfl
   |cons i r=>
    have hm:i ∈ Region.ready md ops listed:=by rw [hr];simp
    have hi:i<ops.size:=by unfold Region.ready at hm;exact lbC.1 (lbz.1 hm).1
    have:=(a66 hP ho h (hP.pos i hi)).2 hm
    rw [he] at this;cases this
  ·intro he
   cases hr:Region.ready md ops' listed' with
   |nil=>rfl
   |cons p r=>
    have hm:p ∈ Region.ready md ops' listed':=by rw [hr];simp
    have hpn:p<ops'.size:=by unfold Region.ready at hm;exact lbC.1 (lbz.1 hm).1
    have:=(a66 hP ho h (lbf (by rw [hP.len];omega))).1 hm
    rw [he] at this;cases this
 intro fuel
 induction fuel with
 |zero=>intro listed listed' a w h hh;exact ⟨(hnil _ _ h).1 hh.1,hh.2⟩
 |succ fuel ih=>
  intro listed listed' a w h hh
  refine ⟨fun he=>hh.1 ((hnil _ _ h).2 he),fun i hi=>?_⟩
  have hin:i<ops.size:=by unfold Region.ready at hi;exact lbC.1 (lbz.1 hi).1
  have hp:=hP.pos i hin
  exact b42 hP ho hp (fun a w hk=>ih _ _ a w (b6i hP h hp) hk) (hh.2 _ ((a66 hP ho h hp).2 hi))
end
theorem b1t {P:Program} {τ:Tab} (hτ:v6 P τ) {ops:Array Oper} {Q:Exit->Act->World->Prop} {K:Env->Hp->Prop} {w0:World} {ι0:Io} {M0:Ms} {H0:Hp} (hM0:MB w0 M0)
 (hK:∀env H a w,K env H->Sim w0 ι0 M0 H0 a w env H->Q .normal a w) {env:Env} {H:Hp} {a:Act} {w:World} {id:Nat} {o:Option (List Nat)}
 (ho:b1M o ops.toList.length=true) (hr:a5k (a7l o ops.toList)=true) (h:a6A P τ (a7l o ops.toList) true 0 (a7l o ops.toList) env H K) (hs:Sim w0 ι0 M0 H0 a w env H):(Code.region id ops true).wp P Q a w:=by
 refine wp_region_any hτ.mixed ?_
 cases o with
 |none=>exact a8H hτ hM0 hK hr h hs
 |some π=>
  have hP:a3p π ops.toList.length:=aN4 ho
  have hP2:a3p π ops.size:=by simpa using hP
  have h1:=a8H (ops:=(J6 π ops.toList).toArray) hτ hM0 hK hr h hs
  have hl:(J6 π ops.toList).toArray.size=ops.size:=by simp [a6Y hP]
  rw [hl] at h1
  exact aY3 hP2 rfl _ _ _ _ _ ⟨by simp,by simp,fun p i hp=>by
   have a1:=hP2.lt p i hp
   have a2:p<ops.size:=by rw [← hP2.len];exact (lbe.1 hp).1
   simp [a1,a2]⟩ h1
end
section
open Go.RowKit
inductive AX where
 |normal
 |exit (id:Nat)
 |ret
def AX.real:AX->Exit
 |.normal=>.normal
 |.exit id=>.exit id
 |.ret=>.ret
structure Awp (P:Program) (n0:Nat) (c:Code) (env:Env) (H:Hp) (Q:AX->Env->Hp->Prop):Prop where
 out:∀(w0:World) (ι0:Io) (M0:Ms) (H0:Hp) (a:Act) (w:World),H0.length=n0->MB w0 M0->Sim w0 ι0 M0 H0 a w env H->
  c.wp P (fun e a' w'=>∃x env' H',e=AX.real x∧Q x env' H'∧Sim w0 ι0 M0 H0 a' w' env' H') a w
abbrev AQ:=AX->Env->Hp->Prop
abbrev AC:=Env->Hp->AQ->Prop
def b6C:AC:=fun env H Q=>Q .normal env H
noncomputable def b4Z (P:Program) (τ:Tab) (_:Nat) (ops:Array Oper) (draw:Bool):AC:=fun env H Q=>match draw with
 |true=>b3W ops.toList fun ops=>a6A P τ ops true 0 ops env H (Q .normal)
 |false=>a6A P τ ops.toList false 0 ops.toList env H (Q .normal)
def bf1 (b:AC) (Q:AQ):AQ:=fun x env' H'=>match x with
    |.normal=>b env' H' Q
    |.exit j=>Q (.exit j) env' H'
    |.ret=>Q .ret env' H'
def bh4 (_ _:Code) (a b:AC):AC:=fun env H Q=>a env H (bf1 b Q)
def be3 (c:Operand) (_ _:Code) (t e:AC):AC:=fun env H Q=>match B2 env c with
    |.c (.t (.atm (.bool b)))=>cond b (t env H Q) (e env H Q)
    |_=>False
def bg0 (id:Nat) (Q:AQ):AQ:=fun x env' H'=>match x with
    |.exit j=>cond (Nat.beq j id) (Q .normal env' H') (Q (.exit j) env' H')
    |.normal=>Q .normal env' H'
    |.ret=>Q .ret env' H'
def b8F (id:Nat) (_:Code) (b:AC):AC:=fun env H Q=>b env H (bg0 id Q)
def b9Z (P:Program) (n0:Nat) (c:Code) (_:AC):AC:=fun env H Q=>Awp P n0 (.loop c) env H Q
def b9H (id:Nat):AC:=fun env H Q=>Q (.exit id) env H
def bh8:AC:=fun env H Q=>Q .ret env H
def b8G:AC:=fun _ _ _=>False
noncomputable def a4d (P:Program) (τ:Tab) (n0:Nat) (c:Code):Env->Hp->(AX->Env->Hp->Prop)->Prop:=
 Code.rec (motive:=fun _=>AC) b6C (b4Z P τ) bh4 be3 b8F (b9Z P n0) (fun _ _ _ _ _ _=>b8G) b9H (fun _ _=>b8G) (fun _=>b6C) (fun _=>b8G) bh8 (fun _=>b8G) c
theorem m9 {P:Program} {τ:Tab} {n0:Nat} (hτ:v6 P τ) (c:Code):∀{env:Env} {H:Hp} {Q:AX->Env->Hp->Prop},a4d P τ n0 c env H Q->Awp P n0 c env H Q:=by
 induction c with
 |skip=>intro env H Q h;refine ⟨fun w0 ι0 M0 H0 a w hn hM hs=>?_⟩;exact wp_skip ⟨.normal,env,H,rfl,h,hs⟩
 |region id ops draw=>
  intro env H Q h
  refine ⟨fun w0 ι0 M0 H0 a w hn hM hs=>?_⟩
  cases draw with
  |false=>
   refine wp_region ?_
   have:=b6E hτ hM (Q:=fun e a' w'=>∃x env' H',e=AX.real x∧Q x env' H'∧Sim w0 ι0 M0 H0 a' w' env' H') (K:=Q .normal)
    (fun env H a w hk hs=>⟨.normal,env,H,rfl,hk,hs⟩) ops.toList 0 env H a w rfl h hs
   rw [List.range_eq_range']
   simpa using this
  |true=>
   have h:b3W ops.toList fun ops=>a6A P τ ops true 0 ops env H (Q .normal):=h
   obtain ⟨π,h1,h2,h3⟩:=h.out
   exact b1t hτ hM (fun env H a w hk hs=>⟨.normal,env,H,rfl,hk,hs⟩) h1 h2 h3 hs
 |seq x y ihx ihy=>
  intro env H Q h
  refine ⟨fun w0 ι0 M0 H0 a w hn hM hs=>?_⟩
  refine wp_seq (wp_mono ((ihx h).out w0 ι0 M0 H0 a w hn hM hs) ?_)
  rintro e a' w' ⟨x,env',H',rfl,hq,hs'⟩
  cases x with
  |normal=>exact (ihy hq).out w0 ι0 M0 H0 a' w' hn hM hs'
  |exit id=>exact ⟨_,env',H',rfl,hq,hs'⟩
  |ret=>exact ⟨_,env',H',rfl,hq,hs'⟩
 |cond c t e iht ihe=>
  intro env H Q h
  refine ⟨fun w0 ι0 M0 H0 a w hn hM hs=>?_⟩
  have h:(match B2 env c with
   |.c (.t (.atm (.bool b)))=>cond b (a4d P τ n0 t env H Q) (a4d P τ n0 e env H Q)
   |_=>False):=h
  split at h
  ·rename_i b hb
   obtain ⟨ι,M,hd,hsz,he,hH,hMB,hF,hst⟩:=hs
   have hv:=(he.ev.to hb).inv_atm
   have hs:Sim w0 ι0 M0 H0 a w env H:=⟨ι,M,hd,hsz,he,hH,hMB,hF,hst⟩
   refine wp_cond hv ?_
   cases b with
   |true=>exact (iht h).out w0 ι0 M0 H0 a w hn hM hs
   |false=>exact (ihe h).out w0 ι0 M0 H0 a w hn hM hs
  ·exact h.elim
 |block id c ih=>
  intro env H Q h
  refine ⟨fun w0 ι0 M0 H0 a w hn hM hs=>?_⟩
  refine wp_block (wp_mono ((ih h).out w0 ι0 M0 H0 a w hn hM hs) ?_)
  rintro e a' w' ⟨x,env',H',rfl,hq,hs'⟩
  cases x with
  |normal=>exact ⟨_,env',H',rfl,hq,hs'⟩
  |exit j=>
   have hq:cond (Nat.beq j id) (Q .normal env' H') (Q (.exit j) env' H'):=hq
   show if j=id then _ else _
   by_cases hj:j=id
   ·subst hj
    rw [if_pos rfl]
    simp only [a6j,cond_true] at hq
    exact ⟨_,env',H',rfl,hq,hs'⟩
   ·rw [if_neg hj]
    have:Nat.beq j id=false:=by
     cases hb:Nat.beq j id with
     |false=>rfl
     |true=>exact absurd (n7 hb) hj
    simp only [this,cond_false] at hq
    exact ⟨_,env',H',rfl,hq,hs'⟩
  |ret=>exact ⟨_,env',H',rfl,hq,hs'⟩
 |loop c ih=>intro env H Q h;exact h
 |exit id=>intro env H Q h;refine ⟨fun w0 ι0 M0 H0 a w hn hM hs=>?_⟩;exact wp_exit ⟨.exit id,env,H,rfl,h,hs⟩
 |ret=>intro env H Q h;refine ⟨fun w0 ι0 M0 H0 a w hn hM hs=>?_⟩;exact wp_ret ⟨.ret,env,H,rfl,h,hs⟩
 |label l=>intro env H Q h;refine ⟨fun w0 ι0 M0 H0 a w hn hM hs=>?_⟩;exact wp_label ⟨.normal,env,H,rfl,h,hs⟩
 |_=>intros;rename_i h;exact False.elim h
def aF0 (τ:Tab) (env:Env) (H:Hp):List ResultVar->(List S->Prop)->Prop
 |[],k=>k []
 |.tmp t::r,k=>a60 (B2 env (.tmp t)) fun s=>aF0 τ env H r fun l=>k (s::l)
 |.cell x t::r,k=>a5m τ (B2 env) H t (.tmp x) fun s=>aF0 τ env H r fun l=>k (s::l)
def a1L (τ:Tab) (fn:Func) (env:Env) (H:Hp) (k:S->Prop):Prop:=
 aF0 τ env H fn.results.toList fun l=>match l with
  |[s]=>k s
  |l=>k (.tup l)
theorem Sim.init {w:World} {ι:Io} {M:Ms} {H:Hp} {vals:List Value} {args:List S} (hl:vals.length=args.length) (hr:∀j s,args[j]? =some s->RS w ι M s (vals.getD j undef))
 (hH:j3 w ι M H) (hM:MB w M) (hF:a1c ι H.length) (n:Nat):
 Sim w ι M H { tmps:=vals.toArray++Array.replicate n undef,defers:=[] } w (args++List.replicate n .junk) H:=by
 refine ⟨ι,M,rfl,by simp [hl],fun t s ht=>?_,hH,hM,hF,a3x.refl w ι M H⟩
 by_cases h:t<args.length
 ·rw [lbb h] at ht
  have:=hr t s ht
  have hlt:t<vals.length:=by omega
  rw [lbl,lbf hlt] at this
  rw [J9,Array.getElem?_append_left (by simpa using hlt)]
  simpa [hlt] using this
 ·rw [lbc (by omega),lbk] at ht
  split at ht
  ·injection ht with ht;subst ht;exact .junk
  ·cases ht
theorem a3J {P:Program} {τ:Tab} (hτ:v6 P τ) {w:World} {ι:Io} {M:Ms} {env:Env} {H:Hp} {a:Act} (he:a2Q w ι M env a) (hH:j3 w ι M H):∀(rs:List ResultVar) {k:List S->Prop},aF0 τ env H rs k->
 ∃l,k l∧∃vs:List Value,(rs.mapM fun|.tmp t=>pure (a.tmps.getD t undef)|.cell x t=>do loadVar t (← asAddr (a.tmps.getD x undef)):Sem (List Value)).run P w=.ok vs w∧vs.length=l.length∧
  ∀(j:Nat) (s:S),l[j]? =some s->RS w ι M s (vs.getD j undef)
 |[],k,h=>⟨[],h,[],by simp,rfl,by simp⟩
 |.tmp t::r,k,h=>by
  simp only [aF0] at h
  rw [y5] at h
  obtain ⟨l,hk,vs,h1,h2,h3⟩:=a3J hτ he hH r h
  refine ⟨_,hk,a.tmps.getD t undef::vs,?_,by simp [h2],fun j s hj=>?_⟩
  ·simp only [List.mapM_cons,Sem.run_bind,Sem.run_pure,Result.andThen_ok,h1]
  ·cases j with
   |zero=>simp at hj;subst hj;exact he.ev (.tmp t)
   |succ j=>simpa using h3 j s (by simpa using hj)
 |.cell x t::r,k,h=>by
  simp only [aF0] at h
  obtain ⟨s,hs,hv⟩:=a7z hτ h
  obtain ⟨v,ad,g0,g1,g2⟩:=hv a w ι M he.ev hH
  obtain ⟨l,hk,vs,h1,h2,h3⟩:=a3J hτ he hH r hs
  have g0':a.tmps.getD x undef=.pointer (some ad):=g0
  have e:(do loadVar t (← asAddr (a.tmps.getD x undef)):Sem Value).run P w=.ok v w:=by
   rw [g0] at g1
   rw [g0']
   simpa [asAddr,Instr.loadAt,Instr.sureAddr] using g1
  refine ⟨_,hk,v::vs,?_,by simp [h2],fun j s hj=>?_⟩
  ·simp only [List.mapM_cons,Sem.run_bind,Sem.run_pure,Result.andThen_ok] at e ⊢
   rw [e]
   simp only [Result.andThen_ok,h1]
  ·cases j with
   |zero=>simp at hj;subst hj;exact g2
   |succ j=>simpa using h3 j s (by simpa using hj)
end
section
open Go.RowKit
def b9P (P:Program) (t:TypeId):Option TK:=
 match P.underlying t with
 |some .bool=>some .bool
 |some (.int k)=>some (.int k)
 |some (.slice e)=>some (.slice e)
 |some (.array n e)=>some (.arr n e)
 |some (.struct fs)=>cond (fs.toList.all fun f=>(P.info? f.type).isSome) (some (.struct (fs.toList.map fun f=>(f.offset,P.cellsOf f.type,false)))) none
 |some _=>some .bas
 |none=>none
def bh9:TK->Bool
 |.arr _ _=>true
 |.struct _=>true
 |_=>false
theorem aw4 {P:Program}:∀(fs:List Field),(fs.all fun f=>(P.info? f.type).isSome)=true->
 fs.mapM (fun f=>(P.info? f.type).map fun i=>(f.offset,i.size))=some ((fs.map fun f=>(f.offset,P.cellsOf f.type,false)).map (fun x=>(x.1,x.2.1)))
 |[],_=>rfl
 |f::fs,h=>by
  simp only [a9Q,lbO] at h
  obtain ⟨i,hi⟩:=b22.1 h.1
  have ih:=aw4 fs h.2
  have hc:P.cellsOf f.type=i.size:=by simp [Program.cellsOf,hi]
  simp only [List.mapM_cons,hi,ih,a3q,hc,a0n]
  rfl
theorem bh2 {P:Program} {t:TypeId} {d:TD} (h1:b9P P t=some d.k) (h2:d.agg=bh9 d.k)
 (h3:(P.info? t).map (fun i=>(i.zero.map (·.cells.toList),i.size,i.bytes))=some (some d.zero,d.size,d.bytes)) (h4:d.zero.all (·.oneCell')=true) (h5:d.zero.length=d.size):az1 P t d:=by
 constructor
 ·cases hi:P.info? t with
  |none=>rw [hi] at h3;cases h3
  |some i=>
   rw [hi] at h3
   simp only [a0n,lb4,Prod.mk.injEq] at h3
   cases hz:i.zero with
   |none=>rw [hz] at h3;cases h3.1
   |some z=>
    rw [hz] at h3
    simp only [a0n,lb4] at h3
    exact ⟨i,rfl,h3.2.1,h3.2.2,z,hz,h3.1,fun v hv=>lbw.1 h4 v hv,h5⟩
 ·unfold b9P at h1
  cases hu:P.underlying t with
  |none=>rw [hu] at h1;cases h1
  |some u=>
   rw [hu] at h1
   refine ⟨u,rfl,?_⟩
   rw [h2]
   cases u with
   |struct fs=>
    simp only at h1
    cases hb:(fs.toList.all fun f=>(P.info? f.type).isSome) with
    |false=>rw [hb] at h1;cases h1
    |true=>
     rw [hb] at h1
     simp only [cond_true,lb4] at h1
     rw [← h1]
     refine ⟨rfl,fs,rfl,?_,fun f hf=>lbw.1 hb f hf,aw4 _ hb⟩
     simp
   |_=>simp only [lb4] at h1<;>rw [← h1]<;>exact ⟨rfl,by first|trivial|rfl⟩
def b2F (P:Program):Nat->List (Option TD)->Prop
 |_,[]=>True
 |t,none::r=>b2F P (t+1) r
 |t,some d::r=>az1 P t d∧b2F P (t+1) r
theorem a8l {P:Program}:∀(l:List (Option TD)) (t0:Nat),b2F P t0 l->∀i d,l.getD i none=some d->az1 P (t0+i) d
 |[],_,_,i,d,h=>by simp at h
 |none::r,t0,hr,i,d,h=>by
  cases i with
  |zero=>simp at h
  |succ i=>have:=a8l r (t0+1) hr i d (by simpa using h);rwa [show t0+1+i=t0+(i+1) by omega] at this
 |some e::r,t0,hr,i,d,h=>by
  cases i with
  |zero=>simp at h;subst h;exact hr.1
  |succ i=>have:=a8l r (t0+1) hr.2 i d (by simpa using h);rwa [show t0+1+i=t0+(i+1) by omega] at this
theorem b74 {P:Program} {l:List (Option TD)} (hm:P.follows .mixedOrders=true) (h:b2F P 0 l):v6 P (fun t=>l.getD t none):=⟨hm,fun t d hd=>by
 have:=a8l l 0 h t d hd
 rwa [y3] at this⟩
end
section
open Go.RowKit
def a4e:T->T->T
 |.sl s .any _,.sl s0 k r=>match k with
  |.nil=>.sl s .any []
  |_=>.sl s0 .any r
 |_,x=>x
theorem RT.weak {w:World} {M:Ms} {x y:T} {v:Value} (h:a4e y x=y) (hr:RT w M x v):RT w M y v:=by
 unfold a4e at h
 split at h
 ·split at h
  ·rw [← h]
   cases hr with
   |sl f hrow hcap hmax hk hn hA hc hr=>
    obtain ⟨rfl,rfl,rfl⟩:=hn rfl
    exact .sl (b:=0) (off:=0) (fun _ _=>undef) (by simp) hcap hmax (by intro h;cases h) (by intro h;cases h) (by simp) (by simp [at2]) (by simp [at2])
  ·rw [← h]
   cases hr with
   |sl f hrow hcap hmax hk hn hA hc hr=>exact .sl f hrow hcap hmax (by intro h;cases h) (by intro h;cases h) hA hc hr
 ·rw [← h];exact hr
theorem U4 (x:T):a4e x x=x:=by
 cases x with
 |sl s k r=>cases k<;>rfl
 |_=>rfl
theorem aD8 {x y:T} (h:x=y):a4e y x=y:=by subst h;exact U4 x
mutual
def VC (H:Hp) (p:Nat->Prop):C->T->Prop
 |.t x,y=>a4e y x=y
 |.ptr id r o,y=>match y with
  |.ptr cells=>p id∧∃k row,H[id]? =some k∧(¬ k.mode.gone∧k.mp=false)∧k.rows[r]? =some row∧row.drop o=cells.map C.t
  |_=>False
 |.own id lo len _,y=>match y with
  |.sl size .any rows=>p id∧∃k,H[id]? =some k∧(¬ k.mode.gone∧k.mp=false)∧k.size=size∧lo+len<=k.rows.length∧(k.rows.drop lo).take len=toC rows
  |_=>False
 |.fn f caps,y=>match y with
  |.fn f' caps'=>f=f'∧VL H p caps caps'
  |_=>False
 |.mp _,_=>False
def VL (H:Hp) (p:Nat->Prop):List C->List T->Prop
 |[],ys=>ys=[]
 |x::r,ys=>match ys with
  |[]=>False
  |y::r'=>VC H p x y∧VL H p r r'
end
theorem bb5 {rows:List (List T)} {i j:Nat} {c:T} (h:at2 rows i j=some c):at2 (toC rows) i j=some (.t c):=by
 obtain ⟨row,h1,h2⟩:=x5 h
 exact p8 (row:=row.map C.t) (by simp [toC,h1]) (by simp [h2])
mutual
theorem VC.rt {H:Hp} {p:Nat->Prop} {w:World} {ι:Io} {M M':Ms} (hH:j3 w ι M H) (hM:∀b,M' b->M b) (hp:∀id k b cap size,p id->H[id]? =some k->¬k.mode.gone->ι id=some (.blk b cap size)->¬M' b):
 ∀(x:C) (y:T) (v:Value),VC H p x y->RC w ι M x v->RT w M' y v
 |.t x,y,v,h,hr=>by
  have h:a4e y x=y:=by simpa only [VC] using h
  cases hr with
  |t hr=>exact (hr.weak h).keep (fun _ _ _=>rfl) (fun b hb=>.inl (hM b hb))
 |.ptr id r o,y,v,h,hr=>by
  cases y with
  |ptr cells=>
   simp only [VC] at h
   obtain ⟨hpi,k,row,hk,⟨hd,hmp⟩,hrow,hc⟩:=h
   cases hr with
   |@ptr _ _ _ b cap size hi=>
    have hb:=(hH.blk id k hk (fun e=>hd (by rw [e];trivial)) _ hi).row hmp hrow
    have hnm:=hp id k b cap size hpi hk hd hi
    have hat:∀(j:Nat) (c:T),cells[j]? =some c->row[o+j]? =some (.t c):=fun j c hj=>by
     have:(row.drop o)[j]? =some (.t c):=by rw [hc,lba,hj];rfl
     rwa [lbj] at this
    refine .ptr (fun j=>(w.cell? ⟨b,r*size+o+j,none⟩).getD undef) (fun j c hj=>?_) (fun j c hj=>?_)
    ·obtain ⟨u,h1,h2⟩:=hb _ _ (hat j c hj)
     rw [a1g,h1]
     exact ⟨rfl,hnm⟩
    ·obtain ⟨u,h1,h2⟩:=hb _ _ (hat j c hj)
     rw [a1g,h1]
     cases h2 with
     |t h2=>exact h2.keep (fun _ _ _=>rfl) (fun b hb=>.inl (hM b hb))
  |_=>simp only [VC] at h
 |.own id lo len app,y,v,h,hr=>by
  cases y with
  |sl size sk rows=>
   cases sk with
   |any=>
    simp only [VC] at h
    obtain ⟨hpi,k,hk,⟨hd,hmp⟩,hsz,hl,hc⟩:=h
    have hlen:rows.length=len:=by
     have:=congrArg List.length hc
     simp [toC] at this
     omega
    cases hr with
    |@own _ _ _ _ b cap sz A cap' hi q1 q2 q3 q4 q5=>
     have hbr:=hH.blk id k hk (fun e=>hd (by rw [e];trivial)) _ hi
     obtain ⟨r1,r2,r3,r4,r5,cur,r6,r7,r8⟩:=hbr
     rw [B7 hmp] at r6
     have hnm:=hp id k b cap sz hpi hk hd hi
     have hse:sz=size:=by rw [← hsz,r1]
     subst hse
     have hat:∀(i j:Nat) (c:T),at2 rows i j=some c->∃u,cur[(lo+i)*sz+j]? =some u∧RT w M' c u:=fun i j c hij=>by
      have h1:=bb5 hij
      rw [← hc] at h1
      obtain ⟨row,s1,s2⟩:=x5 h1
      rw [lbi] at s1
      split at s1
      ·rw [lbj] at s1
       obtain ⟨u,t1,t2⟩:=r8 _ _ _ (p8 s1 s2)
       refine ⟨u,t1,?_⟩
       cases t2 with
       |t t2=>exact t2.keep (fun _ _ _=>rfl) (fun b hb=>.inl (hM b hb))
      ·cases s1
     subst hlen
     refine .sl (b:=b) (off:=lo*sz) (fun i j=>cur.getD ((lo+i)*sz+j) undef) ?_ q3 q4 (by intro h;cases h) (by intro h;cases h) (fun hne=>q2 (af7.2 hne)) ?_ ?_
     ·intro r hr'
      have:r.map C.t ∈ toC rows:=lby.2 ⟨r,hr',rfl⟩
      rw [← hc] at this
      have:=r5 _ (aP2 (a8x this))
      simpa using this
     ·intro i j c hij
      obtain ⟨u,t1,t2⟩:=hat i j c hij
      refine ⟨?_,hnm⟩
      rw [show lo*sz+(i*sz+j)=(lo+i)*sz+j by rw [N4];omega]
      simp [World.cell?,r6,t1]
     ·intro i j c hij
      obtain ⟨u,t1,t2⟩:=hat i j c hij
      have:cur.getD ((lo+i)*sz+j) undef=u:=by simp [t1]
      show RT w M' c (cur.getD ((lo+i)*sz+j) undef)
      rw [this];exact t2
    |nil hi=>
     have hr0:rows=[]:=lbG hlen
     subst hr0
     exact .sl (b:=0) (off:=0) (fun _ _=>undef) (by simp) (by simp) (by unfold maxLen;omega) (by simp) (by simp) (by simp) (by simp [at2]) (by simp [at2])
   |_=>simp only [VC] at h
  |_=>simp only [VC] at h
 |.fn f caps,y,v,h,hr=>by
  cases y with
  |fn f' caps'=>
   simp only [VC] at h
   obtain ⟨rfl,h⟩:=h
   cases hr with
   |fn vs hl hr=>
    obtain ⟨h1,h2⟩:=VL.rt hH hM hp caps caps' h
    exact .fn vs (by omega) fun j c hj=>by
     have hlt:=(lbe.1 hj).1
     exact h2 j _ c _ (lbf (by omega)) hj (hr j _ (lbf (by omega)))
  |_=>simp only [VC] at h
 |.mp id,y,v,h,hr=>by simp only [VC] at h
theorem VL.rt {H:Hp} {p:Nat->Prop} {w:World} {ι:Io} {M M':Ms} (hH:j3 w ι M H) (hM:∀b,M' b->M b) (hp:∀id k b cap size,p id->H[id]? =some k->¬k.mode.gone->ι id=some (.blk b cap size)->¬M' b):
 ∀(xs:List C) (ys:List T),VL H p xs ys->xs.length=ys.length∧∀(j:Nat) (x:C) (y:T) (v:Value),xs[j]? =some x->ys[j]? =some y->RC w ι M x v->RT w M' y v
 |[],ys,h=>by
  simp only [VL] at h
  subst h
  exact ⟨rfl,by simp⟩
 |x::r,ys,h=>by
  cases ys with
  |nil=>simp only [VL] at h
  |cons y r'=>
   simp only [VL] at h
   obtain ⟨h1,h2⟩:=VL.rt hH hM hp r r' h.2
   refine ⟨by simp [h1],fun j x' y' v hx hy hr=>?_⟩
   cases j with
   |zero=>simp at hx hy;subst hx hy;exact VC.rt hH hM hp x y v h.1 hr
   |succ j=>exact h2 j x' y' v (by simpa using hx) (by simpa using hy) hr
end
theorem aD0 {H:Hp} {p:Nat->Prop} {x y:T} (h:a4e y x=y):VC H p (.t x) y:=by simpa only [VC] using h
theorem ab5 {H:Hp} {p:Nat->Prop} {id r o:Nat} {k:Blk} {row:List C} {cells:List T} (hp:p id) (hk:H[id]? =some k) (hd:¬k.mode.gone) (hr:k.rows[r]? =some row) (hc:row.drop o=cells.map C.t) (hm:k.mp=false:=by rfl):VC H p (.ptr id r o) (.ptr cells):=by
 simp only [VC];exact ⟨hp,k,row,hk,⟨hd,hm⟩,hr,hc⟩
theorem aX9 {H:Hp} {p:Nat->Prop} {id lo len:Nat} {app:Bool} {size:Nat} {k:Blk} {rows:List (List T)} (hp:p id) (hk:H[id]? =some k) (hd:¬k.mode.gone) (hs:k.size=size) (hl:lo+len<=k.rows.length) (hc:(k.rows.drop lo).take len=toC rows) (hm:k.mp=false:=by rfl):VC H p (.own id lo len app) (.sl size .any rows):=by
 simp only [VC];exact ⟨hp,k,hk,⟨hd,hm⟩,hs,hl,hc⟩
theorem y0 {H:Hp} {p:Nat->Prop} {id len:Nat} {app:Bool} {size:Nat} {k:Blk} {rows:List (List T)} (hp:p id) (hk:H[id]? =some k) (hd:¬k.mode.gone) (hs:k.size=size) (hc:k.rows=toC rows) (hl:len=rows.length) (hm:k.mp=false:=by rfl):VC H p (.own id 0 len app) (.sl size .any rows):=
 aX9 hp hk hd hs (by rw [hc,hl];simp [toC]) (by rw [hc,hl,ai9,lbn (by simp [toC])]) hm
theorem b1p {H:Hp} {p:Nat->Prop}:VL H p [] []:=by simp only [VL]
theorem a1v {H:Hp} {p:Nat->Prop} {x:C} {y:T} {xs:List C} {ys:List T} (h:VC H p x y) (hs:VL H p xs ys):VL H p (x::xs) (y::ys):=by simp only [VL];exact ⟨h,hs⟩
theorem bj8 {H:Hp} {p:Nat->Prop} {f:Fn} {xs:List C} {ys:List T} (h:VL H p xs ys):VC H p (.fn f xs) (.fn f ys):=by simp only [VC,true_and];exact h
def VS (H:Hp) (p:Nat->Prop):S->S->Prop
 |_,.junk=>True
 |.c x,.c (.t y)=>VC H p x y
 |.agg xs,.agg ys=>∃ts,ys=ts.map C.t∧VL H p xs ts
 |_,_=>False
theorem a5U {H:Hp} {p:Nat->Prop} {x:C} {y:T} (h:VC H p x y):VS H p (.c x) (.c (.t y)):=h
theorem ba1 {H:Hp} {p:Nat->Prop} {xs:List C} {ts:List T} (h:VL H p xs ts):VS H p (.agg xs) (.agg (ts.map C.t)):=⟨ts,rfl,h⟩
theorem VS.rs {H:Hp} {p:Nat->Prop} {w:World} {ι ι':Io} {M M':Ms} (hH:j3 w ι M H) (hM:∀b,M' b->M b) (hp:∀id k b cap size,p id->H[id]? =some k->¬k.mode.gone->ι id=some (.blk b cap size)->¬M' b)
 {x y:S} {v:Value} (h:VS H p x y) (hr:RS w ι M x v):RS w ι' M' y v:=by
 unfold VS at h
 split at h
 ·exact .junk
 ·cases hr with
  |c hr=>exact .c (.t (VC.rt hH hM hp _ _ _ h hr))
 ·obtain ⟨ts,rfl,h⟩:=h
  cases hr with
  |agg vs hl hr=>
   obtain ⟨h1,h2⟩:=VL.rt hH hM hp _ _ h
   refine .agg vs (by simp;omega) fun j c hj=>?_
   rw [lba] at hj
   cases hj':ts[j]? with
   |none=>rw [hj'] at hj;cases hj
   |some c'=>
    rw [hj'] at hj
    injection hj with hj
    subst hj
    have hlt:=(lbe.1 hj').1
    exact .t (h2 j _ c' _ (lbf (by omega)) hj' (hr j _ (lbf (by omega))))
 ·exact h.elim
def a2A (H:Hp) (p:Nat->Prop):List S->List S->Prop
 |[],[]=>True
 |x::r,y::r'=>VS H p x y∧a2A H p r r'
 |_,_=>False
theorem a2A.get {H:Hp} {p:Nat->Prop}:∀{xs ys:List S},a2A H p xs ys->xs.length=ys.length∧∀(j:Nat) (y:S),ys[j]? =some y->∃x,xs[j]? =some x∧VS H p x y
 |[],[],_=>⟨rfl,by simp⟩
 |x::r,y::r',h=>by
  obtain ⟨h1,h2⟩:=a2A.get h.2
  refine ⟨by simp [h1],fun j y' hj=>?_⟩
  cases j with
  |zero=>simp at hj;subst hj;exact ⟨x,rfl,h.1⟩
  |succ j=>simpa using h2 j y' (by simpa using hj)
 |[],_::_,h=>h.elim
 |_::_,[],h=>h.elim
end
section
open Go.RowKit
def C.isT:C->Bool
 |.t _=>true
 |_=>false
def S.isT:S->Bool
 |.junk=>true
 |.c x=>x.isT
 |.agg cs=>cs.all C.isT
 |.ifc _ _=>false
 |.tup ss=>ss.all fun s=>match s with
  |.c x=>x.isT
  |.agg cs=>cs.all C.isT
  |.junk=>true
  |_=>false
theorem RC.tree {w:World} {ι ι':Io} {M:Ms} {x:C} {v:Value} (h:x.isT=true) (hr:RC w ι M x v):RC w ι' M x v:=by
 cases hr<;>first|exact .t ‹_›|cases h
theorem RS.tree1 {w:World} {ι ι':Io} {M:Ms} {s:S} {v:Value} (h:(match s with|.c x=>x.isT|.agg cs=>cs.all C.isT|.junk=>true|_=>false)=true) (hr:RS w ι M s v):RS w ι' M s v:=by
 cases hr with
 |junk=>exact .junk
 |c hr=>exact .c (hr.tree h)
 |agg vs hl hr=>exact .agg vs hl fun j c hj=>(hr j c hj).tree (lbw.1 h c (lbm hj))
 |tup vs hl hr=>cases h
 |ifc hr=>cases h
theorem RS.tree {w:World} {ι ι':Io} {M:Ms} {s:S} {v:Value} (h:s.isT=true) (hr:RS w ι M s v):RS w ι' M s v:=by
 cases hr with
 |junk=>exact .junk
 |c hr=>exact .c (hr.tree h)
 |agg vs hl hr=>exact .agg vs hl fun j c hj=>(hr j c hj).tree (lbw.1 h c (lbm hj))
 |tup vs hl hr=>exact .tup vs hl fun j s hj=>(hr j s hj).tree1 (lbw.1 h s (lbm hj))
 |ifc hr=>cases h
theorem F9 {P:Program} {g:FuncId} {args:List S} {H:Hp} {r:S} (h:a8 P g args [] r []) (ha:args.all S.isT=true) (hr:r.isT=true):N1 P g args H r []:=by
 refine ⟨h.1,fun w ι M vals hl hv hH hM hf=>?_⟩
 have:=h.2 w (fun _=>none) M vals hl (fun j s hj=>(hv j s hj).tree (lbw.1 ha s (lbm hj)))
  ⟨by simp,by simp,by simp,by simp,by simp⟩ hM (fun _ _=>rfl)
 refine Calls.mono this ?_
 rintro e w' ⟨v,rfl,ι',M',h1,h2,h3,h4,h5⟩
 refine ⟨v,rfl,C5.of_none ?_ ?_⟩
 ·refine RS.keep (ι:=ι) (M:=M') (fun _ _ _=>rfl) (fun b hb=>?_) (fun _ _ h=>h) (h1.tree hr)
  rcases h5.mold b hb with h|⟨id,k,_,_,hk,_⟩
  ·exact .inl h
  ·simp at hk
 ·exact ⟨h5.os,h5.tape,h5.output,h5.size,fun b hb=>h5.keep b hb (by rintro ⟨id,k,_,_,hk,_⟩;simp at hk)⟩
theorem Awp.mono {P:Program} {n0:Nat} {c:Code} {env:Env} {H:Hp} {Q Q':AX->Env->Hp->Prop} (h:Awp P n0 c env H Q) (hq:∀a env H,Q a env H->Q' a env H):Awp P n0 c env H Q':=
 ⟨fun w0 ι0 M0 H0 a w hn hM hs=>wp_mono (h.out w0 ι0 M0 H0 a w hn hM hs) (by rintro e a' w' ⟨x,env',H',h1,h2,h3⟩;exact ⟨x,env',H',h1,hq _ _ _ h2,h3⟩)⟩
theorem a3e {x:Int} (h1:-9223372036854775808<=x) (h2:x<=9223372036854775807):E1 .i64 x x:=by
 unfold E1
 exact (IntWalk.i64_in x ⟨h1,by omega⟩).symm
def N2:List (Option Nat)->Nat->Bool
 |[],_=>true
 |some m::r,n=>!(Nat.beq m n) && N2 r n
 |none::r,n=>N2 r n
def b8Z (ρ:List (Option Nat)) (x y:C):Prop:=
 match y with
 |.t y=>match x with
  |.t x=>x=y
  |_=>False
 |.ptr id' r' o'=>match x with
  |.ptr id r o=>ρ[id']? =some (some id)∧r=r'∧o=o'
  |_=>False
 |_=>False
def av6 (ρ:List (Option Nat)):List C->List C->Prop
 |[],[]=>True
 |x::r,y::r'=>b8Z ρ x y∧av6 ρ r r'
 |_,_=>False
def b0O (ρ:List (Option Nat)) (H:Hp) (x y:C):Prop:=
 match y with
 |.t y=>match x with
  |.t x=>a4e y x=y
  |x=>VC H (fun id=>N2 ρ id=true) x y
 |.own id' lo' len' app'=>match x with
  |.t (.sl _ .nil _)=>ρ[id']? =some none∧lo'=0∧len'=0
  |.t (.sl _ .full [])=>ρ[id']? =some none∧lo'=0∧len'=0
  |.own id lo len app=>ρ[id']? =some (some id)∧lo=lo'∧len=len'∧(app'=true->app=true)
  |_=>False
 |.ptr id' r' o'=>match x with
  |.ptr id r o=>ρ[id']? =some (some id)∧r=r'∧o=o'
  |_=>False
 |.fn f' caps'=>match x with
  |.fn f caps=>f=f'∧av6 ρ caps caps'
  |_=>False
 |.mp id'=>match x with
  |.mp id=>ρ[id']? =some (some id)
  |_=>False
def a1U (ρ:List (Option Nat)) (H:Hp):List C->List C->Prop
 |[],[]=>True
 |x::r,y::r'=>b0O ρ H x y∧a1U ρ H r r'
 |_,_=>False
def a5Z (ρ:List (Option Nat)) (H:Hp) (s:S) (s':S):Prop:=
 match s' with
 |.junk=>True
 |.c y=>match s with
  |.c x=>b0O ρ H x y
  |_=>False
 |.agg cs'=>match s with
  |.agg cs=>a1U ρ H cs cs'
  |_=>False
 |.tup _=>False
 |.ifc t' y=>match s with
  |.ifc t x=>t=t'∧match y with
   |.c y=>match x with
    |.c x=>b0O ρ H x y
    |_=>False
   |.agg cs'=>match x with
    |.agg cs=>a1U ρ H cs cs'
    |_=>False
   |_=>False
  |_=>False
def a0g (ρ:List (Option Nat)) (H:Hp):Env->Env->Prop
 |[],[]=>True
 |s::r,s'::r'=>match s' with
  |.junk=>a0g ρ H r r'
  |s'=>a5Z ρ H s s'∧a0g ρ H r r'
 |_,_=>False
def H4 (rows:List (List C)):Prop:=∀r ∈ rows,∀c ∈ r,c.isT=true
def a3N (ρ:List (Option Nat)) (H:Hp):List (List C)->List (List C)->Prop
 |[],[]=>True
 |x::r,y::r'=>a1U ρ H x y∧a3N ρ H r r'
 |_,_=>False
def a1V (k k':Blk):Bool:=match k.mode,k'.mode with
 |.live,.live=>cond k.app k'.app true
 |.live,.old=>k.app
 |.froz,.froz=>true
 |.old,.old=>true
 |.dead,.dead=>true
 |_,_=>false
theorem N8 {k k':Blk} (h:a1V k k'=true):(k'.mode≠.dead->k.mode≠.dead)∧(k'.mode=.live->k.mode=.live∧(k.app=true->k'.app=true))∧(k'.mode=.froz->k.mode=.froz)∧
 (k'.mode=.old->k.mode=.old∨(k.mode=.live∧k.app=true)):=by
 unfold a1V at h
 cases h1:k.mode<;>cases h2:k'.mode<;>rw [h1,h2] at h<;>simp at h ⊢
 ·intro ha;rw [ha] at h;simpa using h
 ·exact h
def a6d (ρ:List (Option Nat)) (H:Hp) (k k':Blk):Prop:=
 a1V k k'=true∧(k.elem,k.mp)=(k'.elem,k'.mp)∧k.size=k'.size∧((k.rows=k'.rows∧H4 k.rows)∨a3N ρ H k.rows k'.rows)
def a30 (ρ:List (Option Nat)) (H:Hp):List (Option Nat)->Hp->Prop
 |[],[]=>True
 |x::r,k'::r'=>(match x with
  |none=>k'.rows=[]∧k'.mode=.live
  |some id=>match H[id]? with
   |some k=>a6d ρ H k k'
   |none=>False)∧a30 ρ H r r'
 |_,_=>False
def a4v:Nat->List (Option Nat)->Hp->Bool
 |n,x::r,k::H=>(match x,k.mode with
  |_,.old=>false
  |some m,_=>Nat.beq m n
  |none,_=>false) || a4v n r H
 |_,_,_=>false
def O8:List (Option Nat)->Hp->Bool
 |none::r,_::H=>O8 r H
 |some n::r,k::H=>(match k.mode with
  |.old=>true
  |_=>!(a4v n r H)) && O8 r H
 |_,_=>true
def a13 (ρ:List (Option Nat)):Nat->Bool
 |0=>true
 |n+1=>(match ρ[n]? with|some (some m)=>Nat.beq m n|_=>false) && a13 ρ n
def Ent (n0:Nat) (ρ:List (Option Nat)) (env:Env) (H:Hp) (env':Env) (H':Hp):Prop:=
 a13 ρ n0=true∧O8 ρ H'=true∧a30 ρ H ρ H'∧a0g ρ H env env'
def K8 (ρ:List (Option Nat)) (ι:Io):Io:=fun id=>match ρ[id]? with
 |some (some j)=>ι j
 |some none=>some .nil
 |none=>none
def a75 (ρ:List (Option Nat)) (H:Hp) (ι:Io) (M:Ms):Ms:=fun b=>M b∧¬∃id k cap size,N2 ρ id=true∧H[id]? =some k∧¬k.mode.gone∧ι id=some (.blk b cap size)
theorem aw8:∀{ρ:List (Option Nat)} {i n:Nat},ρ[i]? =some (some n)->N2 ρ n=true->False
 |[],i,n,h,_=>by simp at h
 |x::r,i,n,h,hn=>by
  have hr:N2 r n=true:=by cases x<;>simp [N2] at hn<;>first|exact hn|exact hn.2
  cases i with
  |zero=>
   simp at h
   subst h
   simp [N2] at hn
  |succ i=>exact aw8 (by simpa using h) hr
theorem RC.sub {w:World} {ι:Io} {M M':Ms} (hM:∀b,M' b->M b) {x:C} {v:Value} (h:RC w ι M x v):RC w ι M' x v:=h.keep (fun _ _ _=>rfl) (fun b hb=>.inl (hM b hb)) (fun _ _ h=>h)
theorem b8Z.rc {w:World} {ι:Io} {M:Ms} {ρ:List (Option Nat)} {H:Hp} {x y:C} {v:Value} (h:b8Z ρ x y) (hr:RC w ι M x v):RC w (K8 ρ ι) (a75 ρ H ι M) y v:=by
 cases y with
 |t y=>
  cases x with
  |t x=>
   have h:x=y:=h
   subst h
   cases hr with
   |t hr=>exact .t (hr.keep (fun _ _ _=>rfl) fun b hb=>.inl hb.1)
  |_=>exact False.elim h
 |ptr id' r' o'=>
  cases x with
  |ptr id r o=>
   obtain ⟨h1,rfl,rfl⟩:=h
   cases hr with
   |ptr hi=>exact .ptr (by unfold K8;rw [h1];exact hi)
  |_=>exact False.elim h
 |own _ _ _ _=>exact False.elim h
 |fn _ _=>exact False.elim h
 |mp _=>exact False.elim h
theorem av6.get {ρ:List (Option Nat)}:∀{xs ys:List C},av6 ρ xs ys->xs.length=ys.length∧∀(j:Nat) (x y:C),xs[j]? =some x->ys[j]? =some y->b8Z ρ x y
 |[],[],_=>⟨rfl,by simp⟩
 |x::xs,y::ys,h=>by
  obtain ⟨h1,h2⟩:=av6.get h.2
  refine ⟨by simp [h1],fun j x' y' hx hy=>?_⟩
  cases j with
  |zero=>simp at hx hy;subst hx hy;exact h.1
  |succ j=>exact h2 j x' y' (by simpa using hx) (by simpa using hy)
 |[],_::_,h=>h.elim
 |_::_,[],h=>h.elim
theorem b0O.rc {w:World} {ι:Io} {M:Ms} {ρ:List (Option Nat)} {H:Hp} (hH:j3 w ι M H) {x y:C} {v:Value} (h:b0O ρ H x y) (hr:RC w ι M x v):RC w (K8 ρ ι) (a75 ρ H ι M) y v:=by
 cases y with
 |t y=>
  have h:VC H (fun id=>N2 ρ id=true) x y:=by cases x<;>first|exact h|(simp only [VC];exact h)
  refine .t (VC.rt hH (fun b hb=>hb.1) ?_ x y v h hr)
  intro id k b cap size hp hk hd hi hb
  exact hb.2 ⟨id,k,cap,size,hp,hk,hd,hi⟩
 |own id' lo' len' app'=>
  cases x with
  |t x=>
   cases x with
   |sl size k rows=>
    cases k with
    |nil=>
     obtain ⟨h1,rfl,rfl⟩:=h
     cases hr with
     |t hr=>cases hr with
      |sl f hrow hcap hmax hk hn hA hc hr=>
       obtain ⟨rfl,rfl,rfl⟩:=hn rfl
       exact .nil (by unfold K8;rw [h1])
    |full=>
     cases rows with
     |nil=>
      obtain ⟨h1,rfl,rfl⟩:=h
      cases hr with
      |t hr=>cases hr with
       |sl f hrow hcap hmax hk hn hA hc hr=>
        obtain rfl:=hk rfl
        exact .nil (by unfold K8;rw [h1])
     |cons _ _=>exact False.elim h
    |any=>exact False.elim h
    |nul=>exact False.elim h
    |non=>exact False.elim h
   |_=>exact False.elim h
  |own id lo len app=>
   obtain ⟨h1,rfl,rfl,happ⟩:=h
   cases hr with
   |own hi q1 q2 q3 q4 q5=>exact .own (by unfold K8;rw [h1];exact hi) q1 q2 q3 q4 (fun h=>q5 (happ h))
   |nil hi=>exact .nil (by unfold K8;rw [h1];exact hi)
  |_=>exact False.elim h
 |ptr id' r' o'=>
  cases x with
  |ptr id r o=>
   obtain ⟨h1,rfl,rfl⟩:=h
   cases hr with
   |ptr hi=>exact .ptr (by unfold K8;rw [h1];exact hi)
  |_=>exact False.elim h
 |fn f' caps'=>
  cases x with
  |fn f caps=>
   obtain ⟨rfl,h⟩:=h
   obtain ⟨h1,h2⟩:=av6.get h
   cases hr with
   |fn vs hl hr=>
    refine .fn vs (by omega) fun j c hj=>?_
    have hlt:=(lbe.1 hj).1
    exact (h2 j _ c (lbf (by omega)) hj).rc (hr j _ (lbf (by omega)))
  |_=>exact False.elim h
 |mp id'=>
  cases x with
  |mp id=>
   have h:ρ[id']? =some (some id):=h
   cases hr with
   |mp hi=>exact .mp (by unfold K8;rw [h];exact hi)
  |_=>exact False.elim h
section
variable {w:World} {ι:Io} {M:Ms} {ρ:List (Option Nat)} {H:Hp} (hH:j3 w ι M H)
include hH
theorem a1U.rc:∀{xs ys:List C},a1U ρ H xs ys->xs.length=ys.length∧∀(j:Nat) (x y:C) (v:Value),xs[j]? =some x->ys[j]? =some y->RC w ι M x v->RC w (K8 ρ ι) (a75 ρ H ι M) y v
 |[],[],_=>⟨rfl,by simp⟩
 |x::xs,y::ys,h=>by
  obtain ⟨h1,h2⟩:=a1U.rc h.2
  refine ⟨by simp [h1],fun j x' y' v hx hy hr=>?_⟩
  cases j with
  |zero=>simp at hx hy;subst hx hy;exact h.1.rc hH hr
  |succ j=>exact h2 j x' y' v (by simpa using hx) (by simpa using hy) hr
 |[],_::_,h=>h.elim
 |_::_,[],h=>h.elim
theorem a5Z.rs {s s':S} {v:Value} (h:a5Z ρ H s s') (hr:RS w ι M s v):RS w (K8 ρ ι) (a75 ρ H ι M) s' v:=by
 unfold a5Z at h
 split at h
 ·exact .junk
 ·split at h
  ·exact .c (b0O.rc hH h hr.inv_c)
  ·exact h.elim
 ·split at h
  ·cases hr with
   |agg vs hl hr=>
    obtain ⟨h1,h2⟩:=a1U.rc hH h
    refine .agg vs (by omega) fun j c hj=>?_
    have hlt:=(lbe.1 hj).1
    exact h2 j _ c _ (lbf (by omega)) hj (hr j _ (lbf (by omega)))
  ·exact h.elim
 ·exact h.elim
 ·split at h
  ·obtain ⟨rfl,h⟩:=h
   cases hr with
   |ifc hr=>
    split at h
    ·split at h
     ·exact .ifc (.c (b0O.rc hH h hr.inv_c))
     ·exact h.elim
    ·split at h
     ·cases hr with
      |agg vs hl hr=>
       obtain ⟨h1,h2⟩:=a1U.rc hH h
       refine .ifc (.agg vs (by omega) fun j c hj=>?_)
       have hlt:=(lbe.1 hj).1
       exact h2 j _ c _ (lbf (by omega)) hj (hr j _ (lbf (by omega)))
     ·exact h.elim
    ·exact h.elim
  ·exact h.elim
omit hH in
theorem a0g.rel:∀{env env':Env},a0g ρ H env env'->env.length=env'.length∧∀(t:Nat) (s':S),env'[t]? =some s'->∃s,env[t]? =some s∧a5Z ρ H s s'
 |[],[],_=>⟨rfl,by simp⟩
 |s::r,s'::r',h=>by
  have h':a5Z ρ H s s'∧a0g ρ H r r':=by
   cases s' with
   |junk=>exact ⟨trivial,h⟩
   |_=>exact h
  obtain ⟨h1,h2⟩:=a0g.rel h'.2
  refine ⟨by simp [h1],fun t s'' ht=>?_⟩
  cases t with
  |zero=>simp at ht;subst ht;exact ⟨s,rfl,h'.1⟩
  |succ t=>simpa using h2 t s'' (by simpa using ht)
 |[],_::_,h=>h.elim
 |_::_,[],h=>h.elim
theorem a3N.rc:∀{xs ys:List (List C)},a3N ρ H xs ys->xs.length=ys.length∧(∀ n,(∀ r ∈ xs,r.length=n)->∀r ∈ ys,r.length=n)∧
 ∀(i j:Nat) (y:C),at2 ys i j=some y->∃x,at2 xs i j=some x∧∀v,RC w ι M x v->RC w (K8 ρ ι) (a75 ρ H ι M) y v
 |[],[],_=>⟨rfl,by simp,by simp [at2]⟩
 |x::xs,y::ys,h=>by
  obtain ⟨h1,h2,h3⟩:=a3N.rc h.2
  obtain ⟨q1,q2⟩:=a1U.rc hH h.1
  refine ⟨by simp [h1],fun n hn r hr=>?_,fun i j y' hy=>?_⟩
  ·rcases lbB.1 hr with rfl|hr
   ·rw [← q1];exact hn x (by simp)
   ·exact h2 n (fun r hr=>hn r (by simp [hr])) r hr
  ·obtain ⟨row,r1,r2⟩:=x5 hy
   cases i with
   |zero=>
    simp at r1
    subst r1
    have hlt:=(lbe.1 r2).1
    exact ⟨_,p8 rfl (lbf (by omega)),fun v hv=>q2 j _ _ v (lbf (by omega)) r2 hv⟩
   |succ i=>
    obtain ⟨x',s1,s2⟩:=h3 i j y' (p8 (by simpa using r1) r2)
    obtain ⟨row',t1,t2⟩:=x5 s1
    exact ⟨x',p8 (by simpa using t1) t2,s2⟩
 |[],_::_,h=>h.elim
 |_::_,[],h=>h.elim
end
theorem a30.get {ρ:List (Option Nat)} {H:Hp}:∀{r:List (Option Nat)} {H':Hp},a30 ρ H r H'->r.length=H'.length∧∀(id:Nat) (k':Blk),H'[id]? =some k'->
 (r[id]? =some none∧k'.rows=[]∧k'.mode=.live)∨∃j k,r[id]? =some (some j)∧H[j]? =some k∧a6d ρ H k k'
 |[],[],_=>⟨rfl,by simp⟩
 |x::r,k::H',h=>by
  obtain ⟨h1,h2⟩:=a30.get h.2
  refine ⟨by simp [h1],fun id k' hk=>?_⟩
  cases id with
  |zero=>
   simp at hk
   subst hk
   have hx:=h.1
   cases x with
   |none=>exact .inl ⟨rfl,hx⟩
   |some j=>
    refine .inr ⟨j,?_⟩
    simp only at hx
    split at hx
    ·rename_i k0 hk0
     exact ⟨k0,rfl,hk0,hx⟩
    ·exact hx.elim
  |succ id=>simpa using h2 id k' (by simpa using hk)
 |[],_::_,h=>h.elim
 |_::_,[],h=>h.elim
theorem ax9:∀{r:List (Option Nat)} {H:Hp} {n j:Nat} {k:Blk},a4v n r H=false->r[j]? =some (some n)->H[j]? =some k->k.mode=.old
 |[],_,n,j,k,_,h,_=>by simp at h
 |x::r,[],n,j,k,_,_,h=>by simp at h
 |x::r,k0::H,n,0,k,hs,h,hk=>by
  simp at h hk
  subst h hk
  simp only [a4v,a5l] at hs
  cases hm:k0.mode with
  |old=>rfl
  |_=>rw [hm] at hs;simp at hs
 |x::r,k0::H,n,j+1,k,hs,h,hk=>by
  simp only [a4v,a5l] at hs
  exact ax9 hs.2 (by simpa using h) (by simpa using hk)
theorem as9:∀{l:List (Option Nat)} {H:Hp},O8 l H=true->∀(i j n:Nat) (k k':Blk),l[i]? =some (some n)->l[j]? =some (some n)->H[i]? =some k->H[j]? =some k'->k.mode≠.old->k'.mode≠.old->i=j
 |[],_,_,i,j,n,k,k',h,_,_,_,_,_=>by simp at h
 |x::r,[],_,i,j,n,k,k',_,_,h,_,_,_=>by simp at h
 |x::r,k0::H,hn,i,j,n,k,k',hi,hj,hk,hk',ho,ho'=>by
  have hr:O8 r H=true:=by
   cases x with
   |none=>exact hn
   |some m=>simp only [O8,lbO] at hn;exact hn.2
  have hx:∀(q:Nat) (kq:Blk),x=some n->k0.mode≠.old->r[q]? =some (some n)->H[q]? =some kq->kq.mode=.old:=fun q kq hxn h0 hq hkq=>by
   subst hxn
   simp only [O8,lbO] at hn
   have h1:=hn.1
   have:a4v n r H=false:=by
    cases hm:k0.mode with
    |old=>exact absurd hm h0
    |_=>simpa using h1
   exact ax9 this hq hkq
  cases i with
  |zero=>cases j with
   |zero=>rfl
   |succ j=>
    simp at hi hj hk hk'
    subst hk
    exact absurd (hx j k' hi ho hj hk') ho'
  |succ i=>cases j with
   |zero=>
    simp at hi hj hk hk'
    subst hk'
    exact absurd (hx i k hj ho' hi hk) ho
   |succ j=>
    simp at hi hj hk hk'
    rw [as9 hr i j n k k' hi hj hk hk' ho ho']
theorem a7H {ρ:List (Option Nat)}:∀{n:Nat},a13 ρ n=true->∀i,i<n->ρ[i]? =some (some i)
 |0,_,i,h=>by omega
 |n+1,hk,i,h=>by
  simp only [a13,lbO] at hk
  by_cases hi:i=n
  ·subst hi
   have:=hk.1
   split at this
   ·rename_i m hm
    rw [hm,n7 this]
   ·cases this
  ·exact a7H hk.2 i (by omega)
theorem al0 {w:World} {ι ι':Io} {M M':Ms} (hM:∀b,M' b->M b) {rows:List (List C)} (h:H4 rows) {i j:Nat} {c:C} (hc:at2 rows i j=some c) {u:Value} (hr:RC w ι M c u):RC w ι' M' c u:=by
 obtain ⟨row,h1,h2⟩:=x5 hc
 exact (hr.tree (h row (lbm h1) c (lbm h2))).sub hM
theorem a30.all {n0:Nat} {ρ:List (Option Nat)} {H H':Hp} (h1:a13 ρ n0=true) (h2:O8 ρ H'=true) (h3:a30 ρ H ρ H') {w0:World} {ι0:Io} {M0:Ms} {H0:Hp} {w:World} {ι:Io} {M:Ms} (hn:H0.length=n0) (hM0:MB w0 M0)
 (hH:j3 w ι M H) (hst:a3x w0 ι0 M0 H0 w ι M H):j3 w (K8 ρ ι) (a75 ρ H ι M) H'∧a1c (K8 ρ ι) H'.length∧a3x w0 ι0 M0 H0 w (K8 ρ ι) (a75 ρ H ι M) H':=by
 obtain ⟨hl,hg0⟩:=a30.get h3
 have hg:∀(id:Nat) (k':Blk),H'[id]? =some k'->(ρ[id]? =some none∧k'.rows=[]∧k'.mode=.live)∨∃j k,ρ[id]? =some (some j)∧H[j]? =some k∧a1V k k'=true∧(k.elem,k.mp)=(k'.elem,k'.mp)∧k.size=k'.size∧
  ((k.rows=k'.rows∧H4 k.rows)∨a3N ρ H k.rows k'.rows):=fun id k' hk=>by
  rcases hg0 id k' hk with h|⟨j,k,q1,q2,q3,q4,q5,q6⟩
  ·exact .inl h
  ·exact .inr ⟨j,k,q1,q2,q3,q4,q5,q6⟩
 have hlen:∀{k k':Blk},((k.rows=k'.rows∧H4 k.rows)∨a3N ρ H k.rows k'.rows)->k.rows.length=k'.rows.length:=fun h=>by
  rcases h with h|h
  ·rw [h.1]
  ·exact (a3N.rc hH h).1
 have hsub:∀b,a75 ρ H ι M b->M b:=fun b hb=>hb.1
 have hren:∀id j,ρ[id]? =some (some j)->K8 ρ ι id=ι j:=fun id j hj=>by unfold K8;rw [hj]
 have hnil:∀id,ρ[id]? =some none->K8 ρ ι id=some .nil:=fun id hj=>by unfold K8;rw [hj]
 have hle:H0.length<=H'.length:=by
  rw [← hl,hn]
  rcases A6 ρ.length n0 with hlt|hge
  ·have:=a7H h1 ρ.length hlt
   simp at this
  ·exact hge
 refine ⟨⟨?_,?_,?_,?_,?_⟩,?_,⟨hst.os,hst.tape,hst.output,hst.size,hst.keep,?_,fun b hb=>hst.mnew b hb.1,?_,?_,hle⟩⟩
 ·intro id k' hk hd l hll
  rcases hg id k' hk with ⟨q1,q2,q3⟩|⟨j,k,q1,q2,q3,q4,q5,q6⟩
  ·rw [hnil id q1] at hll
   injection hll with hll
   subst hll
   exact q2
  ·rw [hren id j q1] at hll
   have hb:=hH.blk j k q2 ((N8 q3).1 hd) l hll
   cases l with
   |nil=>
    have hb':k.rows=[]:=hb
    show k'.rows=[]
    rcases q6 with ⟨q6,_⟩|q6
    ·rw [← q6,hb']
    ·rw [hb'] at q6
     cases hr:k'.rows with
     |nil=>rfl
     |cons y ys=>rw [hr] at q6;exact q6.elim
   |blk b cap size=>
    obtain ⟨r1,r2,r3,r4,r5,cur,r6,r7,r8⟩:=hb
    rcases q6 with ⟨q6,q7⟩|q6
    ·refine ⟨by rw [← q5];exact r1,r2,by rw [← q6];exact r3,a0L.of (congrArg Prod.snd q4) r4,by rw [← q6];exact r5,cur,by rw [N7 (congrArg Prod.snd q4).symm (congrArg Prod.fst q4).symm q5.symm (congrArg List.length q6).symm];exact r6,r7,fun i j c hc=>?_⟩
     rw [← q6] at hc
     obtain ⟨u,s1,s2⟩:=r8 i j c hc
     exact ⟨u,s1,al0 hsub q7 hc s2⟩
    ·obtain ⟨t1,t2,t3⟩:=a3N.rc hH q6
     refine ⟨by rw [← q5];exact r1,r2,by rw [← t1];exact r3,a0L.of (congrArg Prod.snd q4) r4,t2 size r5,cur,by rw [N7 (congrArg Prod.snd q4).symm (congrArg Prod.fst q4).symm q5.symm t1.symm];exact r6,r7,fun i j c hc=>?_⟩
     obtain ⟨x,u1,u2⟩:=t3 i j c hc
     obtain ⟨u,s1,s2⟩:=r8 i j x u1
     exact ⟨u,s1,u2 u s2⟩
 ·intro id k' hk hm b cap size hi
  rcases hg id k' hk with ⟨q1,q2,q3⟩|⟨j,k,q1,q2,q3,q4,q5,q6⟩
  ·rw [hnil id q1] at hi;cases hi
  ·rw [hren id j q1] at hi
   have hkl:k.mode=.live:=((N8 q3).2.1 hm).1
   have hMb:=hH.liv j k q2 hkl b cap size hi
   refine ⟨hMb,?_⟩
   rintro ⟨id2,k2,cap2,size2,n1,n2,n3,n4⟩
   cases hm2:k2.mode with
   |live=>
    have:=hH.inj j id2 k k2 q2 n2 hkl hm2 _ _ _ _ _ hi n4
    subst this
    exact aw8 q1 n1
   |froz=>exact hH.fro id2 k2 n2 hm2 _ _ _ n4 hMb
   |old=>exact n3 (by rw [hm2];trivial)
   |dead=>exact n3 (by rw [hm2];trivial)
 ·intro id k' hk hm b cap size hi
  rcases hg id k' hk with ⟨q1,q2,q3⟩|⟨j,k,q1,q2,q3,q4,q5,q6⟩
  ·rw [hnil id q1] at hi;cases hi
  ·rw [hren id j q1] at hi
   exact fun hb=>hH.fro j k q2 ((N8 q3).2.2.1 hm) b cap size hi hb.1
 ·intro id id' k k' hk hk' hm hm' b cap size cap' size' hi hi'
  rcases hg id k hk with ⟨q1,q2,q3⟩|⟨j,k1,q1,q2,q3,q4,q5,q6⟩
  ·rw [hnil id q1] at hi;cases hi
  ·rcases hg id' k' hk' with ⟨q1',q2',q3'⟩|⟨j',k1',q1',q2',q3',q4',q5',q6'⟩
   ·rw [hnil id' q1'] at hi';cases hi'
   ·rw [hren id j q1] at hi
    rw [hren id' j' q1'] at hi'
    have:=hH.inj j j' k1 k1' q2 q2' ((N8 q3).2.1 hm).1 ((N8 q3').2.1 hm').1 _ _ _ _ _ hi hi'
    subst this
    exact as9 h2 id id' j k k' q1 q1' hk hk' (by rw [hm];intro h;cases h) (by rw [hm'];intro h;cases h)
 ·intro id id' k k' hk hk' hm hm' b cap size cap' size' hi hi'
  rcases hg id k hk with ⟨q1,q2,q3⟩|⟨j,k1,q1,q2,q3,q4,q5,q6⟩
  ·rw [hnil id q1] at hi;cases hi
  ·rcases hg0 id' k' hk' with ⟨q1',q2',q3'⟩|⟨j',k1',q1',q2',q3',q4',q5',q6'⟩
   ·rw [hnil id' q1'] at hi';cases hi'
   ·rw [hren id j q1] at hi
    rw [hren id' j' q1'] at hi'
    obtain ⟨hl1,s2⟩:=(N8 q3').2.1 hm'
    rcases (N8 q3).2.2.2 hm with ho|⟨ho,ha⟩
    ·obtain ⟨t1,t2,t3⟩:=hH.old j j' k1 k1' q2 q2' ho hl1 _ _ _ _ _ hi hi'
     exact ⟨s2 t1,t2,by rw [← hlen q6,←hlen q6'];exact t3⟩
    ·have hjj:=hH.inj j j' k1 k1' q2 q2' ho hl1 _ _ _ _ _ hi hi'
     subst hjj
     rw [q2] at q2'
     injection q2' with q2'
     subst q2'
     rw [hi] at hi'
     injection hi' with hi'
     injection hi' with _ _ hi'
     exact ⟨s2 ha,hi',by rw [← hlen q6,←hlen q6'];exact lbS _⟩
 ·intro id hid
  unfold K8
  rw [lbd (by omega)]
 ·intro id hid
  rw [hren id id (a7H h1 id (by omega))]
  exact hst.same id hid
 ·intro b hb
  rcases hst.mold b hb with h|h
  ·by_cases hx:∃id k cap size,N2 ρ id=true∧H[id]? =some k∧¬k.mode.gone∧ι id=some (.blk b cap size)
   ·obtain ⟨id,k,cap,size,n1,n2,n3,n4⟩:=hx
    refine .inr ?_
    have hlive:k.mode=.live:=by
     cases hm:k.mode with
     |live=>rfl
     |froz=>exact absurd h (hH.fro id k n2 hm _ _ _ n4)
     |old=>exact absurd (by rw [hm];trivial) n3
     |dead=>exact absurd (by rw [hm];trivial) n3
    rcases hst.live b ⟨id,k,cap,size,n2,hlive,n4⟩ with h'|h'
    ·exact h'
    ·have:=hM0 b hb;omega
   ·exact .inl ⟨h,hx⟩
  ·exact .inr h
 ·rintro b ⟨id,k',cap,size,hk,hm,hi⟩
  rcases hg id k' hk with ⟨q1,q2,q3⟩|⟨j,k,q1,q2,q3,q4,q5,q6⟩
  ·rw [hnil id q1] at hi;cases hi
  ·rw [hren id j q1] at hi
   exact hst.live b ⟨j,k,cap,size,q2,((N8 q3).2.1 hm).1,hi⟩
theorem Ent.sim {n0:Nat} {ρ:List (Option Nat)} {env env':Env} {H H':Hp} (h:Ent n0 ρ env H env' H') {w0:World} {ι0:Io} {M0:Ms} {H0:Hp} {a:Act} {w:World} (hn:H0.length=n0) (hM0:MB w0 M0)
 (hs:Sim w0 ι0 M0 H0 a w env H):Sim w0 ι0 M0 H0 a w env' H':=by
 obtain ⟨h1,h2,h3,h4⟩:=h
 obtain ⟨ι,M,hd,hsz,he,hH,hM,hF,hst⟩:=hs
 obtain ⟨hel,heg⟩:=a0g.rel h4
 obtain ⟨q1,q2,q3⟩:=a30.all h1 h2 h3 hn hM0 hH hst
 refine ⟨K8 ρ ι,_,hd,by omega,fun t s' ht=>?_,q1,fun b hb=>hM b hb.1,q2,q3⟩
 obtain ⟨s,q1,q2⟩:=heg t s' ht
 exact q2.rs hH (he t s q1)
def a9d (ρ:List (Option Nat)) (H:Hp) (s s':S):Prop:=
 match s' with
 |.tup ss'=>match s with
  |.tup ss=>a0g ρ H ss ss'
  |_=>False
 |s'=>a5Z ρ H s s'
structure Fin (n0:Nat) (r:S) (H1:Hp) (s:S) (H':Hp):Prop where
 out:∃ρ,a13 ρ n0=true∧O8 ρ H'=true∧a30 ρ H1 ρ H'∧a9d ρ H1 r s
theorem a9d.rs {w:World} {ι:Io} {M:Ms} {ρ:List (Option Nat)} {H:Hp} (hH:j3 w ι M H) {s s':S} {v:Value} (h:a9d ρ H s s') (hr:RS w ι M s v):RS w (K8 ρ ι) (a75 ρ H ι M) s' v:=by
 cases s' with
 |tup ss'=>
  cases s with
  |tup ss=>
   cases hr with
   |tup vs hl hr=>
    obtain ⟨h1,h2⟩:=a0g.rel h
    refine .tup vs (by omega) fun j s hj=>?_
    obtain ⟨s0,q1,q2⟩:=h2 j s hj
    exact q2.rs hH (hr j s0 q1)
  |_=>exact False.elim h
 |_=>exact a5Z.rs hH h hr
theorem l9 {r s:S} {H1:Hp} (h:a9d [] H1 r s):Fin 0 r H1 s []:=⟨[],rfl,rfl,trivial,h⟩
theorem b5R {P : Program} {τ : Tab} (hτ : v6 P τ) {f : FuncId} {fn : Func} {c : Code} {args : List S} {H : Hp} {s : S} {H' : Hp} (hf : P.funcs[f]? = some fn) (hb : fn.body = some c) (hn : fn.name ≠ "runtime.NumGoroutine")
    (h:a4d P τ H.length c (args++List.replicate (fn.ntmps - args.length) .junk) H fun x env' H1=>match x with
      |.exit _=>False
      |_=>a1L τ fn env' H1 fun r=>Fin H.length r H1 s H'):a8 P f args H s H':=by
  refine ⟨⟨fn,hf,by rw [hb];rfl,hn⟩,fun w ι M vals hl hr hH hM hF=>?_⟩
  refine calls_of_wp hf hb ?_
  have hi:=Sim.init hl hr hH hM hF (fn.ntmps - args.length)
  have:=(m9 hτ c h).out w ι M H _ w rfl hM hi
  have e:vals.toArray.size=args.length:=by simpa using hl
  rw [e]
  refine wp_mono this ?_
  rintro e a' w' ⟨x,env',H1,rfl,hq,ι',M',hd,hsz,he,hH',hM',hF',hst⟩
  have key:(a1L τ fn env' H1 fun r=>Fin H.length r H1 s H')->a'.defers=[]∧∃v,(results fn a'.tmps).run P w'=.ok v w'∧∃v',Ending.returned v=.returned v'∧B4 w ι M H s H' v' w':=by
   intro hq
   refine ⟨hd,?_⟩
   obtain ⟨l,hk,vs,h1,h2,h3⟩:=a3J hτ he hH' fn.results.toList hq
   have hrun:∃v,(results fn a'.tmps).run P w'=.ok v w'∧v=(if h:vs.length=1 then vs[0] else .tuple vs.toArray):=by
    refine ⟨_,?_,rfl⟩
    unfold results
    rw [aY6,Sem.run_bind,Sem.run_map]
    refine (congrArg (fun r=>Result.andThen (Result.andThen r _) _) h1).trans ?_
    simp
   obtain ⟨v,hv1,rfl⟩:=hrun
   refine ⟨_,hv1,_,rfl,?_⟩
   have hsr:∃r,RS w' ι' M' r (if h:vs.length=1 then vs[0] else .tuple vs.toArray)∧Fin H.length r H1 s H':=by
    match l,hk,h2,h3 with
    |[s1],hk,h2,h3=>
     refine ⟨s1,?_,hk⟩
     rw [dif_pos (by simpa using h2)]
     have:=h3 0 s1 rfl
     rw [lbl,lbf (by simp at h2;omega)] at this
     exact this
    |[],hk,h2,h3=>
     refine ⟨_,?_,hk⟩
     rw [dif_neg (by simp at h2;simp [h2])]
     exact .tup vs h2 h3
    |s1::s2::r,hk,h2,h3=>
     refine ⟨_,?_,hk⟩
     rw [dif_neg (by simp at h2;omega)]
     exact .tup vs h2 h3
   obtain ⟨r,h4,ρ,f1,f2,f3,f4⟩:=hsr
   obtain ⟨g1,g2,g3⟩:=a30.all f1 f2 f3 rfl hM hH' hst
   exact ⟨K8 ρ ι',_,f4.rs hH' h4,g1,fun b hb=>hM' b hb.1,g2,g3⟩
  cases x with
  |normal=>exact key hq
  |ret=>exact key hq
  |exit id=>exact hq.elim
theorem a0B (p:Nat->Prop) (h:∃n,p n):∃n,p n∧∀m,p m->n<=m:=by
 obtain ⟨n,hn⟩:=h
 induction n using Nat.strongRecOn with
 |_ n ih=>
  by_cases hex:∃m,m<n∧p m
  ·obtain ⟨m,hm,hp⟩:=hex
   exact ih m hm hp
  ·exact ⟨n,hn,fun m hm=>aG4 fun hlt=>hex ⟨m,hlt,hm⟩⟩
theorem a7w {P:Program} {n0:Nat} {c:Code} {env:Env} {H:Hp} {Q:AX->Env->Hp->Prop} {σ:Type} (E:σ->Env × Hp) (μ:σ->Nat) (x0:σ) (ρ0:List (Option Nat))
 (h0:Ent n0 ρ0 env H (E x0).1 (E x0).2)
 (round:∀x,Awp P n0 c (E x).1 (E x).2 fun a env' H'=>match a with
   |.normal=>∃ρ x',Ent n0 ρ env' H' (E x').1 (E x').2∧μ x'<μ x
   |a=>Q a env' H'):Awp P n0 (.loop c) env H Q:=by
 refine ⟨fun w0 ι0 M0 H0 a w hn hM hs=>?_⟩
 have hs0:=h0.sim hn hM hs
 let I:Act->World->Prop:=fun a w=>∃x,Sim w0 ι0 M0 H0 a w (E x).1 (E x).2
 let J:Act->World->Nat->Prop:=fun a w n=>∃x,μ x=n∧Sim w0 ι0 M0 H0 a w (E x).1 (E x).2
 have hJ:∀a w,I a w->∃n,J a w n:=fun a w ⟨x,hx⟩=>⟨μ x,x,rfl,hx⟩
 classical
 let m:Act->World->Nat:=fun a w=>if h:∃n,J a w n then Classical.choose (a0B _ h) else 0
 have hmin:∀a w x,Sim w0 ι0 M0 H0 a w (E x).1 (E x).2->m a w<=μ x:=fun a w x hx=>by
  have h:∃n,J a w n:=⟨μ x,x,rfl,hx⟩
  show (if h:∃n,J a w n then Classical.choose (a0B _ h) else 0)<=μ x
  rw [dif_pos h]
  exact (a0W (a0B _ h)).2 _ ⟨x,rfl,hx⟩
 refine wp_loop I m ⟨x0,hs0⟩ fun a w hI=>?_
 have hex:=hJ a w hI
 have hm:m a w=Classical.choose (a0B _ hex):=by
  show (if h:∃n,J a w n then Classical.choose (a0B _ h) else 0)=_
  rw [dif_pos hex]
 obtain ⟨x,hx1,hx2⟩:=(a0W (a0B _ hex)).1
 have hr:=(round x).out w0 ι0 M0 H0 a w hn hM hx2
 refine wp_mono hr ?_
 rintro e a' w' ⟨ax,env',H',rfl,hq,hs'⟩
 cases ax with
 |normal=>
  obtain ⟨ρ,x',h1,h2⟩:=hq
  have hs2:=h1.sim hn hM hs'
  refine ⟨⟨x',hs2⟩,?_⟩
  have:=hmin a' w' x' hs2
  omega
 |exit id=>exact ⟨_,env',H',rfl,hq,hs'⟩
 |ret=>exact ⟨_,env',H',rfl,hq,hs'⟩
theorem i3 {P:Program} {τ:Tab} (hτ:v6 P τ) {n0:Nat} {c:Code} {env:Env} {H:Hp} {Q:AX->Env->Hp->Prop} (E:Nat->Env × Hp) (n:Nat) (I:Nat->Prop) (ρ0:List (Option Nat))
 (hI:I 0) (h0:Ent n0 ρ0 env H (E 0).1 (E 0).2)
 (round:∀k,k<=n->I k->a4d P τ n0 c (E k).1 (E k).2 fun a env' H'=>match a with
   |.normal=>k<n∧I (k+1)∧∃ρ,Ent n0 ρ env' H' (E (k+1)).1 (E (k+1)).2
   |a=>Q a env' H'):Awp P n0 (.loop c) env H Q:=by
 refine a7w (σ:={ k:Nat // k<=n∧I k }) (fun k=>E k.1) (fun k=>n - k.1) ⟨0,D5 _,hI⟩ ρ0 h0 ?_
 rintro ⟨k,hk,hi⟩
 refine (m9 hτ c (round k hk hi)).mono ?_
 intro a env' H' h
 cases a with
 |normal=>
  obtain ⟨h1,h2,ρ,h3⟩:=h
  exact ⟨ρ,⟨k+1,h1,h2⟩,h3,by show n - (k+1)<n - k;omega⟩
 |exit id=>exact h
 |ret=>exact h
theorem a1z {n m:Int} {K:Prop} (h0:0<=n) (h1:n<m) (k:K):(0<=n∧n<m)∧K:=⟨⟨h0,h1⟩,k⟩
theorem d6 {α:Type} {xs:List α} {f:α->List T} {k:Nat} {x:α} {K:List T->Prop} (hx:xs[k]? =some x) (h:K (f x)):∃row,0<=(k:Int)∧(xs.map f)[(k:Int).toNat]? =some row∧K row:=
 ⟨f x,by omega,by simp [hx],h⟩
theorem N3 {α:Type} {xs:List α} {f:α->List T} {n:Int} {x:α} {K:List T->Prop} (h0:0<=n) (hx:xs[n.toNat]? =some x) (h:K (f x)):∃row,0<=n∧(xs.map f)[n.toNat]? =some row∧K row:=
 ⟨f x,h0,by simp [hx],h⟩
end
section
open Go.RowKit
def T.flat:T->Bool
 |.atm _=>true
 |_=>false
def C.flat:C->Bool
 |.t x=>x.flat
 |_=>false
def S.flat:S->Bool
 |.junk=>true
 |.c x=>x.flat
 |.agg cs=>cs.all C.flat
 |.ifc _ _=>false
 |.tup ss=>ss.all fun s=>match s with
  |.c x=>x.flat
  |.agg cs=>cs.all C.flat
  |.junk=>true
  |_=>false
theorem RC.flat {w:World} {ι ι':Io} {M M':Ms} {x:C} {v:Value} (h:x.flat=true) (hr:RC w ι M x v):RC w ι' M' x v:=by
 cases hr with
 |t hr=>cases hr with
  |atm hv=>exact .t (.atm hv)
  |_=>cases h
 |_=>cases h
theorem RS.flat1 {w:World} {ι ι':Io} {M M':Ms} {s:S} {v:Value} (h:(match s with|.c x=>x.flat|.agg cs=>cs.all C.flat|.junk=>true|_=>false)=true) (hr:RS w ι M s v):RS w ι' M' s v:=by
 cases hr with
 |junk=>exact .junk
 |c hr=>exact .c (hr.flat h)
 |agg vs hl hr=>exact .agg vs hl fun j c hj=>(hr j c hj).flat (lbw.1 h c (lbm hj))
 |tup vs hl hr=>cases h
 |ifc hr=>cases h
theorem RS.flat {w:World} {ι ι':Io} {M M':Ms} {s:S} {v:Value} (h:s.flat=true) (hr:RS w ι M s v):RS w ι' M' s v:=by
 cases hr with
 |junk=>exact .junk
 |c hr=>exact .c (hr.flat h)
 |agg vs hl hr=>exact .agg vs hl fun j c hj=>(hr j c hj).flat (lbw.1 h c (lbm hj))
 |tup vs hl hr=>exact .tup vs hl fun j s hj=>(hr j s hj).flat1 (lbw.1 h s (lbm hj))
 |ifc hr=>cases h
theorem j3.none {w:World} {M:Ms}:j3 w (fun _=>Option.none) M []:=⟨by simp,by simp,by simp,by simp,by simp⟩
theorem b0d {P:Program} {g:FuncId} {args args':List S} {H:Hp} {r:S} (h:a8 P g args' [] r []) (ha:a2A H (fun _=>True) args args') (hr:r.flat=true):N1 P g args H r []:=by
 refine ⟨h.1,fun w ι M vals hl hv hH hM hf=>?_⟩
 obtain ⟨hlen,hget⟩:=a2A.get ha
 have:=h.2 w (fun _=>none) (fun _=>False) vals (by omega) (fun j s hj=>by
  obtain ⟨x,hx,hs⟩:=hget j s hj
  exact hs.rs hH (fun _ h=>h.elim) (fun _ _ _ _ _ _ _ _ _ h=>h) (hv j x hx))
  .none (fun _ h=>h.elim) (fun _ _=>rfl)
 refine Calls.mono this ?_
 rintro e w' ⟨v,rfl,ι',M',h1,h2,h3,h4,h5⟩
 exact ⟨v,rfl,C5.of_none (h1.flat hr) ⟨h5.os,h5.tape,h5.output,h5.size,fun b hb=>h5.keep b hb (by rintro ⟨id,k,_,_,hk,_⟩;simp at hk)⟩⟩
theorem a69 {P:Program} {g:FuncId} {args args':List S} {H:Hp} {r:S} (h:a8 P g args' [] r []) (ha:a2A H (fun _=>False) args args') (hr:r.isT=true):N1 P g args H r []:=by
 refine ⟨h.1,fun w ι M vals hl hv hH hM hf=>?_⟩
 obtain ⟨hlen,hget⟩:=a2A.get ha
 have:=h.2 w (fun _=>none) M vals (by omega) (fun j s hj=>by
  obtain ⟨x,hx,hs⟩:=hget j s hj
  exact hs.rs hH (fun _ h=>h) (fun _ _ _ _ _ h _ _ _ _=>h.elim) (hv j x hx))
  .none hM (fun _ _=>rfl)
 refine Calls.mono this ?_
 rintro e w' ⟨v,rfl,ι',M',h1,h2,h3,h4,h5⟩
 refine ⟨v,rfl,C5.of_none ?_ ?_⟩
 ·refine RS.keep (ι:=ι) (M:=M') (fun _ _ _=>rfl) (fun b hb=>?_) (fun _ _ h=>h) (h1.tree hr)
  rcases h5.mold b hb with h|⟨id,k,_,_,hk,_⟩
  ·exact .inl h
  ·simp at hk
 ·exact ⟨h5.os,h5.tape,h5.output,h5.size,fun b hb=>h5.keep b hb (by rintro ⟨id,k,_,_,hk,_⟩;simp at hk)⟩
def a0u (fr:List Nat) (n:Nat) (k:Blk):Blk:=match fr.any (Nat.beq n),k.mode with
 |true,.live=>{ k with mode:=.froz }
 |_,_=>k
def a1q (fr:List Nat):Nat->Hp->Hp
 |_,[]=>[]
 |n,k::r=>a0u fr n k::a1q fr (n+1) r
abbrev a1j (fr:List Nat) (H:Hp):Hp:=a1q fr 0 H
theorem a42 (fr:List Nat):∀(H:Hp) (n i:Nat),(a1q fr n H)[i]? =(H[i]?).map (a0u fr (n+i))
 |[],n,i=>by simp [a1q]
 |k::r,n,0=>by simp [a1q]
 |k::r,n,i+1=>by simp [a1q,a42 fr r (n+1) i,show n+1+i=n+(i+1) by omega]
theorem N6 (fr:List Nat):∀(H:Hp) (n:Nat),(a1q fr n H).length=H.length
 |[],n=>rfl
 |k::r,n=>by simp [a1q,N6 fr r (n+1)]
theorem x4 {fr:List Nat} {H:Hp} {id:Nat} {k':Blk} (h:(a1j fr H)[id]? =some k'):∃k,H[id]? =some k∧(k'.elem,k'.mp)=(k.elem,k.mp)∧k'.size=k.size∧k'.rows=k.rows∧
 ((k'=k∧(id ∉ fr∨k.mode≠.live))∨(id ∈ fr∧k.mode=.live∧k'.mode=.froz)):=by
 rw [a42,y3] at h
 cases hk:H[id]? with
 |none=>rw [hk] at h;cases h
 |some k=>
  rw [hk] at h
  injection h with h
  refine ⟨k,rfl,?_⟩
  subst h
  unfold a0u
  split
  ·rename_i h1 h2
   obtain ⟨x,hx,hb⟩:=lbx.1 h1
   have:=n7 hb
   subst this
   exact ⟨rfl,rfl,rfl,.inr ⟨hx,h2,rfl⟩⟩
  ·rename_i h1
   refine ⟨rfl,rfl,rfl,.inl ⟨rfl,?_⟩⟩
   by_cases hm:k.mode=.live
   ·refine .inl fun hi=>h1 ?_ hm
    exact lbx.2 ⟨id,hi,by simp⟩
   ·exact .inr hm
theorem C6 {P:Program} {g:FuncId} {args args':List S} {H:Hp} {r:S} (fr:List Nat) (h:a8 P g args' [] r []) (ha:a2A H (· ∈ fr) args args') (hr:r.isT=true):a8 P g args H r (a1j fr H):=by
 refine ⟨h.1,fun w ι M vals hl hv hH hM hf=>?_⟩
 obtain ⟨hlen,hget⟩:=a2A.get ha
 let M0:Ms:=fun b=>M b∧¬∃id k cap size,id ∈ fr∧H[id]? =some k∧k.mode=.live∧ι id=some (.blk b cap size)
 have hM0:∀b,M0 b->M b:=fun b hb=>hb.1
 have:=h.2 w (fun _=>none) M0 vals (by omega) (fun j s hj=>by
  obtain ⟨x,hx,hs⟩:=hget j s hj
  refine hs.rs hH hM0 ?_ (hv j x hx)
  intro id k b cap size hp hk hd hi hb
  cases hm:k.mode with
  |live=>exact hb.2 ⟨id,k,cap,size,hp,hk,hm,hi⟩
  |froz=>exact hH.fro id k hk hm b cap size hi hb.1
  |old=>exact hd (by rw [hm];trivial)
  |dead=>exact hd (by rw [hm];trivial))
  .none (fun b hb=>hM b hb.1) (fun _ _=>rfl)
 refine Calls.mono this ?_
 rintro e w' ⟨v,rfl,ι',M',h1,h2,h3,h4,h5⟩
 have hkeep:∀b,b<w.heap.size->w'.heap[b]? =w.heap[b]?:=fun b hb=>h5.keep b hb (by rintro ⟨id,k,_,_,hk,_⟩;simp at hk)
 have hold:∀b,M0 b->M' b:=fun b hb=>by
  rcases h5.mold b hb with h|⟨id,k,_,_,hk,_⟩
  ·exact h
  ·simp at hk
 refine ⟨v,rfl,ι,M',?_,⟨?_,?_,?_,?_,?_⟩,h3,?_,?_⟩
 ·exact h1.tree hr
 ·intro id k' hk' hd l hll
  obtain ⟨k,hk,e1,e2,e3,hc⟩:=x4 hk'
  have hd':k.mode≠.dead:=by
   rcases hc with ⟨rfl,_⟩|⟨_,h,_⟩
   ·exact hd
   ·rw [h];intro h;cases h
  have hb:=hH.blk id k hk hd' l hll
  cases l with
  |nil=>show k'.rows=[];rw [e3];exact hb
  |blk b cap size=>
   obtain ⟨q1,q2,q3,q4,q5,cur,q6,q7,q8⟩:=hb
   refine ⟨by rw [e2];exact q1,q2,by rw [e3];exact q3,a0L.of (congrArg Prod.snd e1).symm q4,by rw [e3];exact q5,cur,by rw [N7 (congrArg Prod.snd e1) (congrArg Prod.fst e1) e2 (congrArg List.length e3)];exact (hkeep b (x9 q6)).trans q6,q7,fun i j c hc=>?_⟩
   rw [e3] at hc
   obtain ⟨u,hu,hr⟩:=q8 i j c hc
   refine ⟨u,hu,hr.keep (fun b hb _=>hkeep b hb) (fun b hb=>?_) (fun _ _ h=>h)⟩
   rcases h5.mnew b hb with h|h
   ·exact .inl h.1
   ·exact .inr h
 ·intro id k' hk' hl' b cap size hi
  obtain ⟨k,hk,e1,e2,e3,hc⟩:=x4 hk'
  rcases hc with ⟨rfl,hc⟩|⟨_,_,h⟩
  ·refine hold b ⟨hH.liv id k' hk hl' b cap size hi,?_⟩
   rintro ⟨id2,k2,cap2,size2,n1,n2,n3,n4⟩
   have:=hH.inj id id2 k' k2 hk n2 hl' n3 _ _ _ _ _ hi n4
   subst this
   rcases hc with hc|hc
   ·exact hc n1
   ·exact hc hl'
  ·rw [h] at hl';cases hl'
 ·intro id k' hk' hl' b cap size hi hb
  obtain ⟨k,hk,e1,e2,e3,hc⟩:=x4 hk'
  have hlt:b<w.heap.size:=by
   have hd:k.mode≠.dead:=by
    rcases hc with ⟨rfl,_⟩|⟨_,h,_⟩
    ·rw [hl'];intro h;cases h
    ·rw [h];intro h;cases h
   obtain ⟨_,_,_,_,_,cur,q6,_⟩:=hH.blk id k hk hd _ hi
   exact x9 q6
  rcases h5.mnew b hb with h|h
  ·rcases hc with ⟨rfl,_⟩|⟨n1,n2,_⟩
   ·exact hH.fro id k' hk hl' b cap size hi h.1
   ·exact h.2 ⟨id,k,cap,size,n1,hk,n2,hi⟩
  ·omega
 ·intro id id' k1 k2 hk1 hk2 hm1 hm2
  obtain ⟨k,hk,e1,e2,e3,hc⟩:=x4 hk1
  obtain ⟨k',hk',e1',e2',e3',hc'⟩:=x4 hk2
  rcases hc with ⟨rfl,_⟩|⟨_,_,h⟩
  ·rcases hc' with ⟨rfl,_⟩|⟨_,_,h⟩
   ·exact hH.inj id id' _ _ hk hk' hm1 hm2
   ·rw [h] at hm2;cases hm2
  ·rw [h] at hm1;cases hm1
 ·intro id id' k1 k2 hk1 hk2 hm1 hm2
  obtain ⟨k,hk,e1,e2,e3,hc⟩:=x4 hk1
  obtain ⟨k',hk',e1',e2',e3',hc'⟩:=x4 hk2
  rcases hc with ⟨rfl,_⟩|⟨_,_,h⟩
  ·rcases hc' with ⟨rfl,_⟩|⟨_,_,h⟩
   ·exact hH.old id id' _ _ hk hk' hm1 hm2
   ·rw [h] at hm2;cases hm2
  ·rw [h] at hm1;cases hm1
 ·rw [N6];exact hf
 ·refine ⟨h5.os,h5.tape,h5.output,h5.size,fun b hb _=>hkeep b hb,fun _ _=>rfl,?_,?_,?_,by rw [N6];exact lbS _⟩
  ·intro b hb
   rcases h5.mnew b hb with h|h
   ·exact .inl h.1
   ·exact .inr h
  ·intro b hb
   by_cases hx:∃id k cap size,id ∈ fr∧H[id]? =some k∧k.mode=.live∧ι id=some (.blk b cap size)
   ·obtain ⟨id,k,cap,size,n1,n2,n3,n4⟩:=hx
    exact .inr ⟨id,k,cap,size,n2,n3,n4⟩
   ·exact .inl (hold b ⟨hb,hx⟩)
  ·rintro b ⟨id,k',cap,size,hk',hl',hi⟩
   obtain ⟨k,hk,e1,e2,e3,hc⟩:=x4 hk'
   rcases hc with ⟨rfl,_⟩|⟨_,_,h⟩
   ·exact .inl ⟨id,k',cap,size,hk,hl',hi⟩
   ·rw [h] at hl';cases hl'
theorem D7 {len m n b:Nat} {K:Prop} (h1:len<=m) (h2:(len+n)*b<=140737488355328) (k:K):(len<=m∧(len+n)*b<=140737488355328)∧K:=⟨⟨h1,h2⟩,k⟩
theorem b5T {α:Type} {xs:List α} {a b:Nat} {K:Prop} (h:a=b) (k:K):(xs.length=0∨a=b)∧K:=⟨.inr h,k⟩
theorem b5W {rows:List (List T)} {r:List T}:(toC rows).take rows.length++toC [r]=toC (rows++[r]):=by
 rw [lbn (by simp [toC])];simp [toC]
theorem aB6 {ops:List Oper} {K:List Oper->Prop} (h:a5k ops=true) (k:K ops):b3W ops K:=⟨⟨none,rfl,h,k⟩⟩
theorem a4j {ops:List Oper} {K:List Oper->Prop} (π:List Nat) (h:a5k (J6 π ops)=true) (h2:a7t π ops.length=true) (k:K (J6 π ops)):b3W ops K:=⟨⟨some π,h2,h,k⟩⟩
theorem b7c {P:Program} {τ:Tab} {env:Env} {H':Hp} {ops:List Oper} {i:Nat} {K:Prop} (h:C8 ops i=true) (h2:R2 ops i=[]) (k:K):C8 ops i=true∧∃L,R2 ops i=L∧a0m P τ ops env H' K L:=⟨h,[],h2,k⟩
theorem a26 {P:Program} {τ:Tab} {env:Env} {H':Hp} {ops:List Oper} {i:Nat} {K:Prop} (L:List Nat) (h:C8 ops i=true) (h2:R2 ops i=L) (k:a0m P τ ops env H' K L):C8 ops i=true∧∃L,R2 ops i=L∧a0m P τ ops env H' K L:=⟨h,L,h2,k⟩
theorem b51 {τ:Tab} {H':Hp} {s0:S} {t:TypeId} {n:Nat} {b:Blk} {K:Prop} (h1:s0=.c (.ptr n 0 0)) (h2:H'[n]? =some b) (h3:ag9 τ t b) (k:K):∃n b,(s0=.c (.ptr n 0 0)∧H'[n]? =some b∧ag9 τ t b)∧K:=⟨n,b,⟨h1,h2,h3⟩,k⟩
theorem b1A {s:S} {B:List Blk} {s':S} {K:Prop} (h1:B=[]) (h2:s=s') (k:K):(B=[]∧s=s')∧K:=⟨⟨h1,h2⟩,k⟩
theorem a35 {rl xl sz ds b:Nat} {K:Prop} (h1:rl=0) (h3:(rl+xl)*b<=140737488355328) (k:K):((rl=0∨(0<xl∧sz=ds))∧(rl+xl)*b<=140737488355328)∧K:=⟨⟨.inl h1,h3⟩,k⟩
theorem G1 {α:Type} {xs:List α} {f:α->List T} {n:Int} {k:Nat} {x:α} {K:List T->Prop} (e:n=k) (hx:xs[k]? =some x) (h:K (f x)):∃row,0<=n∧(xs.map f)[n.toNat]? =some row∧K row:=by
 subst e;exact d6 hx h
theorem b9h {a b:Int} {K:Prop} (h:a≠b) (k:K):a≠b∧K:=⟨h,k⟩
theorem a1A {l h m:Int} {K:Prop} (h1:0<=l) (h2:l<=h) (h3:h<=m) (k:K):(0<=l∧l<=h∧h<=m)∧K:=⟨⟨h1,h2,h3⟩,k⟩
theorem V5 {id len:Nat} {app:Bool} {H1:Hp} {rows:List (List T)} {size:Nat} {k:Blk} (hk:H1[id]? =some k) (hd:¬k.mode.gone) (hs:k.size=size) (hc:k.rows=toC rows) (hl:len=rows.length) (hm:k.mp=false:=by rfl):
 Fin 0 (.c (.own id 0 len app)) H1 (.c (.t (.sl size .any rows))) []:=l9 (show VC H1 _ _ _ from y0 rfl hk hd hs hc hl hm)
theorem o4 {ρ:List (Option Nat)} {H:Hp} {id id' len len':Nat} (h:ρ[id']? =some (some id)) (hl:len=len'):a5Z ρ H (.c (.own id 0 len true)) (.c (.own id' 0 len' true)):=⟨h,rfl,hl,fun h=>h⟩
theorem f5 (rows:List (List T)):H4 (toC rows):=by
 intro r hr c hc
 obtain ⟨r',_,rfl⟩:=lby.1 hr
 obtain ⟨c',_,rfl⟩:=lby.1 hc
 rfl
theorem b8 {ρ:List (Option Nat)} {H:Hp} {k k':Blk} {rows:List (List T)} (h1:a1V k k'=true) (h2:(k.elem,k.mp)=(k'.elem,k'.mp)) (h3:k.size=k'.size) (h4:k.rows=toC rows) (h5:k'.rows=toC rows):a6d ρ H k k':=
 ⟨h1,h2,h3,.inl ⟨h4.trans h5.symm,h4 ▸ f5 rows⟩⟩
theorem b5t {H:Hp} {p:Nat->Prop}:∀ts:List T,VL H p (ts.map C.t) ts
 |[]=>b1p
 |t::r=>a1v (aD0 (U4 t)) (b5t r)
theorem bi1 {H:Hp} {p:Nat->Prop} (ts:List T):VS H p (.agg (ts.map C.t)) (.agg (ts.map C.t)):=ba1 (b5t ts)
theorem b1o {H:Hp} {p:Nat->Prop} {x:T}:VS H p (.c (.t x)) (.c (.t x)):=a5U (aD0 (U4 x))
end
end Go.Proofs.YtpjgpclheebhkaaGreat
