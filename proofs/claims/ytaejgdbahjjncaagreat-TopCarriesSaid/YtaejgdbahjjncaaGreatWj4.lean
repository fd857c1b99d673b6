/- Part 4. -/
import Derived.Orders
import Derived.Test.YtaejgdbahjjncaaGreatWj3
namespace Go.Proofs.YtaejgdbahjjncaaGreat
set_option linter.unusedVariables false
set_option linter.unusedSimpArgs false
section
open Go.RowKit
section
variable {P:Program} {τ:Tab} {o:Oper} {ev:Operand->S} {H:Hp}
theorem J7 {id:Nat} {kd:Blk} {H:Hp} {j:Nat} {kk:Blk} (hj:(H.set id kd)[j]? =some kk):(j=id∧kk=kd)∨(j≠id∧H[j]? =some kk):=by
 by_cases h:j=id
 ·subst h
  have hlt:j<H.length:=by have:=(lbe.1 hj).1;simpa using this
  rw [List.getElem?_set_self hlt] at hj
  injection hj with hj
  exact .inl ⟨rfl,hj.symm⟩
 ·rw [getElem?_set_ne' h] at hj
  exact .inr ⟨h,hj⟩
theorem E1.kill {w w':World} {ι:Io} {M:Ms} {H H':Hp} {s:S} {v:Value} {kd:Blk} (hd:kd.mode=.dead) (id:Nat) (h:E1 w ι M H s H' v w'):E1 w ι M H s (H'.set id kd) v w':=by
 obtain ⟨ι',M',h1,h2,h3,h4,h5⟩:=h
 refine ⟨ι',M',h1,⟨?_,?_,?_,?_,?_⟩,h3,by simpa using h4,⟨h5.os,h5.tape,h5.output,h5.size,h5.keep,h5.same,h5.mnew,h5.mold,?_,by simpa using h5.len⟩⟩
 ·intro j kk hj hm l hl
  rcases J7 hj with ⟨_,rfl⟩|⟨_,hj⟩
  ·exact absurd hd hm
  ·exact h2.blk j kk hj hm l hl
 ·intro j kk hj hm
  rcases J7 hj with ⟨_,rfl⟩|⟨_,hj⟩
  ·rw [hd] at hm;cases hm
  ·exact h2.liv j kk hj hm
 ·intro j kk hj hm
  rcases J7 hj with ⟨_,rfl⟩|⟨_,hj⟩
  ·rw [hd] at hm;cases hm
  ·exact h2.fro j kk hj hm
 ·intro j j' kk kk' hj hj' hm hm'
  rcases J7 hj with ⟨_,rfl⟩|⟨_,hj⟩
  ·rw [hd] at hm;cases hm
  ·rcases J7 hj' with ⟨_,rfl⟩|⟨_,hj'⟩
   ·rw [hd] at hm';cases hm'
   ·exact h2.inj j j' kk kk' hj hj' hm hm'
 ·intro j j' kk kk' hj hj' hm hm'
  rcases J7 hj with ⟨_,rfl⟩|⟨_,hj⟩
  ·rw [hd] at hm;cases hm
  ·rcases J7 hj' with ⟨_,rfl⟩|⟨_,hj'⟩
   ·rw [hd] at hm';cases hm'
   ·exact h2.old j j' kk kk' hj hj' hm hm'
 ·rintro b ⟨j,kk,c,sz,hj,hm,hi⟩
  rcases J7 hj with ⟨_,rfl⟩|⟨_,hj⟩
  ·rw [hd] at hm;cases hm
  ·exact h5.live b ⟨j,kk,c,sz,hj,hm,hi⟩
theorem E1.age {w w':World} {ι:Io} {M:Ms} {H H':Hp} {s:S} {v:Value} {kd:Blk} (hd:kd.mode=.old) (hr:kd.rows=[]) {id:Nat} (hid:id<H.length) (hi:ι id=some .nil) (h:E1 w ι M H s H' v w'):E1 w ι M H s (H'.set id kd) v w':=by
 obtain ⟨ι',M',h1,h2,h3,h4,h5⟩:=h
 have hi':ι' id=some .nil:=(h5.same id hid).trans hi
 refine ⟨ι',M',h1,⟨?_,?_,?_,?_,?_⟩,h3,by simpa using h4,⟨h5.os,h5.tape,h5.output,h5.size,h5.keep,h5.same,h5.mnew,h5.mold,?_,by simpa using h5.len⟩⟩
 ·intro j kk hj hm l hl
  rcases J7 hj with ⟨rfl,rfl⟩|⟨_,hj⟩
  ·rw [hi'] at hl;injection hl with hl;subst hl;exact hr
  ·exact h2.blk j kk hj hm l hl
 ·intro j kk hj hm
  rcases J7 hj with ⟨_,rfl⟩|⟨_,hj⟩
  ·rw [hd] at hm;cases hm
  ·exact h2.liv j kk hj hm
 ·intro j kk hj hm
  rcases J7 hj with ⟨_,rfl⟩|⟨_,hj⟩
  ·rw [hd] at hm;cases hm
  ·exact h2.fro j kk hj hm
 ·intro j j' kk kk' hj hj' hm hm'
  rcases J7 hj with ⟨_,rfl⟩|⟨_,hj⟩
  ·rw [hd] at hm;cases hm
  ·rcases J7 hj' with ⟨_,rfl⟩|⟨_,hj'⟩
   ·rw [hd] at hm';cases hm'
   ·exact h2.inj j j' kk kk' hj hj' hm hm'
 ·intro j j' kk kk' hj hj' hm hm' b c s' c' s'' hij hij'
  rcases J7 hj with ⟨rfl,rfl⟩|⟨_,hj⟩
  ·rw [hi'] at hij;cases hij
  ·rcases J7 hj' with ⟨_,rfl⟩|⟨_,hj'⟩
   ·rw [hd] at hm';cases hm'
   ·exact h2.old j j' kk kk' hj hj' hm hm' b c s' c' s'' hij hij'
 ·rintro b ⟨j,kk,c,sz,hj,hm,hi⟩
  rcases J7 hj with ⟨_,rfl⟩|⟨_,hj⟩
  ·rw [hd] at hm;cases hm
  ·exact h5.live b ⟨j,kk,c,sz,hj,hm,hi⟩
set_option maxHeartbeats 1000000 in
theorem a8t (hτ:B2 P τ) {c:Call} (ho:o.op=.call c) (hc:c.callee=.builtin .append) {t:TypeId} {s x:Operand} (ht:c.argTypes.toList=[t,t]) (ha:c.args.toList=[s,x])
 {e:TypeId} (hu:P.underlying t=some (.slice e)) {d:TD} (hd:τ e=some d) (h0:d.size≠0) {xr:List (List C)}
 (hx:∀(a:Act) (w:World) (ι:Io) (M:Ms),R3 w ι M ev a->j4 w ι M H->∃news,w7 w ι M d.size xr news∧Src P d.size t (a.eval x) xr.length news w∧
   (xr.length=0∨∃ad c,a.eval x=.slice (some ad) xr.length c∧∀j v,news[j]? =some v->w.cell? (ad.add j)=some v))
 {id lo len:Nat} (hs:ev s=.c (.own id lo len true)) {k:Blk} (hk:H[id]? =some k) (hlv:k.mode=.live) (hlen:len<=k.rows.length) (hbd:(len+xr.length)*(d.bytes+1)<=140737488355328)
 (hbk:k.size=d.size∧k.elem=e) {kd:Blk} {ap:Bool} (hkd:(kd.mode=.dead∧k.app=false)∨(kd=a3E k∧ap=true∧len=k.rows.length)):
 GOp P o ev H (.c (.own H.length 0 (len+xr.length) true)) ((H.set id kd)++[⟨.live,e,d.size,k.rows.take len++xr,false,ap⟩]):=by
 obtain ⟨i,hi,hsz,hby,z,hz,hzs,hone,hzl⟩:=(hτ.td _ _ hd).info
 have hidl:id<H.length:=(lbe.1 hk).1
 have htl:(k.rows.take len).length=len:=by simp;omega
 intro a w ι M he hh hm hF
 obtain ⟨news,hn1,hn2,hn3⟩:=hx a w ι M he hh
 have hr:=(he.to hs).inv_c
 generalize hv:a.eval s=v at *
 cases hr with
 |@own _ _ _ _ b cap size A cap' hι q1 q2 q3 q4 q5=>
  obtain ⟨rfl,rfl,rfl⟩:=q5 rfl
  have hbr:=hh.blk id k hk (by rw [hlv];intro h;cases h) _ hι
  obtain rfl:size=d.size:=hbr.1.symm.trans hbk.1
  obtain ⟨olds,ho1,ho2⟩:=a4x hbr (lo:=0) (len:=len) (by omega)
  rw [a6c] at ho1
  have hall:=ho1.append hn1
  have hlall:(k.rows.take len++xr).length=len+xr.length:=by rw [lbq,htl]
  by_cases hxr:xr.length=0
  ·have hxr':xr=[]:=lbF hxr
   subst hxr'
   have:news=[]:=lbF (by rw [hn1.len];simp)
   subst this
   rw [← hsz] at hn2
   have hrun:=run_append_nothing (P:=P) w t t o.type e i hu hi (some ⟨b,0,none⟩) len cap' q3 (a.eval x) hn2
   obtain ⟨r1,r2,r3,r4,r5,cur,r6,r7,r8⟩:=hbr
   refine n8 (J9 ho hc ht ha (by rw [hv];exact hrun)) ?_
   have hleft:b6M w w k kd ap b b d.size (k.rows.take len++[]).length e cur:=by
    rcases hkd with h|⟨h1,h2,h3⟩
    ·exact .inl h
    ·exact .inr ⟨h1,h2,by rw [hlall];omega,.inr ⟨rfl,cur,by rw [r6,hbk.2],rfl,fun _ _=>rfl⟩⟩
   exact E1.append hh hm hF hk hlv hι hleft rfl rfl rfl (lbQ _) (fun _ _ _=>rfl) (.inl rfl) (by rw [r6,hbk.2]) (by omega) hlall q3 r4 hall.row r7 (fun i' j c' hc'=>by
    obtain ⟨row,s1,s2⟩:=D6 hc'
    rw [R7,lbi] at s1
    split at s1
    ·exact r8 _ _ _ (z6 s1 s2)
    ·cases s1)
  ·obtain ⟨ad,c',hxe,hxc⟩:=hn3.resolve_left hxr
   by_cases hroom:len+xr.length<=cap'
   ·obtain ⟨r1,r2,r3,r4,r5,cur,r6,r7,r8⟩:=hbr
    have hfit:len*i.size+news.length<=cur.size:=by
     rw [hn1.len,r7,hsz,←I3];exact lbT _ hroom
    have hg:w.heap[b]? =some (.cells cur e (0,0)):=by rw [r6,hbk.2]
    have hrun:=run_append_room (P:=P) w t o.type e i hu hi b len cap' cur hg ad xr.length c' news (by rw [hn1.len,hsz]) hxc hn1.one hroom hfit
    refine n8 (J9 ho hc ht ha (by rw [hv,hxe];exact hrun)) ?_
    have holds:olds=cur.toList.take (len*i.size):=by
     apply Z4
     intro q
     by_cases hq:q<len*i.size
     ·have hlt:q<olds.length:=by rw [ho1.len,htl,←hsz];exact hq
      have e1:=ho2 q _ (lbf hlt)
      simp only [World.cell?,hg,a5B,D8] at e1
      rw [lbf hlt,List.getElem?_take_of_lt hq,←e1]
      simp
     ·rw [lbd (by rw [ho1.len,htl,←hsz];omega),lbd (by simp;omega)]
    have hcs:(cur.toList.take (len*i.size)++news++cur.toList.drop (len*i.size+news.length)).toArray.size=cur.size:=by
     simp only [a4p,lbq,lbs,a3Y,a1A]
     omega
    have hleft:b6M w (w.setRow b (cur.toList.take (len*i.size)++news++cur.toList.drop (len*i.size+news.length)).toArray) k kd ap b b d.size (k.rows.take len++xr).length e (cur.toList.take (len*i.size)++news++cur.toList.drop (len*i.size+news.length)).toArray:=by
     rcases hkd with h|⟨h1,h2,h3⟩
     ·exact .inl h
     ·refine .inr ⟨h1,h2,by rw [hlall];omega,.inr ⟨rfl,cur,hg,hcs,fun q hq=>?_⟩⟩
      rw [← h3,←hsz] at hq
      rw [List.getElem?_toArray,lbD,lbb (by simp;omega),List.getElem?_take_of_lt hq]
      simp
    refine E1.append (cur:=(cur.toList.take (len*i.size)++news++cur.toList.drop (len*i.size+news.length)).toArray) hh hm hF hk hlv hι hleft rfl rfl rfl (by simp) (fun b' _ hb'=>setRow_other w b b' _ hb') (.inl rfl) (setRow_heap w b cur _ e _ hg) (by omega) hlall hroom r4 hall.row ?_ (fun i' j c'' hc''=>?_)
    ·simp only [a4p,lbq,lbs,a3Y,a1A]
     omega
    ·obtain ⟨u,s1,s2⟩:=hall.cell _ _ _ hc''
     refine ⟨u,aG5 (rest:=cur.toList.drop (len*i.size+news.length)) ?_ s1,s2⟩
     rw [holds]
   ·obtain ⟨cap2,cur,r1,r2,r3,r4,r5⟩:=a1Q (ty:=o.type) hτ hu hd h0 ho1 hn1 htl (base:=some ⟨b,0,none⟩) (sCap:=cap') (U3 (by rw [ho1.len,htl]) (.inr ⟨b,0,rfl,fun q u hq=>by have:=ho2 q u hq;simpa using this⟩)) hn2 (by omega) (by rw [htl];exact hbd)
    refine n8 (J9 ho hc ht ha (by rw [hv];exact r1)) ?_
    have hblt:b<w.heap.size:=A9 hbr.2.2.2.2.2.choose_spec.1
    have hleft:b6M w (w.drew.alloc (.cells cur e)) k kd ap b w.heap.size d.size (k.rows.take len++xr).length e cur:=by
     rcases hkd with h|⟨h1,h2,h3⟩
     ·exact .inl h
     ·exact .inr ⟨h1,h2,by rw [hlall];omega,.inl ⟨by omega,heap_alloc_old w.drew _ hblt⟩⟩
    exact E1.append hh hm hF hk hlv hι hleft rfl rfl rfl (by simp) (fun b' hb' _=>heap_alloc_old w.drew _ hb') (.inr (lbQ _)) (heap_alloc_new w.drew _) (by omega) hlall r3 r4 hall.row r2 r5
 |nil hι=>
  rename_i A
  have hbr:=hh.blk id k hk (by rw [hlv];intro h;cases h) _ hι
  have hkr:k.rows=[]:=hbr
  have hset:∀nb:Blk,(H.set id kd)++[nb]=(H++[nb]).set id kd:=fun nb=>by
   rw [av6 _ _ hidl]
  rw [hset,hkr]
  have hfr:∀j,j<[N4 e d.size xr false].length->ι (H.length+j)=none:=fun j _=>hF _ (by omega)
  have hkill:∀{w':World} {s:S} {H':Hp} {v:Value},E1 w ι M H s H' v w'->E1 w ι M H s (H'.set id kd) v w':=fun h=>by
   rcases hkd with ⟨h1,_⟩|⟨rfl,_,_⟩
   ·exact E1.kill h1 id h
   ·exact E1.age (kd:=a3E k) rfl hkr hidl hι h
  by_cases hxr:xr=[]
  ·subst hxr
   have:news=[]:=lbF (by rw [hn1.len];simp)
   subst this
   rw [← hsz] at hn2
   have hrun:=run_append_nothing (P:=P) w t t o.type e i hu hi A 0 0 (lbQ _) (a.eval x) hn2
   refine n8 (J9 ho hc ht ha (by rw [hv];exact hrun)) ?_
   exact hkill (H7.gpost hh hm hF H7.nil)
  ·have hpos:0<xr.length:=a5Q.2 hxr
   obtain ⟨cap,cur,q1,q2,q3,q4,q5⟩:=a1Q (ty:=o.type) hτ hu hd h0 (w7.nil w ι M d.size) hn1 rfl (base:=A) (sLen:=0) (sCap:=0) (U3 (by simp) (.inl rfl)) hn2 (by simp;omega) (by simpa using hbd)
   refine n8 (J9 ho hc ht ha (by rw [hv];exact q1)) ?_
   simp only [K5,D8,af2,List.take_nil] at q3 q5 ⊢
   exact hkill (H7.gpost hh hm hF (H7.new rfl rfl rfl rfl (hfr 0 (by simp)) (by omega) q3 q4 hn1.row q2 q5 fun ι' M' hi'=>a0b hi' q3 q4))
set_option maxHeartbeats 1000000 in
theorem aj5 (hτ:B2 P τ) {c:Call} (ho:o.op=.call c) (hc:c.callee=.builtin .append) {t:TypeId} {s x:Operand} (ht:c.argTypes.toList=[t,t]) (ha:c.args.toList=[s,x])
 {Kq:S->List Blk->Prop} {Kg:S->Hp->Prop} (h:a97 τ ev H H.length t s x Kq Kg):(∃ s B,Kq s B∧QOp P o ev H s B)∨(∃ s H',Kg s H'∧GOp P o ev H s H'):=by
 unfold a97 at h
 split at h
 rotate_left
 ·exact h.elim
 rename_i e _ _ _ _ hte
 have hu:=J0 hτ hte
 split at h
 rotate_left
 ·exact h.elim
 rename_i d hd
 obtain ⟨hb,h⟩:=V6 h
 have h0:d.size≠0:=by intro e;simp [e] at hb
 obtain ⟨xr,h,hx⟩:=aJ7 hτ hu h
 obtain ⟨i,hi,hsz,hby,z,hz,hzs,hone,hzl⟩:=(hτ.td _ _ hd).info
 split at h
 ·rename_i sz rows hs
  obtain ⟨hbd,h⟩:=h
  refine .inl ⟨_,_,h,fun a w ι M he hh hm hf=>?_⟩
  obtain ⟨news,hn1,hn2,_⟩:=hx a w ι M he hh
  have hr:=(he.to hs).inv_t
  generalize hv:a.eval s=v at *
  cases hr with
  |@sl _ _ _ b off cap A f hrow hcap hmax hk hnil hA hc' hr=>
   obtain ⟨rfl,rfl,rfl⟩:=hnil rfl
   by_cases hxr:xr=[]
   ·subst hxr
    have:news=[]:=lbF (by rw [hn1.len];simp)
    subst this
    rw [← hsz] at hn2
    have hrun:=run_append_nothing (P:=P) w t t o.type e i hu hi none 0 0 (lbQ _) (a.eval x) hn2
    exact n8 (J9 ho hc ht ha (by rw [hv];exact hrun)) H7.nil
   ·have hpos:0<xr.length:=a5Q.2 hxr
    obtain ⟨cap,cur,q1,q2,q3,q4,q5⟩:=a1Q (ty:=o.type) hτ hu hd h0 (w7.nil w ι M d.size) hn1 rfl (base:=none) (sLen:=0) (sCap:=0) (U3 (by simp) (.inl rfl)) hn2 (by omega) (by simpa using hbd)
    refine n8 (J9 ho hc ht ha (by rw [hv];exact q1)) ?_
    simp only [D8,af2] at q3 q5 ⊢
    exact H7.new rfl rfl rfl rfl (hf 0 (by simp)) (by omega) q3 q4 hn1.row q2 q5 fun ι' M' hi'=>a0b hi' q3 q4
 ·rename_i sz rows hs
  obtain ⟨⟨hcd,hbd⟩,h⟩:=h
  refine .inl ⟨_,_,h,fun a w ι M he hh hm hf=>?_⟩
  obtain ⟨news,hn1,hn2,_⟩:=hx a w ι M he hh
  have hr:=(he.to hs).inv_t
  generalize hv:a.eval s=v at *
  cases hr with
  |@sl _ _ _ b off cap A f hrow hcap hmax hk hnil hA hc' hr=>
   obtain rfl:=hk rfl
   by_cases hxr:xr=[]
   ·subst hxr
    have hr0:rows=[]:=by
     rcases hcd with h|⟨h,_⟩
     ·exact lbF h
     ·simp at h
    subst hr0
    have:news=[]:=lbF (by rw [hn1.len];simp)
    subst this
    rw [← hsz] at hn2
    have hrun:=run_append_nothing (P:=P) w t t o.type e i hu hi A 0 0 (lbQ _) (a.eval x) hn2
    exact n8 (J9 ho hc ht ha (by rw [hv];exact hrun)) H7.nil
   ·have hpos:0<xr.length:=a5Q.2 hxr
    have hbase:∃vals,w7 w ι M d.size (toC rows) vals∧(vals=[]∨∃b off,A=some ⟨b,off,none⟩∧∀q u,vals[q]? =some u->w.cell? ⟨b,off+q,none⟩=some u):=by
     by_cases hr0:rows=[]
     ·subst hr0;exact ⟨[],w7.nil w ι M d.size,.inl rfl⟩
     ·have hsz':sz=d.size:=by
       rcases hcd with h|⟨_,h⟩
       ·exact absurd (lbF h) hr0
       ·exact h
      subst hsz'
      obtain ⟨_,vals,h1,h2⟩:=aN0 (ι:=ι) (RT.sl f hrow hcap hmax hk hnil hA hc' hr)
      exact ⟨vals,h1,.inr (h2 hr0)⟩
    obtain ⟨vals,hv1,hv2⟩:=hbase
    have hl:(toC rows).length=rows.length:=by simp [toC]
    obtain ⟨cap,cur,q1,q2,q3,q4,q5⟩:=a1Q (ty:=o.type) hτ hu hd h0 hv1 hn1 hl (base:=A) (sCap:=rows.length) (U3 (by rw [hv1.len,hl]) hv2) hn2 (by omega) (by rw [hl];exact hbd)
    refine n8 (J9 ho hc ht ha (by rw [hv];exact q1)) ?_
    exact H7.new rfl rfl rfl rfl (hf 0 (by simp)) (by omega) (by rw [lbq,hl];exact q3) q4 (hv1.append hn1).row q2 q5 fun ι' M' hi'=>a0b hi' q3 q4
 ·rename_i id lo len hs
  obtain ⟨k,hk,h⟩:=L7 h
  obtain ⟨hbk,h⟩:=B6 h
  have hbk:k.size=d.size∧k.elem=e:=by simpa using hbk
  obtain ⟨hlv,⟨hap,⟨hlen,hbd⟩,h⟩|⟨hap,⟨hlen,hbd⟩,h⟩⟩:=ax4 h
  ·rw [J6,a2F] at h
   have:=a8t hτ ho hc ht ha hu hd h0 hx hs hk hlv (Nat.le_of_eq hlen) hbd hbk (kd:=a3E k) (ap:=true) (.inr ⟨rfl,rfl,hlen⟩)
   rw [hlen,lbn (lbQ _)] at this
   rw [hlen] at h
   exact .inr ⟨_,_,h,this⟩
  ·rw [J6,a2F] at h
   exact .inr ⟨_,_,h,a8t hτ ho hc ht ha hu hd h0 hx hs hk hlv hlen hbd hbk (.inl ⟨rfl,hap⟩)⟩
 ·exact h.elim
theorem aj9 {z:Array Value} {size n i j:Nat} (hz:z.size=size) (hi:i<n) (hj:j<size):(Builtin.zeroCells z n)[i*size+j]? =z[j]?:=by
 rw [← a2i hz hi hj,←hz];rfl
theorem a8J {w:World} {t tx ty e:TypeId} {k:IntKind} {i:TypeInfo} {z:Value} (ht:P.underlying t=some (.slice e)) (hx:P.underlying tx=some (.int k)) (hi:P.info? e=some i) (hz:i.zero=some z) (h0:i.size≠0)
 {m:Nat} (h1:1<=m) (hb:m*(i.bytes+1)<=140737488355328):
 (Builtin.append_ #[t,tx] ty #[.slice none 0 0,.int .i64 m]).run P w=
   .ok (.slice (some ⟨w.heap.size,0,none⟩) m (grownCap w m 0 e)) (w.drew.alloc (.cells (Builtin.zeroCells z.cells m++Builtin.zeroCells z.cells (grownCap w m 0 e - m)) e)):=by
 have hb1:m*i.bytes<=140737488355328:=lbR (Nat.mul_le_mul_left _ (Nat.le_succ _)) hb
 have hb2:m<=140737488355328:=lbR (a8a _ (Nat.succ_pos i.bytes)) hb
 have hfit:=growslice_fits (need:=m) (old:=0) (by omega) hb1
 have h48':¬(281474976710656<Builtin.nextslicecap m 0*i.bytes):=by omega
 have h63':¬(9223372036854775807<(m:Int)):=by omega
 have hbi:(m:Int)*(i.bytes:Int)<=140737488355328:=by
  have:=Int.ofNat_le.2 hb1
  simpa using this
 have h47:¬(281474976710656<(m:Int)*(i.bytes:Int)):=by omega
 have hw:IntKind.i64.wrap (m:Int)=m:=IntWalk.i64_in m ⟨by omega,by omega⟩
 have hm0:¬m=0:=by omega
 have hneg:¬((m:Int)<0):=by omega
 simp [asIntOf,Builtin.append_,run_underlying ht,run_underlying hx,sizeOf,typeInfo,zeroValue,hi,hz,hw,h0,hm0,hneg,h47,h63',h48',Question.forced,Builtin.firstCells,newRow,grownCap,asInt]
 intro h
 rcases Nat.mul_eq_zero.1 h with h|h<;>omega
theorem aH7 (hτ:B2 P τ) {c:Call} (ho:o.op=.call c) (hc:c.callee=.builtin .append) {t t':TypeId} {s x:Operand} (ht:c.argTypes.toList=[t,t']) (ha:c.args.toList=[s,x])
 {Kq:S->List Blk->Prop} (h:b11 τ ev H.length t t' s x Kq):∃s B,Kq s B∧QOp P o ev H s B:=by
 unfold b11 at h
 split at h
 rotate_left
 ·exact h.elim
 rename_i e _ _ _ _ k _ _ _ _ hte htx
 have hu:=J0 hτ hte
 have hux:P.underlying t'=some (.int k):=by
  obtain ⟨u,h1,h2⟩:=(hτ.td _ _ htx).und
  obtain ⟨_,rfl⟩:=h2
  exact h1
 split at h
 rotate_left
 ·exact h.elim
 rename_i d hd
 obtain ⟨hb,h⟩:=V6 h
 have h0:d.size≠0:=by intro e;simp [e] at hb
 obtain ⟨i,hi,hsz,hby,z,hz,hzs,hone,hzl⟩:=(hτ.td _ _ hd).info
 split at h
 rotate_left
 ·exact h.elim
 rename_i sz rows m hs hx
 obtain ⟨⟨hm1,hbd⟩,h⟩:=h
 rw [a0u] at h
 refine ⟨_,_,h,fun a w ι M he hh hm hf=>?_⟩
 have hr:=(he.to hs).inv_t
 have hxv:=(he.to hx).inv_atm
 generalize hv:a.eval s=v at *
 cases hr with
 |@sl _ _ _ b off cap A f hrow hcap hmax hk hnil hA hc' hr=>
  obtain ⟨rfl,rfl,rfl⟩:=hnil rfl
  obtain ⟨q,rfl⟩:∃q:Nat,m=q:=⟨m.toNat,by omega⟩
  simp only [lbX] at hbd
  have hrun:=a8J (P:=P) (w:=w) (ty:=o.type) hu hux hi hz (by omega) (m:=q) (by omega) (by rw [hby];exact hbd)
  have hzc:z.cells.size=i.size:=by rw [hsz,←hzl,←hzs];simp
  have hb2:q<=140737488355328:=lbR (a8a _ (Nat.succ_pos d.bytes)) hbd
  have hge:=grownCap_ge w q 0 e
  have hmx:=grownCap_le_maxLen w q 0 e (aW2 hb2)
  obtain ⟨ha1,ha2⟩:=a2e.const (w:=w) (ι:=ι) (M:=M) (vs:=z.cells) (by rw [hzs];exact hone)
  rw [hzs] at ha1 ha2
  refine n8 (w':=w.drew.alloc (.cells (Builtin.zeroCells z.cells q++Builtin.zeroCells z.cells (grownCap w q 0 e - q)) e)) (v:=.slice (some ⟨w.heap.size,0,none⟩) q (grownCap w q 0 e)) ?_ ?_
  ·obtain ⟨callee,args,argTypes⟩:=c
   simp only at hc ht ha
   subst hc
   obtain rfl:argTypes=#[t,t']:=by apply Array.ext';simpa using ht
   obtain rfl:args=#[s,x]:=by apply Array.ext';simpa using ha
   simp [execOp,ho,resolve,invoke,builtin,hv,hxv,hrun]
  ·simp only [lbX]
   refine H7.new (cap:=grownCap w q 0 e) rfl rfl rfl rfl (hf 0 (by simp)) (by omega) (by simpa using hge) hmx ?_ ?_ ?_ fun ι' M' hi'=>a0b hi' hge hmx
   ·intro r hr
    rw [(a8g.1 hr).2,←ha1,hzc,hsz]
   ·rw [Array.size_append,size_zeroCells,size_zeroCells,hzc,hsz,←I3]
    congr 1;omega
   ·intro i' j c' hij
    obtain ⟨row,hr1,hr2⟩:=D6 hij
    rw [lbk] at hr1
    split at hr1
    ·rename_i hlt
     injection hr1 with hr1
     subst hr1
     obtain ⟨u,q1,q2⟩:=ha2 j c' hr2
     have hj:j<i.size:=by rw [← hzc];exact (lb4.1 q1).1
     refine ⟨u,?_,q2⟩
     have hlt2:i'*d.size+j<q*d.size:=by
      have:i'*d.size+d.size<=q*d.size:=by rw [← lbU];exact lbT _ hlt
      omega
     rw [Array.getElem?_append_left (by rw [size_zeroCells,hzc,hsz];exact hlt2),←hsz,aj9 hzc hlt hj,q1]
    ·cases hr1
theorem aO6 (hτ:B2 P τ) {c:Call} (ho:o.op=.call c) (hc:c.callee=.builtin .cap) {t:TypeId} {x:Operand} (ht:c.argTypes.toList=[t]) (ha:c.args.toList=[x]) {K:S->Prop}
 (h:b93 τ t (ev x) K):∃s,K s∧QOp P o ev H s []:=by
 obtain ⟨callee,args,argTypes⟩:=c
 simp only at hc ht ha
 subst hc
 obtain rfl:argTypes=#[t]:=by apply Array.ext';simpa using ht
 obtain rfl:args=#[x]:=by apply Array.ext';simpa using ha
 unfold b93 at h
 split at h
 ·rename_i e _ _ _ _ hte
  have hu:=J0 hτ hte
  split at h
  ·rename_i sz rows hx
   refine ⟨_,h,j8 fun a w ι M he hh=>⟨.int .i64 0,?_,.int⟩⟩
   have hr:=(he.to hx).inv_t
   generalize hv:a.eval x=v at *
   cases hr with
   |@sl _ _ _ b off cap A f hrow hcap hmax hk hnil hA hc' hr=>
    obtain ⟨rfl,rfl,rfl⟩:=hnil rfl
    simp [execOp,ho,resolve,invoke,builtin,Builtin.cap_,hv,run_underlying hu,goInt]
  ·exact h.elim
 ·exact h.elim
end
end
section
open Go.RowKit
section
variable {P:Program} {τ:Tab} {o:Oper} {ev:Operand->S} {H:Hp}
theorem E1.store {w w':World} {ι:Io} {M:Ms} (hH:j4 w ι M H) (hM:MB w M) (hF:a0R ι H.length) {id b cap size:Nat} {k k':Blk} (hk:H[id]? =some k) (hl:k.mode=.live) (hap:k.app=false)
 (hi:ι id=some (.blk b cap size)) (hl':k'.mode=.live) (hos:w'.os=w.os) (htape:w'.tape=w.tape) (hout:w'.output=w.output)
 (hsize:w'.heap.size=w.heap.size) (hkeep:∀b',b'≠b->w'.heap[b']? =w.heap[b']?) (hnew:E7 w' ι M k' (.blk b cap size)):
 E1 w ι M H .junk (H.set id k') undef w':=by
 have hMb:M b:=hH.liv id k hk hl b cap size hi
 have hget:∀j kk,(H.set id k')[j]? =some kk->(j=id∧kk=k')∨(j≠id∧H[j]? =some kk):=fun j kk hj=>J7 hj
 refine ⟨ι,M,.junk,⟨?_,?_,?_,?_,?_⟩,fun b' h=>by rw [hsize];exact hM b' h,by simpa using hF,⟨hos,htape,hout,by omega,?_,fun _ _=>rfl,fun b' h=>.inl h,fun b' h=>.inl h,?_,by simp⟩⟩
 ·intro j kk hj hd l hl2
  rcases hget j kk hj with ⟨rfl,rfl⟩|⟨h1,h2⟩
  ·rw [hi] at hl2;injection hl2 with hl2;subst hl2;exact hnew
  ·exact hH.other hk hl hi hap (fun b' _ h=>hkeep b' h) (fun b' h=>.inl h) (fun _ _ h=>h) j kk h1 h2 hd l hl2
 ·intro j kk hj hm
  rcases hget j kk hj with ⟨rfl,rfl⟩|⟨h1,h2⟩
  ·exact hH.liv j k hk hl
  ·exact hH.liv j kk h2 hm
 ·intro j kk hj hm
  rcases hget j kk hj with ⟨rfl,rfl⟩|⟨h1,h2⟩
  ·rw [hl'] at hm;cases hm
  ·exact hH.fro j kk h2 hm
 ·intro j j' kk kk' hj hj' hm hm'
  rcases hget j kk hj with ⟨rfl,rfl⟩|⟨h1,h2⟩<;>rcases hget j' kk' hj' with ⟨rfl,rfl⟩|⟨h1',h2'⟩
  ·intros;rfl
  ·exact hH.inj _ _ _ _ hk h2' hl hm'
  ·exact hH.inj _ _ _ _ h2 hk hm hl
  ·exact hH.inj _ _ _ _ h2 h2' hm hm'
 ·intro j j' kk kk' hj hj' hm hm' b' c s c' s' hij hij'
  rcases hget j kk hj with ⟨rfl,rfl⟩|⟨h1,h2⟩
  ·rw [hl'] at hm;cases hm
  ·rcases hget j' kk' hj' with ⟨rfl,rfl⟩|⟨h1',h2'⟩
   ·have:=(hH.old _ _ _ _ h2 hk hm hl _ _ _ _ _ hij hij').1
    rw [hap] at this;cases this
   ·exact hH.old _ _ _ _ h2 h2' hm hm' _ _ _ _ _ hij hij'
 ·intro b' _ hnl
  exact hkeep b' (by rintro rfl;exact hnl ⟨id,k,cap,size,hk,hl,hi⟩)
 ·rintro b' ⟨j,kk,c',s',hj,hm,hi'⟩
  rcases hget j kk hj with ⟨rfl,rfl⟩|⟨h1,h2⟩
  ·exact .inl ⟨j,k,c',s',hk,hl,hi'⟩
  ·exact .inl ⟨j,kk,c',s',h2,hm,hi'⟩
theorem a8X {t:TypeId} {d:TD} (h:at6 P t d) {w:World} {b off:Nat} {e:TypeId} {cur:Array Value} {v:Value} (hg:w.heap[b]? =some (.cells cur e (0,0))) (hs:v.cells.size=d.size)
 (hl:off+v.cells.size<=cur.size) (h1:∀u ∈ v.cells.toList,u.oneCell'=true):
 (Instr.storeAt t (.pointer (some ⟨b,off,none⟩)) v).run P w=.ok () (w.setRow b (cur.toList.take off++v.cells.toList++cur.toList.drop (off+v.cells.size)).toArray):=by
 have:=run_storeCells_at P b off e v.cells.toList 0 cur w hg (by simpa using hl) h1
 simp only [a7v,a1A] at this
 simp [Instr.storeAt,Instr.sureAddr,storeVar,a2N h,hs,this]
theorem au1 (hτ:B2 P τ) {t:TypeId} {x v:Operand} (ho:o.op=.store t x v) {K:Hp->Prop} (h:az8 τ ev H t x v K):∃H',K H'∧GOp P o ev H .junk H':=by
 unfold az8 at h
 split at h
 ·exact h.elim
 rename_i d hd
 split at h
 rotate_left
 ·exact h.elim
 rename_i id r o' hx
 obtain ⟨k,hk,h⟩:=L7 h
 obtain ⟨hlv,hap,h⟩:=a37 h
 obtain ⟨cs,h,hcs⟩:=a1m h
 obtain ⟨hsz,h⟩:=B6 h
 have hsz:cs.length=d.size:=by simpa using hsz
 obtain ⟨row,hrow,h,hbox⟩:=aJ5 h
 by_cases hne:cs=[]
 · -- nothing is stored
   subst hne
   have hov:∀{kk:List C->Prop},a3N o' [] row kk->kk row:=fun {kk} hh=>by cases row<;>cases o'<;>exact hh
   have h:=hov h
   have hsame:∀rows,w6 k rows=k↔rows=k.rows:=fun rows=>⟨fun e=>by rw [← congrArg Blk.rows e];rfl,fun e=>by subst e;cases k;rfl⟩
   have hset:H.set id k=H:=by
    apply Z4
    intro j
    by_cases hj:j=id
    ·subst hj;rw [List.getElem?_set_self (lbe.1 hk).1,hk]
    ·rw [getElem?_set_ne' hj]
   have hK:K H:=by
    split at h
    ·rename_i hb
     rw [J6,(hsame _).2 (by rw [(hbox hb).1]),hset] at h
     exact h
    ·rw [J6,(hsame _).2 (by
      apply Z4
      intro j
      by_cases hj:j=r
      ·subst hj;rw [List.getElem?_set_self (lbe.1 hrow).1,hrow]
      ·rw [List.getElem?_set_ne (Ne.symm hj)]),hset] at h
     exact h
   refine ⟨H,hK,fun a w ι M he hh hm hF=>?_⟩
   have hv:=(he v).cells hcs
   generalize hvx:a.eval x=vx
   have hr:=(he.to hx).inv_c
   rw [hvx] at hr
   cases hr with
   |@ptr _ _ _ b cap size hi=>
    have hbr:=hh.blk id k hk (by rw [hlv];intro h;cases h) _ hi
    obtain ⟨q1,q2,q3,q4,q5,cur,q6,q7,q8⟩:=hbr
    have hc0:(a.eval v).cells.toList=[]:=lbF (by simpa using hv.1)
    have hrun:(Instr.storeAt t (.pointer (some ⟨b,r*size+o',none⟩)) (a.eval v)).run P w=.ok () w:=by
     simp [Instr.storeAt,Instr.sureAddr,storeVar,a2N (hτ.td t d hd),hc0,storeCells,show (a.eval v).cells.size=d.size by rw [hv.1];exact hsz]
    refine am2 (by simp only [execOp,ho,hvx,Sem.run_bind,hrun,Result.andThen_ok];rfl) ⟨ι,M,.junk,hh,hm,hF,a3v.refl w ι M H⟩
 ·obtain ⟨hlen,h'⟩:=a73 h hne
  clear h
  revert h'
  intro h
  have hH':∃rows',K (H.set id (w6 k rows'))∧rows'.length=k.rows.length∧rows'=k.rows.set r (row.take o'++cs++row.drop (o'+cs.length)):=by
   split at h
   ·rename_i hb
    rw [J6] at h
    obtain ⟨e1,e2⟩:=hbox hb
    exact ⟨_,h,by rw [e1];rfl,by rw [e1,e2];rfl⟩
   ·rw [J6] at h
    exact ⟨_,h,by simp,rfl⟩
  obtain ⟨rows',hK,hrl,hrows'⟩:=hH'
  refine ⟨_,hK,fun a w ι M he hh hm hF=>?_⟩
  have hv:=(he v).cells hcs
  generalize hvx:a.eval x=vx
  have hr:=(he.to hx).inv_c
  rw [hvx] at hr
  cases hr with
  |@ptr _ _ _ b cap size hi=>
   have hbr:=hh.blk id k hk (by rw [hlv];intro h;cases h) _ hi
   have hMb:=hh.liv id k hk hlv _ _ _ hi
   obtain ⟨q1,q2,q3,q4,q5,cur,q6,q7,q8⟩:=hbr
   have hrlen:row.length=size:=q5 row (lbm hrow)
   have hr0:r<k.rows.length:=(lbe.1 hrow).1
   have hmul:r*size+size<=cap*size:=by rw [← lbU];exact lbT _ (by omega)
   have hfit:r*size+o'+(a.eval v).cells.size<=cur.size:=by rw [hv.1,q7];omega
   have hrun:=a8X (hτ.td t d hd) (b:=b) (off:=r*size+o') q6 (by rw [hv.1];exact hsz) hfit hv.one
   refine am2 (by simp only [execOp,ho,hvx,Sem.run_bind,hrun,Result.andThen_ok];rfl) ?_
   have hkeep:∀b',b'≠b->(w.setRow b (cur.toList.take (r*size+o')++(a.eval v).cells.toList++cur.toList.drop (r*size+o'+(a.eval v).cells.size)).toArray).heap[b']? =w.heap[b']?:=fun b' hb'=>setRow_other w b b' _ hb'
   refine E1.store hh hm hF hk hlv hap hi (by exact hlv) rfl rfl rfl (by simp) hkeep ⟨q1,q2,by show rows'.length<=cap;omega,q4,?_,_,setRow_heap w b cur _ k.elem _ q6,?_,?_⟩
   ·show ∀r ∈ rows',r.length=size
    rw [hrows']
    intro r' hr'
    rcases b4r hr' with h|rfl
    ·exact q5 r' h
    ·simp;omega
   ·simp only [a4p,lbq,lbs,a3Y,a1A]
    omega
   ·intro i j c hc
    obtain ⟨row',s1,s2⟩:=D6 hc
    have s1':rows'[i]? =some row':=s1
    rw [hrows'] at s1'
    have keepc:∀{c:C} {u:Value},RC w ι M c u->RC (w.setRow b (cur.toList.take (r*size+o')++(a.eval v).cells.toList++cur.toList.drop (r*size+o'+(a.eval v).cells.size)).toArray) ι M c u:=
     fun h=>h.keep (fun b' _ hb'=>hkeep b' (by rintro rfl;exact hb' hMb)) (fun b' h=>.inl h) (fun _ _ h=>h)
    have hlt:i<k.rows.length:=by have:=(lbe.1 s1).1;rw [← hrl];exact this
    by_cases hir:i=r
    ·subst hir
     rw [List.getElem?_set_self hlt] at s1'
     injection s1' with s1'
     subst s1'
     have hj:j<size:=by have:=(lbe.1 s2).1;simp at this;omega
     by_cases hj1:j<o'
     ·rw [lbD,lbb (by simp;omega),List.getElem?_take_of_lt hj1] at s2
      obtain ⟨u,t1,t2⟩:=q8 i j c (z6 hrow s2)
      refine ⟨u,?_,keepc t2⟩
      rw [List.getElem?_toArray,lbD,lbb (by simp;omega),List.getElem?_take_of_lt (by omega)]
      simpa using t1
     ·by_cases hj2:j<o'+cs.length
      ·rw [lbb (by simp;omega),lbc (by simp;omega)] at s2
       rw [show (row.take o').length=o' by simp;omega] at s2
       obtain ⟨u,t1,t2⟩:=hv.2 _ _ s2
       refine ⟨u,?_,keepc t2⟩
       have hvl:=hv.1
       rw [List.getElem?_toArray,lbb (by simp;omega),lbc (by simp;omega)]
       rw [show (cur.toList.take (i*size+o')).length=i*size+o' by simp;omega,show i*size+j - (i*size+o')=j - o' by omega]
       simpa using t1
      ·rw [lbc (by simp;omega),lbj] at s2
       rw [show (row.take o'++cs).length=o'+cs.length by simp;omega,show o'+cs.length+(j - (o'+cs.length))=j by omega] at s2
       obtain ⟨u,t1,t2⟩:=q8 i j c (z6 hrow s2)
       refine ⟨u,?_,keepc t2⟩
       have hvl:=hv.1
       rw [List.getElem?_toArray,lbc (by simp;omega),lbj]
       rw [show (cur.toList.take (i*size+o')++(a.eval v).cells.toList).length=i*size+o'+(a.eval v).cells.size by simp;omega,
        show i*size+o'+(a.eval v).cells.size+(i*size+j - (i*size+o'+(a.eval v).cells.size))=i*size+j by omega]
       simpa using t1
    ·rw [List.getElem?_set_ne (Ne.symm hir)] at s1'
     obtain ⟨u,t1,t2⟩:=q8 i j c (z6 s1' s2)
     refine ⟨u,?_,keepc t2⟩
     have hj:j<size:=by rw [← q5 row' (lbm s1')];exact (lbe.1 s2).1
     have hvl:=hv.1
     rcases aa1 hir with hlt'|hgt'
     ·have:i*size+size<=r*size:=by rw [← lbU];exact lbT _ hlt'
      rw [List.getElem?_toArray,lbD,lbb (by simp;omega),List.getElem?_take_of_lt (by omega)]
      simpa using t1
     ·have:r*size+size<=i*size:=by rw [← lbU];exact lbT _ hgt'
      rw [List.getElem?_toArray,lbc (by simp;omega),lbj]
      rw [show (cur.toList.take (r*size+o')++(a.eval v).cells.toList).length=r*size+o'+(a.eval v).cells.size by simp;omega,
       show r*size+o'+(a.eval v).cells.size+(i*size+j - (r*size+o'+(a.eval v).cells.size))=i*size+j by omega]
      simpa using t1
theorem am3 {size:Nat}:∀(parts:List (Nat × S)) (rows:List (List C)) {k:List (List C)->Prop},aF1 size rows parts k->∃c,k c∧aF1 size rows parts (·=c)
 |[],rows,k,h=>⟨rows,h,rfl⟩
 |(i,s)::rest,rows,k,h=>by
  obtain ⟨cs,h,hcs⟩:=a5p h
  obtain ⟨hb,h⟩:=B6 h
  rw [J6] at h
  obtain ⟨c,h1,h2⟩:=am3 rest _ h
  refine ⟨c,h1,a3D hcs ?_⟩
  rintro _ rfl
  simp only [hb,cond_true]
  rw [J6]
  exact h2
theorem ar5 {w:World} {ι:Io} {M:Ms} {a:Act} (he:R3 w ι M ev a) {size:Nat} (h0:0<size):∀(parts:List (Nat × Operand)) (rows:List (List C)) (arr:Array Value) {k:List (List C)->Prop},
 w7 w ι M size rows arr.toList->aF1 size rows (parts.map fun p=>(p.1,ev p.2)) k->
 ∃rows',k rows'∧rows'.length=rows.length∧∃r,Instr.fill (fun i=>some (i*size,size)) arr (parts.map fun p=>(p.1,a.eval p.2))=some r∧w7 w ι M size rows' r.toList
 |[],rows,arr,k,hr,h=>⟨rows,h,rfl,arr,rfl,hr⟩
 |(i,x)::rest,rows,arr,k,hr,h=>by
  obtain ⟨cs,h,hcs⟩:=a1m h
  obtain ⟨hb,h⟩:=B6 h
  rw [J6] at h
  have hb:cs.length=size∧i<rows.length:=by simpa [R5] using hb
  have hv:=(he x).cells hcs
  have hlen:=hr.len
  rw [a1A] at hlen
  have hmul:i*size+size<=rows.length*size:=by rw [← lbU];exact lbT _ hb.2
  obtain ⟨r0,hr0,hs0,hm0⟩:=aa2 (i*size) (a.eval x).cells arr (by rw [hv.1,hb.1,hlen];exact hmul)
  have hok:w7 w ι M size (rows.set i cs) r0.toList:=by
   refine ⟨by rw [a1A,hs0,hlen,List.length_set],?_,?_⟩
   ·intro r hr'
    rcases b4r hr' with h|rfl
    ·exact hr.row r h
    ·exact hb.1
   ·intro i' j c hc
    obtain ⟨row,s1,s2⟩:=D6 hc
    rw [Array.getElem?_toList,hm0,hv.1,hb.1]
    by_cases hi:i'=i
    ·subst hi
     rw [List.getElem?_set_self hb.2] at s1
     injection s1 with s1
     subst s1
     have hj:j<size:=by rw [← hb.1];exact (lbe.1 s2).1
     rw [if_pos (by omega),show i'*size+j - i'*size=j by omega]
     exact hv.2 j c s2
    ·rw [List.getElem?_set_ne (Ne.symm hi)] at s1
     have hj:j<size:=by rw [← hr.row row (lbm s1)];exact (lbe.1 s2).1
     have hno:¬(i*size<=i'*size+j∧i'*size+j<i*size+size):=by
      rintro ⟨h1,h2⟩
      rcases aa1 hi with h|h
      ·have:i'*size+size<=i*size:=by rw [← lbU];exact lbT _ h
       omega
      ·have:i*size+size<=i'*size:=by rw [← lbU];exact lbT _ h
       omega
     rw [if_neg hno]
     have:=hr.cell i' j c (z6 s1 s2)
     simpa using this
  obtain ⟨rows',hk,hl',r,q1,q2⟩:=ar5 he h0 rest _ r0 hok h
  refine ⟨rows',hk,by simpa using hl',r,?_,q2⟩
  simp only [a9L,Instr.fill]
  rw [if_neg (by have q1:=hv.1;simp;omega),hr0]
  exact q1
theorem b0W {w:World} {ι:Io} {M:Ms} {z:Array Value} {size n:Nat} (hz:z.size=size) (hone:∀v ∈ z.toList,v.oneCell'=true):w7 w ι M size (List.replicate n (z.toList.map C8)) (madeCells z (n*size)).toList:=by
 refine ⟨by simp [madeCells],?_,?_⟩
 ·intro r hr
  rw [(a8g.1 hr).2];simp [hz]
 ·intro i j c hc
  obtain ⟨row,s1,s2⟩:=D6 hc
  rw [lbk] at s1
  split at s1
  ·rename_i hi
   injection s1 with s1
   subst s1
   obtain ⟨u,q1,q2⟩:=(a2e.const (w:=w) (ι:=ι) (M:=M) hone).2 j c s2
   have hj:j<size:=by rw [← hz];exact (lb4.1 q1).1
   exact ⟨u,by rw [Array.getElem?_toList,a2i hz hi hj];exact q1,q2⟩
  ·cases s1
theorem a6K (hτ:B2 P τ) {t:TypeId} {len:Nat} {parts:Array (Nat × Operand)} (ho:o.op=.buildSlice t len parts) {K:S->List Blk->Prop} (h:a1M τ ev H.length t len parts.toList K):
 ∃s B,K s B∧QOp P o ev H s B:=by
 unfold a1M at h
 split at h
 rotate_left
 ·exact h.elim
 rename_i e _ _ _ _ ht
 have hu:=J0 hτ ht
 split at h
 rotate_left
 ·exact h.elim
 rename_i d hd
 obtain ⟨hb,h⟩:=V6 h
 rw [a0u] at h
 have hb:d.size≠0∧len*d.size<16777216:=by
  rw [a23] at hb
  refine ⟨by intro e;simp [e] at hb,?_⟩
  have:=hb.2
  rw [← lbP,Nat.ble_eq] at this
  omega
 obtain ⟨i,hi,hsz,hby,z,hz,hzs,hone,hzl⟩:=(hτ.td _ _ hd).info
 have hzsz:z.cells.size=d.size:=by rw [← hzl,←hzs];simp
 obtain ⟨rows,h,hdet⟩:=am3 _ _ h
 have key:∀(a:Act) (w:World) (ι:Io) (M:Ms),R3 w ι M ev a->∃r:Array Value,(Instr.buildSlice t len (parts.map fun (i,x)=>(i,a.eval x))).run P w=.ok (.slice (some ⟨w.heap.size,0,none⟩) len len) (w.alloc (.cells r e))∧
  w7 w ι M d.size rows r.toList∧rows.length=len:=by
  intro a w ι M he
  obtain ⟨rows',rfl,hl,r,q1,q2⟩:=ar5 he (size:=d.size) (by omega) parts.toList _ (madeCells z.cells (len*d.size)) (by
   have:=b0W (w:=w) (ι:=ι) (M:=M) (n:=len) hzsz (by rw [hzs];exact hone)
   rw [hzs] at this
   exact this) hdet
  by_cases hl0:len=0
  ·subst hl0
   have hr0:r=#[]:=by
    have:=q2.len
    rw [hl] at this
    simp at this
    exact this
   refine ⟨r,?_,q2,by simpa using hl⟩
   have q1':Instr.fill (fun i=>some (i*d.size,d.size)) #[] (parts.toList.map fun p=>(p.1,a.eval p.2))=some r:=by
    simpa [madeCells,Array.range_zero'] using q1
   simp [Instr.buildSlice,run_underlying hu,sizeOf,typeInfo,hi,hsz,newRow,q1',Array.range_zero']
  ·refine ⟨r,?_,q2,by simpa using hl⟩
   refine run_buildSlice w t e len _ r i z hu hi hz (by rw [hsz];omega) (by rw [hsz];intro h;rcases Nat.mul_eq_zero.1 h with h|h<;>omega) ?_
   rw [a85,hsz]
   exact q1
 have hown:K (.c (.own H.length 0 len true)) [N4 e d.size rows false]->∃s B,K s B∧QOp P o ev H s B:=fun h=>by
  refine ⟨_,_,h,fun a w ι M he hh hm hf=>?_⟩
  obtain ⟨r,q1,q2,q3⟩:=key a w ι M he
  have hmx:len<=maxLen:=by
   have:len<=len*d.size:=a8a _ (by omega)
   unfold maxLen;omega
  refine n8 (by simp only [execOp,ho,Sem.run_bind,q1,Result.andThen_ok];rfl) ?_
  refine H7.new (cap:=len) (cur:=r) rfl rfl rfl rfl (hf 0 (by simp)) (by omega) (by omega) hmx q2.row (by have:=q2.len;rw [q3] at this;simpa using this) (fun i j c hc=>by
   obtain ⟨u,s1,s2⟩:=q2.cell i j c hc
   exact ⟨u,by simpa using s1,s2⟩) fun ι' M' hi'=>a0b hi' (lbQ _) hmx
 split at h
 ·rename_i rs hrs
  have hrs:=aR7 hrs
  have hdata:∀sk:SK,sk=.full∨sk=.any->K (.c (.t (.sl d.size sk rs))) []->∃s B,K s B∧QOp P o ev H s B:=fun sk hsk h=>by
   refine ⟨_,_,h,fun a w ι M he hh hm hf=>?_⟩
   obtain ⟨r,q1,q2,q3⟩:=key a w ι M he
   refine n8 (by simp only [execOp,ho,Sem.run_bind,q1,Result.andThen_ok];rfl) ?_
   have hext:Ext w (w.alloc (.cells r e)):=⟨rfl,rfl,rfl,by simp,fun b hb=>heap_alloc_old w _ hb⟩
   refine H7.of_none ?_ hext
   have hlen:rs.length=len:=by rw [← q3,hrs];simp [toC]
   have hmx:len<=maxLen:=by
    have:len<=len*d.size:=a8a _ (by omega)
    unfold maxLen;omega
   rw [← hlen]
   have hat:∀i j c,at2 rs i j=some c->at2 rows i j=some (.t c):=fun i j c hc=>by
    obtain ⟨row,s1,s2⟩:=D6 hc
    rw [hrs]
    exact z6 (row:=row.map C.t) (by simp [toC,s1]) (by simp [s2])
   refine .c (.t (.sl (b:=w.heap.size) (off:=0) (fun i j=>r.getD (i*d.size+j) undef) ?_ (lbQ _) (by omega) (fun _=>rfl) (by rcases hsk with rfl|rfl<;>(intro h;cases h)) (fun _=>rfl) ?_ ?_ (by rcases hsk with rfl|rfl<;>exact ⟨(fun h=>nomatch h),(fun h=>nomatch h)⟩)))
   ·intro r' hr'
    have:=q2.row (r'.map C.t) (by rw [hrs];exact lbx.2 ⟨r',hr',rfl⟩)
    simpa using this
   ·intro i j c hc
    obtain ⟨u,s1,s2⟩:=q2.cell _ _ _ (hat i j c hc)
    rw [Array.getElem?_toList] at s1
    refine ⟨?_,fun hM=>absurd (hm _ hM) (by omega)⟩
    have hn:=heap_alloc_new w (.cells r e)
    simp only [World.cell?]
    rw [hn]
    simp [s1]
   ·intro i j c hc
    obtain ⟨u,s1,s2⟩:=q2.cell _ _ _ (hat i j c hc)
    rw [Array.getElem?_toList] at s1
    have:r.getD (i*d.size+j) undef=u:=by simp [s1]
    show RT _ M c (r.getD (i*d.size+j) undef)
    rw [this]
    cases s2 with
    |t s2=>exact s2.keep (fun b hb _=>hext.keep b hb) (fun b h=>.inl h)
  obtain ⟨h|h|h⟩:=h
  ·exact hdata _ (.inl rfl) h
  ·exact hown h
  ·exact hdata _ (.inr rfl) h
 ·exact hown h
theorem a87 {c:Call} (ho:o.op=.call c) (hc:c.callee=.builtin .copy) {t:TypeId} {x s:Operand} (ht:c.argTypes.toList=[t,t]) (ha:c.args.toList=[x,s]) {a:Act} {w w':World} {v:Value}
 (h:(Builtin.copy_ #[t,t] o.type #[a.eval x,a.eval s]).run P w=.ok v w'):(execOp a.eval o).run P w=.ok (.value v) w':=by
 obtain ⟨callee,args,argTypes⟩:=c
 simp only at hc ht ha
 subst hc
 obtain rfl:argTypes=#[t,t]:=by apply Array.ext';simpa using ht
 obtain rfl:args=#[x,s]:=by apply Array.ext';simpa using ha
 simp [execOp,ho,resolve,invoke,builtin,h]
theorem E1.result {w w':World} {ι:Io} {M:Ms} {H H':Hp} {s:S} {v u:Value} {x:Value} (hv:x.oneCell'=true) (h:E1 w ι M H s H' v w'):E1 w ι M H (.c (.t (.atm x))) H' x w':=by
 obtain ⟨ι',M',_,h⟩:=h
 exact ⟨ι',M',.c (.t (.atm hv)),h⟩
theorem aL1 {w:World} {ι:Io} {M:Ms} {k:Blk} {b cap size lo len:Nat} {xr:List (List C)} {news:List Value} {cur:Array Value} (hb:E7 w ι M k (.blk b cap size)) (hcur:w.heap[b]? =some (.cells cur k.elem (0,0)))
 (hl:lo+len<=k.rows.length) (hn:w7 w ι M size xr news) (hcl:cur.size=cap*size) (hlc:k.rows.length<=cap):
 w7 w ι M size (C7 lo len k.rows xr) ((cur.toList.take (lo*size)++news.take ((xr.take len).length*size)++cur.toList.drop (lo*size+(xr.take len).length*size)).take (k.rows.length*size)):=by
 have hxl:(xr.take len).length<=len:=by simp;omega
 generalize hm:(xr.take len).length=m at *
 have m1:lo*size+m*size<=k.rows.length*size:=by rw [← I3];exact lbT _ (by omega)
 have m2:k.rows.length*size<=cap*size:=lbT _ hlc
 have hnl:(news.take (m*size)).length=m*size:=by
  rw [lbs,hn.len]
  refine a1h (lbT _ ?_)
  rw [← hm];simp;omega
 obtain ⟨o1,a1,a2⟩:=a4x hb (lo:=0) (len:=lo) (by omega)
 obtain ⟨o3,c1,c2⟩:=a4x hb (lo:=lo+m) (len:=k.rows.length - (lo+m)) (by omega)
 rw [a6c] at a1
 have e3:(k.rows.drop (lo+m)).take (k.rows.length - (lo+m))=k.rows.drop (lo+m):=lbn (by simp)
 rw [e3] at c1
 have hmid:w7 w ι M size (xr.take len) (news.take (m*size)):=by
  refine ⟨by rw [hnl,hm],fun r hr=>hn.row r (ab1 hr),fun i j c hc=>?_⟩
  obtain ⟨row,s1,s2⟩:=D6 hc
  rw [lbi] at s1
  split at s1
  ·rename_i hi
   obtain ⟨u,t1,t2⟩:=hn.cell _ _ _ (z6 s1 s2)
   have hj:j<size:=by rw [← hn.row row (lbm s1)];exact (lbe.1 s2).1
   have him:i<m:=by rw [← hm];have:=(lbe.1 s1).1;simp;omega
   have hlt:i*size+j<m*size:=by
    have:i*size+size<=m*size:=by rw [← lbU];exact lbT _ him
    omega
   exact ⟨u,by rw [List.getElem?_take_of_lt hlt];exact t1,t2⟩
  ·cases s1
 have hall:=a1.append (hmid.append c1)
 have ho1:o1=cur.toList.take (lo*size):=by
  apply Z4
  intro q
  have hlen:o1.length=lo*size:=by rw [a1.len,lbs,a1h (by omega)]
  by_cases hq:q<lo*size
  ·have e1:=a2 q _ (lbf (by omega))
   simp only [World.cell?,hcur,a5B,D8] at e1
   rw [lbf (by omega),List.getElem?_take_of_lt hq,←e1]
   simp
  ·rw [lbd (by omega),lbd (by simp;omega)]
 have hl3:o3.length=k.rows.length*size - (lo*size+m*size):=by
  rw [c1.len,a3Y,←I3,←Nat.sub_mul]
 have ho3:o3=(cur.toList.drop (lo*size+m*size)).take (k.rows.length*size - (lo*size+m*size)):=by
  apply Z4
  intro q
  by_cases hq:q<k.rows.length*size - (lo*size+m*size)
  ·have e1:=c2 q _ (lbf (by omega))
   simp only [World.cell?,hcur,I3] at e1
   rw [lbf (by omega),List.getElem?_take_of_lt hq,lbj,←e1]
   simp
  ·rw [lbd (by omega),lbd (by simp;omega)]
 have hfin:o1++(news.take (m*size)++o3)=(cur.toList.take (lo*size)++news.take (m*size)++cur.toList.drop (lo*size+m*size)).take (k.rows.length*size):=by
  rw [ho1,ho3,List.take_append,lbn (l:=cur.toList.take (lo*size)++news.take (m*size)) (by rw [lbq,hnl];simp;omega),lbD]
  congr 3
  rw [lbq,hnl]
  simp only [lbs,a1A]
  rw [a1h (by omega)]
 rw [← hfin]
 unfold C7
 rw [hm]
 exact hall
theorem aI6 (hτ:B2 P τ) {c:Call} (ho:o.op=.call c) (hc:c.callee=.builtin .copy) {t:TypeId} {x s:Operand} (ht:c.argTypes.toList=[t,t]) (ha:c.args.toList=[x,s])
 {Kg:S->Hp->Prop} (h:b0l τ ev H t x s Kg):∃s H',Kg s H'∧GOp P o ev H s H':=by
 unfold b0l at h
 split at h
 rotate_left
 ·exact h.elim
 rename_i e _ _ _ _ hte
 have hu:=J0 hτ hte
 split at h
 rotate_left
 ·exact h.elim
 rename_i d hd
 obtain ⟨hb0,h⟩:=V6 h
 have h0:d.size≠0:=by intro e;simp [e] at hb0
 obtain ⟨xr,h,hx⟩:=aJ7 hτ hu h
 obtain ⟨i,hi,hsz,hby,z,hz,hzs,hone,hzl⟩:=(hτ.td _ _ hd).info
 split at h
 rotate_left
 ·exact h.elim
 rename_i id lo len app hs
 obtain ⟨k,hk,h⟩:=L7 h
 obtain ⟨hlv,hap,h⟩:=a37 h
 obtain ⟨hbk,hlen,h⟩:=B6 h
 have hbk:k.size=d.size∧k.elem=e:=by simpa using hbk
 rw [J6] at h
 refine ⟨_,_,h,fun a w ι M he hh hm hF=>?_⟩
 obtain ⟨news,hn1,hn2,hn3⟩:=hx a w ι M he hh
 have hr:=(he.to hs).inv_c
 generalize hv:a.eval x=v at *
 have hmin:(xr.take len).length=Nat.min xr.length len:=by rw [lbs];exact Nat.min_comm _ _
 have hload:(Builtin.firstCells i.size (Nat.min xr.length len) (a.eval s)).run P w=.ok (news.take ((xr.take len).length*d.size)).toArray w:=by
  rw [← hmin]
  rcases hn3 with h0'|⟨ad,c',hxe,hxc⟩
  ·have hz0:(xr.take len).length=0:=by rw [lbs];omega
   have hxr:xr=[]:=lbF h0'
   subst hxr
   have:=hn2.cells
   have hnn:news=[]:=lbF (by rw [hn1.len];simp)
   subst hnn
   rw [← hsz] at this
   simpa using this
  ·rw [hxe]
   have hl:=run_loadCells_list (P:=P) w ad (news.take ((xr.take len).length*d.size)) (fun j v hj=>by
    rw [lbi] at hj
    split at hj
    ·exact hxc j v hj
    ·cases hj)
   have hln:(news.take ((xr.take len).length*d.size)).length=(xr.take len).length*i.size:=by
    rw [lbs,hn1.len,hsz]
    refine a1h (lbT _ ?_)
    rw [lbs];exact Nat.min_le_right _ _
   rw [hln] at hl
   simpa [Builtin.firstCells] using hl
 cases hr with
 |@own _ _ _ _ b cap size A cap' hι q1 q2 q3 q4 q5=>
  have hbr:=hh.blk id k hk (by rw [hlv];intro h;cases h) _ hι
  have hMb:=hh.liv id k hk hlv _ _ _ hι
  obtain rfl:size=d.size:=hbr.1.symm.trans hbk.1
  have hbr2:=hbr
  obtain ⟨r1,r2,r3,r4,r5,cur,r6,r7,r8⟩:=hbr2
  have hcp:=aL1 hbr r6 hlen hn1 r7 r3
  generalize hvals:news.take ((xr.take len).length*d.size)=vals at *
  have hvl:vals.length=(xr.take len).length*d.size:=by
   rw [← hvals,lbs,hn1.len]
   refine a1h (lbT _ ?_)
   rw [lbs];exact Nat.min_le_right _ _
  have hfit:lo*d.size+vals.length<=cur.size:=by
   rw [hvl,r7,←I3]
   refine lbT _ ?_
   have:(xr.take len).length<=len:=by rw [lbs];exact Nat.min_le_left _ _
   omega
  have hone':∀u ∈ vals,u.oneCell'=true:=fun u hu=>hn1.one u (by rw [← hvals] at hu;exact ab1 hu)
  have hrows:(C7 lo len k.rows xr).length=k.rows.length:=by
   have:(xr.take len).length<=len:=by rw [lbs];exact Nat.min_le_left _ _
   unfold C7
   simp only [lbq,lbs,a3Y]
   simp only [lbs] at this
   omega
  have hst:(storeCells ⟨b,lo*d.size,none⟩ vals).run P w=.ok () (w.setRow b (cur.toList.take (lo*d.size)++vals++cur.toList.drop (lo*d.size+vals.length)).toArray):=by
   have:=run_storeCells_at P b (lo*d.size) k.elem vals 0 cur w r6 (by simpa using hfit) hone'
   simpa using this
  rw [← hvl] at hcp
  have hkeep:∀b',b'≠b->(w.setRow b (cur.toList.take (lo*d.size)++vals++cur.toList.drop (lo*d.size+vals.length)).toArray).heap[b']? =w.heap[b']?:=fun b' hb'=>setRow_other w b b' _ hb'
  have hpost:E1 w ι M H (a7 .i64 (xr.take len).length) (H.set id (w6 k (C7 lo len k.rows xr))) (goInt (xr.take len).length) (w.setRow b (cur.toList.take (lo*d.size)++vals++cur.toList.drop (lo*d.size+vals.length)).toArray):=by
   refine E1.result (u:=undef) rfl (E1.store hh hm hF hk hlv hap hι (by exact hlv) rfl rfl rfl (by simp) hkeep ⟨r1,r2,by show (C7 lo len k.rows xr).length<=cap;rw [hrows];exact r3,r4,hcp.row,_,setRow_heap w b cur _ k.elem _ r6,?_,fun i' j c' hc'=>?_⟩)
   ·simp only [a4p,lbq,lbs,a3Y,a1A]
    omega
   ·obtain ⟨u,s1,s2⟩:=hcp.cell i' j c' hc'
    rw [lbi] at s1
    split at s1
    ·exact ⟨u,by rw [List.getElem?_toArray];exact s1,s2.keep (fun b' _ hb'=>hkeep b' (by rintro rfl;exact hb' hMb)) (fun b' h=>.inl h) (fun _ _ h=>h)⟩
    ·cases s1
  have hlo:=hn2.len
  by_cases hlz:len=0
  ·subst hlz
   have hv0:vals=[]:=lbF (by rw [hvl];simp)
   subst hv0
   have hw:w.setRow b (cur.toList.take (lo*d.size)++[]++cur.toList.drop (lo*d.size+([]:List Value).length)).toArray=w:=by
    simp only [storeCells,Sem.run_pure] at hst
    injection hst with _ hst
    exact hst.symm
   rw [hw] at hpost
   refine n8 (a87 ho hc ht ha ?_) hpost
   rw [hv]
   have hload0:(Builtin.firstCells i.size 0 (a.eval s)).run P w=.ok #[] w:=by simpa using hload
   cases A<;>simp [Builtin.copy_,run_underlying hu,hlo,sizeOf,typeInfo,hi,hload0,storeCells]
  ·obtain rfl:=q2 (by omega)
   refine n8 (a87 ho hc ht ha ?_) hpost
   rw [hv]
   simp [Builtin.copy_,run_underlying hu,hlo,sizeOf,typeInfo,hi,hload,hst,hmin]
 |@nil _ _ A hι=>
  have hbr:=hh.blk id k hk (by rw [hlv];intro h;cases h) _ hι
  have hkr:k.rows=[]:=hbr
  have e1:xr.take 0=[]:=a7g
  have e2:C7 0 0 k.rows xr=k.rows:=by unfold C7;simp
  have e3:H.set id (w6 k (C7 0 0 k.rows xr))=H:=by
   rw [e2]
   apply Z4
   intro j
   by_cases hj:j=id
   ·subst hj;rw [List.getElem?_set_self (lbe.1 hk).1,hk];rfl
   ·rw [getElem?_set_ne' hj]
  rw [e3,e1] at *
  have hlo:=hn2.len
  refine n8 (v:=goInt 0) (w':=w) (a87 ho hc ht ha ?_) ⟨ι,M,.c (.t (.atm rfl)),hh,hm,hF,a3v.refl w ι M H⟩
  rw [hv]
  have hload0:(Builtin.firstCells i.size 0 (a.eval s)).run P w=.ok #[] w:=by simpa using hload
  cases A<;>simp [Builtin.copy_,run_underlying hu,hlo,sizeOf,typeInfo,hi,hload0,storeCells]
theorem a5o {c:Call} (ho:o.op=.call c) (hc:c.callee=.builtin .clear) {t:TypeId} {x:Operand} (ht:c.argTypes.toList=[t]) (ha:c.args.toList=[x]) {a:Act} {w w':World} {v:Value}
 (h:(Builtin.clear_ #[t] o.type #[a.eval x]).run P w=.ok v w'):(execOp a.eval o).run P w=.ok (.value v) w':=by
 obtain ⟨callee,args,argTypes⟩:=c
 simp only at hc ht ha
 subst hc
 obtain rfl:argTypes=#[t]:=by apply Array.ext';simpa using ht
 obtain rfl:args=#[x]:=by apply Array.ext';simpa using ha
 simp [execOp,ho,resolve,invoke,builtin,h]
theorem E1.junk {w w':World} {ι:Io} {M:Ms} {H H':Hp} {s:S} {v u:Value} (h:E1 w ι M H s H' v w'):E1 w ι M H .junk H' u w':=by
 obtain ⟨ι',M',_,h⟩:=h
 exact ⟨ι',M',.junk,h⟩
theorem at4 (hτ:B2 P τ) {c:Call} (ho:o.op=.call c) (hc:c.callee=.builtin .clear) {t:TypeId} {x:Operand} (ht:c.argTypes.toList=[t]) (ha:c.args.toList=[x])
 {Kg:S->Hp->Prop} (h:aB0 τ ev H t x Kg):∃s H',Kg s H'∧GOp P o ev H s H':=by
 unfold aB0 at h
 split at h
 rotate_left
 ·exact h.elim
 rename_i e _ _ _ _ hte
 have hu:=J0 hτ hte
 split at h
 rotate_left
 ·exact h.elim
 rename_i d hd
 obtain ⟨hb0,h⟩:=V6 h
 rw [a0u] at h
 obtain ⟨i,hi,hsz,hby,z,hz,hzs,hone,hzl⟩:=(hτ.td _ _ hd).info
 have hzsz:z.cells.size=d.size:=by rw [← hzl,←hzs];simp
 split at h
 rotate_left
 ·exact h.elim
 rename_i id lo len app hs
 obtain ⟨k,hk,h⟩:=L7 h
 obtain ⟨hlv,hap,h⟩:=a37 h
 obtain ⟨hbk,hlen,h⟩:=B6 h
 have hbk:k.size=d.size∧k.elem=e:=by simpa using hbk
 rw [J6] at h
 refine ⟨_,_,h,fun a w ι M he hh hm hF=>?_⟩
 have hr:=(he.to hs).inv_c
 generalize hv:a.eval x=v at *
 have hzr:d.zero.map C8=z.cells.toList.map C8:=by rw [hzs]
 generalize hxr:List.replicate len (d.zero.map C8)=xr at *
 have hxl:xr.length=len:=by rw [← hxr];simp
 have hxt:xr.take len=xr:=lbn (by omega)
 have hn1:w7 w ι M d.size xr (madeCells z.cells (len*d.size)).toList:=by
  rw [← hxr,hzr]
  exact b0W hzsz (by rw [hzs];exact hone)
 generalize hvals:(madeCells z.cells (len*d.size)).toList=vals at *
 have hvl:vals.length=len*d.size:=by rw [hn1.len,hxl]
 have hvt:vals.take ((xr.take len).length*d.size)=vals:=lbn (by rw [hxt,hxl];omega)
 cases hr with
 |@own _ _ _ _ b cap size A cap' hι q1 q2 q3 q4 q5=>
  have hbr:=hh.blk id k hk (by rw [hlv];intro h;cases h) _ hι
  have hMb:=hh.liv id k hk hlv _ _ _ hι
  obtain rfl:size=d.size:=hbr.1.symm.trans hbk.1
  have hbr2:=hbr
  obtain ⟨r1,r2,r3,r4,r5,cur,r6,r7,r8⟩:=hbr2
  have hcp:=aL1 hbr r6 hlen hn1 r7 r3
  rw [hvt] at hcp
  have hmm:(xr.take len).length*d.size=vals.length:=by rw [hxt,hxl,hvl]
  rw [hmm] at hcp
  have hfit:lo*d.size+vals.length<=cur.size:=by
   rw [hvl,r7,←I3]
   exact lbT _ (by omega)
  have hone':∀u ∈ vals,u.oneCell'=true:=fun u hu=>hn1.one u hu
  have hrows:(C7 lo len k.rows xr).length=k.rows.length:=by
   unfold C7
   rw [hxt]
   simp only [lbq,lbs,a3Y]
   omega
  have hst:(storeCells ⟨b,lo*d.size,none⟩ vals).run P w=.ok () (w.setRow b (cur.toList.take (lo*d.size)++vals++cur.toList.drop (lo*d.size+vals.length)).toArray):=by
   have:=run_storeCells_at P b (lo*d.size) k.elem vals 0 cur w r6 (by simpa using hfit) hone'
   simpa using this
  have hkeep:∀b',b'≠b->(w.setRow b (cur.toList.take (lo*d.size)++vals++cur.toList.drop (lo*d.size+vals.length)).toArray).heap[b']? =w.heap[b']?:=fun b' hb'=>setRow_other w b b' _ hb'
  have hpost:E1 w ι M H .junk (H.set id (w6 k (C7 lo len k.rows xr))) (.tuple #[]) (w.setRow b (cur.toList.take (lo*d.size)++vals++cur.toList.drop (lo*d.size+vals.length)).toArray):=by
   refine E1.junk (u:=.tuple #[]) (E1.store hh hm hF hk hlv hap hι (by exact hlv) rfl rfl rfl (by simp) hkeep ⟨r1,r2,by show (C7 lo len k.rows xr).length<=cap;rw [hrows];exact r3,r4,hcp.row,_,setRow_heap w b cur _ k.elem _ r6,?_,fun i' j c' hc'=>?_⟩)
   ·simp only [a4p,lbq,lbs,a3Y,a1A]
    omega
   ·obtain ⟨u,s1,s2⟩:=hcp.cell i' j c' hc'
    rw [lbi] at s1
    split at s1
    ·exact ⟨u,by rw [List.getElem?_toArray];exact s1,s2.keep (fun b' _ hb'=>hkeep b' (by rintro rfl;exact hb' hMb)) (fun b' h=>.inl h) (fun _ _ h=>h)⟩
    ·cases s1
  by_cases hlz:len=0
  ·subst hlz
   have hv0:vals=[]:=lbF (by rw [hvl];simp)
   subst hv0
   have hw:w.setRow b (cur.toList.take (lo*d.size)++[]++cur.toList.drop (lo*d.size+([]:List Value).length)).toArray=w:=by
    simp only [storeCells,Sem.run_pure] at hst
    injection hst with _ hst
    exact hst.symm
   rw [hw] at hpost
   refine n8 (a5o ho hc ht ha ?_) hpost
   rw [hv]
   cases A<;>simp [Builtin.clear_,run_underlying hu]
  ·obtain rfl:=q2 (by omega)
   refine n8 (a5o ho hc ht ha ?_) hpost
   rw [hv]
   have hzc:(Builtin.zeroCells z.cells len).toList=vals:=by
    rw [← hvals,←hzsz];rfl
   cases len with
   |zero=>exact absurd rfl hlz
   |succ n=>simp [Builtin.clear_,run_underlying hu,zeroValue,typeInfo,hi,hz,hzc,hst]
 |@nil _ _ A hι=>
  have hbr:=hh.blk id k hk (by rw [hlv];intro h;cases h) _ hι
  have hkr:k.rows=[]:=hbr
  have hx0:xr=[]:=lbF hxl
  have e2:C7 0 0 k.rows xr=k.rows:=by unfold C7;simp
  have e3:H.set id (w6 k (C7 0 0 k.rows xr))=H:=by
   rw [e2]
   apply Z4
   intro j
   by_cases hj:j=id
   ·subst hj;rw [List.getElem?_set_self (lbe.1 hk).1,hk];rfl
   ·rw [getElem?_set_ne' hj]
  rw [e3] at *
  refine n8 (v:=.tuple #[]) (w':=w) (a5o ho hc ht ha ?_) ⟨ι,M,.junk,hh,hm,hF,a3v.refl w ι M H⟩
  rw [hv]
  cases A<;>simp [Builtin.clear_,run_underlying hu]
end
end
section
open Go.RowKit
section
variable {P:Program} {τ:Tab} {o:Oper} {ev:Operand->S} {H:Hp}
theorem an6 {w:World} {ι:Io} {M:Ms} {a:Act} (he:R3 w ι M ev a) {args:Array Operand} {caps:List S} {vs:List Value} (hl:vs.length=caps.length)
 (hr:∀j s,caps[j]? =some s->RS w ι M s (vs.getD j undef)):
 (args.toList.map a.eval++vs).length=(args.toList.map ev++caps).length∧∀j s,(args.toList.map ev++caps)[j]? =some s->RS w ι M s ((args.toList.map a.eval++vs).getD j undef):=by
 refine ⟨by simp [hl],fun j s hj=>?_⟩
 by_cases h:j<args.toList.length
 ·rw [lbb (by simpa using h),lba,lbf h] at hj
  injection hj with hj
  subst hj
  rw [lbl,lbb (by simpa using h),lba,lbf h]
  exact he _
 ·rw [lbc (by simpa using h)] at hj
  have:=hr _ s hj
  rw [lbl] at this ⊢
  rw [lbc (by simpa using h)]
  simpa using this
theorem a8D {c:Call} (ho:o.op=.call c) {f:Operand} (hc:c.callee=.value f) {g:FuncId} {caps:List S}
 (hf:∀(a:Act) (w:World) (ι:Io) (M:Ms),R3 w ι M ev a->∃vs:List Value,a.eval f=.func (.func g) #[] vs.toArray∧vs.length=caps.length∧∀j s,caps[j]? =some s->RS w ι M s (vs.getD j undef))
 {Kq:S->List Blk->Prop} {Kg:S->Hp->Prop} (h:b4N P g (c.args.toList.map ev++caps) H Kq Kg):
 (∃ s B,Kq s B∧QOp P o ev H s B)∨(∃ s H',Kg s H'∧GOp P o ev H s H'):=by
 obtain ⟨callee,args,argTypes⟩:=c
 simp only at hc h
 subst hc
 have hex:a7S P g->∀(a:Act) (w:World) (vs:List Value),a.eval f=.func (.func g) #[] vs.toArray->(execOp a.eval o).run P w=.ok (.enter g (args.toList.map a.eval++vs).toArray) w:=by
  rintro ⟨fn,hfn,hb,hnm⟩ a w vs hv
  have hn:fn.body≠none:=by intro e;rw [e] at hb;cases hb
  have e:(args.map a.eval++vs.toArray)=(args.toList.map a.eval++vs).toArray:=by apply Array.ext';simp
  simp [execOp,ho,resolve,hv,Deferred.ofValue,invoke,callFunc,hfn,hn,hnm,e]
 rcases h with ⟨r,B,hq,hk⟩|⟨r,H',hq,hk⟩
 ·refine .inl ⟨r,B,a4q hk,fun a w ι M he hh hm hfr=>?_⟩
  obtain ⟨vs,h1,h2,h3⟩:=hf a w ι M he
  obtain ⟨q1,q2⟩:=an6 he (args:=args) h2 h3
  exact ai1 (hex hq.1 a w vs h1) (hq.2 w ι M _ q1 q2 hh hm hfr)
 ·refine .inr ⟨r,H',a4q hk,fun a w ι M he hh hm hfr=>?_⟩
  obtain ⟨vs,h1,h2,h3⟩:=hf a w ι M he
  obtain ⟨q1,q2⟩:=an6 he (args:=args) h2 h3
  exact ai1 (hex hq.1 a w vs h1) (hq.2 w ι M _ q1 q2 hh hm hfr)
theorem a8e (hτ:B2 P τ) {Kq:S->List Blk->Prop} {Kg:S->Hp->Prop} (h:aop P τ ev H o.op Kq Kg):(∃ s B,Kq s B∧QOp P o ev H s B)∨(∃ s H',Kg s H'∧GOp P o ev H s H'):=by
 have one:∀{K:S->Prop},(∀ s,K s->Kq s [])->(∃ s,K s∧QOp P o ev H s [])->(∃ s B,Kq s B∧QOp P o ev H s B)∨(∃ s H',Kg s H'∧GOp P o ev H s H'):=fun hK ⟨s,h1,h2⟩=>.inl ⟨s,[],hK s h1,h2⟩
 generalize hop:o.op=op at h
 unfold aop at h
 split at h
 case h_1 x=>rw [a1x] at h;exact .inl ⟨_,_,h,aI2 x (.inl hop)⟩
 case h_2 x=>rw [a1x] at h;exact .inl ⟨_,_,h,aI2 x (.inr hop)⟩
 case h_3 c x y=>
  split at h
  ·rename_i t hc
   rw [a1x,a1x] at h
   have:=b2Q (P:=P) (H:=H) c x y t hop hc
   cases t<;>exact .inl ⟨_,_,h,this⟩
  ·exact h.elim
 case h_4 t x=>exact one (fun _ h=>a4q h) (aI5 hτ hop h)
 case h_5 t x v=>obtain ⟨H',h1,h2⟩:=au1 hτ hop h;exact .inr ⟨_,_,h1,h2⟩
 case h_6 s x f=>exact one (fun _ h=>h) (a7E hτ hop h)
 case h_7 t x i=>exact one (fun _ h=>h) (a7z hτ hop h)
 case h_8 t x lo hi max=>exact one (fun _ h=>h) (as8 hτ hop h)
 case h_9 op t x y yt=>exact one (fun _ h=>h) (aS5 hτ hop h)
 case h_10 op t x=>exact one (fun _ h=>h) (b1J hop h)
 case h_11 src dst x=>exact one (fun _ h=>h) (aH9 hτ hop h)
 case h_12 t l c=>
  rw [a0v,D8] at h
  exact .inl (aE0 hτ hop h)
 case h_13 t parts=>exact one (fun _ h=>h) (aA4 hτ hop h)
 case h_14 t n parts=>
  rw [a0v,D8] at h
  exact .inl (a6K hτ hop h)
 case h_15 t x=>
  rw [a0v,D8] at h
  exact .inl (aT6 hop h)
 case h_16 t=>
  rw [a0v,D8] at h
  exact .inl (aB1 hτ hop h)
 case h_17 x i=>
  split at h
  ·rename_i ss hx
   obtain ⟨s,h1,h2⟩:=L7 h
   exact .inl ⟨_,_,a4q h2,a9K hop hx h1⟩
  ·exact h.elim
 case h_18 fn first caps=>
  split at h
  ·rename_i cs hf hcs
   have hcs:=b1t hcs
   split at h
   ·rename_i ts hts
    rw [a7o hts] at hcs
    exact .inl ⟨_,_,h,a7Z hop hf hcs⟩
   ·exact .inl ⟨_,_,h,a8V hop hf hcs⟩
  ·exact h.elim
 case h_19 c=>
  split at h
  ·rename_i hc
   split at h
   ·rename_i t ts x xs ht hx
    exact one (fun _ h=>h) (aS2 hτ hop hc ht hx h)
   ·exact h.elim
  ·rename_i hc
   split at h
   ·rename_i t t' s x ht hx
    cases hb:Nat.beq t t' with
    |true=>
     rw [hb,cond_true] at h
     obtain rfl:t=t':=by simpa using hb
     rw [a0v,D8] at h
     exact aj5 hτ hop hc ht hx h
    |false=>
     rw [hb,cond_false,a0v,D8] at h
     exact .inl (aH7 hτ hop hc ht hx h)
   ·exact h.elim
  ·rename_i hc
   split at h
   ·rename_i t x ht hx
    exact one (fun _ h=>h) (aO6 hτ hop hc ht hx h)
   ·exact h.elim
  ·rename_i hc
   split at h
   ·rename_i t t' s x ht hx
    obtain ⟨hb,h'⟩:=B6 h
    obtain rfl:t=t':=by simpa using hb
    exact .inr (aI6 hτ hop hc ht hx h')
   ·exact h.elim
  ·rename_i hc
   split at h
   ·rename_i t x ht hx
    exact .inr (at4 hτ hop hc ht hx h)
   ·exact h.elim
  ·rename_i hc
   exact one (fun _ h=>h) (af9 false hop hc h)
  ·rename_i hc
   exact one (fun _ h=>h) (af9 true hop hc h)
  ·rename_i f hc
   split at h
   ·rename_i g caps hf
    refine a8D hop hc (fun a w ι M he=>?_) h
    have hr:=(he.to hf).inv_t
    generalize a.eval f=v at *
    cases hr with
    |fn vs hl hr=>
     refine ⟨vs,rfl,by simpa using hl,fun j s hj=>?_⟩
     rw [lba] at hj
     cases hj':caps[j]? with
     |none=>rw [hj'] at hj;cases hj
     |some c=>
      rw [hj'] at hj
      injection hj with hj
      subst hj
      exact .c (.t (hr j c hj'))
   ·rename_i g caps hf
    refine a8D hop hc (fun a w ι M he=>?_) h
    have hr:=(he.to hf).inv_c
    generalize a.eval f=v at *
    cases hr with
    |fn vs hl hr=>
     refine ⟨vs,rfl,by simpa using hl,fun j s hj=>?_⟩
     rw [lba] at hj
     cases hj':caps[j]? with
     |none=>rw [hj'] at hj;cases hj
     |some c=>
      rw [hj'] at hj
      injection hj with hj
      subst hj
      exact .c (hr j c hj')
   ·exact h.elim
  ·exact h.elim
 case h_20 x=>exact one (fun _ h=>h) (aW3 hop h)
 case h_21=>exact h.elim
end
end
section
open Go.RowKit
def ai6 (dst:Option Tmp) (s:S) (env:Env) (k:Env->Prop):Prop:=
 match dst with
 |none=>k env
 |some d=>a4W d s env k
def aH2 (dst:Option Tmp) (s:S) (env:Env):Env:=
 match dst with
 |none=>env
 |some d=>env.set d s
theorem a2m {dst:Option Tmp} {s:S} {env:Env} {k:Env->Prop}:ai6 dst s env k↔k (aH2 dst s env):=by
 cases dst with
 |none=>rfl
 |some d=>exact J6
abbrev aL8:S:=.tup []
theorem RS.skip {w:World} {ι:Io} {M:Ms}:RS w ι M aL8 undef:=.tup [] rfl (by simp)
def aU5 (ops:List Oper) (o:Oper) (env:Env) (X Y:Prop):Prop:=
 match o.guard with
 |none=>X
 |some (j,want)=>match ops[j]? with
  |none=>False
  |some oj=>match oj.dst with
   |none=>False
   |some d=>match F5 env (.tmp d) with
    |.c (.t (.atm (.bool b)))=>match want with
     |true=>cond b X Y
     |false=>cond b Y X
    |.tup _=>Y
    |_=>False
def a3C (acc:List Nat) (o:Oper):Nat:=o.after.toList.foldl (fun s e=>cond (Region.binds .any e) (s ||| (1 <<< e.on) ||| acc.getD e.on 0) s) 0
def a1J:List Oper->List Nat->List Nat
 |[],acc=>acc
 |o::r,acc=>a1J r (acc++[a3C acc o])
def a0S (ops:List Oper):List Nat:=a1J ops []
def Y9 (ops:List Oper) (o:Oper):List Nat:=
 (o.op.operands.toList.filterMap fun x=>match x with|.tmp t=>some t|_=>none)++
 (match o.guard with
  |some (j,_)=>match ops[j]? with
   |some oj=>oj.dst.toList
   |none=>[]
  |none=>[])
def X0 (ops:List Oper) (i:Nat):List Nat:=(List.range i).filter fun j=>!((a0S ops).getD i 0).testBit j
def a0A (ops:List Oper) (i j:Nat):Bool:=match ops[j]? with
 |some o=>o.guard.isNone && o.dst.isSome && (Y9 ops o).all fun t=>ops.zipIdx.all fun y=>match y.1.dst with
  |some d=>!(Nat.beq d t) || Nat.blt y.2 j || Nat.blt i y.2
  |none=>true
 |none=>false
def G9 (ops:List Oper) (i:Nat):Bool:=
 ((List.range ops.length).all fun j=>cond (Nat.blt i j) (((a0S ops).getD j 0).testBit i) true) && (X0 ops i).all (a0A ops i)
def a1H (P:Program) (τ:Tab) (ops:List Oper) (env:Env) (H':Hp) (K:Prop):List Nat->Prop
 |[]=>K
 |j::r=>match ops[j]? with
  |some o=>match o.dst with
   |some d=>aop P τ (F5 env) H' o.op (fun s B=>(B=[]∧s=F5 env (.tmp d))∧a1H P τ ops env H' K r) (fun _ _=>False)
   |none=>False
  |none=>False
def b41 (P:Program) (τ:Tab) (ops:List Oper) (drawn:Bool) (o:Oper) (ih:Nat->Env->Hp->(Env->Hp->Prop)->Prop) (i:Nat) (env:Env) (H:Hp) (K:Env->Hp->Prop):Prop:=
 aU5 ops o env
  (aop P τ (F5 env) H o.op (fun s B=>ai6 o.dst s env fun env'=>ab6 H B fun H'=>ih (i+1) env' H' K)
    (fun s H'=>match drawn with
      |true=>G9 ops i=true∧∃L,X0 ops i=L∧a1H P τ ops env H' (ai6 o.dst s env fun env'=>ih (i+1) env' H' K) L
      |false=>ai6 o.dst s env fun env'=>ih (i+1) env' H' K))
  (ai6 o.dst aL8 env fun env'=>ih (i+1) env' H K)
def b7i (_:Nat) (env:Env) (H:Hp) (K:Env->Hp->Prop):Prop:=K env H
noncomputable def b9N (P:Program) (τ:Tab) (ops:List Oper) (drawn:Bool) (rest:List Oper):Nat->Env->Hp->(Env->Hp->Prop)->Prop:=
 List.rec (motive:=fun _=>Nat->Env->Hp->(Env->Hp->Prop)->Prop) b7i (fun o _ ih=>b41 P τ ops drawn o ih) rest
noncomputable def a7n (P:Program) (τ:Tab) (ops:List Oper) (drawn:Bool) (i:Nat) (rest:List Oper) (env:Env) (H:Hp) (K:Env->Hp->Prop):Prop:=b9N P τ ops drawn rest i env H K
abbrev a2X (w:World) (ι:Io) (M:Ms) (env:Env) (a:Act):Prop:=∀(t:Nat) (s:S),env[t]? =some s->RS w ι M s (a.tmps.getD t undef)
def Sim (w0:World) (ι0:Io) (M0:Ms) (H0:Hp) (a:Act) (w:World) (env:Env) (H:Hp):Prop:=
 ∃(ι:Io) (M:Ms),a.defers=[]∧a.tmps.size=env.length∧a2X w ι M env a∧j4 w ι M H∧MB w M∧a0R ι H.length∧a3v w0 ι0 M0 H0 w ι M H
theorem a2X.ev {w:World} {ι:Io} {M:Ms} {env:Env} {a:Act} (h:a2X w ι M env a):R3 w ι M (F5 env) a:=by
 intro x
 cases x with
 |tmp t=>
  show RS w ι M (env.getD t .junk) (a.tmps.getD t undef)
  rw [lbl]
  cases ht:env[t]? with
  |none=>exact .junk
  |some s=>exact h t s ht
 |const v=>exact RS.const v
 |global g=>exact .junk
 |func f=>exact .c (.t (.fn [] rfl (by simp)))
theorem a2X.put {w:World} {ι:Io} {M:Ms} {env:Env} {a:Act} (h:a2X w ι M env a) (hsz:a.tmps.size=env.length) {s:S} {v:Value} (hs:RS w ι M s v) (dst:Option Tmp):a2X w ι M (aH2 dst s env) (a.put dst v):=by
 cases dst with
 |none=>exact h
 |some d=>
  intro t s' ht
  simp only [aH2] at ht
  by_cases htd:t=d
  ·subst htd
   have hlt:t<env.length:=by have:=(lbe.1 ht).1;simpa using this
   rw [List.getElem?_set_self hlt] at ht
   injection ht with ht
   subst ht
   show RS w ι M s ((a.tmps.setIfInBounds t v).getD t undef)
   simpa [show t<a.tmps.size by omega] using hs
  ·rw [List.getElem?_set_ne (Ne.symm htd)] at ht
   show RS w ι M s' ((a.tmps.setIfInBounds d v).getD t undef)
   have:=h t s' ht
   rw [R6] at this ⊢
   rwa [Array.getElem?_setIfInBounds_ne (Ne.symm htd)]
theorem a1K (dst:Option Tmp) (s:S) (env:Env):(aH2 dst s env).length=env.length:=by cases dst<;>simp [aH2]
theorem a3I (a:Act) (dst:Option Tmp) (v:Value):(a.put dst v).tmps.size=a.tmps.size:=by cases dst<;>simp [Act.put]
theorem a0z (a:Act) (dst:Option Tmp) (v:Value):(a.put dst v).defers=a.defers:=by cases dst<;>rfl
def a5a (ops:List Oper) (o:Oper) (env:Env) (y:Bool):Prop:=
 match o.guard with
 |none=>y=true
 |some (j,want)=>∃oj d,ops[j]? =some oj∧oj.dst=some d∧((∃ b,F5 env (.tmp d)=d9 b∧y=(b == want))∨∃ss,F5 env (.tmp d)=.tup ss∧y=false)
theorem ac5 {ops:List Oper} {o:Oper} {env:Env} {X Y:Prop} (h:aU5 ops o env X Y):∃y,a5a ops o env y∧cond y X Y:=by
 unfold aU5 at h
 unfold a5a
 split at h
 ·exact ⟨true,rfl,h⟩
 ·rename_i j want _
  split at h
  ·exact h.elim
  ·rename_i oj hj
   split at h
   ·exact h.elim
   ·rename_i d hd
    split at h
    ·rename_i b hb
     refine ⟨b == want,⟨oj,d,hj,hd,.inl ⟨b,hb,rfl⟩⟩,?_⟩
     cases want<;>cases b<;>exact h
    ·rename_i ss hb
     exact ⟨false,⟨oj,d,hj,hd,.inr ⟨ss,hb,rfl⟩⟩,h⟩
    ·exact h.elim
theorem a3f {w:World} {ι:Io} {M:Ms} {env:Env} {a:Act} {ops:Array Oper} {o:Oper} {y:Bool} (hsz:a.tmps.size=env.length) (h:a5a ops.toList o env y)
 (he:∀j want oj d,o.guard=some (j,want)->ops[j]? =some oj->oj.dst=some d->RS w ι M (F5 env (.tmp d)) (a.tmps.getD d undef)):
 Region.wanted o (yielded ops a.tmps)=y:=by
 unfold a5a at h
 unfold Region.wanted
 cases hg:o.guard with
 |none=>rw [hg] at h;exact h.symm
 |some jw=>
  obtain ⟨j,want⟩:=jw
  rw [hg] at h
  obtain ⟨oj,d,h1,h2,h3⟩:=h
  have h1':ops[j]? =some oj:=by simpa using h1
  have hr:=he j want oj d hg h1' h2
  have hne:F5 env (.tmp d)≠.junk:=by
   rcases h3 with ⟨b,h3,-⟩|⟨ss,h3,-⟩<;>rw [h3]<;>intro h<;>cases h
  have hlt:d<a.tmps.size:=by
   rcases K4 d a.tmps.size with hlt|hge
   ·exact hlt
   ·have:F5 env (.tmp d)=.junk:=by
     show env.getD d .junk=_
     rw [lbl,lbd (by omega)];rfl
    exact absurd this hne
  have hy:yielded ops a.tmps j=match a.tmps.getD d undef with|.bool b=>some b|_=>none:=by
   unfold yielded
   rw [h1']
   simp only [Option.bind_some,h2]
   rw [R6,Array.getElem?_eq_getElem hlt]
   simp only [ad9]
   split<;>rename_i hv
   ·injection hv with hv;rw [hv]
   ·split<;>rename_i hv'
    ·exact absurd (congrArg some hv') (hv _)
    ·rfl
  simp only [hy]
  rcases h3 with ⟨b,h3,rfl⟩|⟨ss,h3,rfl⟩
  ·rw [h3] at hr
   rw [hr.inv_atm]
   cases b<;>cases want<;>rfl
  ·rw [h3] at hr
   generalize a.tmps.getD d undef=v at *
   cases hr with
   |tup vs hl hr=>rfl
section
variable {P:Program} {τ:Tab}
theorem Sim.post {w0:World} {ι0:Io} {M0:Ms} {H0:Hp} (hM0:MB w0 M0) {a:Act} {w w':World} {ι:Io} {M:Ms} {env:Env} {H H':Hp} {s:S} {v:Value} (hd:a.defers=[]) (hsz:a.tmps.size=env.length)
 (he:a2X w ι M env a) (hH:j4 w ι M H) (hM:MB w M) (hF:a0R ι H.length) (hst:a3v w0 ι0 M0 H0 w ι M H) (hp:E1 w ι M H s H' v w') (dst:Option Tmp):
 Sim w0 ι0 M0 H0 (a.put dst v) w' (aH2 dst s env) H':=by
 obtain ⟨ι',M',h1,h2,h3,h4,h5⟩:=hp
 have hk:∀b,b<w.heap.size->¬M b->w'.heap[b]? =w.heap[b]?:=fun b hb hnm=>h5.keep b hb fun hl=>hnm (a1Z.inM hH hl)
 have hi:∀id l,ι id=some l->ι' id=some l:=fun id l hl=>by
  have hlt:id<H.length:=by
   rcases K4 id H.length with h|h
   ·exact h
   ·rw [hF id h] at hl;cases hl
  rw [h5.same id hlt,hl]
 refine ⟨ι',M',by rw [a0z,hd],by rw [a3I,a1K,hsz],a2X.put (fun t s ht=>(he t s ht).keep hk h5.mnew hi) hsz h1 dst,h2,h3,h4,hst.trans hM0 h5⟩
theorem b4V (hτ:B2 P τ) {ops:Array Oper} {Q:Exit->Act->World->Prop} {K:Env->Hp->Prop} {w0:World} {ι0:Io} {M0:Ms} {H0:Hp} (hM0:MB w0 M0)
 (hK:∀env H a w,K env H->Sim w0 ι0 M0 H0 a w env H->Q .normal a w):
 ∀(rest:List Oper) (i:Nat) (env:Env) (H:Hp) (a:Act) (w:World),ops.toList.drop i=rest->a7n P τ ops.toList false i rest env H K->Sim w0 ι0 M0 H0 a w env H->
  wpOps P ops Q (List.range' i rest.length) a w:=by
 intro rest
 induction rest with
 |nil=>intro i env H a w _ h hs;exact hK env H a w h hs
 |cons o rest ih=>
  intro i env H a w hd h hs
  have hget:ops[i]? =some o:=by
   have:(ops.toList.drop i)[0]? =some o:=by rw [hd];rfl
   rw [lbj] at this
   simpa using this
  have hd':ops.toList.drop (i+1)=rest:=by
   rw [← a9l,hd];rfl
  obtain ⟨ι,M,hdf,hsz,he,hH,hM,hF,hst⟩:=hs
  obtain ⟨y,hw,h⟩:=ac5 h
  have hwr:=a3f hsz hw (fun j want oj d _ _ _=>he.ev (.tmp d))
  simp only [lbu,List.range'_succ,wpOps,hget]
  rw [hwr]
  cases y with
  |false=>
   simp only [a5R,if_false]
   rw [cond_false,a2m] at h
   exact ih (i+1) _ H _ w hd' h ⟨ι,M,by rw [a0z,hdf],by rw [a3I,a1K,hsz],he.put hsz .skip o.dst,hH,hM,hF,hst⟩
  |true=>
   simp only [if_true]
   refine .inl ?_
   rw [cond_true] at h
   rcases a8e hτ h with ⟨s,B,h,hq⟩|⟨s,H',h,hg⟩
   ·rw [a2m,a2F] at h
    refine hq a w ι M he.ev hH hM (fun k _=>hF _ (by omega)) _ _ fun v w' hp=>?_
    exact ih (i+1) _ _ _ w' hd' h (Sim.post hM0 hdf hsz he hH hM hF hst (hp.gpost hH hM hF) o.dst)
   ·have h':ai6 o.dst s env fun env'=>a7n P τ ops.toList false (i+1) rest env' H' K:=h
    rw [a2m] at h'
    refine hg a w ι M he.ev hH hM hF _ _ fun v w' hp=>?_
    exact ih (i+1) _ _ _ w' hd' h' (Sim.post hM0 hdf hsz he hH hM hF hst hp o.dst)
end
end
section
open Go.RowKit
def a47 (ops:List Oper):Bool:=ops.zipIdx.all fun x=>x.1.after.toList.all fun e=>!(Region.binds .any e) || Nat.blt e.on x.2
def a67 (ops:List Oper):Bool:=ops.zipIdx.all fun x=>ops.zipIdx.all fun y=>Nat.beq x.2 y.2 || (match x.1.dst,y.1.dst with|some a,some b=>!(Nat.beq a b)|_,_=>true)
def aL6 (ops:List Oper):Bool:=
 ops.zipIdx.all fun x=>(Y9 ops x.1).all fun t=>ops.zipIdx.all fun y=>match y.1.dst with
  |some d=>!(Nat.beq d t) || Nat.beq x.2 y.2 || cond (Nat.blt y.2 x.2) (((a0S ops).getD x.2 0).testBit y.2) (((a0S ops).getD y.2 0).testBit x.2)
  |none=>true
def a8z (ops:List Oper):Bool:=a47 ops && a67 ops && aL6 ops
theorem a6S:∀(r:List Oper) (acc:List Nat),∃s,a1J r acc=acc++s∧s.length=r.length∧∀i o,r[i]? =some o->s[i]? =some (a3C ((a1J r acc).take (acc.length+i)) o)
 |[],acc=>⟨[],by simp [a1J],rfl,by simp⟩
 |o::r,acc=>by
  obtain ⟨s,h1,h2,h3⟩:=a6S r (acc++[a3C acc o])
  refine ⟨a3C acc o::s,by rw [a1J,h1];simp,by simp [h2],fun i o' hi=>?_⟩
  cases i with
  |zero=>
   simp at hi
   subst hi
   rw [a1J,h1]
   simp
  |succ i=>
   have:=h3 i o' (by simpa using hi)
   rw [a1J]
   simp only [lbq,List.length_singleton] at this
   rw [show acc.length+(i+1)=acc.length+1+i by omega]
   simpa using this
theorem ak4 {ops:List Oper} {i:Nat} {o:Oper} (h:ops[i]? =some o):(a0S ops).getD i 0=a3C ((a0S ops).take i) o:=by
 obtain ⟨s,h1,h2,h3⟩:=a6S ops []
 have:=h3 i o h
 simp only [af2] at h1
 have e:a0S ops=s:=h1
 rw [lbl,e,this]
 simp only [K5,D8,ad9]
 rw [← h1]
theorem a1Y (acc:List Nat) (j:Nat):∀(es:List Edge) (s0:Nat),
 (es.foldl (fun s e=>cond (Region.binds .any e) (s ||| (1 <<< e.on) ||| acc.getD e.on 0) s) s0).testBit j=true->s0.testBit j=true∨∃e ∈ es,Region.binds .any e=true∧(e.on=j∨(acc.getD e.on 0).testBit j=true)
 |[],s0,h=>.inl h
 |e::es,s0,h=>by
  rw [ad4] at h
  rcases a1Y acc j es _ h with h|⟨e',h1,h2⟩
  ·cases hb:Region.binds .any e with
   |false=>rw [hb] at h;exact .inl h
   |true=>
    rw [hb] at h
    simp only [cond_true,Nat.testBit_or,lbN,Nat.testBit_shiftLeft] at h
    rcases h with (h|h)|h
    ·exact .inl h
    ·refine .inr ⟨e,by simp,hb,.inl ?_⟩
     simp only [lbM,lbI] at h
     obtain ⟨h1,h2⟩:=h
     have:j - e.on=0:=by
      rcases a3m (j - e.on) with h|h
      ·exact h
      ·rw [Nat.testBit_one_eq_true_iff_self_eq_zero] at h2;exact h2
     omega
    ·exact .inr ⟨e,by simp,hb,.inr h⟩
  ·exact .inr ⟨e',by simp [h1],h2⟩
theorem at3 {ops:List Oper} (hb:a47 ops=true) {i:Nat} {o:Oper} (h:ops[i]? =some o) {e:Edge} (he:e ∈ o.after.toList) (hbi:Region.binds .any e=true):e.on<i:=by
 have:=lbv.1 hb (o,i) (by rw [a7y];exact h)
 have:=lbv.1 this e he
 simp only [hbi,av8,Bool.false_or,R5] at this
 exact this
theorem ac2 {ops:List Oper} (hb:a47 ops=true) {S:Nat->Prop} (hS:∀i o,ops[i]? =some o->S i->∀e ∈ o.after.toList,Region.binds .any e=true->S e.on):
 ∀(i:Nat) (o:Oper) (j:Nat),ops[i]? =some o->((a0S ops).getD i 0).testBit j=true->S i->S j:=by
 intro i
 induction i using Nat.strongRecOn with
 |_ i ih=>
  intro o j ho hj hi
  rw [ak4 ho] at hj
  rcases a1Y _ j _ _ hj with h|⟨e,he,hbi,h⟩
  ·simp at h
  ·have hlt:=at3 hb ho he hbi
   have hs:=hS i o ho hi e he hbi
   rcases h with rfl|h
   ·exact hs
   ·have hio:i<ops.length:=(lbe.1 ho).1
    refine ih e.on hlt ops[e.on] j (lbf (by omega)) ?_ hs
    rw [lbl,List.getElem?_take_of_lt hlt] at h
    rw [lbl]
    exact h
theorem a1g {ops:List Oper} (hb:a47 ops=true) {S:Nat->Prop} (hS:∀i o,ops[i]? =some o->S i->∀e ∈ o.after.toList,Region.binds .any e=true->S e.on)
 {i:Nat} {o:Oper} {j:Nat} (ho:ops[i]? =some o) (hr:∀e ∈ o.after.toList,Region.binds .any e=true->S e.on) (hj:((a0S ops).getD i 0).testBit j=true):S j:=by
 rw [ak4 ho] at hj
 rcases a1Y _ j _ _ hj with h|⟨e,he,hbi,h⟩
 ·simp at h
 ·have hlt:=at3 hb ho he hbi
  have hs:=hr e he hbi
  rcases h with rfl|h
  ·exact hs
  ·have hio:i<ops.length:=(lbe.1 ho).1
   refine ac2 hb hS e.on ops[e.on] j (lbf (by omega)) ?_ hs
   rw [lbl,List.getElem?_take_of_lt hlt] at h
   rw [lbl]
   exact h
end
section
open Go.RowKit
theorem a6W {ev ev':Operand->S} {x:Option Operand} {d:Int} {k:Int->Prop} (h:∀y,x=some y->ev y=ev' y):N5 ev x d k=N5 ev' x d k:=by
 cases x with
 |none=>rfl
 |some y=>simp only [N5,h y rfl]
theorem ar2 {P:Program} {τ:Tab} {ev ev':Operand->S} {H:Hp} {op:Op} {Kq:S->List Blk->Prop} {Kg:S->Hp->Prop} (h:∀x ∈ op.operands.toList,ev x=ev' x):
 aop P τ ev H op Kq Kg=aop P τ ev' H op Kq Kg:=by
 cases op with
 |move x=>simp only [aop,h x (by simp [Op.operands])]
 |assign x=>simp only [aop,h x (by simp [Op.operands])]
 |pick c a b=>simp only [aop,h c (by simp [Op.operands]),h a (by simp [Op.operands]),h b (by simp [Op.operands])]
 |load t x=>simp only [aop,ao9,h x (by simp [Op.operands])]
 |store t x v=>simp only [aop,az8,h x (by simp [Op.operands]),h v (by simp [Op.operands])]
 |fieldAddr s x f=>simp only [aop,a5W,h x (by simp [Op.operands])]
 |indexAddr t x i=>simp only [aop,a31,h x (by simp [Op.operands]),h i (by simp [Op.operands])]
 |slice t x lo hi mx=>
  have e1:∀d k,N5 ev lo d k=N5 ev' lo d k:=fun d k=>a6W fun y hy=>h y (by subst hy;simp [Op.operands])
  have e2:∀d k,N5 ev hi d k=N5 ev' hi d k:=fun d k=>a6W fun y hy=>h y (by subst hy;simp [Op.operands])
  cases mx with
  |none=>simp only [aop,a4h,h x (by simp [Op.operands]),e1,e2]
  |some y=>simp only [aop,a4h,h x (by simp [Op.operands]),h y (by simp [Op.operands]),e1,e2]
 |binOp op t x y yt=>simp only [aop,h x (by simp [Op.operands]),h y (by simp [Op.operands])]
 |unOp op t x=>simp only [aop,h x (by simp [Op.operands])]
 |convert s d x=>simp only [aop,h x (by simp [Op.operands])]
 |makeSlice t l c=>simp only [aop,aZ3,h l (by simp [Op.operands]),h c (by simp [Op.operands])]
 |build t parts=>
  have e:(parts.toList.map fun p=>(p.1,ev p.2))=parts.toList.map fun p=>(p.1,ev' p.2):=lbp fun p hp=>by rw [h p.2 (by simp only [Op.operands];exact lbx.2 ⟨p,hp,rfl⟩)]
  simp only [aop,av9,e]
 |buildSlice t n parts=>
  have e:(parts.toList.map fun p=>(p.1,ev p.2))=parts.toList.map fun p=>(p.1,ev' p.2):=lbp fun p hp=>by rw [h p.2 (by simp only [Op.operands];exact lbx.2 ⟨p,hp,rfl⟩)]
  simp only [aop,a1M,e]
 |box t x=>simp only [aop,b6m,h x (by simp [Op.operands])]
 |alloc t=>rfl
 |extract x i=>simp only [aop,h x (by simp [Op.operands])]
 |nilCheck x=>simp only [aop,h x (by simp [Op.operands])]
 |makeFunc fn first caps=>
  have e:caps.toList.map ev=caps.toList.map ev':=lbp fun x hx=>h x (by simp [Op.operands];exact .inr (by simpa using hx))
  simp only [aop,e]
 |call c=>
  obtain ⟨callee,args,ats⟩:=c
  have ea:∀x ∈ args.toList,ev x=ev' x:=fun x hx=>h x (by simp [Op.operands,Call.operands];exact .inr (by simpa using hx))
  have em:args.toList.map ev=args.toList.map ev':=lbp ea
  cases callee with
  |value f=>
   have ef:=h f (by simp [Op.operands,Call.operands])
   simp only [aop,ef,em]
  |invoke r m=>rfl
  |builtin b=>
   cases b with
   |len=>
    simp only [aop]
    split
    ·rename_i t ts x xs h1 h2
     rw [ea x (by rw [h2];simp)]
    ·rfl
   |append=>
    simp only [aop]
    split
    ·rename_i t t' s x h1 h2
     simp only [a97,b11,ea s (by rw [h2];simp),ea x (by rw [h2];simp)]
    ·rfl
   |cap=>
    simp only [aop]
    split
    ·rename_i t x h1 h2
     rw [ea x (by rw [h2];simp)]
    ·rfl
   |copy=>
    simp only [aop]
    split
    ·rename_i t t' x s h1 h2
     simp only [b0l,ea x (by rw [h2];simp),ea s (by rw [h2];simp)]
    ·rfl
   |clear=>
    simp only [aop]
    split
    ·rename_i t x h1 h2
     simp only [aB0,ea x (by rw [h2];simp)]
    ·rfl
   |min=>simp only [aop,em]
   |max=>simp only [aop,em]
   |_=>rfl
 |_=>rfl
def evR (o:Oper) (env:Env):Operand->S:=fun x=>
 match x with
 |.tmp t=>cond ((o.op.operands.toList.filterMap fun x=>match x with|.tmp t=>some t|_=>none).contains t) (F5 env (.tmp t)) .junk
 |x=>F5 env x
theorem b2W {o:Oper} {env:Env} {x:Operand} (h:x ∈ o.op.operands.toList):F5 env x=evR o env x:=by
 cases x with
 |tmp t=>
  have:(o.op.operands.toList.filterMap fun x=>match x with|.tmp t=>some t|_=>none).contains t=true:=by
   rw [ax9,List.mem_filterMap]
   exact ⟨.tmp t,h,rfl⟩
  simp only [evR,this,cond_true]
 |_=>rfl
inductive Kd where
 |skip
 |quiet (B:List Blk)
 |gen
def aC8 (P:Program) (ops:List Oper) (envs:Nat->Env) (hs:Nat->Hp) (rs:Nat->S) (kd:Nat->Kd) (i:Nat):Prop:=
 ∃o,ops[i]? =some o∧envs (i+1)=aH2 o.dst (rs i) (envs i)∧match kd i with
  |.skip=>a5a ops o (envs i) false∧rs i=aL8∧hs (i+1)=hs i
  |.quiet B=>a5a ops o (envs i) true∧QOp P o (evR o (envs i)) (hs i) (rs i) B∧hs (i+1)=hs i++B
  |.gen=>a5a ops o (envs i) true∧GOp P o (evR o (envs i)) (hs i) (rs i) (hs (i+1))∧G9 ops i=true∧∀j ∈ X0 ops i,∃oj d,ops[j]? =some oj∧oj.dst=some d∧QOp P oj (evR oj (envs i)) (hs (i+1)) (F5 (envs i) (.tmp d)) []
theorem ao7 {P:Program} {τ:Tab} (hτ:B2 P τ) {ops:List Oper} {env:Env} {H':Hp} {K:Prop}:∀{L:List Nat},a1H P τ ops env H' K L->K∧∀j ∈ L,∃oj d,ops[j]? =some oj∧oj.dst=some d∧QOp P oj (evR oj env) H' (F5 env (.tmp d)) []
 |[],h=>⟨h,by simp⟩
 |j::r,h=>by
  unfold a1H at h
  split at h
  ·rename_i o ho
   split at h
   ·rename_i d hd
    have hcong:=ar2 (P:=P) (τ:=τ) (H:=H') (op:=o.op) (ev:=F5 env) (ev':=evR o env) (fun x hx=>b2W hx)
     (Kq:=fun s B=>(B=[]∧s=F5 env (.tmp d))∧a1H P τ ops env H' K r) (Kg:=fun _ _=>False)
    rw [hcong] at h
    rcases a8e hτ h with ⟨s,B,⟨⟨rfl,rfl⟩,h⟩,hq⟩|⟨s,H2,h,hg⟩
    ·obtain ⟨h1,h2⟩:=ao7 hτ h
     refine ⟨h1,fun i hi=>?_⟩
     rcases lbA.1 hi with rfl|hi
     ·exact ⟨o,d,ho,hd,hq⟩
     ·exact h2 i hi
    ·exact h.elim
   ·exact h.elim
  ·exact h.elim
theorem a9J {P:Program} {τ:Tab} (hτ:B2 P τ) {ops:List Oper} {K:Env->Hp->Prop}:∀(rest:List Oper) (i:Nat) (env:Env) (H:Hp),ops.drop i=rest->a7n P τ ops true i rest env H K->
 ∃(envs:Nat->Env) (hs:Nat->Hp) (rs:Nat->S) (kd:Nat->Kd),envs i=env∧hs i=H∧K (envs ops.length) (hs ops.length)∧∀j,i<=j->j<ops.length->aC8 P ops envs hs rs kd j
 |[],i,env,H,hd,h=>⟨fun _=>env,fun _=>H,fun _=>.junk,fun _=>.skip,rfl,rfl,h,fun j h1 h2=>by
    have:=congrArg List.length hd
    simp at this
    omega⟩
 |o::rest,i,env,H,hd,h=>by
  have hget:ops[i]? =some o:=by
   have:(ops.drop i)[0]? =some o:=by rw [hd];rfl
   rw [lbj] at this
   simpa using this
  have hil:i<ops.length:=(lbe.1 hget).1
  have hd':ops.drop (i+1)=rest:=by rw [← a9l,hd];rfl
  have build:∀(r:S) (k:Kd) (env':Env) (H':Hp),a7n P τ ops true (i+1) rest env' H' K->env'=aH2 o.dst r env->
   (match k with
     |.skip=>a5a ops o env false∧r=aL8∧H'=H
     |.quiet B=>a5a ops o env true∧QOp P o (evR o env) H r B∧H'=H++B
     |.gen=>a5a ops o env true∧GOp P o (evR o env) H r H'∧G9 ops i=true∧∀j ∈ X0 ops i,∃oj d,ops[j]? =some oj∧oj.dst=some d∧QOp P oj (evR oj env) H' (F5 env (.tmp d)) [])->
   ∃(envs:Nat->Env) (hs:Nat->Hp) (rs:Nat->S) (kd:Nat->Kd),envs i=env∧hs i=H∧K (envs ops.length) (hs ops.length)∧∀j,i<=j->j<ops.length->aC8 P ops envs hs rs kd j:=by
   intro r k env' H' hrest henv hk
   obtain ⟨envs,hs,rs,kd,h1,h2,h3,h4⟩:=a9J hτ rest (i+1) env' H' hd' hrest
   refine ⟨fun j=>if j=i then env else envs j,fun j=>if j=i then H else hs j,fun j=>if j=i then r else rs j,fun j=>if j=i then k else kd j,by simp,by simp,?_,fun j hj hjl=>?_⟩
   ·simp only [show ¬ops.length=i by omega,if_false];exact h3
   ·by_cases hji:j=i
    ·subst hji
     refine ⟨o,hget,?_,?_⟩
     ·simp only [show ¬j+1=j by omega,if_false,if_true,h1,henv]
     ·simp only [if_true,show ¬j+1=j by omega,if_false,h2]
      exact hk
    ·obtain ⟨o',q1,q2,q3⟩:=h4 j (by omega) hjl
     refine ⟨o',q1,?_,?_⟩
     ·simp only [hji,show ¬j+1=i by omega,if_false];exact q2
     ·simp only [hji,show ¬j+1=i by omega,if_false];exact q3
  obtain ⟨y,hw,h⟩:=ac5 h
  cases y with
  |false=>
   rw [cond_false,a2m] at h
   exact build aL8 .skip _ H h rfl ⟨hw,rfl,rfl⟩
  |true=>
   rw [cond_true] at h
   have hcong:=ar2 (P:=P) (τ:=τ) (H:=H) (op:=o.op) (ev:=F5 env) (ev':=evR o env) (fun x hx=>b2W hx)
    (Kq:=fun s B=>ai6 o.dst s env fun env'=>ab6 H B fun H'=>a7n P τ ops true (i+1) rest env' H' K)
    (Kg:=fun s H'=>G9 ops i=true∧∃L,X0 ops i=L∧a1H P τ ops env H' (ai6 o.dst s env fun env'=>a7n P τ ops true (i+1) rest env' H' K) L)
   have h0:aop P τ (F5 env) H o.op (fun s B=>ai6 o.dst s env fun env'=>ab6 H B fun H'=>a7n P τ ops true (i+1) rest env' H' K)
    (fun s H'=>G9 ops i=true∧∃L,X0 ops i=L∧a1H P τ ops env H' (ai6 o.dst s env fun env'=>a7n P τ ops true (i+1) rest env' H' K) L):=h
   rw [hcong] at h0
   rcases a8e hτ h0 with ⟨s,B,h,hq⟩|⟨s,H',⟨hb,L,hL,h⟩,hg⟩
   ·rw [a2m,a2F] at h
    exact build s (.quiet B) _ _ h rfl ⟨hw,hq,rfl⟩
   ·obtain ⟨h,hl⟩:=ao7 hτ h
    rw [a2m] at h
    exact build s .gen _ H' h rfl ⟨hw,hg,hb,by rw [hL];exact hl⟩
end
section
open Go.RowKit
theorem j4.pre1 {w:World} {ι:Io} {M:Ms} {H X:Hp} (h:j4 w ι M (H++X)):j4 w ι M H:=by
 have e:∀(id:Nat) (k:Blk),H[id]? =some k->(H++X)[id]? =some k:=fun id k hk=>by
  rw [lbb (lbe.1 hk).1];exact hk
 exact ⟨fun id k hk=>h.blk id k (e id k hk),fun id k hk=>h.liv id k (e id k hk),fun id k hk=>h.fro id k (e id k hk),fun id id' k k' hk hk'=>h.inj id id' k k' (e id k hk) (e id' k' hk'),fun id id' k k' hk hk'=>h.old id id' k k' (e id k hk) (e id' k' hk')⟩
theorem j4.extend {w:World} {ι:Io} {M:Ms} {H X:Hp} (h:j4 w ι M H) (hF:a0R ι H.length):j4 w ι M (H++X):=by
 have e:∀(id:Nat) (k:Blk),(H++X)[id]? =some k->∀l,ι id=some l->H[id]? =some k:=fun id k hk l hl=>by
  by_cases hid:id<H.length
  ·rw [lbb hid] at hk;exact hk
  ·rw [hF id (by omega)] at hl;cases hl
 exact ⟨fun id k hk hd l hl=>h.blk id k (e id k hk l hl) hd l hl,fun id k hk hm b c s hl=>h.liv id k (e id k hk _ hl) hm b c s hl,fun id k hk hm b c s hl=>h.fro id k (e id k hk _ hl) hm b c s hl,
  fun id id' k k' hk hk' hm hm' b c s c' s' hl hl'=>h.inj id id' k k' (e id k hk _ hl) (e id' k' hk' _ hl') hm hm' b c s c' s' hl hl',
  fun id id' k k' hk hk' hm hm' b c s c' s' hl hl'=>h.old id id' k k' (e id k hk _ hl) (e id' k' hk' _ hl') hm hm' b c s c' s' hl hl'⟩
theorem H7.insert {w:World} {ι:Io} {M:Ms} {H:Hp} {n:Nat} {s:S} {B:List Blk} {v:Value} {w':World} (hH:j4 w ι M H) (hM:MB w M) (hB:∀k,k<B.length->H[n+k]? =B[k]?)
 (hf:∀k,k<B.length->ι (n+k)=none) (h:H7 w ι M n s B v w'):
 ∃new:Nat->Loc,RS w' (A8 ι n B.length new) (a5d M B.length new) s v∧Ext w w'∧j4 w' (A8 ι n B.length new) (a5d M B.length new) H∧MB w' (a5d M B.length new)∧
  (∀ b,a5d M B.length new b->M b∨w.heap.size<=b)∧(∀ b,a1Z (A8 ι n B.length new) H b->a1Z ι H b∨w.heap.size<=b):=by
 obtain ⟨new,h1,h2,h3,h4,h5⟩:=h
 have hM':∀b,a5d M B.length new b->M b∨w.heap.size<=b:=by
  rintro b (hb|⟨k,hk,cap,size,he⟩)
  ·exact .inl hb
  ·exact .inr (h4 k b cap size hk he).1
 have hcase:∀id l,A8 ι n B.length new id=some l->(ι id=some l∧¬(n<=id∧id<n+B.length))∨∃k,k<B.length∧id=n+k∧l=new k:=by
  intro id l hl
  unfold A8 at hl
  split at hl
  ·injection hl with hl
   exact .inr ⟨id - n,by omega,by omega,hl.symm⟩
  ·rename_i hc;exact .inl ⟨hl,hc⟩
 have hext:∀id l,ι id=some l->A8 ι n B.length new id=some l:=fun id l hl=>a7V hf hl
 have hlt:∀id b cap size,ι id=some (.blk b cap size)->∀k,H[id]? =some k->k.mode≠.dead->b<w.heap.size:=fun id b cap size hi k hk hd=>by
  obtain ⟨_,_,_,_,_,cur,hc,_⟩:=hH.blk id k hk hd _ hi
  exact A9 hc
 refine ⟨new,h1,h2,⟨?_,?_,?_,?_,?_⟩,?_,hM',?_⟩
 ·intro id k hk hd l hl
  rcases hcase id l hl with ⟨hl,_⟩|⟨j,hj,rfl,rfl⟩
  ·have hb:=hH.blk id k hk hd l hl
   cases l with
   |nil=>exact hb
   |blk b cap size=>
    obtain ⟨q1,q2,q3,q4,q5,cur,q6,q7,q8⟩:=hb
    refine ⟨q1,q2,q3,q4,q5,cur,(h2.keep b (A9 q6)).trans q6,q7,fun i j c hc=>?_⟩
    obtain ⟨u,hu,hr⟩:=q8 i j c hc
    exact ⟨u,hu,hr.keep (fun b hb _=>h2.keep b hb) hM' hext⟩
  ·rw [hB j hj] at hk
   exact (h3 j k hk).2
 ·intro id k hk hm b cap size hl
  rcases hcase id _ hl with ⟨hl,_⟩|⟨j,hj,rfl,he⟩
  ·exact .inl (hH.liv id k hk hm b cap size hl)
  ·exact .inr ⟨j,hj,cap,size,he.symm⟩
 ·intro id k hk hm b cap size hl
  rcases hcase id _ hl with ⟨hl,_⟩|⟨j,hj,rfl,he⟩
  ·have hb:=hlt id b cap size hl k hk (by rw [hm];intro h;cases h)
   rintro (h|⟨k',hk',cap',size',he⟩)
   ·exact hH.fro id k hk hm b cap size hl h
   ·have:=(h4 _ _ _ _ hk' he).1;omega
  ·rw [hB j hj] at hk
   have:=(h3 j k hk).1
   rw [hm] at this;cases this
 ·intro id id' k k' hk hk' hm hm' b cap size cap' size' hl hl'
  rcases hcase id _ hl with ⟨hl,_⟩|⟨j,hj,rfl,he⟩<;>rcases hcase id' _ hl' with ⟨hl',_⟩|⟨j',hj',rfl,he'⟩
  ·exact hH.inj id id' k k' hk hk' hm hm' b cap size cap' size' hl hl'
  ·have:=hlt id b cap size hl k hk (by rw [hm];intro h;cases h)
   have:=(h4 _ _ _ _ hj' he'.symm).1
   omega
  ·have:=hlt id' b cap' size' hl' k' hk' (by rw [hm'];intro h;cases h)
   have:=(h4 _ _ _ _ hj he.symm).1
   omega
  ·have:=h5 _ _ _ _ _ _ _ hj hj' he.symm he'.symm
   omega
 ·intro id id' k k' hk hk' hm hm' b cap size cap' size' hl hl'
  rcases hcase id _ hl with ⟨hl,_⟩|⟨j,hj,rfl,he⟩
  ·rcases hcase id' _ hl' with ⟨hl',_⟩|⟨j',hj',rfl,he'⟩
   ·exact hH.old id id' k k' hk hk' hm hm' b cap size cap' size' hl hl'
   ·have:=hlt id b cap size hl k hk (by rw [hm];intro h;cases h)
    have:=(h4 _ _ _ _ hj' he'.symm).1
    omega
  ·rw [hB j hj] at hk
   have:=(h3 j k hk).1
   rw [hm] at this;cases this
 ·rintro b (hb|⟨k,hk,cap,size,he⟩)
  ·exact a27 (hM b hb) h2.size
  ·exact (h4 k b cap size hk he).2
 ·rintro b ⟨id,k,cap,size,hk,hm,hl⟩
  rcases hcase id _ hl with ⟨hl,_⟩|⟨j,hj,rfl,he⟩
  ·exact .inl ⟨id,k,cap,size,hk,hm,hl⟩
  ·exact .inr (h4 _ _ _ _ hj he.symm).1
section
variable {P:Program} {ops:Array Oper} {envs:Nat->Env} {hs:Nat->Hp} {rs:Nat->S} {kd:Nat->Kd}
def C1 (ops:Array Oper) (i:Nat):Option Nat:=(ops[i]?).bind (·.dst)
theorem a2A (hd:a67 ops.toList=true) {i j t:Nat} (hi:C1 ops i=some t) (hj:C1 ops j=some t):i=j:=by
 unfold C1 at hi hj
 cases hoi:ops[i]? with
 |none=>rw [hoi] at hi;cases hi
 |some oi=>
  cases hoj:ops[j]? with
  |none=>rw [hoj] at hj;cases hj
  |some oj=>
   rw [hoi] at hi
   rw [hoj] at hj
   have hi:oi.dst=some t:=hi
   have hj:oj.dst=some t:=hj
   have:=lbv.1 hd (oi,i) (by rw [a7y];simpa using hoi)
   have:=lbv.1 this (oj,j) (by rw [a7y];simpa using hoj)
   simp only [hi,hj,a9V,av8,Bool.or_false] at this
   exact a0H this
theorem a6I (hd:aL6 ops.toList=true) {i j t:Nat} {oi:Oper} (hi:ops[i]? =some oi) (hr:t ∈ Y9 ops.toList oi) (hj:C1 ops j=some t) (hne:i≠j):
 (j<i->((a0S ops.toList).getD i 0).testBit j=true)∧(i<j->((a0S ops.toList).getD j 0).testBit i=true):=by
 unfold C1 at hj
 cases hoj:ops[j]? with
 |none=>rw [hoj] at hj;cases hj
 |some oj=>
  rw [hoj] at hj
  have hj:oj.dst=some t:=hj
  have:=lbv.1 hd (oi,i) (by rw [a7y];simpa using hi)
  have:=lbv.1 this t hr
  have:=lbv.1 this (oj,j) (by rw [a7y];simpa using hoj)
  simp only [hj,a9V,av8,Bool.false_or,lbN] at this
  have this:=this.resolve_left (fun h=>hne (a0H h))
  refine ⟨fun hlt=>?_,fun hlt=>?_⟩
  ·rw [show Nat.blt j i=true by rw [R5];exact hlt] at this
   simpa using this
  ·rw [show Nat.blt j i=false by rw [← lbP,R5];omega] at this
   simpa using this
theorem aj4 {i j:Nat} (hb:G9 ops.toList i=true) (hj:j<ops.size) (hlt:i<j):((a0S ops.toList).getD j 0).testBit i=true:=by
 unfold G9 at hb
 rw [lbM] at hb
 have:=lbv.1 hb.1 j (by simpa using hj)
 rw [show Nat.blt i j=true by rw [R5];exact hlt] at this
 simpa using this
theorem ag7 {i j:Nat} (hlt:j<i) (hno:j ∉ X0 ops.toList i):((a0S ops.toList).getD i 0).testBit j=true:=by
 unfold X0 at hno
 rw [lby] at hno
 cases h:((a0S ops.toList).getD i 0).testBit j with
 |true=>rfl
 |false=>exact absurd ⟨lbB.2 hlt,by rw [h];rfl⟩ hno
theorem az9 {i j:Nat} (hb:G9 ops.toList i=true) (hj:j ∈ X0 ops.toList i):a0A ops.toList i j=true:=by
 unfold G9 at hb
 rw [lbM] at hb
 exact lbv.1 hb.2 j hj
theorem a3X {i j y t d:Nat} {oj:Oper} (hf:a0A ops.toList i j=true) (hoj:ops[j]? =some oj) (ht:t ∈ Y9 ops.toList oj) (hy:C1 ops y=some t):y<j∨i<y:=by
 unfold a0A at hf
 have hoj':ops.toList[j]? =some oj:=by simpa using hoj
 rw [hoj'] at hf
 simp only [lbM] at hf
 have:=lbv.1 hf.2 t ht
 unfold C1 at hy
 cases hoy:ops[y]? with
 |none=>rw [hoy] at hy;cases hy
 |some oy=>
  rw [hoy] at hy
  have hy:oy.dst=some t:=hy
  have:=lbv.1 this (oy,y) (by rw [a7y];simpa using hoy)
  simp only [hy,a9V,av8,Bool.false_or,lbN,R5] at this
  exact this
theorem aR1 {i j:Nat} {oj:Oper} (hf:a0A ops.toList i j=true) (hoj:ops[j]? =some oj):oj.guard=none:=by
 unfold a0A at hf
 have hoj':ops.toList[j]? =some oj:=by simpa using hoj
 rw [hoj'] at hf
 simp only [lbM] at hf
 simpa using hf.1.1
variable (hT:∀j,j<ops.size->aC8 P ops.toList envs hs rs kd j)
include hT
theorem a7h {p j:Nat} (hpj:p<=j) (hj:j<=ops.size):(envs j).length=(envs p).length:=by
 induction j with
 |zero=>obtain rfl:p=0:=by omega
        rfl
 |succ j ih=>
  by_cases h:p=j+1
  ·subst h;rfl
  ·obtain ⟨o,_,h1,_⟩:=hT j (by omega)
   rw [h1,a1K,ih (by omega) (by omega)]
theorem a3R {p j t:Nat} (hpj:p<=j) (hj:j<=ops.size) (hno:∀i,p<=i->i<j->C1 ops i≠some t):(envs j)[t]? =(envs p)[t]?:=by
 induction j with
 |zero=>obtain rfl:p=0:=by omega
        rfl
 |succ j ih=>
  by_cases h:p=j+1
  ·subst h;rfl
  ·obtain ⟨o,ho,h1,_⟩:=hT j (by omega)
   have hn:=hno j (by omega) (by omega)
   have ho':ops[j]? =some o:=by simpa using ho
   unfold C1 at hn
   rw [ho'] at hn
   rw [h1,←ih (by omega) (by omega) (fun i h1 h2=>hno i h1 (by omega))]
   cases hd:o.dst with
   |none=>rfl
   |some d=>
    have:d≠t:=fun e=>hn (by show o.dst=some t;rw [hd,e])
    show ((envs j).set d (rs j))[t]? =_
    rw [List.getElem?_set_ne this]
theorem aQ9 (hdo:a67 ops.toList=true) {p i j t:Nat} (hpi:p<=i) (hij:i<j) (hj:j<=ops.size) (hd:C1 ops i=some t) (ht:t<(envs p).length):(envs j)[t]? =some (rs i):=by
 have h0:(envs j)[t]? =(envs (i+1))[t]?:=a3R hT (by omega) hj fun i' h1 h2 he=>by
  have:=a2A hdo hd he
  omega
 obtain ⟨o,ho,h1,_⟩:=hT i (by omega)
 have ho':ops[i]? =some o:=by simpa using ho
 unfold C1 at hd
 rw [ho'] at hd
 have hd:o.dst=some t:=hd
 rw [h0,h1,hd]
 show ((envs i).set t (rs i))[t]? =_
 rw [List.getElem?_set_self (by rw [a7h hT hpi (by omega)];exact ht)]
theorem O1 {i j:Nat} (hij:i<=j) (hj:j<=ops.size) (hno:∀k,i<=k->k<j->kd k≠.gen):∃X,hs j=hs i++X:=by
 induction j with
 |zero=>obtain rfl:i=0:=by omega
        exact ⟨[],by simp⟩
 |succ j ih=>
  by_cases h:i=j+1
  ·subst h;exact ⟨[],by simp⟩
  ·obtain ⟨X,hX⟩:=ih (by omega) (by omega) (fun k h1 h2=>hno k h1 (by omega))
   obtain ⟨o,_,_,h2⟩:=hT j (by omega)
   have hg:=hno j (by omega) (by omega)
   cases hk:kd j with
   |skip=>rw [hk] at h2;exact ⟨X,by rw [h2.2.2,hX]⟩
   |quiet B=>rw [hk] at h2;exact ⟨X++B,by rw [h2.2.2,hX,lbD]⟩
   |gen=>exact absurd hk hg
end
def bb4 (P:Program) (ops:Array Oper) (envs:Nat->Env) (hs:Nat->Hp) (j p:Nat):Prop:=
 (∃ q,p=q+1∧a0A ops.toList q j=true)∧∃oj d,ops[j]? =some oj∧oj.dst=some d∧QOp P oj (evR oj (envs p)) (hs p) (F5 (envs p) (.tmp d)) []
structure a5v (P:Program) (ops:Array Oper) (envs:Nat->Env) (hs:Nat->Hp) (rs:Nat->S) (kd:Nat->Kd) (w0:World) (ι0:Io) (M0:Ms) (H0:Hp) (listed:Array Bool) (a:Act) (w:World) (p q:Nat):Prop where
 hpq:p<=q
 hqn:q<=ops.size
 seg:∀j,p<=j->j<q->kd j≠.gen
 fin:q=ops.size∨kd q=.gen
 h0:H0.length<=(hs p).length
 lsz:listed.size=ops.size
 low:∀j,j<p->listed.getD j false=true∨bb4 P ops envs hs j p
 high:∀j,q<=j->listed.getD j false=false
 closed:∀i o,ops[i]? =some o->listed.getD i false=true->∀e ∈ o.after.toList,Region.binds .any e=true->listed.getD e.on false=true
 rel:∃(ι:Io) (M:Ms),a.defers=[]∧a.tmps.size=(envs p).length∧
  (∀ i t,p<=i->listed.getD i false=true->C1 ops i=some t->t<(envs p).length->RS w ι M (rs i) (a.tmps.getD t undef))∧
  (∀ t s,(∀ i,p<=i->listed.getD i false=true->C1 ops i≠some t)->(∀ i,i<p->listed.getD i false=false->C1 ops i≠some t)->(envs p)[t]? =some s->RS w ι M s (a.tmps.getD t undef))∧
  j4 w ι M (hs q)∧MB w M∧(∀ i B,p<=i->i<q->listed.getD i false=false->kd i=.quiet B->∀k,k<B.length->ι ((hs i).length+k)=none)∧
  a0R ι (hs q).length∧a3v w0 ι0 M0 H0 w ι M (hs q)
end
end Go.Proofs.YtaejgdbahjjncaaGreat
