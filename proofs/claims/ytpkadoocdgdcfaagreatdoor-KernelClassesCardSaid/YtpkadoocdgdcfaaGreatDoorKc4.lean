/- A part of the proof. -/
import Derived.Test.YtpkadoocdgdcfaaGreatDoorKc3
import Derived.Maps.RangeRun
import Derived.Laws.BytesString
set_option linter.all false
section
namespace Go.Ab
open Go
open Go.ChangeMaps (setBlock)
section
variable {E : Env} {n : Nat} {fn : FuncId} {ro : Option Nat}
def cH (E:Env) (n:Nat) (fn:FuncId) (ro:Option Nat) (c:Code) (Q:AExit→Tm→AMem→Prop) (t:Tm) (m:AMem):Prop :=
 ∀(j:aH) (w:World) (a:Act) (F:Fence) (N:Nat),MR E j m w→TR n j t a.tmps→jE j ro F→Marks N w a.defers→N≤w.heap.size →
  c.wpIn F 0 E.P (fun e' a' w'=>∃e t' m',Q e t' m'∧jS E j m w N n e t' m' e' a' w') a w
variable {Q Q' : AExit → Tm → AMem → Prop} {t : Tm} {m : AMem} {c x y : Code}
theorem cH.of (hE:EnvOk E) (h:bo E n fn ro c Q t m):cH E n fn ro c Q t m:=fun j w a F N hm ht hro hd hN=>by
 obtain⟨e,t',m',⟨k,hk⟩,q⟩:=h;obtain⟨e0,t0,m0,hr,H⟩:=jx hE k _ _ hk;cases hr;exact wpIn_mono (H j w a F N hm ht hro hd hN) fun e' a' w' hq=>⟨e,t',m',q,hq⟩
theorem cH.mono (h:cH E n fn ro c Q t m) (hq:∀e t m,Q e t m→Q' e t m):cH E n fn ro c Q' t m:=fun j w a F N hm ht hro hd hN =>
 wpIn_mono (h j w a F N hm ht hro hd hN) fun e' a' w' ⟨e,t',m',q,hc⟩=>⟨e,t',m',hq _ _ _ q,hc⟩
theorem cH.Aj (h:cH E n fn ro x (kq (cH E n fn ro y Q) Q) t m):cH E n fn ro (.seq x y) Q t m:=fun j w a F N hm ht hro hd hN=>by
 refine wpIn_seq (wpIn_mono (h j w a F N hm ht hro hd hN) ?_);rintro e' a' w' ⟨e,t',m',q,hc⟩;obtain⟨rfl,j',s,ht',hd'⟩:=hc;cases e with
 | normal=>exact wpIn_mono (q j' w' a' F N s.mr ht' (hro.mono s.le) hd' (Nat.le_trans hN s.size)) fun _ _ _ ⟨e2,t2,m2,q2,c2⟩=>⟨e2,t2,m2,q2,c2.from hm s⟩
 | exit id=>exact⟨.exit id,t',m',q,rfl,j',s,ht',hd'⟩
 | ret=>exact⟨.ret,t',m',q,rfl,j',s,ht',hd'⟩
theorem cH.seq (hE:EnvOk E) (h:bo E n fn ro x (kq (cH E n fn ro y Q) Q) t m):cH E n fn ro (.seq x y) Q t m:=.Aj (.of hE h)
theorem BF {j:aH} {m:AMem} {w:World} (h:MR E j m w) {r:Nat} (hr:∀b k,j b=some k→(m.get b).isSome=true→k.c≠r) {w1:World} (hw:w1=w∨w1=w.drew) (hE:¬E.mono) {o o':Obj} (ho:w.heap[r]? = some o):MR E j m (setBlock w1 r o')∧w.heap.size=(setBlock w1 r o').heap.size∧(∀c,c≠r→(setBlock w1 r o').heap[c]? = w.heap[c]?)∧ij E w (setBlock w1 r o'):=by
 have hh:w1.heap=w.heap:=by rcases hw with rfl|rfl<;>rfl
 have hs:w.heap.size=(setBlock w1 r o').heap.size:=by simp[setBlock,hh]
 have hg:∀c,c≠r→(setBlock w1 r o').heap[c]? = w.heap[c]?:=fun c hc=>by
  show(w1.heap.setIfInBounds r o')[c]? = _
  rw[hh,Array.getElem?_setIfInBounds_ne (Ne.symm hc)]
 refine⟨⟨fun b k e=>⟨(h.lt b k e).1,hs ▸ (h.lt b k e).2⟩,fun b o k hgt e=>?_,h.inj,h.glob⟩,hs,hg,?_⟩
 ·obtain⟨o1,h1,h2⟩:=h.obj b o k hgt e;exact⟨o1,by rw[hg _ (hr b k e (by rw[hgt]; rfl))]; exact h1,h2⟩
 ·rcases hw with rfl|rfl<;>exact⟨rfl,rfl,rfl,fun e=>absurd e hE⟩
theorem vS {j:aH} {m:AMem} {w:World} (h:MR E j m w) {r:Nat} {a:Option Nat} {b0:Nat} {s:Array Nat} {d:Nat} (hr:w.heap[r]? = some (.mapIter a b0 s d)):∀b k,j b=some k→(m.get b).isSome=true→k.c≠r:=by
 intro b k hb hl he;cases hg:m.get b with
 | none=>rw[hg] at hl; cases hl
 | some o =>
  obtain⟨o',h1,h2⟩:=h.obj b o k hg hb;rw[he,hr] at h1;cases h1;cases o<;>exact h2.elim
theorem qV {w:World} {N:Nat} {ds:List Deferred} (hm:Marks N w ds) {r:Nat} {w':World} {a:Option Nat} {b0:Nat} {s:Array Nat} {d:Nat} (hr:w.heap[r]? = some (.mapIter a b0 s d)) (hg:∀c,c≠r→w'.heap[c]? = w.heap[c]?):Marks N w' ds:=by
 obtain⟨rs,h1,h2,h3⟩:=hm;refine⟨rs,h1,h2,fun x hx=>⟨(h3 x hx).1,?_⟩⟩;rw[hg x fun e=>by subst e; have:=(h3 _ hx).2; rw[hr] at this; cases this]
 exact(h3 x hx).2
end
def J1 (w:World) (r c:Nat) (ents:Array MapEntry) (clock:Nat) (S:List Nat) (cnt:Nat):Prop :=
 ∃since seen c0,w.heap[r]? = some (.mapIter (some c) since seen c0)∧w.heap[c]? = some (.map ents clock)∧(∀x ∈ ents.toList,x.born<since)∧since≤c0∧since≤clock∧(∀i x,ents[i]? = some x→(seen.contains x.born=true↔i ∈ S))∧(leftOf ents seen).size=cnt
theorem qb:∀(n:Nat) (S:List Nat),S.Nodup→(∀i ∈ S,i<n)→(∀i,i<n→i ∈ S)→S.Perm (List.range n)
 | 0,S,_,h2,_=>by
  cases S with
  | nil=>exact List.Perm.refl _
  | cons a l=>exact absurd (h2 a (by simp)) (by omega)
 | n+1,S,h1,h2,h3=>by
  have hm:n ∈ S:=h3 n (by omega)
  have hp:=List.perm_cons_erase hm;have ih:=qb n (S.erase n) (h1.erase n) (fun i hi=>by
   have h4:=h2 i (List.mem_of_mem_erase hi);have h5:i≠n:=fun e=>by subst e; exact(List.Nodup.not_mem_erase h1) hi
   omega) fun i hi=>(List.mem_erase_of_ne (by omega)).2 (h3 i (by omega))
  rw[List.range_succ];exact hp.trans ((List.Perm.cons n ih).trans (List.perm_append_singleton n (List.range n)).symm)
section
variable {E : Env} {n : Nat} {fn : FuncId} {ro : Option Nat}
theorem eval_put {a:Act} {d:Tmp} {v:Value} (h:d<a.tmps.size):(a.put (some d) v).eval (.tmp d)=v:=by
 simp[Act.put,Act.eval,h]
theorem DI (hE:EnvOk E) (hmono:¬E.mono) {B B' i2 i3:Nat} {oN oX oE:Oper} {rest:List Oper} {ops3:Array Oper} {X:Code} {d2 e1 e2 f1:Tmp}
  (hN:oN.op = .next (.tmp d2) false∧oN.dst=some e1∧oN.guard=none) (hX:oX.op = .extract (.tmp e1) 0∧oX.dst=some e2∧oX.guard=none) (hOE:oE.op = .entry (.tmp d2)∧oE.dst=some f1∧oE.guard=none) (h3:ops3.toList=oE::rest)
  (h6:e1<n) (h7:e2<n) (h14:f1<n) (h15:e1≠d2) (h16:e2≠d2) (_hd3:f1≠d2)
  {mb:AMem} {w0:World} {j0:aH} (h17:MR E j0 mb w0) {bm bi:Nat} {es:List (Value × Value)} {lim:Nat} (hbm:mb.get bm=some (.map es)) (hbl:bm<lim)
  (Inv:List Nat→Tm→AMem→Prop) (hExt:∀S t m,Inv S t m→m.get bm=some (.map es)∧lim≤m.wl∧t.at d2=ptr bi 0)
  (hstep:∀S i e t m,S.Nodup→(∀i ∈ S,i<es.length)→i ∉ S→es[i]? = some e→Inv S t m→il E n ops3 (fun t' m'=>bo E n fn ro X (fun e' t'' m''=>e' = .normal∧Inv (S++[i]) t'' m'') t' m') rest (((t.set e1 (.tuple #[.bool true,e.1,e.2])).set e2 (.bool true)).set f1 (.tuple #[e.1,e.2])) m)
  {r:Nat} (h32:w0.heap.size≤r) {kb:Blk} {ents:Array MapEntry} {clock:Nat} (hinc:D1 ents clock) (a3:List Deferred) (N:Nat) :
  ∀(K:Nat) (S:List Nat) (cnt:Nat) (t:Tm) (m:AMem) (j:aH) (w:World) (a:Act) (F:Fence),cnt<K→S.Nodup→(∀i ∈ S,i<es.length)→Inv S t m→Sim E j0 mb w0 j m w→TR n j t a.tmps→jE j ro F→Marks N w a.defers→N≤w.heap.size →
   j bi=some ⟨r,none⟩→j bm=some kb→ER j es ents.toList→J1 w r kb.c ents clock S cnt →
   mj F 0 E.P (.seq (.region i2 #[oN,oX] false) (.seq (.cond (.tmp e2) .skip (.exit B)) (.block B' (.seq (.region i3 ops3 false) X))))
    (fun e' a' w'=>∃S t' m',S.Perm (List.range es.length)∧Inv S t' m'∧jS E j0 mb w0 N n (.exit B) ((t'.set e1 (.tuple #[.bool false])).set e2 (.bool false)) m' e' a' w') a w:=by
 intro K
 induction K with
 | zero=>intro S cnt t m j w a F hc; exact absurd hc (by omega)
 | succ K ih =>
  intro S cnt t m j w a F hc hnd hSl hinv s ht hro hmk hNw hjr hjm her hit;have hlen:es.length=ents.size:=by have:=her.len; simpa using this
  obtain⟨hg,hwl,htd⟩:=hExt S t m hinv;obtain⟨since,seen,c0,i1,i2',i3',i5,i4,i0,i6⟩:=hit;refine jo (wpIn_seq (wpIn_region ?_));have hiter:a.eval (.tmp d2) = .pointer (some ⟨r,0,none⟩):=by
   have hv:=ht.2 d2;rw[htd] at hv
   show a.tmps.getD d2 undef=_
   generalize hx:a.tmps.getD d2 undef=x at hv;cases hv with
   | ptr hj=>rw[hjr] at hj; cases hj; rfl
  have hsz:a.tmps.size=n:=ht.1;have hlist:List.range (#[oN,oX]:Array Oper).size = [0,1]:=rfl;rw[hlist];have w0':Region.wanted oN (yielded #[oN,oX] a.tmps)=true:=by simp[Region.wanted,hN.2.2]
  have g0:(#[oN,oX]:Array Oper)[0]? = some oN:=rfl;have g1:(#[oN,oX]:Array Oper)[1]? = some oX:=rfl;simp only[wpOpsIn,g0,g1,w0',if_true];have hexN:execOp a.eval oN=(do pure (.value (←Instr.next (.pointer (some ⟨r,0,none⟩)) false oN.type))):=by simp only[execOp,hN.1,hiter]
  have hdN:∀c,oN.op≠.defer c:=fun c e=>by rw[hN.1] at e; cases e
  have hdX:∀c,oX.op≠.defer c:=fun c e=>by rw[hX.1] at e; cases e
  have hbmj:bm<m.next:=(s.mr.lt bm kb hjm).1
  rcases run_next_at (P:=E.P) w oN.type r kb.c since c0 seen ents clock i1 i2' i3' i5 with⟨q0,hrun⟩|⟨x,hx,w1,h11,hrun⟩
  ·
   refine cP hro.wide hdN (by rw[hexN]; exact jI.value hrun) ?_
   have h4:TR n j (t.set e1 (.tuple #[.bool false])) (a.put oN.dst (.tuple #[.bool false])).tmps:=ht.put (t':=t.set e1 (.tuple #[.bool false])) (.tuple' (LR.cons (.bool false) (.nil j))) (by rw[hN.2.1,cw,if_pos h6])
   rw[hN.2.1] at h4 ⊢;have w1':Region.wanted oX (yielded #[oN,oX] (a.put (some e1) (.tuple #[.bool false])).tmps)=true:=by simp[Region.wanted,hX.2.2]
   rw[if_pos w1'];have hexX:execOp (a.put (some e1) (.tuple #[.bool false])).eval oX=(do pure (.value (←Instr.extract (.tuple #[.bool false]) 0))):=by
    simp only[execOp,hX.1];rw[eval_put (v:=.tuple #[.bool false]) (d:=e1) (a:=a) (hsz.symm ▸ h6)]
   refine cP hro.wide hdX (v:=.bool false) (w':=w) (by rw[hexX]; exact jI.value rfl) ?_
   have h0:=h4.put (t':=(t.set e1 (.tuple #[.bool false])).set e2 (.bool false)) (dst:=oX.dst) (.bool false) (by rw[hX.2.1,cw,if_pos h7])
   rw[hX.2.1] at h0 ⊢;refine wpIn_seq (wpIn_cond_false (eval_put (by simp only[Act.put,Array.size_setIfInBounds]; exact hsz.symm ▸ h7)) (wpIn_exit ?_))
   refine⟨S,t,m,qb _ S hnd hSl fun i hi=>?_,hinv,rfl,j,s,h0,hmk⟩;have hi':i<ents.size:=by omega
   refine(i0 i _ (Array.getElem?_eq_getElem hi')).1 ?_;cases hcs:seen.contains (ents[i]'hi').born with
   | true=>rfl
   | false =>
    have:(ents[i]'hi') ∈ (leftOf ents seen).toList:=by
     unfold leftOf;simp[hcs];exact fun h=>by simp_all
    rw[Array.eq_empty_of_size_eq_zero q0] at this;simp at this
  ·
   obtain⟨hxm,hxs⟩:=mem_left hx;obtain⟨i,hi⟩:=List.mem_iff_getElem?.1 hxm;have hi':ents[i]? = some x:=by simpa using hi
   have hiS:i ∉ S:=fun h=>by rw[(i0 i x hi').2 h] at hxs; cases hxs
   have hil:i<es.length:=by rw[hlen]; exact(Array.getElem?_eq_some_iff.1 hi').1
   obtain⟨y,hy,hky,hvy⟩:=her.get (List.getElem?_eq_getElem hil);rw[hi] at hy;cases hy;have hne:∀b k,j b=some k→(m.get b).isSome=true→k.c≠r:=vS s.mr i1;have hcr:kb.c≠r:=hne bm kb hjm (by rw[hg]; rfl)
   obtain⟨p2,p1,p0,p3⟩:=BF s.mr hne h11 hmono (o':=.mapIter (some kb.c) since (seen.push x.born) clock) i1;have s0:Sim E j0 mb w0 j m (setBlock w1 r (.mapIter (some kb.c) since (seen.push x.born) clock)) :=
    { ext:=s.ext,le:=s.le,new:=s.new,mr:=p2,size:=by rw[←p1]; exact s.size,full:=s.full,away:=s.away,fresh:=s.fresh,frame:=fun c hc H=>by rw[p0 c (by omega)]; exact s.frame c hc H,calm:=s.calm.trans p3}
   have m3:=qV hmk i1 p0;refine cP hro.wide hdN (by rw[hexN]; exact jI.value hrun) ?_
   generalize h18:setBlock w1 r (.mapIter (some kb.c) since (seen.push x.born) clock)=w2 at s0 m3 p1 p0;have h8:w2.heap[r]? = some (.mapIter (some kb.c) since (seen.push x.born) clock):=by
    rw[←h18];have hh:w1.heap=w.heap:=by rcases h11 with rfl|rfl<;>rfl
    have hrl:=(Array.getElem?_eq_some_iff.1 i1).1;simp[setBlock,hh,hrl]
   have h9:w2.heap[kb.c]? = some (.map ents clock):=by rw[p0 _ hcr]; exact i2'
   have hvT:VR j (.tuple #[.bool true,(es[i]'hil).1,(es[i]'hil).2]) (.tuple #[.bool true,x.key,x.val]):=.tuple' (LR.cons (.bool true) (LR.cons hky (LR.cons hvy (.nil j))));have h4:=ht.put (t':=t.set e1 (.tuple #[.bool true,(es[i]'hil).1,(es[i]'hil).2])) (dst:=oN.dst) hvT (by rw[hN.2.1,cw,if_pos h6])
   rw[hN.2.1] at h4 ⊢;have w1':Region.wanted oX (yielded #[oN,oX] (a.put (some e1) (.tuple #[.bool true,x.key,x.val])).tmps)=true:=by simp[Region.wanted,hX.2.2]
   rw[if_pos w1'];have hexX:execOp (a.put (some e1) (.tuple #[.bool true,x.key,x.val])).eval oX=(do pure (.value (←Instr.extract (.tuple #[.bool true,x.key,x.val]) 0))):=by
    simp only[execOp,hX.1];rw[eval_put (v:=.tuple #[.bool true,x.key,x.val]) (d:=e1) (a:=a) (hsz.symm ▸ h6)]
   refine cP hro.wide hdX (v:=.bool true) (w':=w2) (by rw[hexX]; exact jI.value rfl) ?_
   have h0:=h4.put (t':=(t.set e1 (.tuple #[.bool true,(es[i]'hil).1,(es[i]'hil).2])).set e2 (.bool true)) (dst:=oX.dst) (.bool true) (by rw[hX.2.1,cw,if_pos h7])
   rw[hX.2.1] at h0 ⊢;generalize h10:(a.put (some e1) (.tuple #[.bool true,x.key,x.val])).put (some e2) (.bool true)=a0 at h0;have hdef2:a0.defers=a.defers:=by rw[←h10]; rfl
   have h19:a0.eval (.tmp e2) = .bool true:=by rw[←h10]; exact eval_put (by simp only[Act.put,Array.size_setIfInBounds]; exact hsz.symm ▸ h7)
   have h20:a0.eval (.tmp d2) = .pointer (some ⟨r,0,none⟩):=by
    rw[←h10]
    show(((a.tmps.setIfInBounds e1 _).setIfInBounds e2 _).getD d2 undef)=_
    have h5:a.tmps.getD d2 undef = .pointer (some ⟨r,0,none⟩):=hiter;simp only[Array.getD_eq_getD_getElem?] at h5 ⊢;rw[Array.getElem?_setIfInBounds_ne h16,Array.getElem?_setIfInBounds_ne h15];exact h5
   refine wpIn_seq (wpIn_cond_true h19 (wpIn_skip ?_));refine wpIn_block (wpIn_seq (wpIn_region ?_));have h21:List.range ops3.size=0::List.range' 1 (ops3.size-1):=by
    have:ops3.size=rest.length+1:=by have:=congrArg List.length h3; simpa using this
    rw[this,List.range_eq_range']
    rfl
   rw[h21];have g2:ops3[0]? = some oE:=by have:=congrArg (·[0]?) h3; simpa using this
   have w2':Region.wanted oE (yielded ops3 a0.tmps)=true:=by simp[Region.wanted,hOE.2.2]
   simp only[wpOpsIn,g2,w2',if_true];have hdE:∀c,oE.op≠.defer c:=fun c e=>by rw[hOE.1] at e; cases e
   have hexE:execOp a0.eval oE=(do pure (.value (←Instr.entry (.pointer (some ⟨r,0,none⟩))))):=by simp only[execOp,hOE.1,h20]
   refine cP hro.wide hdE (by rw[hexE]; exact jI.value (run_entry_at w2 r kb.c since seen ents clock x h8 h9 hxm hinc.2)) ?_
   have hvE:VR j (.tuple #[(es[i]'hil).1,(es[i]'hil).2]) (.tuple #[x.key,x.val]):=.tuple' (LR.cons hky (LR.cons hvy (.nil j)));have h12:=h0.put (t':=((t.set e1 (.tuple #[.bool true,(es[i]'hil).1,(es[i]'hil).2])).set e2 (.bool true)).set f1 (.tuple #[(es[i]'hil).1,(es[i]'hil).2])) (dst:=oE.dst) hvE (by rw[hOE.2.1,cw,if_pos h14])
   rw[hOE.2.1] at h12 ⊢;have hdef3:(a0.put (some f1) (.tuple #[x.key,x.val])).defers=a.defers:=by rw[←hdef2]; rfl
   have hst:=hstep S i _ t m hnd hSl hiS (List.getElem?_eq_getElem hil) hinv;obtain⟨k0,t0,m5,h22,hX4⟩:=k7 hst;have hrun3:=ji (ops:=ops3) (n:=n) (tf:=t0) (mf:=m5) (F:=F) (jx hE k0) hro.wide (Q:=Exit.then (fun a' w'=>X.wpIn F 0 E.P (Exit.inBlock B' (Exit.then (fun a' w'=>mj F 0 E.P (.seq (.region i2 #[oN,oX] false) (.seq (.cond (.tmp e2) .skip (.exit B)) (.block B' (.seq (.region i3 ops3 false) X)))) (fun e' a' w'=>∃S t' m',S.Perm (List.range es.length)∧Inv S t' m'∧jS E j0 mb w0 N n (.exit B) ((t'.set e1 (.tuple #[.bool false])).set e2 (.bool false)) m' e' a' w') a' w')
     (fun e' a' w'=>∃S t' m',S.Perm (List.range es.length)∧Inv S t' m'∧jS E j0 mb w0 N n (.exit B) ((t'.set e1 (.tuple #[.bool false])).set e2 (.bool false)) m' e' a' w'))) a' w')
     (Exit.inBlock B' (Exit.then (fun a' w'=>mj F 0 E.P (.seq (.region i2 #[oN,oX] false) (.seq (.cond (.tmp e2) .skip (.exit B)) (.block B' (.seq (.region i3 ops3 false) X)))) (fun e' a' w'=>∃S t' m',S.Perm (List.range es.length)∧Inv S t' m'∧jS E j0 mb w0 N n (.exit B) ((t'.set e1 (.tuple #[.bool false])).set e2 (.bool false)) m' e' a' w') a' w')
     (fun e' a' w'=>∃S t' m',S.Perm (List.range es.length)∧Inv S t' m'∧jS E j0 mb w0 N n (.exit B) ((t'.set e1 (.tuple #[.bool false])).set e2 (.bool false)) m' e' a' w')))) s0.mr a.defers ?_ rest 1 _ m j w2 (a0.put (some f1) (.tuple #[x.key,x.val])) (by rw[h3]; rfl) h22 (.refl s0.mr) h12 hdef3
   ·exact hrun3
   ·
    intro j3 w4 a1 s2 h23 h24;obtain⟨e0,t1,m4,⟨k1,h25⟩,h26,hinv5⟩:=hX4;subst h26;obtain⟨e3,t2,m8,h27,H6⟩:=jx hE k1 _ _ h25;cases h27;have m6:Marks N w4 a1.defers:=by rw[h24]; exact m3.A6 s0.mr s2
    refine wpIn_mono (H6 j3 w4 a1 F N s2.mr h23 (hro.mono s2.le) m6 (by have:=s2.size; omega)) ?_
    rintro e4 a2 w3 ⟨rfl,j2,s3,h28,m7⟩;have s1:Sim E j m w2 j2 m4 w3:=s2.trans s0.mr s3;have hk5':=hExt _ _ _ hinv5;have h29:∀b k,j b=some k→(m.get b).isSome=true→k.c≠r:=vS s0.mr h8;have h30:w3.heap[r]? = w2.heap[r]?:=s1.frame r (Array.getElem?_eq_some_iff.1 h8).1 fun b k hb hl he=>absurd he (h29 b k hb hl);have h31:w3.heap[kb.c]? = w2.heap[kb.c]?:=s1.frame kb.c (Array.getElem?_eq_some_iff.1 h9).1 fun b k hb hl he=>by
     have:=s0.mr.inj b bm k kb hb hjm hl (by rw[hg]; rfl) he
     omega
    refine ih (S++[i]) _ t1 m4 j2 w3 a2 F ?_ ?_ ?_ hinv5 (s0.trans h17 s1) h28 ((hro.mono s2.le).mono s3.le) m7 (by have:=s1.size; omega) (s1.le _ _ hjr) (s1.le _ _ hjm) (her.mono s1.le)
     ⟨since,seen.push x.born,clock,by rw[h30]; exact h8,by rw[h31]; exact h9,i3',i4,i4,fun i' x' hx'=>?_,rfl⟩
    ·have:=left_shrinks ents seen x hx;omega
    ·exact List.nodup_append.2 ⟨hnd,by simp,fun p hp q hq=>by rw[List.mem_singleton] at hq; subst hq; exact fun e=>hiS (e ▸ hp)⟩
    ·intro p hp;rcases List.mem_append.1 hp with hp|hp
     ·exact hSl p hp
     ·rw[List.mem_singleton.1 hp]; exact hil
    ·have hcp:(seen.push x.born).contains x'.born=true↔(seen.contains x'.born=true∨x'.born=x.born):=by simp[Array.mem_push]
     rw[hcp,i0 i' x' hx',List.mem_append,List.mem_singleton];refine or_congr Iff.rfl ⟨fun e=>?_,fun e=>?_⟩
     ·have h13:(ents.toList.map (·.born))[i']? = some x'.born:=by rw[List.getElem?_map]; simp[hx']
      have h5:(ents.toList.map (·.born))[i]? = some x.born:=by rw[List.getElem?_map]; simp[hi']
      have hl':i'<(ents.toList.map (·.born)).length:=(List.getElem?_eq_some_iff.1 h13).1;exact(List.getElem_inj (h₀:=hl') (h₁:=(List.getElem?_eq_some_iff.1 h5).1) hinc.2).1 (by
       rw[(List.getElem?_eq_some_iff.1 h13).2,(List.getElem?_eq_some_iff.1 h5).2,e])
     ·subst e; rw[hi'] at hx'; cases hx'; rfl
end
section
variable {E : Env} {n : Nat} {fn : FuncId} {ro : Option Nat}
theorem MR.IX {j:aH} {m:AMem} {w:World} (h:MR E j m w) (x:Nat):MR E j (m.ww x) w :=
 ⟨fun b k e=>by rw[AMem.next_ww]; exact h.lt b k e,fun b o k ho=>by rw[AMem.get_ww] at ho; exact h.obj b o k ho,fun b b' k k' e e'=>by rw[AMem.get_ww,AMem.get_ww]; exact h.inj b b' k k' e e',h.glob⟩
theorem Io {j j':aH} {m m':AMem} {w w':World} {x:Nat} (s:Sim E j (m.ww x) w j' m' w'):Sim E j m w j' (m'.ww (min m.wl m'.wl)) w' where
 ext:=⟨by have:=s.ext.next; rwa[AMem.next_ww] at this ⊢,by rw[AMem.wl_ww]; omega,fun b hb hl=>by
  rw[AMem.wl_ww] at hl;have:=s.ext.same b (by rw[AMem.next_ww]; exact hb) (by omega)
  rwa[AMem.get_ww] at this ⊢,fun b hb hn=>by
  have:=s.ext.dead b (by rw[AMem.next_ww]; exact hb) (by rw[AMem.get_ww]; exact hn)
  rwa[AMem.get_ww]⟩
 le:=s.le
 new:=fun b k h h'=>by have:=s.new b k h h'; rwa[AMem.next_ww] at this
 mr:=s.mr.IX _
 size:=s.size
 full:=fun b h h' hl=>by
  rw[AMem.next_ww] at h';rw[AMem.get_ww] at hl;exact s.full b (by rw[AMem.next_ww]; exact h) h' hl
 away:=fun b hb hn=>by
  have:=s.away b (by rw[AMem.next_ww]; exact hb) hn
  rwa[AMem.get_ww] at this ⊢
 fresh:=fun b k h h'=>by
  rcases s.fresh b k h h' with hf|⟨b0,k0,a1,a2,a3,a4⟩
  ·exact .inl hf
  ·rw[AMem.get_ww] at a2;exact .inr ⟨b0,k0,a1,a2,a3,by rw[AMem.wl_ww]; omega⟩
 frame:=fun c hc H=>s.frame c hc fun b k hb hl he=>by
  rw[AMem.get_ww] at hl;have:=H b k hb hl he;rw[AMem.wl_ww] at this; omega
 calm:=s.calm
def lE (m:AMem):AMem:=((m.alloc (.cells [] .own)).kill m.next).ww (m.next+1)
theorem nK (m:AMem):(lE m).next=m.next+1:=by unfold lE; rw[AMem.next_ww,AMem.next_kill,AMem.next_alloc]
theorem yX (m:AMem):(lE m).wl=m.next+1:=by unfold lE; rw[AMem.wl_ww]
theorem gT (m:AMem) (b:Nat):(lE m).get b=if b=m.next then none else m.get b:=by
 unfold lE;rw[AMem.get_ww,AMem.fx,AMem.aX]
 split<;>rfl
theorem B6 {j:aH} {m:AMem} {w:World} (h:MR E j m w) (o:Obj):Sim E j (m.ww (m.next+1)) w (j.set m.next ⟨w.heap.size,none⟩) (lE m) (w.alloc o):=by
 have hn:j m.next=none:=h.kW
 have hget:∀c,c<w.heap.size→(w.alloc o).heap[c]? = w.heap[c]?:=fun c hc=>by
  show(w.heap.push o)[c]? = w.heap[c]?
  rw[Array.getElem?_push,if_neg (by omega)]
 refine⟨⟨by rw[AMem.next_ww,nK]; omega,by rw[AMem.wl_ww,yX]; omega,fun b hb _=>?_,fun b hb hd=>?_⟩,aH.lX _ hn,fun b k e e'=>?_,⟨fun b k e=>?_,fun b a k ha e=>?_,fun b b' k k' e e' hl hl' hc=>?_,fun g hg=>?_⟩,by rw[World.size_alloc]; omega,fun b hb hb' hl=>?_,fun b hb hj=>?_,fun b k e e'=>?_,fun c hc _=>hget c hc,⟨rfl,rfl,rfl,fun _=>Nat.le_refl _⟩⟩
 ·rw[AMem.next_ww] at hb;rw[gT,if_neg (by omega),AMem.get_ww]
 ·rw[AMem.next_ww] at hb;rw[AMem.get_ww] at hd;rw[gT,if_neg (by omega),hd]
 ·by_cases hb:b=m.next
  ·rw[hb,AMem.next_ww]; exact Nat.le_refl _
  ·rw[aH.bJ _ _ hb,e'] at e; cases e
 ·rw[nK,World.size_alloc]
  by_cases hb:b=m.next
  ·subst hb; rw[aH.bX] at e; cases e;exact⟨Nat.lt_succ_self _,Nat.lt_succ_self _⟩
  ·rw[aH.bJ _ _ hb] at e;exact⟨Nat.lt_succ_of_lt (h.lt b k e).1,Nat.lt_succ_of_lt (h.lt b k e).2⟩
 ·rw[gT] at ha
  split at ha
  ·cases ha
  ·rename_i hb;rw[aH.bJ _ _ hb] at e;obtain⟨o',h1,h2⟩:=h.obj b a k ha e;exact⟨o',by rw[hget _ (h.lt b k e).2]; exact h1,h2.mono (aH.lX _ hn)⟩
 ·rw[gT] at hl hl'
  split at hl
  ·cases hl
  ·rename_i hb
   split at hl'
   ·cases hl'
   ·rename_i hb';rw[aH.bJ _ _ hb] at e;rw[aH.bJ _ _ hb'] at e';exact h.inj b b' k k' e e' hl hl' hc
 ·have h1:=h.glob g hg;have hlt:=(h.lt g _ h1).1;rw[aH.bJ _ _ (by omega)]; exact h1
 ·rw[AMem.next_ww] at hb;rw[nK] at hb';rw[gT,if_pos (by omega)] at hl
  cases hl
 ·rw[AMem.next_ww] at hb;rw[gT,if_neg (by omega),AMem.get_ww]
 ·by_cases hb:b=m.next
  ·subst hb; rw[aH.bX] at e; cases e;exact .inl (Nat.le_refl _)
  ·rw[aH.bJ _ _ hb,e'] at e; cases e
end
end Go.Ab
end

section
namespace Go.Ab.W
open Go Go.Ab
attribute [local irreducible] Tm.at Trie.set Trie.get AMem.get AMem.set AMem.alloc AMem.ww AMem.kill
def sO (F:Func):Code:=match F.body with
 | some c=>c
 | none=>.skip
def Ky:Nat→Code→Code
 | k+1,.seq _ b=>Ky k b
 | _,c=>c
section
variable {E : Env} {n : Nat} {m0 : AMem} {fs fs' : Fs} {ps ps' : List Pc} {fn : FuncId} {ro : Option Nat} {Q : AExit → Tm → AMem → Prop} {a b c : Code}
def Vk (E:Env) (n:Nat) (fn:FuncId) (ro:Option Nat) (c:Code) (Q:AExit→Tm→AMem→Prop) (m0:AMem) (fs:Fs) (ps:List Pc):Prop:=∀t m,Fr t fs→Hp m0 m ps→cH E n fn ro c Q t m
theorem Vk.seq (hE:EnvOk E) (h:Wk E n fn ro a (kq (cH E n fn ro b Q) Q) m0 fs ps):Vk E n fn ro (.seq a b) Q m0 fs ps:=fun t m hf hm=>.seq hE (h t m hf hm)
theorem Vk.of (hE:EnvOk E) (h:Wk E n fn ro c Q m0 fs ps):Vk E n fn ro c Q m0 fs ps:=fun t m hf hm=>.of hE (h t m hf hm)
theorem At.KK (h:Vk E n fn ro b Q m0 fs ps):At (kq (cH E n fn ro b Q) Q) .normal m0 fs ps:=h
theorem Vk.cX (hs:sub fs fs') (h:ah m0 ps ps') (k:Vk E n fn ro c Q m0 fs' ps'):Vk E n fn ro c Q m0 fs ps:=fun t m hf hm=>k t m (hf.sub hs) (h m hm)
def lM (E:Env) (f:FuncId) (args:List Value) (m:AMem) (R:Value→AMem→Prop):Prop:=∀(j:aH) (w:World) (args':List Value),MR E j m w→LR j args args'→dL E.P false f args'.toArray w (fun v' w'=>∃v1 m1,R v1 m1∧fe E j m w v1 m1 v' w')
theorem vN (hE:EnvOk E) {f:FuncId} {F:Func} {args:List Value} {rs:List ResultVar} {N:Nat} {R:Value→AMem→Prop} {m:AMem} (hf:E.P.funcs[f]? = some F) (hb:F.body=some c) (hrs:F.results.toList=rs) (hN:max args.length F.ntmps=N)
  (h:cH E N f none c (mM E rs R) (Trie.ofList args 0 .nil) m):lM E f args m R:=fun j w args' hm hl=>by
 subst hrs hN;refine .inl ⟨hE.call f F c hf hb _ w,?_⟩;refine callsIn_of_wp_marks hf hb trivial ?_;refine wpIn_mono (h j w { tmps:=args'.toArray++Array.replicate (F.ntmps-args'.toArray.size) undef,defers:=[]} Fence.wide w.heap.size hm (TR.enter hl F.ntmps) rfl (Marks.nil _ _) (Nat.le_refl _)) ?_;rintro e' a' w' ⟨e,t',m',hq,rfl,j',s,ht,rs,hnd,hds,hrs⟩;have key:∀{vs:List Value},bP E t' m' F.results.toList=some vs→R (fK vs) m'→LeavesInM Fence.wide 0 E.P F a'.tmps (fun e w'=>∃v,e = .returned v∧∃v1 m1,R v1 m1∧fe E j m w v1 m1 v w') a'.defers .returning w':=by
  intro vs hvs hR;rw[hds];refine jJ (fun w'' s'=>?_) rs w' s hnd hrs;obtain⟨v',hv1,hv2⟩:=oI s'.mr ht hvs;exact⟨v',hv1,v',rfl,fK vs,m',hR,j',s',hv2⟩
 cases e with
 | exit id=>exact hq.elim
 | normal =>
  simp only[mM] at hq;unfold tU at hq
  split at hq
  ·rename_i vs hv; exact key hv hq
  ·exact hq.elim
 | ret =>
  simp only[mM] at hq;unfold tU at hq
  split at hq
  ·rename_i vs hv; exact key hv hq
  ·exact hq.elim
theorem Bd (hE:EnvOk E) {f:FuncId} {F:Func} {args:List Value} {rs:List ResultVar} {N:Nat} {R:Value→AMem→Prop} {m:AMem} (hf:E.P.funcs[f]? = some F) (hb:F.body=some c) (hrs:F.results.toList=rs) (hN:max args.length F.ntmps=N) (hm:Hp m0 m ps)
  (h:Vk E N f none c (mM E rs R) m0 (uI args 0 []) ps):lM E f args m R:=vN hE hf hb hrs hN (h _ m (Fr.args args 0 [] _ (Fr.nil _)) hm)
theorem xK {f:FuncId} {args:List Value} {m:AMem} {v:Value} {m':AMem} (h:lM E f args { m with wl:=m.next} fun v1 m1=>Grown m m1 ∧
  ((bg v=true∧v1=v∧m'=m)∨∃R b1 cs tag,IV R∧v1=R b1∧v=R m.next∧m.next≤b1∧b1<m1.next∧m1.get b1=some (.cells cs tag)∧cs.all aL=true∧m'=m.alloc (.cells cs tag))) (pr:Bool) {j:aH} {w:World} {args':List Value} (hm:MR E j m w) (hl:LR j args args'):dL E.P pr f args'.toArray w (fe E j m w v m'):=by
 refine bY (fun h=>by cases h) (h j w args' (MR.rC hm) hl) ?_
 rintro v' w' ⟨v1,m1,⟨hg,hc⟩,j',s,hv⟩;rcases hc with⟨hpv,rfl,rfl⟩|⟨R,b1,cs,tag,hR,rfl,rfl,hb,hb1,ho,hpl,rfl⟩
 ·exact⟨j,Sim.forget hm s hg,VR.lj hpv hv⟩
 ·obtain⟨k1,hk1⟩:=s.full b1 hb hb1 (by rw[ho]; rfl)
  exact⟨_,Sim.born hm s hg hb hk1 ho hpl,hR _ _ _ _ _ _ hk1 (aH.bX _ _ _) hv⟩
end
section
variable {α : Type} {m0 m : AMem} {ps : List Pc} {r : Rep α}
end
section
variable {α : Type} {r : Rep α} {o : Orp r} {E : Env} {n : Nat} {m0 m : AMem} {fs : Fs} {ps : List Pc} {dr : Bool} {ops : Array Oper} {K : Tm → AMem → Prop} {os : List Oper} {prs : List (Nat × Nat)} {ss : List Nk} {ty : TypeId}
end
section
variable {α β : Type} {r : Rep α} {o : Orp r} {E : Env} {n : Nat} {m0 m : AMem} {fs : Fs} {ps qs : List Pc} {dr : Bool} {ops : Array Oper} {K : Tm → AMem → Prop} {os : List Oper} {prs : List (Nat × Nat)} {ss : List Nk} {ty : TypeId} {Q : AExit → Tm → AMem → Prop}
end
section
variable {α β : Type} [DecidableEq α]
end
section
variable {α β : Type} [DecidableEq α] {E : Env} {m0 m : AMem} {fs : Fs} {ps : List Pc} {r : Rep β} {kE : α → Value}
variable {x y z : Operand} {ty : TypeId}
end
end Go.Ab.W
end

section
namespace Go.Ab
open Go
section
variable {E : Env} {j j1 : aH} {m m1 : AMem} {w w1 : World}
end
namespace W
end W
end Go.Ab
end

section
namespace Go.Ab
open Go
attribute [local irreducible] AMem.get AMem.set AMem.alloc AMem.ww AMem.kill
def AMem.fJ (m:AMem):List AObj→AMem
 | []=>m
 | o::os=>(m.alloc o).fJ os
theorem gm:∀(os:List AObj) (m:AMem),(m.fJ os).next=m.next+os.length
 | [],m=>rfl
 | o::os,m=>by rw[AMem.fJ,gm os,AMem.next_alloc,List.length_cons]; omega
theorem rz:∀(os:List AObj) (m:AMem),(m.fJ os).wl=m.wl
 | [],m=>rfl
 | o::os,m=>by rw[AMem.fJ,rz os,AMem.wl_alloc]
theorem dj:∀(os:List AObj) (m:AMem) {b:Nat},(b<m.next∨m.next+os.length≤b)→(m.fJ os).get b=m.get b
 | [],m,b,_=>rfl
 | o::os,m,b,h=>by
  rw[List.length_cons] at h;rw[AMem.fJ,dj os (m.alloc o) (by rw[AMem.next_alloc]; omega),AMem.aX,if_neg (by omega)]
theorem sq:∀(os:List AObj) (m:AMem) (i:Nat),i<os.length→(m.fJ os).get (m.next+i)=os[i]?
 | [],m,i,h=>by simp at h
 | o::os,m,0,h=>by rw[AMem.fJ,dj os (m.alloc o) (by rw[AMem.next_alloc]; omega),AMem.aX,Nat.add_zero,if_pos rfl]; rfl
 | o::os,m,i+1,h=>by
  have:=sq os (m.alloc o) i (by simpa using h)
  rw[AMem.next_alloc,show m.next+1+i=m.next+(i+1) by omega] at this
  rw[AMem.fJ,this]; rfl
inductive TV where
 | v (x:Value)
 | s (i:Nat)
abbrev zZ:=List (List TV × Nat)
def zZ.n (T:zZ) (i:Nat):Nat:=match T[i]? with
 | some x=>x.1.length/x.2
 | none=>0
def TV.inst (T:zZ) (a:Nat→Nat):TV→Value
 | .v x=>x
 | .s i=>.slice (some ⟨a i,0,none⟩) (T.n i) (T.n i)
def TV.ok (n:Nat):TV→Bool
 | .v x=>bg x
 | .s i=>Nat.blt i n
def zZ.ok (T:zZ):Prop:=∀x ∈ T,0<x.2∧x.1.length=x.1.length/x.2*x.2∧x.1.length/x.2≤9223372036854775807∧x.1.all (TV.ok T.length)=true
def zZ.bM (T:zZ) (a:Nat→Nat):List AObj:=T.map fun x=>.cells (x.1.map (TV.inst T a)) (.more x.2)
def ki (k:Blk) (sz len:Nat):Blk:=match k.more with
 | none=>⟨k.c,some (sz,len,len)⟩
 | some _=>k
theorem j4 (k:Blk) (sz len:Nat):(ki k sz len).c=k.c:=by unfold ki; split<;>rfl
theorem BJ {k:Blk} {sz n:Nat} {tag:Tag} (ht:tag = .own∨tag = .more sz) (hsz:0<sz) (hn:n≤9223372036854775807) {c:Array Value} {fz:Nat × Nat} (h:mI k tag (n*sz) c fz):mI (ki k sz (n*sz)) (.more sz) (n*sz) c fz:=by
 rcases ht with rfl|rfl
 ·obtain⟨t1,t2,rfl⟩:k.more=none∧c.size=n*sz∧fz=(0,0):=h;unfold ki;rw[t1];refine⟨by rw[t2],by rw[t2]; exact Nat.le_refl _,rfl,hsz,?_⟩
  unfold mu;rw[t2,Nat.mul_comm]; exact Nat.mul_le_mul_left _ hn
 ·have:k.more=some (sz,n*sz,c.size):=h.1;unfold ki;rw[this]; exact h
section
variable {E : Env} {j j1 : aH} {m m1 : AMem} {w w1 : World}
theorem TV.move {T:zZ} (hT:T.ok) {j1 j2:aH} {a a2:Nat→Nat} {tg:Nat→Tag} {cf:Nat→Array Value × (Nat × Nat)} (hj:∀i x,T[i]? = some x→∃k,j1 (a i)=some k∧j2 (a2 i)=some (ki k x.2 x.1.length)∧(tg i = .own∨tg i = .more x.2)∧mI k (tg i) x.1.length (cf i).1 (cf i).2) {x:TV} (hx:x.ok T.length=true) {v':Value} (h:VR j1 (x.inst T a) v'):VR j2 (x.inst T a2) v':=by
 cases x with
 | v x =>
  exact VR.lj hx h
 | s i =>
  have hi:i<T.length:=Nat.le_of_ble_eq_true hx;have e:=List.getElem?_eq_getElem hi;generalize T[i]=y at e;obtain⟨k,h1,h2,h3,h4⟩:=hj i y e;obtain⟨o1,o2,o3,o4⟩:=hT y (List.mem_of_getElem? e);have en:T.n i=y.1.length/y.2:=by unfold zZ.n; rw[e]
  have h:VR j1 (.slice (some ⟨a i,0,none⟩) (T.n i) (T.n i)) v':=h
  show VR j2 (.slice (some ⟨a2 i,0,none⟩) (T.n i) (T.n i)) v'
  rw[en] at h ⊢;cases h with
  | slice e' hm =>
   rw[h1] at e'; cases e';have z:VR j2 (.slice (some ⟨a2 i,0,none⟩) (y.1.length/y.2) (y.1.length/y.2)) (.slice (some ⟨(ki k y.2 y.1.length).c,0,none⟩) (y.1.length/y.2) (y.1.length/y.2)) :=
    .sliceM h2 (by unfold ki; rw[hm]) (by rw[Nat.add_zero]; exact o2.symm) (by rw[Nat.add_zero]; exact o2.symm) (Nat.le_refl _) (Nat.le_refl _)
   rwa[j4] at z
  | sliceM e' hm a1 a2 hl hc =>
   rw[h1] at e'; cases e';have:ki k y.2 y.1.length=k:=by unfold ki; rw[hm]
   rw[this] at h2;exact .sliceM h2 hm a1 a2 hl hc
end
namespace W
end W
end Go.Ab
end

section
namespace Go.Ab
open Go
attribute [local irreducible] Tm.at Trie.set Trie.get AMem.get AMem.set AMem.alloc AMem.ww AMem.kill
section
variable {E : Env} {n : Nat} {ops : Array Oper} {K K' : Tm → AMem → Prop} {t : Tm} {m : AMem}
def eR (E:Env) (n:Nat) (ops:Array Oper) (K:Tm→AMem→Prop) (os:List Oper) (t:Tm) (m:AMem):Prop :=
 ∀(i:Nat) (F:Fence) (j0:aH) (m0:AMem) (w0:World) (ds:List Deferred) (Q:Exit→Act→World→Prop) (j:aH) (w:World) (a:Act),iM F→MR E j0 m0 w0→ops.toList.drop i=os→Sim E j0 m0 w0 j m w→TR n j t a.tmps→a.defers=ds →
  (∀t' m' j' w' a',K t' m'→Sim E j0 m0 w0 j' m' w'→TR n j' t' a'.tmps→a'.defers=ds→Q .normal a' w')→wpOpsIn F 0 E.P ops Q (List.range' i (ops.size-i)) a w
theorem eR.nil (h:K t m):eR E n ops K [] t m:=fun i F j0 m0 w0 ds Q j w a hF h0 hd s ht hds hQ=>by
 have hlen:ops.size≤i:=by
  have:=congrArg List.length hd;simp at this; omega
 rw[show ops.size-i=0 by omega]
 exact hQ t m j w a h s ht hds
theorem kX {os:List Oper} {o:Oper} {i:Nat} (hd:ops.toList.drop i=o::os):ops[i]? = some o∧ops.toList.drop (i+1)=os∧List.range' i (ops.size-i)=i::List.range' (i+1) (ops.size-(i+1)):=by
 have hlt:i<ops.size:=by
  have:=congrArg List.length hd;simp at this; omega
 refine⟨by have:=congrArg (·[0]?) hd; simpa [List.getElem?_drop] using this,by rw[←List.drop_drop,hd]; rfl,?_⟩
 rw[show ops.size-i=(ops.size-(i+1))+1 by omega]; rfl
theorem eR.op (hE:EnvOk E) {o:Oper} {os:List Oper} (hw:aT ops o t=true) (h:iu E t m o.op fun v m'=>∃t',fH n t o.dst v=some t'∧eR E n ops K os t' m'):eR E n ops K (o::os) t m:=fun i F j0 m0 w0 ds Q j w a hF h0 hd s ht hds hQ=>by
 obtain⟨ho,hd',hidx⟩:=kX hd;obtain⟨v,m',⟨k,he⟩,t',hp,hk⟩:=h;rw[hidx];simp only[wpOpsIn,ho,iO ht];rw[if_pos hw];refine sr (jx hE k) s.mr ht he hF ?_;rintro v' w' ⟨j',s',hv⟩;exact hk (i+1) F j0 m0 w0 ds Q j' w' _ hF h0 hd' (s.trans h0 s') ((ht.mono s'.le).put hv hp) (by cases hds':o.dst<;>simp[Act.put,hds]) hQ
theorem eR.not {o:Oper} {os:List Oper} (hw:aT ops o t=false) {t':Tm} (hp:fH n t o.dst undef=some t') (h:eR E n ops K os t' m):eR E n ops K (o::os) t m:=fun i F j0 m0 w0 ds Q j w a hF h0 hd s ht hds hQ=>by
 obtain⟨ho,hd',hidx⟩:=kX hd;rw[hidx];simp only[wpOpsIn,ho,iO ht];rw[if_neg (by rw[hw]; exact Bool.false_ne_true)]
 exact⟨fun f _=>hF.fn f,h (i+1) F j0 m0 w0 ds Q j w _ hF h0 hd' s (ht.put (VR.undef j) hp) (by cases hds':o.dst<;>simp[Act.put,hds]) hQ⟩
theorem eR.Jf {o:Oper} {os:List Oper} {c:Call} {fv:Operand} {g:FuncId} {vs:List Value} {R:Value→AMem→Prop} (hw:aT ops o t=true) (hop:o.op = .call c) (hc:c.callee = .value fv) (hf:aq E t fv=some (.func (.func g) #[] #[])) (ha:bB E t c.args.toList=some vs) (h:W.lM E g vs m R) (hk:∀v m',R v m'→∃t',fH n t o.dst v=some t'∧eR E n ops K os t' m'):eR E n ops K (o::os) t m:=fun i F j0 m0 w0 ds Q j w a hF h0 hd s ht hds hQ=>by
 obtain⟨ho,hd',hidx⟩:=kX hd;rw[hidx];simp only[wpOpsIn,ho,iO ht];rw[if_pos hw];have hfv:=aF s.mr ht hf;generalize hfe:a.eval fv=fv' at hfv;cases hfv with
 | func h1 h2 h3 h4 =>
  rename_i ys ds';have ey:ys=#[]:=Array.eq_empty_of_size_eq_zero h1.symm;have ed:ds'=#[]:=Array.eq_empty_of_size_eq_zero h3.symm;subst ey ed;have hl:LR j vs (c.args.toList.map a.eval):=eo s.mr ht ha;have hcs:=h j w _ s.mr hl;have harr:(c.args.toList.map a.eval).toArray=#[]++c.args.map a.eval++#[]:=by apply Array.toList_inj.1; simp
  rw[harr] at hcs;have hexec:execOp a.eval o=(do let d ←resolve a.eval c o.type; invoke d.target d.args):=by simp only[execOp,hop]
  have hrun:(execOp a.eval o).run E.P w=(callFunc g (#[]++c.args.map a.eval++#[])).run E.P w:=by
   rw[hexec];simp only[resolve,hc,hfe,Deferred.ofValue,Sem.run_bind,Sem.run_pure,Result.andThen_ok,invoke]
  refine Does.wpIn hF (fun c' e=>by rw[hop] at e; cases e) (G:=fun v' w'=>∃v1 m1,R v1 m1∧fe E j m w v1 m1 v' w') ?_ ?_
  ·rcases hcs with⟨hr,hci⟩|⟨_,v',w',hr,hq⟩
   ·exact .inr (.inl ⟨_,_,hrun.trans hr,hci⟩)
   ·exact .inl ⟨v',w',.inl (hrun.trans hr),hq⟩
  ·rintro v' w' ⟨v1,m1,hR,j',s',hv⟩;obtain⟨t',hp,hk⟩:=hk v1 m1 hR;exact hk (i+1) F j0 m0 w0 ds Q j' w' _ hF h0 hd' (s.trans h0 s') ((ht.mono s'.le).put hv hp) (by cases hds':o.dst<;>simp[Act.put,hds]) hQ
theorem eR.pre (hE:EnvOk E) {post:List Oper}:∀{os:List Oper} {t:Tm} {m:AMem},il E n ops (fun t m=>eR E n ops K post t m) os t m→eR E n ops K (os++post) t m
 | [],t,m,h=>h
 | o::os,t,m,h=>by
  simp only[il] at h
  split at h
  ·rename_i hw;obtain⟨v,m1,h1,t1,hp,h2⟩:=h;exact eR.op hE hw ⟨v,m1,h1,t1,hp,eR.pre hE h2⟩
  ·rename_i hw;obtain⟨t1,hp,h2⟩:=h;exact eR.not (Bool.eq_false_iff.2 hw) hp (eR.pre hE h2)
theorem eR.of (hE:EnvOk E) {os:List Oper} (h:il E n ops K os t m):eR E n ops K os t m:=by
 have:∀(os:List Oper) (t:Tm) (m:AMem),il E n ops K os t m→il E n ops (fun t m=>eR E n ops K [] t m) os t m:=by
  intro os
  induction os with
  | nil=>intro t m h; exact eR.nil h
  | cons o os ih =>
   intro t m h;simp only[il] at h ⊢
   split at h
   ·rename_i hw;obtain⟨v,m1,h1,t1,hp,h2⟩:=h;rw[if_pos hw];exact⟨v,m1,h1,t1,hp,ih _ _ h2⟩
   ·rename_i hw;obtain⟨t1,hp,h2⟩:=h;rw[if_neg hw];exact⟨t1,hp,ih _ _ h2⟩
 have:=eR.pre hE (this os t m h);rwa[List.append_nil] at this
variable {fn : FuncId} {ro : Option Nat} {Q : AExit → Tm → AMem → Prop}
theorem cH.region {id:Nat} (h:eR E n ops (Q .normal) ops.toList t m):cH E n fn ro (.region id ops false) Q t m:=fun j w a F N hm ht hro hd hN=>by
 refine wpIn_region ?_;have:=h 0 F j m w a.defers (fun e' a' w'=>∃e t' m',Q e t' m'∧jS E j m w N n e t' m' e' a' w') j w a hro.wide hm rfl (.refl hm) ht rfl fun t' m' j' w' a' hq s ht' hds=>⟨.normal,t',m',hq,rfl,j',s,ht',by rw[hds]; exact hd.A6 hm s⟩
 rwa[Nat.sub_zero,←List.range_eq_range'] at this
theorem cH.cond {x:Operand} {c:Bool} {a b:Code} (hx:aq E t x=some (.bool c)) (ht:c=true→cH E n fn ro a Q t m) (hf:c=false→cH E n fn ro b Q t m):cH E n fn ro (.cond x a b) Q t m:=fun j w a' F N hm ht' hro hd hN=>by
 have hv:=aF hm ht' hx;generalize hfe:a'.eval x=v at hv;cases hv;cases c with
 | true=>exact wpIn_cond_true hfe (ht rfl j w a' F N hm ht' hro hd hN)
 | false=>exact wpIn_cond_false hfe (hf rfl j w a' F N hm ht' hro hd hN)
namespace W
section
variable {m0 : AMem} {fs : Fs} {ps : List Pc} {os : List Oper} {a b : Code}
def Vn (E:Env) (n:Nat) (ops:Array Oper) (K:Tm→AMem→Prop) (os:List Oper) (m0:AMem) (fs:Fs) (ps:List Pc):Prop:=∀t m,Fr t fs→Hp m0 m ps→eR E n ops K os t m
theorem Vn.of (hE:EnvOk E) (h:Wo false E n ops K os m0 fs ps):Vn E n ops K os m0 fs ps:=fun t m hf hm=>.of hE (iR (h t m hf hm))
theorem Vn.pre (hE:EnvOk E) {post:List Oper} (h:Wo false E n ops (fun t m=>eR E n ops K post t m) os m0 fs ps):Vn E n ops K (os++post) m0 fs ps:=fun t m hf hm=>.pre hE (iR (h t m hf hm))
theorem Wo.KJ {dr:Bool} {K:Tm→AMem→Prop} {post:List Oper} (h:Vn E n ops K post m0 fs ps):Wo false E n ops (fun t m=>eR E n ops K post t m) [] m0 fs ps:=fun t m hf hm=>h t m hf hm
theorem Vk.region {id:Nat} (h:Vn E n ops (Q .normal) ops.toList m0 fs ps):Vk E n fn ro (.region id ops false) Q m0 fs ps:=fun t m hf hm=>.region (h t m hf hm)
theorem Vk.Aj (h:Vk E n fn ro a (kq (cH E n fn ro b Q) Q) m0 fs ps):Vk E n fn ro (.seq a b) Q m0 fs ps:=fun t m hf hm=>.Aj (h t m hf hm)
end
end W
end
end Go.Ab
end

section
namespace Go.Ab.W
open Go Go.Ab
attribute [local irreducible] Tm.at Trie.set Trie.get AMem.get AMem.set AMem.alloc AMem.ww AMem.kill
section
variable {P : Program} {ty el : TypeId} {k : IntKind}
end
abbrev KL:=Int × Int × Int × Int × Int × Int × Int × Int × Int × Int × Int × Int
def IB:KL→List Int
 | (a,b,c,d,e,f,g,h,i,j,k,l)=>[a,b,c,d,e,f,g,h,i,j,k,l]
theorem Fi {p q:KL} (h:IB p=IB q):p=q:=by
 obtain⟨a,b,c,d,e,f,g,i,j,k,l,m⟩:=p;obtain⟨a',b',c',d',e',f',g',i',j',k',l',m'⟩:=q;simp only[IB,List.cons.injEq,and_true] at h;obtain⟨h1,h2,h3,h4,h5,h6,h7,h8,h9,h10,h11,h12⟩:=h;subst h1 h2 h3 h4 h5 h6 h7 h8 h9 h10 h11 h12; rfl
instance:DecidableEq KL:=fun p q=>decidable_of_iff (IB p=IB q) ⟨Fi,congrArg IB⟩
variable {E : Env} {m0 : AMem} {fs : Fs} {ps : List Pc} {ty : TypeId}
end Go.Ab.W
end

section
namespace Go.Ab
open Go
open Go.ChangeMaps (setBlock)
section
variable {E : Env} {n : Nat} {fn : FuncId} {ro : Option Nat}
theorem cH.zV (hE:EnvOk E) (hmono:¬E.mono) {B B' i1 i2 i3:Nat} {o1 o2 oN oX oE:Oper} {rest:List Oper} {ops3:Array Oper} {X:Code} {d1 d2 e1 e2 f1:Tmp} {mt kt et:TypeId}
  (h1:o1.dst=some d1∧o1.guard=none) (h2:o2.op = .range mt (.tmp d1)∧o2.dst=some d2∧o2.guard=none) (hmt:E.P.underlying mt=some (.map kt et))
  (hN:oN.op = .next (.tmp d2) false∧oN.dst=some e1∧oN.guard=none) (hX:oX.op = .extract (.tmp e1) 0∧oX.dst=some e2∧oX.guard=none) (hOE:oE.op = .entry (.tmp d2)∧oE.dst=some f1∧oE.guard=none) (h3:ops3.toList=oE::rest)
  (hb:d1<n∧d2<n∧e1<n∧e2<n∧f1<n) (h6:e1≠d2) (h7:e2≠d2) (h8:f1≠d2)
  {Q:AExit→Tm→AMem→Prop} {t:Tm} {m:AMem} {bm:Nat} {es:List (Value × Value)} (hld:cA E t m o1.op=some (.map (some bm),m)) (hbm:m.get bm=some (.map es)) {lim:Nat} (hbl:bm<lim) (hlim:lim≤m.next)
  (Inv:List Nat→Tm→AMem→Prop) (hExt:∀S t' m',Inv S t' m'→m'.get bm=some (.map es)∧lim≤m'.wl∧t'.at d2=ptr m.next 0)
  (hinit:Inv [] ((t.set d1 (.map (some bm))).set d2 (ptr m.next 0)) (lE m))
  (hstep:∀S i e t m,S.Nodup→(∀i ∈ S,i<es.length)→i ∉ S→es[i]? = some e→Inv S t m→il E n ops3 (fun t' m'=>bo E n fn ro X (fun e' t'' m''=>e' = .normal∧Inv (S++[i]) t'' m'') t' m') rest (((t.set e1 (.tuple #[.bool true,e.1,e.2])).set e2 (.bool true)).set f1 (.tuple #[e.1,e.2])) m)
  (hend:∀S t' m',S.Perm (List.range es.length)→Inv S t' m'→Q .normal ((t'.set e1 (.tuple #[.bool false])).set e2 (.bool false)) (m'.ww (min m.wl m'.wl))) :
  cH E n fn ro (.seq (.region i1 #[o1,o2] false) (.block B (.loop (.seq (.region i2 #[oN,oX] false) (.seq (.cond (.tmp e2) .skip (.exit B)) (.block B' (.seq (.region i3 ops3 false) X))))))) Q t m:=fun j w a F N hm ht hro hmk hNw=>by
 refine wpIn_seq (wpIn_region ?_);have hlist:List.range (#[o1,o2]:Array Oper).size = [0,1]:=rfl;rw[hlist];have w0':Region.wanted o1 (yielded #[o1,o2] a.tmps)=true:=by simp[Region.wanted,h1.2]
 have g0:(#[o1,o2]:Array Oper)[0]? = some o1:=rfl;have g1:(#[o1,o2]:Array Oper)[1]? = some o2:=rfl;simp only[wpOpsIn,g0,g1,w0',if_true];obtain⟨j1,w1,v0,q0,s0,q1⟩:=DV hm ht (o:=o1) hld;refine cP hro.wide (kM hld) q0 ?_;cases q1 with
 | map hj =>
 rename_i kb;obtain⟨oo,hh,hor⟩:=s0.mr.obj bm _ kb hbm hj;cases oo with
 | map ents clock =>
  have h0:=(ht.mono s0.le).put (t':=t.set d1 (.map (some bm))) (dst:=o1.dst) (VR.map hj) (by rw[h1.1,cw,if_pos hb.1])
  rw[h1.1] at h0 ⊢;have w1':Region.wanted o2 (yielded #[o1,o2] (a.put (some d1) (.map (some kb.c))).tmps)=true:=by simp[Region.wanted,h2.2.2]
  rw[if_pos w1'];have hsz:a.tmps.size=n:=ht.1;have h9:execOp (a.put (some d1) (.map (some kb.c))).eval o2=(do pure (.value (←Instr.range mt (.map (some kb.c))))):=by
   simp only[execOp,h2.1];rw[eval_put (v:=.map (some kb.c)) (d:=d1) (a:=a) (hsz.symm ▸ hb.1)]
  have hd2':∀c,o2.op≠.defer c:=fun c e=>by rw[h2.1] at e; cases e
  refine cP hro.wide hd2' (by rw[h9]; exact jI.value (run_range_map w1 mt kt et kb.c ents clock hmt hh)) ?_
  have s1:=B6 s0.mr (.mapIter (some kb.c) clock #[] clock);have h4:(j1.set m.next ⟨w1.heap.size,none⟩) m.next=some ⟨w1.heap.size,none⟩:=aH.bX _ _ _
  have h5:=(h0.mono s1.le).put (t':=(t.set d1 (.map (some bm))).set d2 (ptr m.next 0)) (dst:=o2.dst) (v:=ptr m.next 0) (v':=.pointer (some ⟨w1.heap.size,0,none⟩)) (VR.ptr h4) (by rw[h2.2.1,cw,if_pos hb.2.1])
  rw[h2.2.1] at h5 ⊢;have m3:Marks N (w1.alloc (.mapIter (some kb.c) clock #[] clock)) a.defers:=(hmk.A6 hm s0).A6 (s0.mr.IX (m.next+1)) s1
  have hsize:w1.heap.size<(w1.alloc (.mapIter (some kb.c) clock #[] clock)).heap.size:=by rw[World.size_alloc]; omega
  have hcl:kb.c<w1.heap.size:=(Array.getElem?_eq_some_iff.1 hh).1;have hit:J1 (w1.alloc (.mapIter (some kb.c) clock #[] clock)) w1.heap.size kb.c ents clock [] (leftOf ents #[]).size :=
   ⟨clock,#[],clock,by show(w1.heap.push _)[w1.heap.size]? = _; simp,by show(w1.heap.push _)[kb.c]? = _; rw[Array.getElem?_push,if_neg (by omega)]; exact hh,hor.2.1,Nat.le_refl _,Nat.le_refl _,fun i x hx=>by simp,rfl⟩
  refine wpIn_block (kF ?_);have hL:=DI (fn:=fn) (B:=B) (B':=B') (i2:=i2) (i3:=i3) (X:=X) hE hmono hN hX hOE h3 hb.2.2.1 hb.2.2.2.1 hb.2.2.2.2 h6 h7 h8 (s0.mr.IX (m.next+1)) (bm:=bm) (bi:=m.next) (es:=es) (lim:=lim) (by rw[AMem.get_ww]; exact hbm) hbl Inv hExt hstep (Nat.le_refl _) (kb:=kb) (ents:=ents) (clock:=clock) hor.2 a.defers N _ [] _ _ (lE m) _ _ (((a.put (some d1) (.map (some kb.c))).put (some d2) (.pointer (some ⟨w1.heap.size,0,none⟩)))) F (Nat.lt_succ_self _) List.nodup_nil (fun i h=>by cases h) hinit s1 h5 ((hro.mono s0.le).mono s1.le) m3 (by have:=s0.size; omega) h4 (s1.le _ _ hj) (hor.1.mono s1.le) hit
  intro bF k cs h10 h11 h12;obtain⟨e',a',w',⟨S,t',m',hS,hI,hq⟩,harr⟩:=hL bF k cs h10 h11 h12;obtain⟨rfl,jf,sf,tf,mf⟩:=hq;refine⟨_,a',w',?_,harr⟩
  show Exit.inBlock B _ (.exit B) a' w'
  simp only[Exit.inBlock,if_true];exact⟨.normal,_,_,hend S t' m' hS hI,rfl,jf,s0.trans hm (Io sf),tf,mf⟩
 | _=>exact hor.elim
end
end Go.Ab
end

section
namespace Go.Ab
open Go
theorem cH.block {E:Env} {n:Nat} {fn:FuncId} {ro:Option Nat} {Q:AExit→Tm→AMem→Prop} {t:Tm} {m:AMem} {id:Nat} {c:Code} (h:cH E n fn ro c (dT id Q) t m):cH E n fn ro (.block id c) Q t m:=fun j w a F N hm ht hro hd hN=>by
 refine wpIn_block (wpIn_mono (h j w a F N hm ht hro hd hN) ?_);rintro e' a' w' ⟨e,t',m',q,hc⟩;obtain⟨rfl,hc⟩:=hc;cases e with
 | normal=>exact⟨.normal,t',m',q,rfl,hc⟩
 | ret=>exact⟨.ret,t',m',q,rfl,hc⟩
 | exit k =>
  simp only[dT] at q
  show Exit.inBlock id _ (.exit k) a' w'
  simp only[Exit.inBlock]
  split at q
  ·rename_i e; rw[if_pos e]; exact⟨.normal,t',m',q,rfl,hc⟩
  ·rename_i e; rw[if_neg e]; exact⟨.exit k,t',m',q,rfl,hc⟩
structure FunN where
 run:List Value→AMem→(Value→AMem→Bool)→Bool
def IL (E:Env) (ND:FuncId→Option FunN):Prop:=∀{g:FuncId} {S:FunN},ND g=some S→∀{args:List Value} {m:AMem} {K:Value→AMem→Bool},S.run args m K=true→W.lM E g args m fun v m'=>K v m'=true
def ph (ND:FuncId→Option FunN) (o:Op):Option (FunN × List Operand) :=
 match o with
 | .call c=>match c.callee with
  | .value (.func g)=>match ND g with
   | some S=>some (S,c.args.toList)
   | none=>none
  | _=>none
 | _=>none
theorem sK {ND:FuncId→Option FunN} {o:Op} {S:FunN} {ars:List Operand} (h:ph ND o=some (S,ars)):∃c g,o = .call c∧c.callee = .value (.func g)∧ND g=some S∧c.args.toList=ars:=by
 unfold ph at h
 split at h
 ·rename_i c
  split at h
  ·rename_i g hc
   split at h
   ·rename_i S' hS;cases h;exact⟨c,g,rfl,hc,hS,rfl⟩
   ·cases h
  ·cases h
 ·cases h
noncomputable def xl (E:Env) (n:Nat) (ops:Array Oper) (ND:FuncId→Option FunN):List Oper→RegSem
 | []=>⟨fun _ t m K=>K t m⟩
 | o::os=>match o.guard with
  | none=>match ph ND o.op with
   | some (S,ars)=>⟨fun H t m K=>(ri E ars).run t fun args=>S.run args m fun v m=>(jz n o.dst).run t v fun t=>(xl E n ops ND os).run H t m K⟩
   | none=>⟨fun H t m K=>(lJ E o.op).run H t m fun v m=>(jz n o.dst).run t v fun t=>(xl E n ops ND os).run H t m K⟩
  | some _=>⟨fun H t m K=>(mc ops o).run t ((lJ E o.op).run H t m fun v m=>(jz n o.dst).run t v fun t=>(xl E n ops ND os).run H t m K) ((jz n o.dst).run t undef fun t=>(xl E n ops ND os).run H t m K)⟩
theorem mK {E:Env} (hE:EnvOk E) {H:Hand} (hH:xF E H) {ND:FuncId→Option FunN} (hN:IL E ND) {n:Nat} {ops:Array Oper} {K:Tm→AMem→Bool}:∀{os:List Oper} {t:Tm} {m:AMem},(xl E n ops ND os).run H t m K=true→eR E n ops (fun t m=>K t m=true) os t m
 | [],t,m,h=>.nil h
 | o::os,t,m,h=>by
  unfold xl at h
  split at h
  ·rename_i hg;have hw:aT ops o t=true:=by simp only[aT,hg]
   split at h
   ·rename_i S ars hc;obtain⟨c,g,h1,h2,h3,rfl⟩:=sK hc;obtain⟨args,h4,h5⟩:=kL h;refine .Jf hw h1 h2 rfl h4 (hN h3 h5) fun v m' hv=>?_;obtain⟨t',hp,h⟩:=eV hv;exact⟨t',hp,mK hE hH hN h⟩
   ·refine .op hE hw ((iP hH h).mono fun v m' h=>?_);obtain⟨t',hp,h⟩:=eV h;exact⟨t',hp,mK hE hH hN h⟩
  ·rcases jd h with⟨hw,h⟩|⟨hw,h⟩
   ·refine .op hE hw ((iP hH h).mono fun v m' h=>?_);obtain⟨t',hp,h⟩:=eV h;exact⟨t',hp,mK hE hH hN h⟩
   ·obtain⟨t',hp,h⟩:=eV h;exact .not hw hp (mK hE hH hN h)
structure RangeD where
 i1:Nat
 o1:Oper
 o2:Oper
 B:Nat
 i2:Nat
 oN:Oper
 oX:Oper
 B':Nat
 i3:Nat
 oE:Oper
 rest:List Oper
 ops3:Array Oper
 X:Code
 d1:Tmp
 d2:Tmp
 e1:Tmp
 e2:Tmp
 f1:Tmp
 mt:TypeId
 kt:TypeId
 et:TypeId
def RangeD.code (d:RangeD):Code:=.seq (.region d.i1 #[d.o1,d.o2] false) (.block d.B (.loop (.seq (.region d.i2 #[d.oN,d.oX] false) (.seq (.cond (.tmp d.e2) .skip (.exit d.B)) (.block d.B' (.seq (.region d.i3 d.ops3 false) d.X))))))
structure RangeD.Ok (E:Env) (n:Nat) (d:RangeD):Prop where
 h1:d.o1.dst=some d.d1∧d.o1.guard=none
 h2:d.o2.op = .range d.mt (.tmp d.d1)∧d.o2.dst=some d.d2∧d.o2.guard=none
 hmt:E.P.underlying d.mt=some (.map d.kt d.et)
 hN:d.oN.op = .next (.tmp d.d2) false∧d.oN.dst=some d.e1∧d.oN.guard=none
 hX:d.oX.op = .extract (.tmp d.e1) 0∧d.oX.dst=some d.e2∧d.oX.guard=none
 hOE:d.oE.op = .entry (.tmp d.d2)∧d.oE.dst=some d.f1∧d.oE.guard=none
 h3:d.ops3.toList=d.oE::d.rest
 hb:d.d1<n∧d.d2<n∧d.e1<n∧d.e2<n∧d.f1<n
 hd:d.e1≠d.d2∧d.e2≠d.d2∧d.f1≠d.d2
def B0 (o:Oper):Option (TypeId × Tmp × Tmp) :=
 match o.guard,o.dst,o.op with
 | none,some d,.range mt (.tmp x)=>some (mt,x,d)
 | _,_,_=>none
theorem wR {o:Oper} {mt:TypeId} {x d:Tmp} (h:B0 o=some (mt,x,d)):o.op = .range mt (.tmp x)∧o.dst=some d∧o.guard=none:=by
 unfold B0 at h
 split at h
 ·rename_i a b c; cases h; exact⟨c,b,a⟩
 ·cases h
def wY (o:Oper):Option (Tmp × Tmp) :=
 match o.guard,o.dst,o.op with
 | none,some d,.next (.tmp x) false=>some (x,d)
 | _,_,_=>none
theorem vy {o:Oper} {x d:Tmp} (h:wY o=some (x,d)):o.op = .next (.tmp x) false∧o.dst=some d∧o.guard=none:=by
 unfold wY at h
 split at h
 ·rename_i a b c; cases h; exact⟨c,b,a⟩
 ·cases h
def xf (o:Oper):Option (Tmp × Tmp) :=
 match o.guard,o.dst,o.op with
 | none,some d,.extract (.tmp x) 0=>some (x,d)
 | _,_,_=>none
theorem uZ {o:Oper} {x d:Tmp} (h:xf o=some (x,d)):o.op = .extract (.tmp x) 0∧o.dst=some d∧o.guard=none:=by
 unfold xf at h
 split at h
 ·rename_i a b c; cases h; exact⟨c,b,a⟩
 ·cases h
def Da (o:Oper):Option (Tmp × Tmp) :=
 match o.guard,o.dst,o.op with
 | none,some d,.entry (.tmp x)=>some (x,d)
 | _,_,_=>none
theorem wL {o:Oper} {x d:Tmp} (h:Da o=some (x,d)):o.op = .entry (.tmp x)∧o.dst=some d∧o.guard=none:=by
 unfold Da at h
 split at h
 ·rename_i a b c; cases h; exact⟨c,b,a⟩
 ·cases h
def Bn (o:Oper):Option Tmp :=
 match o.guard,o.dst with
 | none,some d=>some d
 | _,_=>none
theorem wO {o:Oper} {d:Tmp} (h:Bn o=some d):o.dst=some d∧o.guard=none:=by
 unfold Bn at h
 split at h
 ·rename_i a b; cases h; exact⟨b,a⟩
 ·cases h
def my (E:Env) (n:Nat) (i1:Nat) (a1:Array Oper) (B i2:Nat) (a2:Array Oper) (e2 B2 B' i3:Nat) (a3:Array Oper) (X:Code):Option RangeD :=
 match a1.toList,a2.toList,a3.toList with
 | [o1,o2],[oN,oX],oE::rest =>
  match Bn o1,B0 o2,wY oN,xf oX,Da oE with
  | some d1,some (mt,d1',d2),some (d2',e1),some (e1',e2'),some (d2'',f1) =>
   match E.P.underlying mt with
   | some (.map kt et)=>if B2=B∧d1'=d1∧d2'=d2∧e1'=e1∧e2'=e2∧d2''=d2∧(d1<n∧d2<n∧e1<n∧e2<n∧f1<n)∧(e1≠d2∧e2≠d2∧f1≠d2) then some ⟨i1,o1,o2,B,i2,oN,oX,B',i3,oE,rest,a3,X,d1,d2,e1,e2,f1,mt,kt,et⟩ else none
   | _=>none
  | _,_,_,_,_=>none
 | _,_,_=>none
theorem oS {E:Env} {n i1 B i2 e2 B2 B' i3:Nat} {a1 a2 a3:Array Oper} {X:Code} {d:RangeD} (h:my E n i1 a1 B i2 a2 e2 B2 B' i3 a3 X=some d) :
  .seq (.region i1 a1 false) (.block B (.loop (.seq (.region i2 a2 false) (.seq (.cond (.tmp e2) .skip (.exit B2)) (.block B' (.seq (.region i3 a3 false) X))))))=d.code∧d.Ok E n:=by
 unfold my at h
 split at h
 ·rename_i o1 o2 oN oX oE rest q1 q2 q3
  split at h
  ·rename_i d1 mt d1' d2 d2' e1 e1' e2' d2'' f1 r1 r2 r3 r4 r5
   split at h
   ·rename_i kt et hu
    split at h
    ·rename_i hc;obtain⟨rfl,rfl,rfl,rfl,rfl,rfl,hb,hd⟩:=hc;cases h;refine⟨?_,wO r1,wR r2,hu,vy r3,uZ r4,wL r5,q3,hb,hd⟩;have e1:a1=#[o1,o2]:=Array.toList_inj.1 q1;have e2:a2=#[oN,oX]:=Array.toList_inj.1 q2;rw[e1,e2]; rfl
    ·cases h
   ·cases h
  ·cases h
 ·cases h
def sI (E:Env) (n:Nat):Code→Option RangeD
 | .seq (.region i1 a1 false) (.block B (.loop (.seq (.region i2 a2 false) (.seq (.cond (.tmp e2) .skip (.exit B2)) (.block B' (.seq (.region i3 a3 false) X))))))=>my E n i1 a1 B i2 a2 e2 B2 B' i3 a3 X
 | _=>none
theorem tF {E:Env} {n:Nat} {c:Code} {d:RangeD} (h:sI E n c=some d):c=d.code∧d.Ok E n:=by
 unfold sI at h
 split at h
 ·exact oS h
 ·cases h
structure SrcSem where
 run:Tm→AMem→(Value→Bool)→Bool
noncomputable def GJ (E:Env) (o:Op):SrcSem :=
 match o with
 | .move x=>⟨fun t _ K=>(cS E x).run t K⟩
 | .load ty a=>⟨fun t m K=>(cS E a).run t fun p=>(wq E.P ty).run p m K⟩
 | _=>⟨fun _ _ _=>false⟩
theorem FQ {E:Env} {o:Op} {t:Tm} {m:AMem} {K:Value→Bool} (h:(GJ E o).run t m K=true):∃v,cA E t m o=some (v,m)∧K v=true:=by
 unfold GJ at h
 split at h
 ·obtain⟨v,h1,h2⟩:=aS h;exact⟨v,by simp only[cA,h1,Option.map_some],h2⟩
 ·obtain⟨p,h1,h2⟩:=aS h;obtain⟨v,h3,h4⟩:=qn h2;exact⟨v,by simp only[cA,h1,h3,Option.map_some],h4⟩
 ·cases h
def rl:Value→Value→Bool
 | .agg a,.agg b=>om a.toList b.toList
 | .tuple a,.tuple b=>om a.toList b.toList
 | .string a,.string b=>decide (a=b)
 | v,u=>sw v u
theorem mO:∀{v u:Value},rl v u=true→v=u:=by
 intro v u h;unfold rl at h
 split at h
 ·rw[Array.toList_inj.1 (iV h)]
 ·rw[Array.toList_inj.1 (iV h)]
 ·rw[of_decide_eq_true h]
 ·exact mN h
def qy:List Value→List Value→Bool
 | [],[]=>true
 | v::vs,u::us=>rl v u && qy vs us
 | _,_=>false
theorem nM:∀{v u:List Value},qy v u=true→v=u
 | [],[],_=>rfl
 | v::vs,u::us,h=>by
  simp only[qy,Bool.and_eq_true] at h;rw[mO h.1,nM h.2]
 | [],_::_,h=>by cases h
 | _::_,[],h=>by cases h
def za:List (Value × Value)→List (Value × Value)→Bool
 | [],[]=>true
 | v::vs,u::us=>rl v.1 u.1 && rl v.2 u.2 && za vs us
 | _,_=>false
theorem vW:∀{v u:List (Value × Value)},za v u=true→v=u
 | [],[],_=>rfl
 | (a,b)::vs,(c,d)::us,h=>by
  simp only[za,Bool.and_eq_true] at h;rw[show a=c from mO h.1.1,show b=d from mO h.1.2,vW h.2]
 | [],_::_,h=>by cases h
 | _::_,[],h=>by cases h
def tx (o:Option AObj) (es:List (Value × Value)):Bool :=
 match o with
 | some (.map es')=>za es' es
 | _=>false
theorem wz {o:Option AObj} {es:List (Value × Value)} (h:tx o es=true):o=some (.map es):=by
 unfold tx at h
 split at h
 ·rw[vW h]
 ·cases h
noncomputable def EX (es:List (Value × Value)) (i:Nat) (k:Value→Value→Bool):Bool:=Option.rec (motive:=fun _=>Bool) false (fun e=>Prod.rec (motive:=fun _=>Bool) (fun a b=>k a b) e) es[i]?
theorem AG {es:List (Value × Value)} {i:Nat} {k:Value→Value→Bool} {e:Value × Value} (he:es[i]? = some e) (h:EX es i k=true):k e.1 e.2=true:=by
 unfold EX at h;rw[he] at h;exact h
noncomputable def F2 (l:List Nat) (k:Nat→Bool):Bool:=List.rec (motive:=fun _=>Bool) true (fun i _ ih=>dC (k i) ih false) l
theorem rH {k:Nat→Bool}:∀{l:List Nat},F2 l k=true→∀i ∈ l,k i=true
 | [],_,i,hi=>by cases hi
 | a::l,h,i,hi=>by
  have h':dC (k a) (F2 l k) false=true:=h;obtain⟨h1,h2⟩:=aU h';rcases List.mem_cons.1 hi with rfl|hi
  ·exact h1
  ·exact rH h2 i hi
noncomputable def G7 (l:List Nat) (a b:Bool):Bool:=List.rec (motive:=fun _=>Bool) a (fun _ _ _=>b) l
noncomputable def goN (E:Env) (n:Nat) (fn:FuncId) (d:RangeD) (H:Hand) (bm bi lim wl:Nat) (es:List (Value × Value)) (K:Tm→AMem→Bool):Nat→List Nat→Tm→AMem→Bool
 | 0,_,_,_=>false
 | k+1,idx,t,m=>G7 idx ((gC d.e1).run t (.tuple #[.bool false]) fun t=>(gC d.e2).run t (.bool false) fun t=>fM (m.ww (min wl m.wl)) fun m=>K t m)
  (F2 idx fun i=>EX es i fun ke ve=>(gC d.e1).run t (.tuple #[.bool true,ke,ve]) fun t=>(gC d.e2).run t (.bool true) fun t=>(gC d.f1).run t (.tuple #[ke,ve]) fun t =>
   (va E n d.ops3 d.rest).run H t m fun t m=>(ie E n fn d.X).run H none t m fun e t m=>eZ e (dC (tx (m.get bm) es) (dC (Nat.ble lim m.wl) ((CJ d.d2).run t fun v=>dC (nQ v (ptr bi 0)) (goN E n fn d H bm bi lim wl es K k (idx.filter fun j=>!Nat.beq j i) t m) false) false) false) (fun _=>false) false)
structure RngSem where
 run:Hand→Tm→AMem→(Tm→AMem→Bool)→Bool
noncomputable def xr (E:Env) (n:Nat) (fn:FuncId) (d:RangeD):RngSem :=
 match Nat.ble n 512 with
 | true=>⟨fun H t m K=>(GJ E d.o1.op).run t m fun v=>Dn v fun r=>Option.rec (motive:=fun _=>Bool) false (fun bm=>dC (Nat.blt bm m.next) (Az m bm fun es =>
   fM (lE m) fun m2=>(gC d.d1).run t (.map (some bm)) fun t=>(gC d.d2).run t (ptr m.next 0) fun t=>fN es.length fun N=>goN E n fn d H bm m.next (Nat.succ bm) m.wl es K (Nat.succ N) (List.range N) t m2) false) r⟩
 | false=>⟨fun _ _ _ _=>false⟩
theorem vI (N:Nat) (S:List Nat) (i:Nat):(List.range N).filter (fun j=>!(S++[i]).contains j)=((List.range N).filter fun j=>!S.contains j).filter fun j=>!Nat.beq j i:=by
 rw[List.filter_filter];refine congrArg (fun p=>(List.range N).filter p) (funext fun j=>?_);rw[Bool.eq_iff_iff];simp only[Bool.not_eq_true',Bool.and_eq_true,List.contains_eq_mem,List.mem_append,List.mem_singleton,decide_eq_false_iff_not,not_or];have:(Nat.beq j i=false)↔¬j=i:=by
  rw[←Bool.not_eq_true];exact not_congr ⟨Nat.eq_of_beq_eq_true,fun e=>by rw[e]; exact Nat.beq_refl i⟩
 rw[this];exact And.comm
theorem zO {E:Env} (hE:EnvOk E) (hmono:¬E.mono) {H:Hand} (hH:xF E H) {n:Nat} {fn:FuncId} {d:RangeD} (hd:d.Ok E n) {t:Tm} {m:AMem} {K:Tm→AMem→Bool} (h:(xr E n fn d).run H t m K=true):cH E n fn none d.code (fun e t m=>e = .normal∧K t m=true) t m:=by
 unfold xr at h
 split at h
 ·rename_i hn;have hn:=Nat.le_of_ble_eq_true hn;obtain⟨v,h1,h⟩:=FQ h;obtain⟨r,rfl,h⟩:=lg h;cases r with
  | none=>cases h
  | some bm =>
   obtain⟨hbm,h⟩:=aU h;obtain⟨es,h2,h⟩:=kZ h;obtain⟨b1,b2,b3,b4,b5⟩:=hd.hb;have c1:d.d1<512:=Nat.lt_of_lt_of_le b1 hn;have c2:d.d2<512:=Nat.lt_of_lt_of_le b2 hn;have c3:d.e1<512:=Nat.lt_of_lt_of_le b3 hn;have c4:d.e2<512:=Nat.lt_of_lt_of_le b4 hn;have c5:d.f1<512:=Nat.lt_of_lt_of_le b5 hn;rw[wH,fm _ c1,fm _ c2,cU] at h;have hbl:bm<m.next:=Nat.le_of_ble_eq_true hbm
   refine cH.zV hE hmono hd.h1 hd.h2 hd.hmt hd.hN hd.hX hd.hOE hd.h3 hd.hb hd.hd.1 hd.hd.2.1 hd.hd.2.2 h1 h2 (lim:=bm+1) (Nat.lt_succ_self _) hbl
    (fun S t' m'=>∃k,goN E n fn d H bm m.next (Nat.succ bm) m.wl es K k ((List.range es.length).filter fun j=>!S.contains j) t' m'=true∧m'.get bm=some (.map es)∧bm+1≤m'.wl∧t'.at d.d2=ptr m.next 0)
    (fun S t' m' hI=>by obtain⟨_,_,hI⟩:=hI; exact hI) ⟨es.length+1,?_,?_,?_,?_⟩ ?_ ?_
   ·have:(List.range es.length).filter (fun j=>!([]:List Nat).contains j)=List.range es.length:=List.filter_eq_self.2 fun a _=>by simp
    rw[this]; exact h
   ·rw[gT,if_neg (by omega)]; exact h2
   ·rw[yX]; omega
   ·rw[at_set,if_pos rfl]
   ·intro S i e t1 m1 x1 x2 x3 x4 hI;obtain⟨k,g1,g2,g3,g4⟩:=hI;cases k with
    | zero=>cases g1
    | succ k =>
     have hi:i<es.length:=(List.getElem?_eq_some_iff.1 x4).1;have hmem:i ∈ (List.range es.length).filter fun j=>!S.contains j:=List.mem_filter.2 ⟨List.mem_range.2 hi,by simp[x3]⟩
     have g1':(F2 ((List.range es.length).filter fun j=>!S.contains j) fun i=>EX es i fun ke ve=>(gC d.e1).run t1 (.tuple #[.bool true,ke,ve]) fun t=>(gC d.e2).run t (.bool true) fun t=>(gC d.f1).run t (.tuple #[ke,ve]) fun t =>
   (va E n d.ops3 d.rest).run H t m1 fun t m'=>(ie E n fn d.X).run H none t m' fun e t m'=>eZ e (dC (tx (m'.get bm) es) (dC (Nat.ble (Nat.succ bm) m'.wl) ((CJ d.d2).run t fun v=>dC (nQ v (ptr m.next 0)) (goN E n fn d H bm m.next (Nat.succ bm) m.wl es K k (((List.range es.length).filter fun j=>!S.contains j).filter fun j=>!Nat.beq j i) t m') false) false) false) (fun _=>false) false)=true:=by
         unfold goN at g1;cases hl:(List.range es.length).filter fun j=>!S.contains j with
         | nil=>rw[hl] at hmem; cases hmem
         | cons a l=>rw[hl] at g1; exact g1
     have g5:=AG x4 (rH g1' i hmem);rw[fm _ c3,fm _ c4,fm _ c5] at g5;have g6:=mS hH g5;have mono:∀{os:List Oper} {t:Tm} {m:AMem} {K K':Tm→AMem→Prop},(∀t m,K t m→K' t m)→il E n d.ops3 K os t m→il E n d.ops3 K' os t m:=by
      intro os
      induction os with
      | nil=>intro t m K K' hk h; exact hk _ _ h
      | cons o os ih =>
       intro t m K K' hk h;simp only[il] at h ⊢
       split at h
       ·rename_i hw;obtain⟨v,m1,a1,t1,hp,a2⟩:=h;rw[if_pos hw];exact⟨v,m1,a1,t1,hp,ih hk a2⟩
       ·rename_i hw;obtain⟨t1,hp,a2⟩:=h;rw[if_neg hw];exact⟨t1,hp,ih hk a2⟩
     refine mono (fun t2 m2 h2=>?_) g6;refine(kh hH d.X h2).mono fun e t3 m3 h3=>?_;rcases cF h3 with⟨rfl,h3⟩|⟨id,rfl,h3⟩|⟨rfl,h3⟩
     ·obtain⟨y1,h3⟩:=aU h3;obtain⟨y2,h3⟩:=aU h3;rw[tE _ c2] at h3;obtain⟨y3,h3⟩:=aU h3;refine⟨rfl,k,?_,wz y1,Nat.le_of_ble_eq_true y2,nw y3⟩;rw[vI]; exact h3
     ·cases h3
     ·cases h3
   ·intro S t1 m1 hS hI;obtain⟨k,g1,_⟩:=hI;have hnil:(List.range es.length).filter (fun j=>!S.contains j) = []:=List.filter_eq_nil_iff.2 fun a ha=>by
     have:=hS.mem_iff.2 ha;simp[this]
    rw[hnil] at g1;cases k with
    | zero=>cases g1
    | succ k =>
     have g1':((gC d.e1).run t1 (.tuple #[.bool false]) fun t=>(gC d.e2).run t (.bool false) fun t=>fM (m1.ww (min m.wl m1.wl)) fun m=>K t m)=true:=g1;rw[fm _ c3,fm _ c4,wH] at g1';exact⟨rfl,g1'⟩
 ·cases h
def Kr (ND:FuncId→Option FunN) (l:List Oper):Bool:=l.any fun o=>(ph ND o.op).isSome
structure SemN where
 run:Hand→Tm→AMem→(AExit→Tm→AMem→Bool)→Bool
noncomputable def iW (E:Env) (n:Nat) (fn:FuncId) (ND:FuncId→Option FunN):Code→SemN
 | .seq a b=>match sI E n a with
  | some d=>⟨fun H t m K=>(xr E n fn d).run H t m fun t m=>(iW E n fn ND b).run H t m K⟩
  | none=>⟨fun H t m K=>(iW E n fn ND a).run H t m fun e t m=>eZ e ((iW E n fn ND b).run H t m K) (fun id=>K (.exit id) t m) (K .ret t m)⟩
 | .cond x a b=>⟨fun H t m K=>(cS E x).run t fun v=>ou v (fun c=>dC c ((iW E n fn ND a).run H t m K) ((iW E n fn ND b).run H t m K)) false⟩
 | .block id a=>⟨fun H t m K=>(iW E n fn ND a).run H t m fun e t m=>eZ e (K .normal t m) (fun id'=>dC (Nat.beq id' id) (K .normal t m) (K (.exit id') t m)) (K .ret t m)⟩
 | .region i ops draw=>match draw,Kr ND ops.toList with
  | false,true=>⟨fun H t m K=>(xl E n ops ND ops.toList).run H t m fun t m=>K .normal t m⟩
  | _,_=>⟨fun H t m K=>(ES E n ops draw).run H t m fun t m=>K .normal t m⟩
 | c=>⟨fun H t m K=>(ie E n fn c).run H none t m K⟩
theorem Cl {E:Env} (hE:EnvOk E) (hmono:¬E.mono) {H:Hand} (hH:xF E H) {ND:FuncId→Option FunN} (hN:IL E ND) {n:Nat} {fn:FuncId}:∀(c:Code) {t:Tm} {m:AMem} {K:AExit→Tm→AMem→Bool},(iW E n fn ND c).run H t m K=true→cH E n fn none c (fun e t m=>K e t m=true) t m:=by
 intro c
 induction c with
 | seq a b iha ihb =>
  intro t m K h;unfold iW at h
  split at h
  ·rename_i d hd;obtain⟨rfl,hok⟩:=tF hd;refine .Aj ((zO hE hmono hH hok h).mono fun e t m h=>?_);obtain⟨rfl,h⟩:=h;exact ihb h
  ·refine .Aj ((iha h).mono fun e t m h=>?_);rcases cF h with⟨rfl,h⟩|⟨id,rfl,h⟩|⟨rfl,h⟩
   ·exact ihb h
   ·exact h
   ·exact h
 | cond x a b iha ihb =>
  intro t m K h;unfold iW at h;obtain⟨v,h1,h⟩:=aS (x:=x) h;obtain⟨c,rfl,h⟩:=gV h;refine .cond h1 (fun hc=>?_) (fun hc=>?_)
  ·subst hc; exact iha h
  ·subst hc; exact ihb h
 | block id a ih =>
  intro t m K h;unfold iW at h;refine .block ((ih h).mono fun e t m h=>?_);rcases cF h with⟨rfl,h⟩|⟨id',rfl,h⟩|⟨rfl,h⟩
  ·exact h
  ·simp only[dT];rcases cr h with⟨h1,h⟩|⟨h1,h⟩
   ·rw[if_pos (Nat.eq_of_beq_eq_true h1)]; exact h
   ·rw[if_neg (fun e=>by rw[e,Nat.beq_refl] at h1; cases h1)]; exact h
  ·exact h
 | region i ops draw =>
  intro t m K h;unfold iW at h
  split at h
  ·exact .region (mK hE hH hN h)
  ·exact .of hE (zc hH (fun t m h=>h) h)
 | _ =>
  intro t m K h;unfold iW at h;exact .of hE (kh hH _ h)
noncomputable def nf (E:Env) (H:Hand) (ND:FuncId→Option FunN) (f:FuncId):FunN :=
 match E.P.funcs[f]? with
 | some fn=>match fn.body,Nat.ble fn.ntmps 512 with
  | some c,true=>⟨fun args m K=>dC (Nat.ble args.length fn.ntmps) (td args 0 .nil fun t=>(iW E fn.ntmps f ND c).run H t m fun e t m=>eZ e ((wK E fn.results.toList).run t m fun vs=>Ce vs fun v=>K v m) (fun _=>false) ((wK E fn.results.toList).run t m fun vs=>Ce vs fun v=>K v m)) false⟩
  | _,_=>⟨fun _ _ _=>false⟩
 | none=>⟨fun _ _ _=>false⟩
theorem qD {E:Env} (hE:EnvOk E) (hmono:¬E.mono) {H:Hand} (hH:xF E H) {ND:FuncId→Option FunN} (hN:IL E ND) {f:FuncId} {args:List Value} {m:AMem} {K:Value→AMem→Bool} (h:(nf E H ND f).run args m K=true):W.lM E f args m fun v m'=>K v m'=true:=by
 unfold nf at h
 split at h
 ·rename_i F hf
  split at h
  ·rename_i c hb hn;have g:=aU h; clear h; obtain⟨h1,h⟩:=g;have hle:=Nat.le_of_ble_eq_true h1;have hn':=Nat.le_of_ble_eq_true hn;rw[nv args 0 _ _ (by omega)] at h
   have hmax:max args.length F.ntmps=F.ntmps:=Nat.max_eq_right hle;refine W.vN hE hf hb rfl hmax ((Cl hE hmono hH hN c h).mono fun e t m h=>?_);rcases cF h with⟨rfl,h⟩|⟨id,rfl,h⟩|⟨rfl,h⟩
   ·obtain⟨vs,h2,h⟩:=kT h;rw[pf] at h;rw[z6,h2,rL]; exact h
   ·cases h
   ·obtain⟨vs,h2,h⟩:=kT h;rw[pf] at h;rw[Bm,h2,rL]; exact h
  ·cases h
 ·cases h
section
variable {E : Env} {j j1 : aH} {m m1 : AMem} {w w1 : World}
theorem Sim.same (h:MR E j m w) (hold:∀c,c<w.heap.size→w1.heap[c]? = w.heap[c]?) (hsize:w.heap.size≤w1.heap.size) (hcalm:ij E w w1):Sim E j m w j m w1 where
 ext:=.refl m
 le:=.refl j
 new:=fun b k h h'=>by simp[h'] at h
 mr:=⟨fun b k hb=>⟨(h.lt b k hb).1,Nat.lt_of_lt_of_le (h.lt b k hb).2 hsize⟩,fun b o k ho hb=>by
  obtain⟨o',h1,h2⟩:=h.obj b o k ho hb;exact⟨o',(hold k.c (h.lt b k hb).2).trans h1,h2⟩,h.inj,h.glob⟩
 size:=hsize
 full:=fun b h h' _=>absurd h (by omega)
 away:=fun _ _ _=>rfl
 fresh:=fun b k h h'=>by simp[h'] at h
 frame:=fun c hc _=>hold c hc
 calm:=hcalm
theorem wW (hE:EnvOk E) {pr:FuncId→Option Prim} (h:∀f p,pr f=some p→E.cR f=some p∨∀args m v m',p.run args m=some (v,m')→∀(j:aH) (w:World) (args':List Value),MR E j m w→LR j args args'→dL E.P (E.cR f).isSome f args'.toArray w (fe E j m w v m')):EnvOk { E with cR:=pr}:=by
 refine⟨hE.call,hE.mixed,fun f p hp args m v m' hrun j w args' hm hl=>?_⟩;have hp':({ E with cR:=pr}:Env).cR f=some p:=hp;have hm0:MR E j m w:=MR.env (E:={ E with cR:=pr}) (E':=E) rfl hm;have key:∀v' w',fe E j m w v m' v' w'→fe { E with cR:=pr} j m w v m' v' w':=fun v' w' ⟨j',s,hv⟩=>⟨j',Sim.env (E:=E) rfl (fun e=>e) s,hv⟩;rcases h f p hp with h1|h1
 ·exact bY (fun _=>by rw[hp']; rfl) (hE.cR f p h1 args m v m' hrun j w args' hm0 hl) key
 ·exact bY (fun _=>by rw[hp']; rfl) (h1 args m v m' hrun j w args' hm0 hl) key
end
section
variable {E : Env} {j : aH} {m : AMem} {w : World}
def kR (j:aH) (g:Nat):aH:=fun x=>if x<g then j x else none
theorem uV (n:Nat) (gs:Nat→Option (List Value)) (b:Nat):(A1 n gs).get b=(gs b).map fun cs=>.cells cs .ro:=by
 simp[AMem.get,A1,Heap.get_nil]
theorem MR.IP {gs:Nat→Option (List Value)} (h:MR E j m w) (hgs:∀x c,x<E.glob→gs x=some c→m.get x=some (.cells c .ro)) (hgp:∀x c,gs x=some c→c.all aL=true):MR E (kR j E.glob) (A1 E.glob gs) w:=by
 have cases1:∀x k,kR j E.glob x=some k→x<E.glob∧j x=some k:=by
  intro x k hx;unfold kR at hx
  split at hx
  ·rename_i hlt; exact⟨hlt,hx⟩
  ·cases hx
 refine⟨fun x k hx=>?_,fun x o k ho hx=>?_,fun x x' k k' hx hx' hl hl' hc=>?_,fun gl hgl=>?_⟩
 ·obtain⟨hlt,hj⟩:=cases1 x k hx;exact⟨hlt,(h.lt x k hj).2⟩
 ·rw[uV] at ho;obtain⟨hlt,hj⟩:=cases1 x k hx;cases hg:gs x with
  | none=>rw[hg] at ho; cases ho
  | some c =>
   rw[hg] at ho; cases ho;have hgx:=hgs x c hlt hg;obtain⟨o',h1,h2⟩:=h.obj x _ k hgx hj;refine⟨o',h1,?_⟩;cases o' with
   | cells c' ty fz =>
    refine⟨h2.1,fun i v hi=>?_⟩;obtain⟨v',h3,h4⟩:=h2.2 i v hi;have hpv:=List.all_eq_true.1 (hgp x c hg) v (List.mem_of_getElem? hi);have:=ez hpv h4;subst this;exact⟨_,h3,.aL hpv⟩
   | _=>exact h2.elim
 ·have live:∀y,y<E.glob→((A1 E.glob gs).get y).isSome=true→(m.get y).isSome=true:=by
   intro y hy hl;rw[uV] at hl;cases hg:gs y with
   | none=>rw[hg] at hl; cases hl
   | some c=>rw[hgs y c hy hg]; rfl
  obtain⟨hlt,hj⟩:=cases1 x k hx;obtain⟨hlt',hj'⟩:=cases1 x' k' hx';exact h.inj x x' k k' hj hj' (live x hlt hl) (live x' hlt' hl') hc
 ·unfold kR;rw[if_pos hgl];exact h.glob gl hgl
theorem sL (hE:EnvOk E) {f:FuncId} {gs:Nat→Option (List Value)} (hgp:∀x c,gs x=some c→c.all aL=true) {fuel:Nat} {v:Value} {m0:AMem}
  (hrun:run E fuel (.call f [] (A1 E.glob gs))=some (.val v m0)) (hwl:E.glob≤m0.wl) (hpv:bg v=true) {args':List Value} (h:MR E j m w) (hgs:∀x c,x<E.glob→gs x=some c→m.get x=some (.cells c .ro)) (hl:LR j [] args') :
  dL E.P (E.cR f).isSome f args'.toArray w (fe E j m w v m):=by
 have hm0:=h.IP hgs hgp;have hl0:LR (kR j E.glob) [] args':=by
  rw[LR.db hl]; exact .nil _
 obtain⟨_,_,e,hs⟩:=jx hE fuel _ _ hrun;cases e;refine bY (fun x=>x) (hs _ w args' hm0 hl0) ?_;intro v' w' ⟨j',s,hv'⟩;have hold:∀c,c<w.heap.size→w'.heap[c]? = w.heap[c]?:=fun c hc=>s.frame c hc fun x k hx _ _=>by
  have:x<E.glob:=(hm0.lt x k hx).1;omega
 exact⟨j,.same h hold s.size s.calm,VR.lj hpv hv'⟩
end
end Go.Ab
end

section
namespace Go.Ab
open Go
attribute [local irreducible] AMem.get AMem.set AMem.alloc AMem.ww AMem.kill
section
variable {E : Env} {j j1 : aH} {m m1 : AMem} {w w1 : World}
theorem Sim.JW {js:aH} {ms:AMem} (h:MR E j m w) (hs:MR E js ms w) (s:Sim E js { ms with wl:=ms.next} w j1 m1 w1) (g:Grown ms m1) {T:zZ} {a:Nat→Nat} {tg:Nat→Tag} (hT:T.ok)
  (ha:∀i,i<T.length→ms.next≤a i∧a i<m1.next) (hinj:∀i k,i<T.length→k<T.length→a i=a k→i=k) (ho:∀i x,T[i]? = some x→m1.get (a i)=some (.cells (x.1.map (TV.inst T a)) (tg i))∧(tg i = .own∨tg i = .more x.2)) :
  ∃j2,Sim E j m w j2 (m.fJ (T.bM fun i=>m.next+i)) w1∧∀x:TV,x.ok T.length=true→∀v',VR j1 (x.inst T a) v'→VR j2 (x.inst T fun i=>m.next+i) v':=by
 have hol:(T.bM fun i=>m.next+i).length=T.length:=by unfold zZ.bM; rw[List.length_map]
 have hjn:∀b,ms.next≤b→js b=none:=fun b hb=>by
  cases e:js b with
  | none=>rfl
  | some k=>exact absurd (hs.lt b k e).1 (by omega)
 have hold:=s.old hs g;have hk:∀i x,T[i]? = some x→∃k,j1 (a i)=some k:=fun i x hi=>by
  have hlt:=(List.getElem?_eq_some_iff.1 hi).1;exact s.full (a i) (ha i hlt).1 (ha i hlt).2 (by rw[(ho i x hi).1]; rfl)
 have hfresh:∀i k,i<T.length→j1 (a i)=some k→w.heap.size≤k.c:=fun i k hi hk=>by
  rcases s.fresh (a i) k hk (hjn _ (ha i hi).1) with hf|⟨b0,k0,a1,_,_,a4⟩
  ·exact hf
  ·have:=(hs.lt b0 k0 a1).1; have:=g.wl; omega
 have hcell:∀i x k,T[i]? = some x→j1 (a i)=some k→∃c ty fz,w1.heap[k.c]? = some (.cells c ty fz)∧mI k (tg i) x.1.length c fz∧∀(q:Nat) (z:TV),x.1[q]? = some z→∃v',c[q]? = some v'∧VR j1 (z.inst T a) v':=fun i x k hi hk=>by
  obtain⟨o',g1,g2⟩:=s.mr.obj (a i) _ k (ho i x hi).1 hk;cases o' with
  | cells c ty fz =>
   refine⟨c,ty,fz,g1,by have:=g2.1; rwa[List.length_map] at this,fun q z hq=>?_⟩
   exact g2.2 q (z.inst T a) (by rw[List.getElem?_map,hq]; rfl)
  | _=>exact g2.elim
 have key:∀j2:aH,(∀i x,T[i]? = some x→∀k,j1 (a i)=some k→j2 (m.next+i)=some (ki k x.2 x.1.length))→∀x:TV,x.ok T.length=true→∀v',VR j1 (x.inst T a) v'→VR j2 (x.inst T fun i=>m.next+i) v':=fun j2 hj2 x hx v' hv=>by
  let cf:Nat→Array Value × (Nat × Nat):=fun i=>match j1 (a i) with
   | some k=>match w1.heap[k.c]? with
    | some (.cells c _ fz)=>(c,fz)
    | _=>(#[],(0,0))
   | none=>(#[],(0,0))
  refine TV.move hT (tg:=tg) (cf:=cf) (fun i y hi=>?_) hx hv;obtain⟨k,hk⟩:=hk i y hi;obtain⟨c,ty,fz,h1,h2,_⟩:=hcell i y k hi hk;have ecf:cf i=(c,fz):=by show(match j1 (a i) with|some k=>_|none=>_)=_; rw[hk]; dsimp only; rw[h1]
  exact⟨k,hk,hj2 i y hi k hk,(ho i y hi).2,by rw[ecf]; exact h2⟩
 have e1:∀i x,T[i]? = some x→∀k,j1 (a i)=some k→(fun b=>if m.next≤b then match T[b-m.next]?,j1 (a (b-m.next)) with|some x,some k=>some (ki k x.2 x.1.length) | _,_=>none else j b) (m.next+i)=some (ki k x.2 x.1.length):=fun i x hi k hk=>by
  dsimp only
  rw[if_pos (by omega),Nat.add_sub_cancel_left,hi,hk]
 have e2:∀b,b<m.next→(fun b=>if m.next≤b then match T[b-m.next]?,j1 (a (b-m.next)) with|some x,some k=>some (ki k x.2 x.1.length) | _,_=>none else j b) b=j b:=fun b hb=>by
  dsimp only
  rw[if_neg (by omega)]
 have e3:∀b k,(fun b=>if m.next≤b then match T[b-m.next]?,j1 (a (b-m.next)) with|some x,some k=>some (ki k x.2 x.1.length) | _,_=>none else j b) b=some k→(b<m.next∧j b=some k)∨∃i x k1,T[i]? = some x∧b=m.next+i∧j1 (a i)=some k1∧k=ki k1 x.2 x.1.length:=fun b k hb=>by
  by_cases c:m.next≤b
  ·dsimp only at hb
   rw[if_pos c] at hb;cases hx:T[b-m.next]? with
   | none=>rw[hx] at hb; cases hb
   | some x =>
    cases hk:j1 (a (b-m.next)) with
    | none=>rw[hx,hk] at hb; cases hb
    | some k1 =>
     rw[hx,hk] at hb;exact .inr ⟨b-m.next,x,k1,hx,by omega,hk,(Option.some.inj hb).symm⟩
  ·dsimp only at hb
   rw[if_neg c] at hb;exact .inl ⟨(h.lt b k hb).1,hb⟩
 generalize (fun b=>if m.next≤b then match T[b-m.next]?,j1 (a (b-m.next)) with|some x,some k=>some (ki k x.2 x.1.length) | _,_=>none else j b)=j2 at e1 e2 e3
 refine⟨j2,?_,key j2 e1⟩;have hle:j.le j2:=fun b k hb=>by rw[e2 b (h.lt b k hb).1]; exact hb
 have hget:∀i,i<T.length→(m.fJ (T.bM fun i=>m.next+i)).get (m.next+i)=(T.bM fun i=>m.next+i)[i]?:=fun i hi=>sq _ m i (by omega)
 have ha2:MR E j m w1:=⟨fun b k e=>⟨(h.lt b k e).1,Nat.lt_of_lt_of_le (h.lt b k e).2 s.size⟩,fun b o k ho e=>by
  obtain⟨o',h1,h2⟩:=h.obj b o k ho e;exact⟨o',(hold _ (h.lt b k e).2).trans h1,h2⟩,h.inj,h.glob⟩
 have hlt:∀{i x},T[i]? = some x→i<T.length:=fun hi=>(List.getElem?_eq_some_iff.1 hi).1;have hlive:∀{i x},T[i]? = some x→(m1.get (a i)).isSome=true:=fun hi=>by rw[(ho _ _ hi).1]; rfl
 refine⟨⟨by rw[gm]; omega,by rw[rz]; exact Nat.le_refl _,fun b hb _=>dj _ _ (.inl hb),fun b hb hn=>(dj _ _ (.inl hb)).trans hn⟩,hle,fun b k e e'=>?_,⟨fun b k e=>?_,fun b o k ho' e=>?_,fun b b' k k' e e' hl hl' hc=>?_,fun gl hgl=>?_⟩,s.size,fun b hb1 hb2 _=>?_,fun b hb _=>?_,fun b k e e'=>?_,fun c hc _=>hold c hc,s.calm⟩
 ·rcases e3 b k e with⟨_,c⟩|⟨i,_,_,_,rfl,_⟩
  ·rw[e'] at c; cases c
  ·omega
 ·rcases e3 b k e with⟨c1,c2⟩|⟨i,x,k1,hi,rfl,c2,rfl⟩
  ·exact⟨by rw[gm]; omega,(ha2.lt b k c2).2⟩
  ·exact⟨by rw[gm,hol]; have:=hlt hi; omega,by rw[j4]; exact(s.mr.lt _ k1 c2).2⟩
 ·rcases e3 b k e with⟨c1,c2⟩|⟨i,x,k1,hi,rfl,c2,rfl⟩
  ·rw[dj _ _ (.inl c1)] at ho';obtain⟨o',h1,h2⟩:=ha2.obj b o k ho' c2;exact⟨o',h1,h2.mono hle⟩
  ·rw[hget i (hlt hi)] at ho';unfold zZ.bM at ho';rw[List.getElem?_map,hi,Option.map_some] at ho';cases ho';obtain⟨c,ty,fz,g1,g2,g3⟩:=hcell i x k1 hi c2;obtain⟨o1,o2,o3,o4⟩:=hT x (List.mem_of_getElem? hi);refine⟨.cells c ty fz,by rw[j4]; exact g1,?_,fun q v hq=>?_⟩
   ·rw[List.length_map];rw[o2] at g2 ⊢;exact BJ (ho i x hi).2 o1 o3 g2
   ·rw[List.getElem?_map] at hq;obtain⟨z,hz,rfl⟩:=Option.map_eq_some_iff.1 hq;obtain⟨v',h3,h4⟩:=g3 q z hz;exact⟨v',h3,key j2 e1 z (List.all_eq_true.1 o4 z (List.mem_of_getElem? hz)) v' h4⟩
 ·have old:∀{b k},b<m.next→j b=some k→(m.get b).isSome=true→∀i x,T[i]? = some x→∀k1,j1 (a i)=some k1→k.c≠k1.c:=fun {b k} hb e hl i x hi k1 hk1 hc=>by
   have:=(h.lt b k e).2;have:=hfresh i k1 (hlt hi) hk1;omega
  rcases e3 b k e with⟨c1,c2⟩|⟨i,x,k1,hi,rfl,c2,rfl⟩<;>rcases e3 b' k' e' with⟨d1,d2⟩|⟨i',x',k1',hi',rfl,d2,rfl⟩
  ·rw[dj _ _ (.inl c1)] at hl;rw[dj _ _ (.inl d1)] at hl';exact h.inj b b' k k' c2 d2 hl hl' hc
  ·rw[dj _ _ (.inl c1)] at hl;rw[j4] at hc;exact absurd hc (old c1 c2 hl i' x' hi' k1' d2)
  ·rw[dj _ _ (.inl d1)] at hl';rw[j4] at hc;exact absurd hc.symm (old d1 d2 hl' i x hi k1 c2)
  ·rw[j4,j4] at hc;have:=s.mr.inj (a i) (a i') k1 k1' c2 d2 (hlive hi) (hlive hi') hc;rw[hinj i i' (hlt hi) (hlt hi') this]
 ·have:=h.glob gl hgl;rw[e2 gl (h.lt gl _ this).1]; exact this
 ·rw[gm,hol] at hb2;have hi:=List.getElem?_eq_getElem (show b-m.next<T.length by omega)
  obtain⟨k,hk⟩:=hk _ _ hi;have:=e1 _ _ hi k hk;exact⟨_,by rw[show b=m.next+(b-m.next) by omega]; exact this⟩
 ·rw[dj _ _ (.inl hb)]
 ·rcases e3 b k e with⟨_,c⟩|⟨i,x,k1,hi,rfl,c,rfl⟩
  ·rw[e'] at c; cases c
  ·rw[j4]; exact .inl (hfresh i k1 (hlt hi) c)
end
inductive SV where
 | v (x:Value)
 | s (b n:Nat)
inductive AV where
 | one (x:SV)
 | agg (xs:List SV)
def SV.val (f:Nat→Nat):SV→Value
 | .v x=>x
 | .s b n=>.slice (some ⟨f b,0,none⟩) n n
def SV.ok (N:Nat):SV→Bool
 | .v x=>bg x
 | .s b _=>Nat.blt b N
def AV.val (f:Nat→Nat):AV→Value
 | .one x=>x.val f
 | .agg xs=>.agg (xs.map (SV.val f)).toArray
def AV.ok (N:Nat):AV→Bool
 | .one x=>x.ok N
 | .agg xs=>xs.all (SV.ok N)
abbrev Bk:=List SV × Tag
def mA (g:Nat) (gs:Nat→Option (List Value)) (A:List Bk):AMem:=⟨g+A.length,g+A.length,.nil,fun b=>if b<g then(gs b).map fun cs=>.cells cs .ro else(A[b-g]?).map fun x=>.cells (x.1.map (SV.val fun b=>b)) x.2⟩
theorem yf (g:Nat) (gs:Nat→Option (List Value)) (A:List Bk) (b:Nat):(mA g gs A).get b=if b<g then(gs b).map fun cs=>.cells cs .ro else(A[b-g]?).map fun x=>.cells (x.1.map (SV.val fun b=>b)) x.2:=by
 simp[AMem.get,mA,Heap.get_nil]
def eG (g:Nat) (l:List Nat) (b:Nat):Nat:=if b<g then b else l.getD (b-g) 0
def q9 (g N:Nat) (l:List Nat) (j:aH):aH:=fun b=>if b<N then j (eG g l b) else none
theorem SV.VR {j:aH} {g N:Nat} {l:List Nat} {x:SV} (hx:x.ok N=true) {v':Value} (h:VR j (x.val (eG g l)) v'):VR (q9 g N l j) (x.val fun b=>b) v':=by
 cases x with
 | v x=>exact VR.lj hx h
 | s b n =>
  have hb:b<N:=Nat.le_of_ble_eq_true hx;have e:∀k,j (eG g l b)=some k→q9 g N l j b=some k:=fun k hk=>by unfold q9; rw[if_pos hb]; exact hk
  have h:Go.Ab.VR j (.slice (some ⟨eG g l b,0,none⟩) n n) v':=h
  show Go.Ab.VR _ (.slice (some ⟨b,0,none⟩) n n) v'
  cases h with
  | slice hj hm=>exact .slice (e _ hj) hm
  | sliceM hj hm h1 h2 hl hc=>exact .sliceM (e _ hj) hm h1 h2 hl hc
structure SmallIn (m:AMem) (g:Nat) (gs:Nat→Option (List Value)) (A:List Bk) (l:List Nat):Prop where
 len:l.length=A.length
 glob:∀x c,x<g→gs x=some c→m.get x=some (.cells c .ro)∧c.all aL=true
 at_:∀i (h:i<A.length),m.get (l.getD i 0)=some (.cells (A[i].1.map (SV.val (eG g l))) A[i].2)
 low:∀i,i<l.length→g≤l.getD i 0
 nd:∀i k,i<l.length→k<l.length→l.getD i 0=l.getD k 0→i=k
 ok:A.all (fun x=>x.1.all (SV.ok (g+A.length)))=true
theorem MR.FF {E:Env} {j:aH} {m:AMem} {w:World} {gs:Nat→Option (List Value)} {A:List Bk} {l:List Nat} (h:MR E j m w) (hs:SmallIn m E.glob gs A l):MR E (q9 E.glob (E.glob+A.length) l j) (mA E.glob gs A) w:=by
 have hj:∀x k,q9 E.glob (E.glob+A.length) l j x=some k→x<E.glob+A.length∧j (eG E.glob l x)=some k:=fun x k hx=>by
  unfold q9 at hx
  split at hx
  ·rename_i hlt; exact⟨hlt,hx⟩
  ·cases hx
 have hobj:∀x o,(mA E.glob gs A).get x=some o→x<E.glob+A.length→(x<E.glob∧m.get (eG E.glob l x)=some o∧∃c,o = .cells c .ro∧c.all aL=true)∨∃y:Bk,y ∈ A∧o = .cells (y.1.map (SV.val fun b=>b)) y.2∧m.get (eG E.glob l x)=some (.cells (y.1.map (SV.val (eG E.glob l))) y.2):=fun x o ho hx=>by
  rw[yf] at ho
  split at ho
  ·rename_i hlt;cases hg:gs x with
   | none=>rw[hg] at ho; cases ho
   | some c =>
    rw[hg] at ho; cases ho;have e:eG E.glob l x=x:=by unfold eG; rw[if_pos hlt]
    rw[e];exact .inl ⟨hlt,(hs.glob x c hlt hg).1,c,rfl,(hs.glob x c hlt hg).2⟩
  ·rename_i hlt;have hi:x-E.glob<A.length:=by omega
   have h1:=hs.at_ (x-E.glob) hi;rw[List.getElem?_eq_getElem hi] at ho;cases ho;have e:eG E.glob l x=l.getD (x-E.glob) 0:=by unfold eG; rw[if_neg hlt]
   rw[e];exact .inr ⟨_,List.getElem_mem hi,rfl,h1⟩
 have hlive:∀x,x<E.glob+A.length→((mA E.glob gs A).get x).isSome=true→(m.get (eG E.glob l x)).isSome=true:=fun x hx hl=>by
  cases e1:(mA E.glob gs A).get x with
  | none=>rw[e1] at hl; cases hl
  | some o =>
   rcases hobj x o e1 hx with⟨_,h1,_⟩|⟨y,_,_,h1⟩
   ·rw[h1]; rfl
   ·rw[h1]; rfl
 refine⟨fun x k hx=>?_,fun x o k ho hx=>?_,fun x x' k k' hx hx' hl hl' hc=>?_,fun gl hgl=>?_⟩
 ·obtain⟨hlt,hj⟩:=hj x k hx;exact⟨hlt,(h.lt _ k hj).2⟩
 ·obtain⟨hlt,hj⟩:=hj x k hx;rcases hobj x o ho hlt with⟨_,h1,cs,rfl,h2⟩|⟨y,hy,rfl,h1⟩
  ·obtain⟨o',h3,h4⟩:=h.obj _ _ k h1 hj;refine⟨o',h3,?_⟩;cases o' with
   | cells c' ty fz =>
    refine⟨h4.1,fun i v hi=>?_⟩;obtain⟨v',h5,h6⟩:=h4.2 i v hi;have hpv:=List.all_eq_true.1 h2 v (List.mem_of_getElem? hi);have:=ez hpv h6;subst this;exact⟨_,h5,.aL hpv⟩
   | _=>exact h4.elim
  ·obtain⟨o',h3,h4⟩:=h.obj _ _ k h1 hj;refine⟨o',h3,?_⟩;have hok:=List.all_eq_true.1 hs.ok y hy;cases o' with
   | cells c' ty fz =>
    refine⟨by have:=h4.1; rwa[List.length_map] at this ⊢,fun i v hi=>?_⟩
    rw[List.getElem?_map] at hi;obtain⟨z,hz,rfl⟩:=Option.map_eq_some_iff.1 hi;obtain⟨v',h5,h6⟩:=h4.2 i (z.val (eG E.glob l)) (by rw[List.getElem?_map,hz]; rfl)
    exact⟨v',h5,SV.VR (List.all_eq_true.1 hok z (List.mem_of_getElem? hz)) h6⟩
   | _=>exact h4.elim
 ·obtain⟨hlt,hj1⟩:=hj x k hx;obtain⟨hlt',hj2⟩:=hj x' k' hx';have e:=h.inj _ _ k k' hj1 hj2 (hlive x hlt hl) (hlive x' hlt' hl') hc;unfold eG at e;have hlen:=hs.len
  split at e
  ·split at e
   ·exact e
   ·rename_i a b; have:=hs.low (x'-E.glob) (by omega); omega
  ·split at e
   ·rename_i a b; have:=hs.low (x-E.glob) (by omega); omega
   ·rename_i a b;have:=hs.nd _ _ (by omega) (by omega) e
    omega
 ·show q9 E.glob (E.glob+A.length) l j gl=_
  unfold q9 eG;rw[if_pos (by omega),if_pos hgl]
  exact h.glob gl hgl
theorem SV.LR {j:aH} {g N:Nat} {l:List Nat}:∀{xs:List SV} {ys:List Value},xs.all (SV.ok N)=true→LR j (xs.map (SV.val (eG g l))) ys→Go.Ab.LR (q9 g N l j) (xs.map (SV.val fun b=>b)) ys
 | [],ys,_,h=>by rw[Go.Ab.LR.db h]; exact .nil _
 | x::xs,ys,hx,h=>by
  obtain⟨y,ys',rfl,h1,h2⟩:=Go.Ab.LR.cons_inv h;simp only[List.all_cons,Bool.and_eq_true] at hx;exact .cons (SV.VR hx.1 h1) (SV.LR hx.2 h2)
theorem AV.LR {j:aH} {g N:Nat} {l:List Nat}:∀{xs:List AV} {ys:List Value},xs.all (AV.ok N)=true→LR j (xs.map (AV.val (eG g l))) ys→Go.Ab.LR (q9 g N l j) (xs.map (AV.val fun b=>b)) ys
 | [],ys,_,h=>by rw[Go.Ab.LR.db h]; exact .nil _
 | x::xs,ys,hx,h=>by
  obtain⟨y,ys',rfl,h1,h2⟩:=Go.Ab.LR.cons_inv h;simp only[List.all_cons,Bool.and_eq_true] at hx;refine .cons ?_ (AV.LR hx.2 h2);cases x with
  | one x=>exact SV.VR hx.1 h1
  | agg xs =>
   have h1:Go.Ab.VR j (.agg (xs.map (SV.val (eG g l))).toArray) y:=h1;cases h1 with
   | agg a b =>
    rename_i zs;have:=SV.LR (j:=j) (g:=g) (N:=N) (l:=l) (xs:=xs) (ys:=zs.toList) hx.1 (by
     have:=Go.Ab.LR.eO a b
     simpa using this)
    refine Go.Ab.VR.xE ?_
    simpa using this
structure Case where
 A:List Bk
 args:List AV
 V:List TV
 T:zZ
def Case.small (c:Case) (g:Nat) (gs:Nat→Option (List Value)):AMem:=mA g gs c.A
def Case.Out (c:Case) (ms:AMem) (v1:Value) (m1:AMem):Prop:=Grown ms m1∧∃(a:Nat→Nat) (tg:Nat→Tag),v1 = .tuple (c.V.map (TV.inst c.T a)).toArray ∧
  (∀i,i<c.T.length→ms.next≤a i∧a i<m1.next)∧(∀i k,i<c.T.length→k<c.T.length→a i=a k→i=k)∧∀i x,c.T[i]? = some x→m1.get (a i)=some (.cells (x.1.map (TV.inst c.T a)) (tg i))∧(tg i = .own∨tg i = .more x.2)
def tu:Value→List Nat
 | .slice (some a) _ _=>[a.block]
 | _=>[]
def Ii:Value→List Nat
 | .agg xs=>xs.toList.flatMap tu
 | .tuple xs=>xs.toList.flatMap tu
 | v=>tu v
def cellsOf (m:AMem) (b:Nat):List Value :=
 match m.get b with
 | some (.cells cs _)=>cs
 | _=>[]
def o9 (m:AMem) (v:Value):List Nat:=(Ii v).flatMap fun b=>b::(cellsOf m b).flatMap tu
def J0:List Nat→Bool
 | []=>true
 | x::xs=>!xs.contains x && J0 xs
theorem yn:∀{l:List Nat},J0 l=true→∀i k,i<l.length→k<l.length→l.getD i 0=l.getD k 0→i=k
 | [],_,i,k,hi,_,_=>by simp at hi
 | x::xs,h,i,k,hi,hk,e=>by
  simp only[J0,Bool.and_eq_true,Bool.not_eq_true',List.contains_eq_mem,decide_eq_false_iff_not] at h;have hx:∀q,q<xs.length→xs.getD q 0 ∈ xs:=fun q hq=>by
   rw[List.getD_eq_getElem?_getD,List.getElem?_eq_getElem hq]; exact List.getElem_mem hq
  cases i with
  | zero =>
   cases k with
   | zero=>rfl
   | succ k =>
    have e:x=xs.getD k 0:=e;exact absurd (e ▸ hx k (by simpa using hk)) h.1
  | succ i =>
   cases k with
   | zero =>
    have e:xs.getD i 0=x:=e;exact absurd (e ▸ hx i (by simpa using hi)) h.1
   | succ k=>exact congrArg (· + 1) (yn h.2 i k (by simpa using hi) (by simpa using hk) e)
def ux (o:Option AObj) (cs:List Value) (t:Tag):Bool :=
 match o with
 | some (.cells cs' t')=>om cs' cs && decide (t'=t)
 | _=>false
theorem sC {o:Option AObj} {cs:List Value} {t:Tag} (h:ux o cs t=true):o=some (.cells cs t):=by
 unfold ux at h
 split at h
 ·simp only[Bool.and_eq_true,decide_eq_true_eq] at h;rw[iV h.1,h.2]
 ·cases h
def yv (m:AMem) (g:Nat) (f:Nat→Nat):List Bk→List Nat→Bool
 | [],[]=>true
 | o::os,b::bs=>ux (m.get b) (o.1.map (SV.val f)) o.2 && (Nat.ble g b && yv m g f os bs)
 | _,_=>false
theorem qN {m:AMem} {g:Nat} {f:Nat→Nat}:∀{A:List Bk} {l:List Nat},yv m g f A l=true→l.length=A.length∧∀i (h:i<A.length),m.get (l.getD i 0)=some (.cells (A[i].1.map (SV.val f)) A[i].2)∧g≤l.getD i 0
 | [],[],_=>⟨rfl,fun i h=>by simp at h⟩
 | o::os,b::bs,h=>by
  simp only[yv,Bool.and_eq_true] at h;obtain⟨h1,h3,h4⟩:=h;obtain⟨h5,h6⟩:=qN h4;refine⟨by simp[h5],fun i hi=>?_⟩
  cases i with
  | zero=>exact⟨sC h1,Nat.le_of_ble_eq_true h3⟩
  | succ i=>exact h6 i (by simpa using hi)
 | [],_::_,h=>by cases h
 | _::_,[],h=>by cases h
def Case.fits (c:Case) (g:Nat) (tabB:AMem→Bool) (args:List Value) (m:AMem):Bool :=
 (fun l=>qy args (c.args.map (AV.val (eG g l))) && (yv m g (eG g l) c.A l && (J0 l && tabB m))) (args.flatMap (o9 m))
def Case.value (c:Case) (a:Nat→Nat):Value:=.tuple (c.V.map (TV.inst c.T a)).toArray
def Case.run (c:Case) (g:Nat) (tabB:AMem→Bool) (args:List Value) (m:AMem):Option (Value × AMem) :=
 if c.fits g tabB args m then some (c.value fun i=>m.next+i,m.fJ (c.T.bM fun i=>m.next+i)) else none
theorem Case.DD {E:Env} {c:Case} {f:FuncId} {gs:Nat→Option (List Value)} {tabB:AMem→Bool} (ht:∀m,tabB m=true→∀x cs,x<E.glob→gs x=some cs→m.get x=some (.cells cs .ro)∧cs.all aL=true) (hT:c.T.ok) (hV:c.V.all (TV.ok c.T.length)=true) (hA:c.args.all (AV.ok (E.glob+c.A.length))=true)
  (hA2:c.A.all (fun x=>x.1.all (SV.ok (E.glob+c.A.length)))=true) (h:W.lM E f (c.args.map (AV.val fun b=>b)) (c.small E.glob gs) (c.Out (c.small E.glob gs))) {args:List Value} {m m':AMem} {v:Value} (hr:c.run E.glob tabB args m=some (v,m')) (pr:Bool) {j:aH} {w:World} {args':List Value} (hm:MR E j m w) (hl:LR j args args'):dL E.P pr f args'.toArray w (fe E j m w v m'):=by
 unfold Case.run at hr
 split at hr
 ·rename_i hf;cases hr;unfold Case.fits at hf;simp only[Bool.and_eq_true] at hf;obtain⟨h1,h2,h3,h4⟩:=hf;have h1:=nM h1;obtain⟨h5,h6⟩:=qN h2;generalize args.flatMap (o9 m)=l at h1 h2 h3 h5 h6;subst h1;have hs:=hm.FF (gs:=gs) (A:=c.A) (l:=l) ⟨h5,ht m h4,fun i hi=>(h6 i hi).1,fun i hi=>(h6 i (by omega)).2,yn h3,hA2⟩
  have hl':=AV.LR (g:=E.glob) (N:=E.glob+c.A.length) (l:=l) hA hl;have e:c.small E.glob gs = { c.small E.glob gs with wl:=(c.small E.glob gs).next}:=rfl
  refine bY (fun h=>by cases h) (h _ w args' hs hl') ?_
  rintro v' w' ⟨v1,m1,⟨hg,a,tg,rfl,g1,g2,g3⟩,j',s,hv⟩;obtain⟨j2,s2,hmv⟩:=Sim.JW hm hs (by rw[←Case.small,←e]; exact s) hg hT g1 g2 g3
  refine⟨j2,s2,?_⟩;cases hv with
  | tuple e1 e2 =>
   rename_i ys;refine .tuple (by rw[←e1]; simp) fun i hi hi2=>?_
   simp only[List.size_toArray,List.length_map] at hi;have hx:=List.all_eq_true.1 hV c.V[i] (List.getElem_mem hi);have h5:=e2 i (by simpa using hi) hi2
   simp only[List.getElem_toArray,List.getElem_map] at h5 ⊢;exact hmv _ hx _ h5
 ·cases hr
def JB (t:Tag) (sz:Nat):Bool :=
 match t with
 | .own=>true
 | .more k=>Nat.beq k sz
 | .ro=>false
def xw (o:Option AObj) (cs:List Value) (sz:Nat):Bool :=
 match o with
 | some (.cells cs' t)=>om cs' cs && JB t sz
 | _=>false
theorem uU {o:Option AObj} {cs:List Value} {sz:Nat} (h:xw o cs sz=true):∃t,o=some (.cells cs t)∧(t = .own∨t = .more sz):=by
 unfold xw at h
 split at h
 ·rename_i cs' t;simp only[Bool.and_eq_true] at h;rw[iV h.1];refine⟨t,rfl,?_⟩;have h2:=h.2;unfold JB at h2
  split at h2
  ·exact .inl rfl
  ·rw[Nat.eq_of_beq_eq_true h2]; exact .inr rfl
  ·cases h2
 ·cases h
def FP (c:Case) (a:Nat→Nat) (lo:Nat) (m1:AMem):List (List TV × Nat)→List Nat→Bool
 | [],[]=>true
 | x::xs,b::bs=>xw (m1.get b) (x.1.map (TV.inst c.T a)) x.2 && (Nat.ble lo b && (Nat.blt b m1.next && FP c a lo m1 xs bs))
 | _,_=>false
theorem rR {c:Case} {a:Nat→Nat} {lo:Nat} {m1:AMem}:∀{T:List (List TV × Nat)} {l:List Nat},FP c a lo m1 T l=true→l.length=T.length∧∀i x,T[i]? = some x→(∃t,m1.get (l.getD i 0)=some (.cells (x.1.map (TV.inst c.T a)) t)∧(t = .own∨t = .more x.2))∧lo≤l.getD i 0∧l.getD i 0<m1.next
 | [],[],_=>⟨rfl,fun i x h=>by simp at h⟩
 | y::xs,b::bs,h=>by
  simp only[FP,Bool.and_eq_true] at h;obtain⟨h1,h2,h3,h4⟩:=h;obtain⟨h5,h6⟩:=rR h4;refine⟨by simp[h5],fun i x hi=>?_⟩
  cases i with
  | zero =>
   simp only[List.getElem?_cons_zero,Option.some.injEq] at hi;subst hi;exact⟨uU h1,Nat.le_of_ble_eq_true h2,Nat.le_of_ble_eq_true h3⟩
  | succ i=>exact h6 i x (by simpa using hi)
 | [],_::_,h=>by cases h
 | _::_,[],h=>by cases h
def DR:Value→Value→Bool
 | .tuple a,.tuple b=>qy a.toList b.toList
 | v,u=>rl v u
theorem BI:∀{v u:Value},DR v u=true→v=u:=by
 intro v u h;unfold DR at h
 split at h
 ·rw[Array.toList_inj.1 (nM h)]
 ·exact mO h
def Case.C6 (c:Case) (ms:AMem) (v:Value) (m1:AMem):Bool :=
 (fun l=>DR v (c.value fun i=>l.getD i 0) && (FP c (fun i=>l.getD i 0) ms.next m1 c.T l && (J0 l && (Nat.ble ms.next m1.wl && (Nat.ble ms.next m1.next && (List.range ms.next).all fun b=>yS (m1.get b) (ms.get b)))))) (o9 m1 v)
theorem Case.rm {c:Case} {ms:AMem} {v:Value} {m1:AMem} (h:c.C6 ms v m1=true):c.Out ms v m1:=by
 unfold Case.C6 at h;simp only[Bool.and_eq_true] at h;obtain⟨h1,h2,h3,h4,h5,h6⟩:=h;obtain⟨h7,h8⟩:=rR h2;generalize o9 m1 v=l at h1 h2 h3 h7 h8;refine⟨⟨Nat.le_of_ble_eq_true h5,fun b hb=>vw (List.all_eq_true.1 h6 b (List.mem_range.2 hb)),Nat.le_of_ble_eq_true h4⟩,fun i=>l.getD i 0,fun i=>match m1.get (l.getD i 0) with
  | some (.cells _ t)=>t
  | _=>.own,BI h1,fun i hi=>?_,fun i k hi hk e=>yn h3 i k (by omega) (by omega) e,fun i x hi=>?_⟩
 ·have hi':=List.getElem?_eq_getElem hi;exact(h8 i _ hi').2
 ·obtain⟨⟨t,g1,g2⟩,_⟩:=h8 i x hi
  dsimp only
  rw[g1];exact⟨rfl,g2⟩
end Go.Ab
end

section
namespace Go.Proofs.YtpkadoocdgdcfaaGreatDoor
open Go Go.Ab
set_option maxRecDepth 100000
def iv (x:Int):Value:=.int .i64 x
def tv (x:Int):TV:=.v (.int .i64 x)
def sv (x:Int):SV:=.v (.int .i64 x)
def dK:List TV:=([1,0,0,0,0,0,0,0,3,0,0,0,0,0,0,0]:List Int).map fun x=>.v (.int .u64 x)
def dZ (tag:Tag) (p:List Int):Case where
 A:=[([0,1,1,2,2,3].map sv,.own),([1,1,1,1].map sv,.own),(p.map sv,tag)]
 args:=[.agg [.v (iv 4),.s 1 3],.agg [.s 2 4,.v (iv 1),.v (iv 3),.v (iv 2)],.one (.s 3 4)]
 V:=[.s 0,.s 4,.v (iv 0)]
 T:=[([.s 1,.s 2,.s 3],1),([0,0,0,1].map tv,1),([0,0,1,1].map tv,1),([0,1,1,1].map tv,1),(dK++dK++dK,16)]
noncomputable def J7:Hand:=hand lF kJ 1000
noncomputable def H8 (f:FuncId):Option FunN:=if f=137 then some (nf lF J7 (fun _=>none) 137) else none
theorem Gz:xF lF J7:=mY (nP none none none) 1000
theorem xI:¬lF.mono:=fun h=>h
theorem FL:IL lF H8:=by
 intro g S hS args m K h;unfold H8 at hS
 split at hS
 ·rename_i e;subst e;cases hS;exact qD nh xI Gz (fun h=>by cases h) h
 ·cases hS
abbrev Jh:Case:=dZ .own [0,0,1,1]
abbrev JR:Case:=dZ (.more 1) [0,0,0,1]
abbrev IS:Case:=dZ (.more 1) [0,0,1,1]
abbrev Jr:Case:=dZ (.more 1) [0,1,1,1]
noncomputable def BH (S:FunN) (c:Case):Bool:=S.run (c.args.map (AV.val fun b=>b)) (c.small 1 fb) fun v m=>c.C6 (c.small 1 fb) v m
noncomputable def qx (c:Case):Bool:=BH (nf lF J7 H8 66) c
noncomputable def kl (f:FuncId) (c:Case):Bool:=BH (nf lF J7 (fun _=>none) f) c
def Gm (n d:Int):List TV:=([n,0,0,0,0,0,0,0,d,0,0,0,0,0,0,0]:List Int).map fun x=>.v (.int .u64 x)
def wP (n d:Int):List SV:=([n,0,0,0,0,0,0,0,d,0,0,0,0,0,0,0]:List Int).map fun x=>.v (.int .u64 x)
def IJ (n:Int):List SV:=([n,0,0,0,0,0,0,0]:List Int).map fun x=>.v (.int .u64 x)
def K2 (n:Int):Value:=.agg #[.int .u64 n,.int .u64 0,.int .u64 0,.int .u64 0,.int .u64 0,.int .u64 0,.int .u64 0,.int .u64 0]
def K6 (n d:Int):Value:=.agg #[.int .u64 n,.int .u64 0,.int .u64 0,.int .u64 0,.int .u64 0,.int .u64 0,.int .u64 0,.int .u64 0,.int .u64 d,.int .u64 0,.int .u64 0,.int .u64 0,.int .u64 0,.int .u64 0,.int .u64 0,.int .u64 0]
def di (n d:Int):Case:=⟨[],[.one (sv n),.one (sv d)],[.v (K6 n d),tv 0],[]⟩
def nG:Case where
 A:=[([0,1,1,2,2,3].map sv,.own),([1,1,1,1].map sv,.own),([0,0,1,1].map sv,.own)]
 args:=[.agg [.v (iv 4),.s 1 3],.agg [.s 2 4,.v (iv 1),.v (iv 3),.v (iv 2)],.one (.s 3 4)]
 V:=[.s 0,.s 4,tv 0]
 T:=[([.s 1,.s 2,.s 3],1),([0,0,0,1].map tv,1),([0,0,1,1].map tv,1),([0,1,1,1].map tv,1),([.s 5,.s 6,.s 7],1),(dK++dK++dK,16),(dK++dK++dK,16),(dK++dK++dK,16)]
def fL (p:List Int) (k n:Int):Case:=⟨[([0,1,0,3,1,2,2,3].map sv,.own),(p.map sv,.own)],[.agg [.v (iv 4),.s 1 4],.one (.s 2 4),.one (sv k)],[.v (K2 n),tv 0],[]⟩
def kA:List Bk:=[([.s 2 2,.s 3 2],.own),(wP 1 2++wP 1 2,.more 16),(wP 1 4++wP 3 4,.more 16)]
def lY:Case:=⟨kA++[(IJ 1++IJ 1,.more 8)],[.one (.s 1 2),.one (.s 4 2)],[.s 0,tv 0],[([.s 1,.s 2],1),(Gm 3 4++Gm 1 4,16),(Gm 1 4++Gm 3 4,16)]⟩
def kO:Case:=⟨[([.s 2 3,.s 3 3,.s 4 3],.own),(wP 1 1++wP 0 1++wP 0 1,.more 16),(wP 1 2++wP 0 1++wP 1 2,.more 16),(wP 0 1++wP 1 1++wP 0 1,.more 16)],[.one (.s 1 3)],[.s 0,tv 0],[([0,1,1].map tv,1)]⟩
def dv (a b:Int) (r:Bool):Case:=⟨kA++[(IJ a++IJ b,.more 8)],[.one (.s 1 2),.one (.s 4 2)],[.v (.bool r),tv 0],[]⟩
def qI:Case:=⟨[(IJ 1++IJ 2,.more 8)],[.one (.s 1 2)],[.s 0,tv 0],[(Gm 1 3++Gm 2 3,16)]⟩
def so (a b c d k p q r s:Int):Case:=⟨kA++[(wP a b++wP c d,.more 16)],[.one (.s 1 2),.one (.s 4 2),.one (sv k)],[.s 0,tv 0],[(Gm p q++Gm r s,16)]⟩
abbrev wI:Case:=so 1 1 0 1 1 1 2 1 2
abbrev xy:Case:=so 1 3 2 3 5 1 3 2 3
set_option maxHeartbeats 0 in
theorem uK:qx Jh=true:=by decide +kernel
set_option maxHeartbeats 0 in
theorem wa:qx JR=true:=by decide +kernel
set_option maxHeartbeats 0 in
theorem vz:qx IS=true:=by decide +kernel
set_option maxHeartbeats 0 in
theorem vk:qx Jr=true:=by decide +kernel
end Go.Proofs.YtpkadoocdgdcfaaGreatDoor
end

section
namespace Go.Proofs.YtpkadoocdgdcfaaGreatDoor
open Go Go.Ab
set_option maxRecDepth 100000
attribute [local irreducible] nf Case.run Case.fits
theorem Jl {c:Case} (h:qx c=true):W.lM lF 66 (c.args.map (AV.val fun b=>b)) (c.small 1 fb) (c.Out (c.small 1 fb)):=by
 unfold qx at h;have h1:=qD nh xI Gz FL (f:=66) (args:=c.args.map (AV.val fun b=>b)) (m:=c.small 1 fb) (K:=fun v m=>c.C6 (c.small 1 fb) v m) h;intro j w args' hm hl;refine bY (fun h=>h) (h1 j w args' hm hl) ?_;rintro v' w' ⟨v1,m1,hq,hv⟩;exact⟨v1,m1,Case.rm hq,hv⟩
def rf:List Value→List Int→Bool
 | [],[]=>true
 | .int .u8 n::vs,k::ks=>n == k && rf vs ks
 | _,_=>false
theorem qf:∀{vs:List Value} {ks:List Int},rf vs ks=true→vs=ks.map (.int .u8)
 | [],[],_=>rfl
 | [],_::_,h=>by cases h
 | v::vs,[],h=>by simp[rf] at h
 | v::vs,k::ks,h=>by
  unfold rf at h
  split at h
  ·rename_i e _; cases e
  ·rename_i n vs' k' ks' e1 e2;cases e1; cases e2;simp only[Bool.and_eq_true,beq_iff_eq] at h;rw[h.1,qf h.2]; rfl
  ·cases h
def gE (m:AMem):Bool :=
 match m.get 0 with
 | some (.cells cs .ro)=>rf cs jt
 | _=>false
theorem xB {m:AMem} (h:gE m=true):m.get 0=some (.cells (jt.map (.int .u8)) .ro):=by
 unfold gE at h
 split at h
 ·rename_i cs hg; rw[hg,qf h]
 ·cases h
theorem oC:∀x c,fb x=some c→c.all aL=true:=by
 intro x c h;unfold fb at h
 split at h
 ·cases h;rw[List.all_map];exact List.all_eq_true.2 fun x _=>rfl
 ·cases h
theorem pL {m:AMem} (h:gE m=true):∀x cs,x<1→fb x=some cs→m.get x=some (.cells cs .ro)∧cs.all aL=true:=fun x cs hx he=>by
 refine⟨?_,oC x cs he⟩;have:x=0:=by omega
 subst this;simp only[fb,if_true,Option.some.injEq] at he;rw[←he]; exact xB h
def uv (args:List Value) (m:AMem):Option (Value × AMem) :=
 (Jh.run 1 gE args m).or ((JR.run 1 gE args m).or ((IS.run 1 gE args m).or (Jr.run 1 gE args m)))
theorem Ds (tag:Tag) (p:List Int):(dZ tag p).T.ok:=by
 intro x hx;have h:∀x ∈ (dZ .own [0,0,1,1]).T,0<x.2∧x.1.length=x.1.length/x.2*x.2∧x.1.length/x.2≤9223372036854775807∧x.1.all (TV.ok (dZ .own [0,0,1,1]).T.length)=true:=by
  intro y hy;have:y=([.s 1,.s 2,.s 3],1)∨y=([0,0,0,1].map tv,1)∨y=([0,0,1,1].map tv,1)∨y=([0,1,1,1].map tv,1)∨y=(dK++dK++dK,16):=by simpa [dZ] using hy
  rcases this with rfl|rfl|rfl|rfl|rfl<;>decide
 exact h x hx
theorem vX {args:List Value} {m m':AMem} {v:Value} (h:uv args m=some (v,m')) (pr:Bool) {j:aH} {w:World} {args':List Value} (hm:MR lF j m w) (hl:LR j args args'):dL Tryz.prog pr 66 args'.toArray w (fe lF j m w v m'):=by
 have key:∀(tag:Tag) (p:List Int),((dZ tag p).A.all fun x=>x.1.all (SV.ok 4))=true→qx (dZ tag p)=true→(dZ tag p).run 1 gE args m=some (v,m')→dL Tryz.prog pr 66 args'.toArray w (fe lF j m w v m'):=fun tag p h0 h1 h2 =>
  Case.DD (E:=lF) (gs:=fb) (tabB:=gE) (fun m ht=>pL ht) (Ds tag p) (by show([.s 0,.s 4,.v (iv 0)]:List TV).all (TV.ok 5)=true; decide) (by show([.agg [.v (iv 4),.s 1 3],.agg [.s 2 4,.v (iv 1),.v (iv 3),.v (iv 2)],.one (.s 3 4)]:List AV).all (AV.ok 4)=true; decide) h0 (Jl h1) h2 pr hm hl
 unfold uv at h;simp only[Option.or_eq_some_iff] at h;rcases h with h|⟨_,h|⟨_,h|⟨_,h⟩⟩⟩
 ·exact key _ _ (by decide) uK h
 ·exact key _ _ (by decide) wa h
 ·exact key _ _ (by decide) vz h
 ·exact key _ _ (by decide) vk h
end Go.Proofs.YtpkadoocdgdcfaaGreatDoor
end

section
namespace Go.Ab
open Go
end Go.Ab
end

section
namespace Go.Proofs.YtpkadoocdgdcfaaGreatDoor
open Go Go.Ab Go.Ab.W
variable {p q pz : Option Prim}
def AS (_:Nat) (x y c:Nat):Option (Nat × Nat):=gd (decide (c≤1)) (some ((x+y+c)%18446744073709551616,(x+y+c)/18446744073709551616))
def EM (_:Nat) (x y c:Nat):Option (Nat × Nat):=gd (decide (c≤1)) (some ((x+18446744073709551616-y-c)%18446744073709551616,if x<y+c then 1 else 0))
theorem sA {V:Nat→Nat→Nat→Value} {x y c:Nat} (hc:c≤1) (m:AMem):dy V [.int .u64 ((x:Nat):Int),.int .u64 ((y:Nat):Int),.int .u64 ((c:Nat):Int)] m=some (V x y c,m):=by
 show(if Nat.ble c 1 then some (V x y c,m) else none)=_
 rw[Nat.ble_eq_true_of_le hc]; rfl
theorem tB (n:Nat) (x y c:Nat) (r:Nat × Nat) (hF:AS n x y c=some r) (m:AMem) :
  aC (dP p q pz) 234 [.int .u64 ((x:Nat):Int),.int .u64 ((y:Nat):Int),.int .u64 ((c:Nat):Int)] m (fun v m'=>∃_:Unit,v = .tuple #[.int .u64 ((r.1:Nat):Int),.int .u64 ((r.2:Nat):Int)]∧Hp m m' []):=by
 obtain⟨hc,hF⟩:=ai hF;have hr:=Option.some.inj hF;subst hr;exact aC.cR (p:=⟨dy sE⟩) rfl (sA (of_decide_eq_true hc) m) ⟨(),rfl,.start m⟩
theorem yA (n:Nat) (x y c:Nat) (r:Nat × Nat) (hF:EM n x y c=some r) (m:AMem) :
  aC (dP p q pz) 251 [.int .u64 ((x:Nat):Int),.int .u64 ((y:Nat):Int),.int .u64 ((c:Nat):Int)] m (fun v m'=>∃_:Unit,v = .tuple #[.int .u64 ((r.1:Nat):Int),.int .u64 ((r.2:Nat):Int)]∧Hp m m' []):=by
 obtain⟨hc,hF⟩:=ai hF;have hr:=Option.some.inj hF;subst hr;exact aC.cR (p:=⟨dy qZ⟩) rfl (sA (of_decide_eq_true hc) m) ⟨(),by
  show qZ x y c=_
  unfold qZ
  split<;>rfl,.start m⟩
end Go.Proofs.YtpkadoocdgdcfaaGreatDoor
end

section
namespace Go.Proofs.YtpkadoocdgdcfaaGreatDoor
open Go Go.Ab
set_option maxRecDepth 10000
variable {p q pz : Option Prim}
end Go.Proofs.YtpkadoocdgdcfaaGreatDoor
end

section
namespace Go.Ab.W
open Go Go.Ab
section
variable {α β : Type} {r : Rep β}
variable {m0 m m' : AMem} {J rest I : List Pc} {kE : α → Value}
end
section
variable {α β : Type} {r : Rep β} {E : Env} {n : Nat} {m0 : AMem} {fs : Fs} {J rest : List Pc} {fn : FuncId} {ro : Option Nat} {Q : AExit → Tm → AMem → Prop} {kE : α → Value}
end
section
variable {α β : Type} {r : Rep β} {E : Env} {n : Nat} {m0 : AMem} {fs : Fs} {J rest : List Pc} {fn : FuncId} {ro : Option Nat} {Q : AExit → Tm → AMem → Prop} {kE : α → Value}
end
end Go.Ab.W
end

section
namespace Go.Proofs.YtpkadoocdgdcfaaGreatDoor
open Go Go.Ab Go.Ab.W
set_option maxRecDepth 10000
set_option maxHeartbeats 4000000
attribute [local irreducible] Tm.at Trie.set Trie.get AMem.get AMem.set AMem.alloc AMem.ww AMem.kill
variable {p q pz : Option Prim}
def Gl (m:AMem):Prop:=m.get 0=some (.cells (jt.map (.int .u8)) .ro)∧0<m.next
theorem Gl.ext {m m':AMem} (h:Gl m) (e:Ext m m'):Gl m':=⟨by rw[e.same 0 h.2]; exact h.1,Nat.lt_of_lt_of_le h.2 e.next⟩
def KI (_:Nat):Option Bool:=some true
end Go.Proofs.YtpkadoocdgdcfaaGreatDoor
end

section
namespace Go.Ab.W
open Go Go.Ab
attribute [local irreducible] Tm.at Trie.set Trie.get AMem.get AMem.set AMem.alloc AMem.ww AMem.kill
section
variable {E : Env} {n : Nat} {m0 : AMem} {fs : Fs} {ps : List Pc} {ty : TypeId} {ops : Array Oper} {K : Tm → AMem → Prop} {os : List Oper}
end
end Go.Ab.W
end

section
namespace Go.Ab
open Go
attribute [local irreducible] Tm.at Trie.set Trie.get AMem.get AMem.set AMem.alloc AMem.ww AMem.kill
def w6 (ns:List Int):ByteArray:=ns.foldl (fun r n=>r.push (UInt8.ofNat n.toNat)) ByteArray.empty
section
variable {E : Env} {n : Nat} {ops : Array Oper} {K : Tm → AMem → Prop} {t : Tm} {m : AMem}
theorem Br {j:aH} {w:World} (h:MR E j m w) {s d e:TypeId} (hs:E.P.underlying s=some (.slice e)) (he:E.P.underlying e=some (.int .u8)) (hd:E.P.underlying d=some .string) {a:Option Addr} {len cap:Nat} {ns:List Int} (hc:bV 1 (.slice a len cap) len m=some (ns.map (Value.int .u8))) {x':Value} (hx:VR j (.slice a len cap) x') :
  (convert s d x').run E.P w = .ok (.string (w6 ns)) w:=by
 obtain⟨new',h1,h2⟩:=uz h hc hx;have hnew:new'=ns.map (Value.int .u8):=LR.zj (by rw[List.all_map]; exact List.all_eq_true.2 fun _ _=>rfl) h2
 subst hnew;have h3:=h1 w rfl;have key:∀(a':Addr) (cap':Nat),x' = .slice (some a') len cap'→(convert s d x').run E.P w = .ok (.string (w6 ns)) w:=fun a' cap' e'=>by
  subst e';rw[run_convert_bytes_string w s d e (some a') len cap' hs he hd];refine run_bytesToString w a' len cap' ns ?_;have:(Builtin.firstCells 1 len (.slice (some a') len cap')).run E.P w=(loadCells a' (len*1)).run E.P w:=rfl;rw[this,Nat.mul_one] at h3;exact h3
 cases hx with
 | snil l c =>
  rw[run_convert_bytes_string w s d e none len cap hs he hd];have hz:ns = []:=by
   simp only[bV] at hc
   split at hc
   ·cases ns with
    | nil=>rfl
    | cons a l=>cases hc
   ·cases hc
  subst hz
  rfl
 | slice _ _=>exact key _ _ rfl
 | sliceM _ _ _ _ _ _=>exact key _ _ rfl
 | gq=>exact key _ _ rfl
 | dry=>exact key _ _ rfl
theorem eR.str {o:Oper} {os:List Oper} {s d e:TypeId} {x:Operand} {a:Option Addr} {len cap:Nat} {ns:List Int} (hw:aT ops o t=true) (hop:o.op = .convert s d x) (hs:E.P.underlying s=some (.slice e)) (he:E.P.underlying e=some (.int .u8)) (hd:E.P.underlying d=some .string) (hx:aq E t x=some (.slice a len cap)) (hc:bV 1 (.slice a len cap) len m=some (ns.map (Value.int .u8)))
  (hk:∃t',fH n t o.dst (.string (w6 ns))=some t'∧eR E n ops K os t' m):eR E n ops K (o::os) t m:=fun i F j0 m0 w0 ds Q j w a' hF h0 hd' s' ht hds hQ=>by
 obtain⟨ho,hd2,hidx⟩:=kX hd';obtain⟨t',hp,hk⟩:=hk;rw[hidx];simp only[wpOpsIn,ho,iO ht];rw[if_pos hw];have hrun:=Br s'.mr hs he hd hc (aF s'.mr ht hx);have hex:execOp a'.eval o=(do pure (.value (←convert s d (a'.eval x)))):=by simp only[execOp,hop]
 refine cP hF (fun c e=>by rw[hop] at e; cases e) (v:=.string (w6 ns)) (w':=w) (by rw[hex]; exact jI.value hrun) ?_
 exact hk (i+1) F j0 m0 w0 ds Q j w _ hF h0 hd2 s' (ht.put (.string _) hp) (by cases hds':o.dst<;>simp[Act.put,hds]) hQ
namespace W
section
variable {m0 : AMem} {fs : Fs} {ps : List Pc} {os : List Oper}
theorem Vn.str {s d e q:TypeId} {x:Operand} {a:Option Addr} {len cap:Nat} {ns:List Int} {ty:TypeId} {p:String} {af:Array Edge} (hs:E.P.underlying s=some (.slice e)) (he:E.P.underlying e=some (.int .u8)) (hd:E.P.underlying d=some .string) (hx:ev E fs x=some (.slice a len cap)) (hc:∀m,Hp m0 m ps→bV 1 (.slice a len cap) len m=some (ns.map (Value.int .u8))) (hq:Nat.blt q n=true)
  (k:Vn E n ops K os m0 ((q,.string (w6 ns))::fs) ps):Vn E n ops K (⟨some q,.convert s d x,ty,p,af,none⟩::os) m0 fs ps:=fun t m hfr hm=>by
 have hq':q<n:=by rwa[Nat.blt_eq] at hq
 refine eR.str rfl rfl hs he hd (hfr.ev hx) (hc m hm) ⟨_,by rw[cw,if_pos hq'],k _ m hfr.set hm⟩
end
end W
end
end Go.Ab
end

section
namespace Go.Ab.W
open Go Go.Ab
section
variable {E : Env} {n : Nat} {m0 : AMem} {fs : Fs} {ps : List Pc} {x : Operand} {v : Value} {ty : TypeId}
end
class TyC (P:Program) (ty:TypeId) (ag:outParam Bool) (sz:outParam Nat):Prop where
 t:TyI P ty ag sz
class FaC (P:Program) (ty:TypeId) (f:Nat) (off:outParam Nat):Prop where
 t:∀b o:Nat,aR P ty (ptr b o) f=some (ptr b (o+off))
class SlC (P:Program) (ty:TypeId) (el:outParam TypeId) (w:outParam Nat):Prop where
 t:SlT P ty el w
class ArC (P:Program) (ty:TypeId) (el:outParam TypeId) (len w:outParam Nat):Prop where
 t:ArT P ty el len w
class UsC (P:Program) (ty:TypeId) (el:outParam TypeId):Prop where
 t:P.underlying ty=some (.slice el)
section
variable {E : Env} {n : Nat} {m0 : AMem} {fs : Fs} {ps ps' : List Pc} {ops : Array Oper} {os : List Oper} {K : Tm → AMem → Prop} {dr : Bool}
variable {ty : TypeId} {p : String} {af : Array Edge} {d : Option Nat} {o : Op} {g : Option (Nat × Bool)} {v : Value}
end
section
variable {k : IntKind} {P : Program} {ty : TypeId}
end
section
variable {E : Env} {n : Nat} {m0 : AMem} {fs : Fs} {ps ps' : List Pc} {ops : Array Oper} {os : List Oper} {K : Tm → AMem → Prop} {dr : Bool}
variable {ty ty' oty : TypeId} {p : String} {af : Array Edge} {d : Nat} {dd : Option Nat} {o : Op} {a b r v : Value} {x y c : Operand}
def KM (ps:List Pc) (q q':Pc) (ps':List Pc):Prop:=∃k,pk ps k=some q∧dA ps k q'=ps'
end
structure Bx (Q:Prop):Prop where
 v:Q
section
variable {E : Env} {n : Nat} {m0 : AMem} {fs : Fs} {ps : List Pc} {fn : FuncId} {ro : Option Nat} {c : Code} {Q : AExit → Tm → AMem → Prop}
def Wl (E:Env) (n:Nat) (fn:FuncId) (ro:Option Nat) (c:Code) (Q:AExit→Tm→AMem→Prop) (m0:AMem) (fs:Fs) (ps:List Pc):Prop:=∀t m,Fr t fs→Hp m0 m ps→ru E n fn ro c Q t m
end
section
variable {E : Env} {n : Nat} {m0 : AMem} {fs fs' : Fs} {ps ps' : List Pc} {ops : Array Oper} {os : List Oper} {K : Tm → AMem → Prop} {dr : Bool} {fn : FuncId} {ro : Option Nat} {c : Code} {Q : AExit → Tm → AMem → Prop}
variable {ty oty : TypeId} {p : String} {af : Array Edge} {d : Nat} {g : Option (Nat × Bool)} {x : Operand} {v : Value}
def ap {ρ:Type} {δ:ρ→Type} (X:(r:ρ)→δ r→En) (r:ρ):δ r→En:=X r
theorem lo {σ ρ γ:Type} {δ:ρ→Type} {body:σ→Option (σ ⊕ ρ)} {X:(r:ρ)→δ r→En} {N:Nat} {s:σ} {r:ρ} (h:cT body N s=some r) (g:γ) (ks:List Nat) (I:σ→γ→En)
  (hb:∀s g r,body s=some r→Wk E n fn ro c (match r with | .inl s'=>tO m0 (I s') | .inr r=>tO m0 (X r)) m0 (I s g).fs (I s g).ps)
  (hs:sub fs (I s g).fs:=by repeat first|exact sn|refine sc rfl ?_) (hd:nF ks=true:=by rfl) (hp:ae ps ks=some (I s g).ps:=by rfl)
  (hn:∀s g,(I s g).e = .normal:=by exact fun _ _=>rfl) (hx:∀r g,(X r g).e≠.normal:=by intro r d; first | (intro e; cases e; done) | (rcases r with r|r<;>first | (intro e; cases e; done) | (rcases r with r|r<;>first | (intro e; cases e; done) | (rcases r with r|r<;>intro e<;>cases e)))):Wk E n fn ro (.loop c) (tO m0 (ap X r)) m0 fs ps:=.cX hs (ah.ae ks hd hp) (Wk.loop body I X hb hn hx N s r h g)
variable {m : AMem} {a : Option Addr} {cap w l : Nat} {es : List (List Value)}
variable {α : Type} {V : α → Value} {N : α → List Pc} {R : α → Pc} {f : Operand} {q : FuncId} {ars : Array Operand} {ts : Array TypeId} {args : List Value} {prs : List (Nat × Nat)} {ss : List Nk}
theorem wc (hg:uD ops fs g true) (hc:∀m,Hp m0 m ps→aC E q args m (fun v m'=>∃x,v=V x∧Hp m m' (N x))) (k:∀x,Wo dr E n ops K os m0 ((d,V x)::fs) (N x++ps)) (hf:ev E fs f=some (.func (.func q) #[] #[]):=by rfl) (ha:mi E fs ars.toList=some args:=by rfl) (ho:∀x,ur (N x)=true:=by exact fun _=>rfl) (hd:Nat.blt d n=true:=by rfl):Wo dr E n ops K (⟨some d,.call ⟨.value f,ars,ts⟩,ty,p,af,g⟩::os) m0 fs ps:=Wo.x (cV hf ha hc ho) hg hd k
theorem nc (hg:uD ops fs g true) (hc:∀m,Hp m0 m ps→aC E q args m (fun v m'=>∃x,v=V x∧Hp m m' (N x))) (k:∀x,Wn E n ops prs K os (.call::ss) m0 ((d,V x)::fs) (N x++ps)) (hf:ev E fs f=some (.func (.func q) #[] #[]):=by rfl) (ha:mi E fs ars.toList=some args:=by rfl) (ho:∀x,ur (N x)=true:=by exact fun _=>rfl) (hd:Nat.blt d n=true:=by rfl):Wn E n ops prs K (⟨some d,.call ⟨.value f,ars,ts⟩,ty,p,af,g⟩::os) ss m0 fs ps:=Wn.c (oT hf ha hc ho) hg hd k
end
end Go.Ab.W
end

section
namespace Go.Proofs.YtpkadoocdgdcfaaGreatDoor
open Go Go.Ab Go.Ab.W
set_option maxRecDepth 100000
namespace Nm
attribute [local irreducible] Wo Wk At Wn Od Ox bh bA
attribute [local irreducible] Tm.at Trie.set Trie.get AMem.get AMem.set AMem.alloc AMem.ww AMem.kill
variable {p q pz : Option Prim}
def oF (n:Nat) (l1:List (Int)):(List (Nat) × Int)→Option ((List (Nat) × Int) ⊕ (List (Nat))):=fun(l20,v21) =>
br (decide (v21<(l1.length:Int))) (
gd (cG v21 l1.length) (
ob (l1[v21.toNat]?) fun x39 =>
gd (cG v21 ((l1.length:Int).toNat)) (
ob (l20[v21.toNat]?) fun x42 =>
some (.inl ((l20.set v21.toNat (ui .u8 x39)),IntKind.wrap .i64 (v21+1)))))) (
some (.inr l20))
def E6 (n:Nat) (l1:List (Int)):Option (List (Nat) × Nat) :=
gd (decide (0≤(l1.length:Int))) (gd (lim ((l1.length:Int).toNat)) (
ob (
cT (oF n l1) n ((List.replicate (l1.length:Int).toNat (0:Nat)),0)) fun l34 =>
some (l34,(l1.length:Int).toNat)))
theorem KU:(dP p q pz).P.underlying 39=some (.slice 3):=by kernel_rfl
theorem z5:bI (dP p q pz).P 5=some (.int .u8 ((0:Nat):Int)):=by kernel_rfl
theorem K5:SlT (dP p q pz).P 39 3 1:=SlT.of (by kernel_rfl)
theorem mF:TyI (dP p q pz).P 3 false 1:=⟨by kernel_rfl,by kernel_rfl,by kernel_rfl⟩
theorem u3:(dP p q pz).P.underlying 3=some (.int .i64):=by kernel_rfl
theorem u5:(dP p q pz).P.underlying 5=some (.int .u8):=by kernel_rfl
theorem J8:SlT (dP p q pz).P 26 5 1:=SlT.of (by kernel_rfl)
theorem Kd:TyI (dP p q pz).P 5 false 1:=⟨by kernel_rfl,by kernel_rfl,by kernel_rfl⟩
theorem Ee (hE:EnvOk (dP p q pz)) (n:Nat) (l1:List (Int)) (a2:Option Addr) (c3:Nat) (r:List (Nat) × Nat) (hF:E6 n l1=some r) (m:AMem) (h4:Rd m a2 c3 1 l1.length (l1.map (eI .i64))) {R:Value→AMem→Prop} (kN:∀g:Option Addr,Vk (dP p q pz) 24 70 none (Ky 3 (sO Tryz.f70)) (mM (dP p q pz) [.tmp 2] R) m ((fun(r:List (Nat) × Nat) (g:Option Addr)=>match r,g with | (l47,n49),a48=>([(3,.slice a48 n49 n49)]:Fs)) r g) ((fun(r:List (Nat) × Nat) (g:Option Addr)=>match r,g with | (l47,n49),a48=>([.sl a48 1 n49 (l47.map (eN .u8))]:List Pc)) r g)) :
  Vk (dP p q pz) 24 70 none (sO Tryz.f70) (mM (dP p q pz) [.tmp 2] R) m (uI [.slice a2 l1.length c3] 0 []) [.rd a2 c3 1 l1.length (l1.map (eI .i64))]:=by
 unfold E6 at hF;refine Vk.seq hE ?_;refine Wk.region ?_;refine Wo.od (ak rfl) rfl ?_;refine Wo.nil ?_;refine At.KK ?_;refine Vk.seq hE ?_;refine Wk.region ?_;refine Wo.od (ab rfl) rfl ?_;refine Wo.od (bE (k:=0) KU rfl rfl (.inl rfl)) rfl ?_;obtain⟨h5,hF⟩:=ai hF;obtain⟨h6,hF⟩:=ai hF;refine Wo.x (kQ (f:=eN .u8) (z0:=(0:Nat)) J8 rfl h5 h6 z5 rfl rfl) gn rfl fun b7=>?_;refine Wo.od (ak rfl) rfl ?_;refine Wo.nil ?_;refine At.KK ?_;refine Vk.seq hE ?_;refine Wk.seq ?_;refine Wk.region ?_;refine Wo.od (ab rfl) rfl ?_;refine Wo.od (bE (k:=1) KU rfl rfl (.inl rfl)) rfl ?_;refine Wo.od (ab rfl) rfl ?_;refine Wo.nil ?_;refine At.tn ?_;refine Wk.block ?_;obtain⟨l34,h45,hF⟩:=aa hF;refine Wk.cut (G:=(fun(r:List (Nat)) (g:Unit)=>match r,g with|l34,_=>⟨(.exit 0),[(3,.slice (some ⟨b7,0,none⟩) ((l1.length:Int).toNat) ((l1.length:Int).toNat))],[.arr b7 1 ((l1.length:Int).toNat) (l34.map (eN .u8)) .own]⟩) l34) ?_ ?_
 ·refine Wk.cX (fs':=[(3,.slice (some ⟨b7,0,none⟩) ((l1.length:Int).toNat) ((l1.length:Int).toNat)),(9,.slice a2 l1.length c3),(10,.int .i64 (l1.length:Int)),(11,.int .i64 0)]) (ps':=[.arr b7 1 ((l1.length:Int).toNat) ((List.replicate (l1.length:Int).toNat (0:Nat)).map (eN .u8)) .own,.rd a2 c3 1 l1.length (l1.map (eI .i64))]) (sc rfl (sc rfl (sc rfl (sc rfl sn)))) (ah.ae [0,1] rfl rfl) ?_;refine Wk.loop (σ:=List (Nat) × Int) (ρ:=List (Nat)) (γ:=Unit) (δ:=fun _=>Unit) _ (fun(s:List (Nat) × Int) (g:Unit)=>match s,g with | (l20,v21),_=>⟨.normal,[(3,.slice (some ⟨b7,0,none⟩) ((l1.length:Int).toNat) ((l1.length:Int).toNat)),(9,.slice a2 l1.length c3),(10,.int .i64 (l1.length:Int)),(11,.int .i64 v21)],[.arr b7 1 ((l1.length:Int).toNat) (l20.map (eN .u8)) .own,.rd a2 c3 1 l1.length (l1.map (eI .i64))]⟩) (fun(r:List (Nat)) (g:Unit)=>match r,g with|l34,_=>⟨(.exit 0),[(3,.slice (some ⟨b7,0,none⟩) ((l1.length:Int).toNat) ((l1.length:Int).toNat))],[.arr b7 1 ((l1.length:Int).toNat) (l34.map (eN .u8)) .own]⟩) ?_ (fun _ _=>rfl) (fun r d=>by intro e; cases e) _ _ _ h45 ()
  clear hF h45;rintro⟨l20,v21⟩ ⟨⟩ r hF;unfold oF at hF;refine Wk.seq ?_;refine Wk.region ?_;refine Wo.od (al rfl rfl (aQ _ _ _)) rfl ?_;refine Wo.nil ?_;refine At.tn ?_;refine Wk.seq ?_;rcases aj hF with⟨h35,hF⟩|⟨h35,hF⟩
  ·refine Wk.aA rfl h35 ?_;refine Wk.skip ?_;refine At.tn ?_;refine Wk.seq ?_;refine Wk.block ?_;refine Wk.seq ?_;refine Wk.region ?_;refine Wo.od (ab rfl) rfl ?_;obtain⟨h36,hF⟩:=ai hF;replace h36:=an h36;refine Wo.cC (k:=1) rfl (bt h36) ?_;rintro b37 o38 rfl;refine Wo.og (cb K5 rfl rfl h36) gn rfl ?_;obtain⟨x39,h40,hF⟩:=aa hF;refine Wo.od (cB (k:=0) mF rfl rfl (aP h40) rfl rfl) rfl ?_;refine Wo.od (ak rfl) rfl ?_;refine Wo.od (ak rfl) rfl ?_;refine Wo.nil ?_;refine At.tn ?_;refine Wk.region ?_;refine Wo.od (ab rfl) rfl ?_;refine Wo.od (ab rfl) rfl ?_;refine Wo.od (ab rfl) rfl ?_;refine Wo.od (qt rfl (AT (by rw[u3]; rfl) u5 rfl)) rfl ?_
   obtain⟨h41,hF⟩:=ai hF;replace h41:=an h41;refine Wo.og (ca J8 rfl rfl h41) gn rfl ?_;obtain⟨x42,h43,hF⟩:=aa hF;refine Wo.o0 (eF (k:=1) (x1:=x42) (x2:=ui .u8 x39) Kd rfl rfl rfl h43 rfl) ?_;refine Wo.nil ?_;refine At.bn ?_;refine At.tn ?_;refine Wk.region ?_;refine Wo.od (al rfl rfl (aI _ _ _)) rfl ?_;refine Wo.od (ab rfl) rfl ?_;refine Wo.nil ?_;cases hF;exact At.en () rfl (sc rfl (sc rfl (sc rfl (sc rfl sn)))) (ah.ae [1,2] rfl rfl)
  ·refine Wk.az rfl h35 ?_;refine Wk.exit ?_;refine At.te ?_;cases hF;exact At.en () rfl (sc rfl sn) (ah.ae [0] rfl rfl)
 ·clear h45;rintro⟨⟩;refine At.be ?_;refine At.KK ?_;cases hF;exact Vk.cX (sc rfl sn) (ah.trans (ah.close (k:=0) rfl) (ah.ae [0] rfl rfl)) (kN (some ⟨b7,0,none⟩))
end Nm
theorem Je (l1:List Int) (n0:Nat) (hl:l1.length<9223372036854775807):∀k i m,i+k=l1.length→k<m→cT (Nm.oF n0 l1) m ((l1.take i).map (ui .u8)++List.replicate k 0,(i:Int))=some (l1.map (ui .u8))
 | 0,i,m,h,hm=>by
  obtain⟨m,rfl⟩:∃k,m=k+1:=⟨m-1,by omega⟩
  have hi:i=l1.length:=by omega
  subst hi;rw[List.take_length,List.replicate_zero,List.append_nil];have e1:Nm.oF n0 l1 (l1.map (ui .u8),(l1.length:Int))=some (.inr (l1.map (ui .u8))):=by
   unfold Nm.oF
   dsimp only
   rw[decide_eq_false (show ¬(l1.length:Int)<(l1.length:Int) by omega)]; rfl
  simp only[cT,e1]
 | k+1,i,m,h,hm=>by
  obtain⟨m,rfl⟩:∃k,m=k+1:=⟨m-1,by omega⟩
  have hi:i<l1.length:=by omega
  have ih:=Je l1 n0 hl k (i+1) m (by omega) (by omega)
  have e1:Nm.oF n0 l1 ((l1.take i).map (ui .u8)++List.replicate (k+1) 0,(i:Int))=some (.inl ((l1.take (i+1)).map (ui .u8)++List.replicate k 0,((i+1:Nat):Int))):=by
   unfold Nm.oF;have b1:cG (i:Int) l1.length=true:=by simp[cG]; omega
   have b2:cG (i:Int) ((l1.length:Int).toNat)=true:=by simp[cG]; omega
   have b3:((l1.take i).map (ui .u8)++List.replicate (k+1) 0)[i]? = some 0:=by
    rw[List.getElem?_append_right (by simp; omega)]
    simp[show min i l1.length=i by omega]
   have b4:((l1.take i).map (ui .u8)++List.replicate (k+1) 0).set i (ui .u8 l1[i])=(l1.take (i+1)).map (ui .u8)++List.replicate k 0:=by
    rw[List.set_append_right _ _ (by simp; omega)]
    rw[List.take_succ_eq_append_getElem hi,List.map_append,List.append_assoc];simp[show min i l1.length=i by omega,List.replicate_succ]
   have b5:IntKind.wrap .i64 ((i:Int)+1)=((i+1:Nat):Int):=by
    rw[wrap_i64 _ (by omega) (by omega)]; omega
   dsimp only
   rw[decide_eq_true (show(i:Int)<(l1.length:Int) by omega)]
   simp only[br,gd,ob,Int.toNat_natCast,b1,b2,b3,List.getElem?_eq_getElem hi,b4,b5]
  simp only[cT,e1];exact ih
theorem D5 (l1:List Int) (hl:lim l1.length=true) (hl2:l1.length<9223372036854775807) (n:Nat) (hn:l1.length<n):Nm.E6 n l1=some (l1.map (ui .u8),l1.length):=by
 have h:=Je l1 n hl2 l1.length 0 n (by omega) hn
 rw[List.take_zero,List.map_nil,List.nil_append] at h;unfold Nm.E6;simp only[gd,ob,Int.toNat_natCast,hl,Int.natCast_nonneg,decide_true,if_true];have h':cT (Nm.oF n l1) n (List.replicate l1.length 0,0)=some (l1.map (ui .u8)):=h;rw[h']
open Go.Ab.W
def bytesOf (l:List Int):List Int:=l.map fun x=>((ui .u8 x:Nat):Int)
theorem p8:∀l:List Int,((l.map (ui .u8)).map (eN .u8)).flatten=(bytesOf l).map (Value.int .u8)
 | []=>rfl
 | a::l=>by
  have h:=p8 l;simp only[List.map_cons,List.flatten_cons,bytesOf] at h ⊢;rw[h]; rfl
theorem Dv {m:AMem} {l:List Int} {A:Option Addr} {R:Value→AMem→Prop} (hR:∀m1,Hp m m1 []→R (.string (w6 (bytesOf l))) m1):Vk lF 24 70 none (Ky 3 (sO Tryz.f70)) (mM lF [.tmp 2] R) m ([(3,.slice A l.length l.length)]:Fs) ([.sl A 1 l.length ((l.map (ui .u8)).map (eN .u8))]:List Pc):=by
 refine Vk.Aj (Vk.region ?_);refine Vn.pre (os:=[_]) nh (Wo.od (ab rfl) rfl (Wo.KJ (dr:=false) ?_));refine Vn.str (e:=5) (ns:=bytesOf l) (by kernel_rfl) (by kernel_rfl) (by kernel_rfl) rfl (fun m1 hm=>?_) rfl ?_
 ·have h:=hm.get (k:=0) rfl;rw[←p8];rcases h with⟨h1,h2,rfl,_⟩|⟨b,tg,rfl,h1⟩
  ·have:l = []:=List.eq_nil_of_length_eq_zero h1;subst this; rfl
  ·exact h1.rd.cells
 ·refine Vn.of nh (Wo.od (ak rfl) rfl ?_);refine Wo.nil (Q:=fun _=>_) ?_
  show Vk lF 24 70 none _ _ m _ _
  refine Vk.of nh (Wk.ret ?_);exact At.ret (.tmp rfl .nil) fun m1 hm=>hR m1 ((ah.ae [] rfl rfl) m1 hm)
def Bq:Tag→Bool
 | .more k=>Nat.beq k 1
 | _=>true
def tq:List Value→Option (List Int)
 | []=>some []
 | .int .i64 x::vs=>(tq vs).map (x::·)
 | _=>none
theorem oA:∀{vs:List Value} {l:List Int},tq vs=some l→vs=l.map (.int .i64)
 | [],l,h=>by cases h; rfl
 | v::vs,l,h=>by
  unfold tq at h
  split at h
  ·rename_i e; cases e
  ·rename_i x vs' e;cases e;obtain⟨l',h1,rfl⟩:=Option.map_eq_some_iff.1 h;rw[oA h1]; rfl
  ·cases h
def tQ (args:List Value) (m:AMem):Option (Value × AMem) :=
 match args with
 | [.slice (some ⟨b,o,none⟩) n c]=>match m.get b with
  | some (.cells cs tag)=>if Nat.ble n c && (Nat.blt b m.next && (Bq tag && (lim n && Nat.ble (o+n) cs.length))) then(tq ((cs.drop o).take n)).map fun l=>(.string (w6 (bytesOf l)),m) else none
  | _=>none
 | _=>none
theorem wx {args:List Value} {m m':AMem} {v:Value} (h:tQ args m=some (v,m')) (pr:Bool) {j:aH} {w:World} {args':List Value} (hm:MR lF j m w) (hl:LR j args args'):dL Tryz.prog pr 70 args'.toArray w (fe lF j m w v m'):=by
 unfold tQ at h
 split at h
 ·rename_i b o n c
  split at h
  ·rename_i cs tag hg
   split at h
   ·rename_i hc;obtain⟨l,h1,h2⟩:=Option.map_eq_some_iff.1 h;cases h2;simp only[Bool.and_eq_true] at hc;obtain⟨c1,c2,c3,c4,c5⟩:=hc;have c5:=Nat.le_of_ble_eq_true c5;have c2:b<m.next:=Nat.le_of_ble_eq_true c2
    have hi:=oA h1;have hlen:l.length=n:=by
     have:=congrArg List.length hi;rw[List.length_take,List.length_drop,List.length_map] at this; omega
    subst hlen;have hr:∀x,Rd { m with wl:=x} (some ⟨b,o,none⟩) c 1 l.length (l.map (eI .i64)):=fun x=>by
     refine⟨by rw[List.length_map],Nat.le_of_ble_eq_true c1,.inr (.inr ⟨b,o,rfl,c2,cs,tag,hg,fun sz e=>?_,fun i e he=>?_⟩)⟩
     ·subst e;exact Nat.eq_of_beq_eq_true c3
     ·rw[List.getElem?_map] at he;obtain⟨y,hy,rfl⟩:=Option.map_eq_some_iff.1 he;have hil:=(List.getElem?_eq_some_iff.1 hy).1;refine⟨?_,rfl⟩;have h3:((cs.drop o).take l.length)[i]? = some (.int .i64 y):=by rw[hi,List.getElem?_map,hy]; rfl
      rw[List.getElem?_take,if_pos hil,List.getElem?_drop] at h3;rw[Nat.mul_one];have h4:o+i<cs.length:=by omega
      rw[List.drop_eq_getElem_cons h4,List.take_succ_cons,List.take_zero];rw[List.getElem?_eq_getElem h4] at h3;rw[Option.some.inj h3]; rfl
    have hlm:l.length<9223372036854775807:=by
     have:l.length≤1073741824:=Nat.le_of_ble_eq_true c4;omega
    refine xK (m:=m) (Bd (E:=lF) (c:=sO Tryz.f70) (m0:={ m with wl:=m.next}) (N:=24) (rs:=[.tmp 2]) (ps:=[.rd (some ⟨b,o,none⟩) c 1 l.length (l.map (eI .i64))]) nh Tryz.func70 rfl rfl rfl ((Hp.start _).eU dU (hr _)) ?_) pr hm hl
    refine Nm.Ee nh (l.length+1) l _ c _ (D5 l c4 hlm _ (Nat.lt_succ_self _)) _ (hr _) fun g=>?_;refine Dv fun m1 hm1=>?_;have hn0:({ m with wl:=m.next}:AMem).next=m.next:=rfl
    exact⟨⟨hm1.ext.next,fun b hb=>hm1.ext.same b hb,by have:=hm1.ext.wl; rw[hn0] at this; exact Nat.le_trans (Nat.le_of_eq (Nat.min_self _).symm) this⟩,.inl ⟨rfl,rfl,rfl⟩⟩
   ·cases h
  ·cases h
 ·cases h
end Go.Proofs.YtpkadoocdgdcfaaGreatDoor
end

section
namespace Go.Proofs.YtpkadoocdgdcfaaGreatDoor
open Go Go.Ab
set_option maxRecDepth 100000
noncomputable abbrev DJ:Env:=dP (some ⟨uv⟩) none (some ⟨tQ⟩)
theorem ta {a b c a' b' c':Option Prim} {j:aH} {m:AMem} {w:World} {v:Value} {m':AMem} {v':Value} {w':World} (h:fe (dP a b c) j m w v m' v' w'):fe (dP a' b' c') j m w v m' v' w':=by
 obtain⟨j',s,hv⟩:=h;exact⟨j',Sim.env (E:=dP a b c) (E':=dP a' b' c') rfl (fun e=>e) s,hv⟩
theorem FM:EnvOk DJ:=pN
 (fun c h args m v m' hr j w args' hm hl=>by cases h; exact bY (fun h=>h) (vX hr true (MR.env (E:=DJ) (E':=lF) rfl hm) hl) fun _ _=>ta)
 (fun c h=>by cases h)
 (fun c h args m v m' hr j w args' hm hl=>by cases h; exact bY (fun h=>h) (wx hr true (MR.env (E:=DJ) (E':=lF) rfl hm) hl) fun _ _=>ta)
noncomputable def KC:Hand:=hand DJ kJ 1000
set_option maxHeartbeats 0 in
theorem EF:BH (nf DJ KC (fun _=>none) 14) nG=true:=by decide +kernel
set_option maxHeartbeats 0 in
theorem B8:kl 18 (fL [0,0,1,1] 2 1)=true:=by decide +kernel
set_option maxHeartbeats 0 in
theorem Dj:kl 18 (fL [0,0,0,0] 1 4)=true:=by decide +kernel
set_option maxHeartbeats 0 in
theorem C0:kl 31 lY=true:=by decide +kernel
set_option maxHeartbeats 0 in
theorem AH:kl 22 kO=true:=by decide +kernel
set_option maxHeartbeats 0 in
theorem Ho:kl 75 (di 1 3)=true:=by decide +kernel
set_option maxHeartbeats 0 in
theorem Hj:kl 75 (di 1 2)=true:=by decide +kernel
set_option maxHeartbeats 0 in
theorem GH:kl 75 (di 1 4)=true:=by decide +kernel
set_option maxHeartbeats 0 in
theorem G9:kl 75 (di 3 4)=true:=by decide +kernel
set_option maxHeartbeats 0 in
theorem G3:kl 75 (di 1 1)=true:=by decide +kernel
set_option maxHeartbeats 0 in
theorem Ia:kl 75 (di 0 1)=true:=by decide +kernel
set_option maxHeartbeats 0 in
theorem HV:kl 75 (di 2 3)=true:=by decide +kernel
set_option maxHeartbeats 0 in
theorem IW:kl 29 (dv 1 2 true)=true:=by decide +kernel
set_option maxHeartbeats 0 in
theorem I3:kl 29 (dv 1 1 false)=true:=by decide +kernel
set_option maxHeartbeats 0 in
theorem GI:kl 33 qI=true:=by decide +kernel
set_option maxHeartbeats 0 in
theorem Ez:kl 38 wI=true:=by decide +kernel
set_option maxHeartbeats 0 in
theorem El:kl 38 xy=true:=by decide +kernel
end Go.Proofs.YtpkadoocdgdcfaaGreatDoor
end

section
namespace Go.Proofs.YtpkadoocdgdcfaaGreatDoor
open Go Go.Ab
set_option maxRecDepth 100000
attribute [local irreducible] nf Case.run Case.fits
theorem JZ {E:Env} (hE:EnvOk E) (hmono:¬E.mono) {F:FuncId→Option PSem} (hF:HL E F) {ND:FuncId→Option FunN} (hN:IL E ND) {n:Nat} {f:FuncId} {c:Case} (h:BH (nf E (hand E F n) ND f) c=true):W.lM E f (c.args.map (AV.val fun b=>b)) (c.small 1 fb) (c.Out (c.small 1 fb)):=by
 unfold BH at h;have h1:=qD hE hmono (mY hF n) hN (f:=f) (args:=c.args.map (AV.val fun b=>b)) (m:=c.small 1 fb) (K:=fun v m=>c.C6 (c.small 1 fb) v m) h;intro j w args' hm hl;refine bY (fun h=>h) (h1 j w args' hm hl) ?_;rintro v' w' ⟨v1,m1,hq,hv⟩;exact⟨v1,m1,Case.rm hq,hv⟩
def zi (c:Case):Bool:=c.V.all (TV.ok c.T.length) && (c.args.all (AV.ok (1+c.A.length)) && (c.A.all (fun x=>x.1.all (SV.ok (1+c.A.length))) && c.T.all fun x=>Nat.blt 0 x.2 && (Nat.beq x.1.length (x.1.length/x.2*x.2) && (Nat.ble (x.1.length/x.2) 9223372036854775807 && x.1.all (TV.ok c.T.length)))))
structure CaseOk (f:FuncId) (c:Case):Prop where
 call:∀{args:List Value} {m m':AMem} {v:Value},c.run 1 gE args m=some (v,m')→∀(pr:Bool) {j:aH} {w:World} {args':List Value},MR lF j m w→LR j args args'→dL Tryz.prog pr f args'.toArray w (fe lF j m w v m')
theorem Bi {p q r:Option Prim} {f:FuncId} {c:Case} (hg:zi c=true) (h:W.lM (dP p q r) f (c.args.map (AV.val fun b=>b)) (c.small 1 fb) (c.Out (c.small 1 fb))):CaseOk f c:=⟨fun hr pr _ _ _ hm hl=>by
 unfold zi at hg;simp only[Bool.and_eq_true] at hg;obtain⟨h1,h2,h3,h4⟩:=hg;refine bY (fun h=>h) (Case.DD (E:=dP p q r) (gs:=fb) (tabB:=gE) (fun m ht=>pL ht) (fun x hx=>?_) h1 h2 h3 h hr pr (MR.env (E:=lF) (E':=dP p q r) rfl hm) hl) fun _ _=>ta;have h5:=List.all_eq_true.1 h4 x hx;simp only[Bool.and_eq_true] at h5;exact⟨Nat.le_of_ble_eq_true h5.1,Nat.eq_of_beq_eq_true h5.2.1,Nat.le_of_ble_eq_true h5.2.2.1,h5.2.2.2⟩⟩
theorem yB {E:Env}:IL E fun _=>none:=fun h=>by cases h
theorem gy {f:FuncId} {c:Case} (hg:zi c=true) (h:kl f c=true):CaseOk f c:=Bi (p:=none) (q:=none) (r:=none) hg (JZ nh xI (nP _ _ _) yB h)
def iC:List (FuncId × Case):=[(14,nG),(18,fL [0,0,1,1] 2 1),(18,fL [0,0,0,0] 1 4),(31,lY),(22,kO),(29,dv 1 2 true),(29,dv 1 1 false),(33,qI),(38,wI),(38,xy),(75,di 1 3),(75,di 1 2),(75,di 1 4),(75,di 3 4),(75,di 1 1),(75,di 0 1),(75,di 2 3)]
theorem tL:iC.all (fun x=>zi x.2)=true:=by decide +kernel
theorem qw:∀x ∈ iC,CaseOk x.1 x.2:=by
 intro x hx;have hg:=List.all_eq_true.1 tL x hx;simp only[iC,List.mem_cons,List.not_mem_nil,or_false] at hx;rcases hx with rfl|rfl|rfl|rfl|rfl|rfl|rfl|rfl|rfl|rfl|rfl|rfl|rfl|rfl|rfl|rfl|rfl
 ·exact Bi hg (JZ FM (fun h=>h) (nP _ _ _) yB EF)
 ·exact gy hg B8
 ·exact gy hg Dj
 ·exact gy hg C0
 ·exact gy hg AH
 ·exact gy hg IW
 ·exact gy hg I3
 ·exact gy hg GI
 ·exact gy hg Ez
 ·exact gy hg El
 ·exact gy hg Ho
 ·exact gy hg Hj
 ·exact gy hg GH
 ·exact gy hg G9
 ·exact gy hg G3
 ·exact gy hg Ia
 ·exact gy hg HV
def sT (args:List Value) (m:AMem):List Case→Option (Value × AMem)
 | []=>none
 | c::cs=>(c.run 1 gE args m).or (sT args m cs)
theorem rE {f:FuncId} {args:List Value} {m m':AMem} {v:Value}:∀{cs:List Case},(∀c ∈ cs,CaseOk f c)→sT args m cs=some (v,m')→∃c,CaseOk f c∧c.run 1 gE args m=some (v,m')
 | [],_,h=>by cases h
 | c::cs,hc,h=>by
  unfold sT at h;simp only[Option.or_eq_some_iff] at h;rcases h with h|⟨_,h⟩
  ·exact⟨c,hc c (List.mem_cons_self ..),h⟩
  ·exact rE (fun c h=>hc c (List.mem_cons_of_mem _ h)) h
def AO:List Case:=[nG]
def ID:List Case:=[fL [0,0,1,1] 2 1,fL [0,0,0,0] 1 4]
def uC:List Case:=[lY]
def A5:List Case:=[kO]
def D4:List Case:=[dv 1 2 true,dv 1 1 false]
def FX:List Case:=[qI]
def II:List Case:=[wI,xy]
def CT:List Case:=[di 1 3,di 1 2,di 1 4,di 3 4,di 1 1,di 0 1,di 2 3]
def nq (f:FuncId):List Case :=
 if f=75 then CT else if f=14 then AO else if f=18 then ID else if f=31 then uC else if f=22 then A5 else if f=29 then D4 else if f=33 then FX else if f=38 then II else[]
theorem xX (f:FuncId):∀c ∈ nq f,CaseOk f c:=by
 have key:∀(g:FuncId) (l:List Case),(∀c ∈ l,(g,c) ∈ iC)→∀c ∈ l,CaseOk g c:=fun g l h c hc=>qw (g,c) (h c hc);have sub:∀c,∀{g:FuncId},(c ∈ nq g)→(g,c) ∈ iC:=by
  intro c g h;unfold nq at h
  repeat' split at h
  all_goals first
   | (rename_i e; subst e; simp only[CT,AO,ID,uC,A5,D4,FX,II,List.mem_cons,List.not_mem_nil,or_false] at h; simp only[iC,List.mem_cons,Prod.mk.injEq]; rcases h with rfl|rfl|rfl|rfl|rfl|rfl|rfl<;>simp)
   | (rename_i e; subst e; simp only[CT,AO,ID,uC,A5,D4,FX,II,List.mem_cons,List.not_mem_nil,or_false] at h; simp only[iC,List.mem_cons,Prod.mk.injEq]; rcases h with rfl|rfl<;>simp)
   | (rename_i e; subst e; simp only[CT,AO,ID,uC,A5,D4,FX,II,List.mem_cons,List.not_mem_nil,or_false] at h; simp only[iC,List.mem_cons,Prod.mk.injEq]; subst h; simp)
   | cases h
 exact fun c hc=>qw (f,c) (sub c hc)
noncomputable def BK (f:FuncId):Option Prim:=if (nq f).isEmpty then lF.cR f else some ⟨fun args m=>sT args m (nq f)⟩
noncomputable def wh:Env:={ lF with cR:=BK}
theorem FO:EnvOk wh:=wW (E:=lF) nh (pr:=BK) fun f p hp=>by
 unfold BK at hp
 split at hp
 ·exact .inl hp
 ·cases hp;refine .inr fun args m v m' h j w args' hm hl=>?_;obtain⟨c,h1,h2⟩:=rE (xX f) h;exact h1.call h2 _ hm hl
theorem wZ:HL wh kJ:=by
 intro f S hS;unfold kJ at hS
 split at hS
 ·rename_i e; cases hS; subst e;exact⟨⟨dy sE⟩,rfl,fun h=>k8 yT h⟩
 ·split at hS
  ·rename_i e; cases hS; subst e;exact⟨⟨dy qZ⟩,rfl,fun h=>k8 zG h⟩
  ·cases hS
end Go.Proofs.YtpkadoocdgdcfaaGreatDoor
end

section
namespace Go.Proofs.YtpkadoocdgdcfaaGreatDoor
open Go Go.Ab
set_option maxRecDepth 100000
set_option maxHeartbeats 0 in
theorem ye:(hand wh kJ 1000).call 11 [] KQ (Jx 1)=true:=by decide +kernel
end Go.Proofs.YtpkadoocdgdcfaaGreatDoor
end

section
namespace Go.Proofs.YtpkadoocdgdcfaaGreatDoor
open Go Go.Ab Go.Ab.W
theorem AN:∃fuel m',run wh fuel (.call 11 [] KQ)=some (.val (.bool true) m')∧1≤m'.wl:=uG (E:=wh) (F:=kJ) (n:=1000) (g:=1) wZ ye
def jb (args:List Value) (m:AMem):Option (Value × AMem) :=
 match args with
 | []=>if gE m then some (.bool true,m) else none
 | _=>none
theorem uh {args:List Value} {m m':AMem} {v:Value} (h:jb args m=some (v,m')) {j:aH} {w:World} {args':List Value} (hm:MR lF j m w) (hl:LR j args args') :
  dL Tryz.prog true 11 args'.toArray w (fe lF j m w v m'):=by
 unfold jb at h
 split at h
 ·split at h
  ·rename_i ht;cases h;obtain⟨fuel,m0,h1,h2⟩:=AN;refine bY (fun _=>rfl) (sL (E:=wh) (gs:=fb) FO oC h1 h2 rfl (MR.env (E:=lF) (E':=wh) rfl hm) (fun x c hx hg=>(pL ht x c hx hg).1) hl) fun _ _ ⟨j',s,hv⟩=>⟨j',Sim.env (E:=wh) (E':=lF) rfl (fun e=>e) s,hv⟩
  ·cases h
 ·cases h
noncomputable abbrev aD:Env:=dP none (some ⟨jb⟩) none
theorem E7:EnvOk aD:=pN (fun c h=>by cases h)
 (fun c h args m v m' hr j w args' hm hl=>by cases h; exact bY (fun h=>h) (uh hr (MR.env (E:=aD) (E':=lF) rfl hm) hl) fun _ _=>ta)
 (fun c h=>by cases h)
theorem Iu (n:Nat) (r:Bool) (hF:KI n=some r) (m:AMem) (hG:Gl m):aC aD 11 [] m (fun v m'=>∃x:Unit,v = .bool r∧Hp m m' []):=by
 cases hF;refine aC.cR (p:=⟨jb⟩) rfl (v:=.bool true) (m':=m) ?_ ⟨(),rfl,Hp.start m⟩;have ht:gE m=true:=by
  unfold gE;rw[hG.1];exact(by decide +kernel:rf (jt.map (.int .u8)) jt=true)
 show jb [] m=_
 simp only[jb,ht,if_true]
end Go.Proofs.YtpkadoocdgdcfaaGreatDoor
end

section
namespace Go.Proofs.YtpkadoocdgdcfaaGreatDoor
set_option maxRecDepth 100000
open Go Go.ChangeShapes Go.WideShapes Go.ChangeAt Go.WideMaps Go.WideElems Go.RowKit Go.Ab Go.Ab.W
theorem Ko:Bj Tryz.prog 5 61=some [.int .u8,.sl 5]:=by kernel_rfl
theorem Kf:Bj Tryz.prog 5 5=some [.int .u8]:=by kernel_rfl
section
variable {H : Type} {enc : TypeId × Value → H} {W : World} {sp : Nat → Bool} {held : Bool} {v : Value} {d : DataW H} {p : List MemPlace} {base : Nat}
theorem Ks:∀(n:Nat) (cs:List Value) (x:DataW H × List MemPlace),DataW.trod enc Tryz.prog W 0 sp held n 5 cs=some x→∃p:Nat,cs=eN .u8 p∧p<256:=by
 intro n cs x h;obtain⟨v1,cs,rfl,h1,h⟩:=nI (uN 5 5 _ Kf n _ x h);obtain rfl:=uY h;obtain⟨a,rfl,ha⟩:=Cg h1;exact⟨a,rfl,ha⟩
theorem JJ (hok:Value.okWide Tryz.prog W .any base 61 v) (hs:0<W.heap.size) (h:DataW.Trod enc Tryz.prog W 0 sp held 61 v d p):∃(x1:Nat) (l:List Nat) (a:Option Addr) (c:Nat),
  VR (dX W) (.agg #[.int .u8 ((x1:Nat):Int),.slice a l.length c]) v∧x1<256∧(∀q ∈ l,q<256)∧l.length≤maxLen∧Rd (eK W) a c 1 l.length (l.map (eN .u8)):=by
 obtain⟨cs,rfl,_⟩:=okWide_struct (t:=61) (fs:=Tryz.prog.underlying 61 |>.elim #[] fun u=>match u with | .struct fs=>fs|_=>#[]) (by kernel_rfl) hok
 obtain⟨n,h⟩:=h;obtain⟨v1,r,hr,h1,h⟩:=nI (yc Ko h);obtain⟨v2,r,rfl,h2,h⟩:=nI h;obtain rfl:=uY h;obtain⟨x1,rfl,g1⟩:=Cg h1;obtain⟨a,c,l,e1,e2,e3,e4⟩:=G4 (f:=eN .u8) (w:=1) (by kernel_rfl) (by omega) hs (fun q=>rfl) Ks h2
 refine⟨x1,l,a,c,?_,g1,e3,e4,e2⟩;refine Ib (l:=[.int .u8 ((x1:Nat):Int),.slice a l.length c]) ?_;rw[hr];exact .cons (.int _ _) (.cons e1 (.nil _))
end
theorem IU:laidOutB Tryz.prog=true:=by kernel_rfl
theorem FY:mapsRowed Tryz.prog=true:=by kernel_rfl
theorem EO:sizedB Tryz.prog=true:=by kernel_rfl
theorem G1 {W:World} (h:laidMetH Tryz.prog pB W):Gl (eK W)∧0<W.heap.size:=by
 rw[MakeChecks.laidMetH_plain _ _ _ (by kernel_rfl)] at h
 obtain⟨ps,hL,_⟩:=h;have ht:(Tryz.prog.globals[0]?).map (·.type)=some 354:=by kernel_rfl
 obtain⟨c,ty,fz,h1,h2⟩:=AA (L:=jt) (k:=.u8) (N:=64) (t:=354) (e:=5) Km ht (by kernel_rfl) (by kernel_rfl) (by kernel_rfl) (by kernel_rfl) rfl hL
 have hs:0<W.heap.size:=(Array.getElem?_eq_some_iff.1 h1).1;refine⟨⟨?_,hs⟩,hs⟩;rw[mH h1,h2,List.map_map]
 congr 2
theorem zY {H:Type} {enc:TypeId × Value→H} {f:FuncId} {fn:Func} {s:ChangeSpec} {W:World} {args:Array Value} {ds:List (DataW H)} {before:List MemPlace} {tb:TypeId} {fresh handsOn:Bool} {absArgs:List Value} (hpr:aD.cR f=none)
  (hvars:s.vars = []) (hres:fn.resultTypes.toList = [tb]) (hrs:fn.resultTypes.size=1) (htb:Tryz.prog.underlying tb=some .bool) (hpt:∀t ∈ fn.params.toList,t<Tryz.prog.types.size) (hfn:s.fn H ds = { results:=[.lit (.bool true)],args:=ds,vars:=[]})
  (hW:DataW.Whole enc Tryz.prog fn.params.toList s.vars false W args.toList ds [] before) (hs:0<W.heap.size)
  (hl:LR (dX W) absArgs args.toList) (hc:aC aD f absArgs (eK W) (fun v m'=>∃x:Unit,v = .bool true∧Hp (eK W) m' [])) :
  Calls Tryz.prog f args W fun e W'=>∃v,e = .returned v∧s.post enc Tryz.prog fn false fresh handsOn false W args v W':=by
 obtain⟨v,m',⟨fuel,hrun⟩,_,rfl,hm'⟩:=hc;have hm:MR aD (dX W) (eK W) W:=GV hs;have hcall:=callsIn_wide.1 (tN E7 hrun hpr hm hl);refine hcall.mono fun e W' ⟨v',he,j',sm,hv⟩=>?_;have hv':v' = .bool true:=ez rfl hv;subst hv';have hwl:(eK W).next≤m'.wl:=by
  have h1:=hm'.ext.wl;have h2:min (eK W).wl (eK W).next=(eK W).next:=Nat.min_self _
  omega
 exact⟨_,he,Ci IU FY EO hvars hres hrs htb hpt hfn hW sm.calm (sm.grown hm hwl)⟩
end Go.Proofs.YtpkadoocdgdcfaaGreatDoor
end

section
namespace Go.Proofs.YtpkadoocdgdcfaaGreatDoor
open Go Go.Ab Go.Ab.W
def fQ:List Nat:=[0,1,2,2,3,3,3,3,4,4,4,4,4,4,4,4,5,5,5,5,5,5,5,5,5,5,5,5,5,5,5,5,6,6,6,6,6,6,6,6,6,6,6,6,6,6,6,6,6,6,6,6,6,6,6,6,6,6,6,6,6,6,6,6,7,7,7,7,7,7,7,7,7,7,7,7,7,7,7,7,7,7,7,7,7,7,7,7,7,7,7,7,7,7,7,7,7,7,7,7,7,7,7,7,7,7,7,7,7,7,7,7,7,7,7,7,7,7,7,7,7,7,7,7,7,7,7,7,8,8,8,8,8,8,8,8,8,8,8,8,8,8,8,8,8,8,8,8,8,8,8,8,8,8,8,8,8,8,8,8,8,8,8,8,8,8,8,8,8,8,8,8,8,8,8,8,8,8,8,8,8,8,8,8,8,8,8,8,8,8,8,8,8,8,8,8,8,8,8,8,8,8,8,8,8,8,8,8,8,8,8,8,8,8,8,8,8,8,8,8,8,8,8,8,8,8,8,8,8,8,8,8,8,8,8,8,8,8,8,8,8,8,8,8,8,8,8,8,8,8,8,8,8,8,8,8]
def Bb (n:Nat) (l1:List (Int)):Int→Option ((Int) ⊕ (Int)):=fun v7 =>
ob (
br (decide (0<v7)) (
gd (cG (IntKind.wrap .i64 (v7-1)) l1.length) (
ob (l1[(IntKind.wrap .i64 (v7-1)).toNat]?) fun x69 =>
some (decide (x69=0)))) (
some false)) fun v64 =>
br (v64) (
some (.inl (IntKind.wrap .i64 (v7-1)))) (
some (.inr v7))
def zT (n:Nat) (l1:List (Int)):Option (List Int) :=
ob (
cT (Bb n l1) n (l1.length:Int)) fun v41 =>
gd (okB 0 v41 l1.length) (
some ((l1.drop (0:Int).toNat).take ((v41:Int).toNat-(0:Int).toNat)))
def tY (n:Nat) (x1:Bool) (l2:List (Int)):Option (Bool × List Int) :=
ob (zT n l2) fun l9 =>
br (x1) (
some (decide (0<(l9.length:Int)),l9)) (
some (false,l9))
def IG (n:Nat) (x1:Int):Option (Bool × List Int) :=
ob (
br (decide (x1<0)) (
some (Fl .u64 (ui .u64 x1))) (
some (ui .u64 x1))) fun v4 =>
ob (tY n (decide (x1<0)) ([IntKind.wrap .i64 ((v4%4294967296:Nat):Int),IntKind.wrap .i64 ((uw .u64 (v4/4294967296):Nat):Int)])) fun(r10,l11) =>
some (r10,l11)
def CK (n:Nat) (l1:List (Int)):(Int × List (Int) × Int)→Option ((Int × List (Int) × Int) ⊕ (Int × List (Int))):=fun(v24,l25,v27) =>
br (decide (v27<(l1.length:Int))) (
gd (cG v27 l1.length) (
ob (l1[v27.toNat]?) fun x52 =>
ob (some (Int.tmod (IntKind.wrap .i64 ((IntKind.wrap .i64 (2*x52))+v24)) 4294967296)) fun y54 =>
gd (lim (l25++[y54]).length) (
ob (some (IntKind.wrap .i64 (Int.tdiv (IntKind.wrap .i64 ((IntKind.wrap .i64 (2*x52))+v24)) 4294967296))) fun y59 =>
some (.inl (y59,(l25++[y54]),IntKind.wrap .i64 (v27+1)))))) (
some (.inr (v24,l25)))
def Hi (n:Nat) (l1:List (Int)) (x6:Int):Option (List Int) :=
ob (
cT (CK n l1) n (x6,([]:List (Int)),0)) fun(v45,l46) =>
gd (lim (l46++[v45]).length) (
ob (zT n (l46++[v45])) fun l67 =>
some l67)
def Dq (n:Nat) (l1:List (Int)) (l5:List (Int)):Int→Option ((Int) ⊕ ((Int) ⊕ (Unit))):=fun v11 =>
br (decide (0≤v11)) (
gd (cG v11 l1.length) (
ob (l1[v11.toNat]?) fun x32 =>
gd (cG v11 l5.length) (
ob (l5[v11.toNat]?) fun x37 =>
br (!decide (x32=x37)) (
gd (cG v11 l1.length) (
gd (cG v11 l5.length) (
some (.inr (.inl (IntKind.wrap .i64 (x32-x37))))))) (
some (.inl (IntKind.wrap .i64 (v11-1))))))) (
some (.inr (.inr ())))
def Bc (n:Nat) (l1:List (Int)) (l5:List (Int)):Option (Int) :=
br (!decide ((l1.length:Int)=(l5.length:Int))) (
some (IntKind.wrap .i64 ((l1.length:Int)-(l5.length:Int)))) (
ob (α:=(Int) ⊕ (Unit)) (
cT (Dq n l1 l5) n (IntKind.wrap .i64 ((l1.length:Int)-1))) fun r43=>match r43 with
| .inl v27 =>
some v27
| .inr _ =>
some 0)
def Cz (n:Nat) (l1:List (Int)) (l6:List (Int)):(List (Int) × Int × Int)→Option ((List (Int) × Int × Int) ⊕ (List (Int))):=fun(l2,v2,v0) =>
br (decide (v0<(l1.length:Int))) (
gd (cG v0 l1.length) (
ob (l1[v0.toNat]?) fun x3 =>
ob (
br (decide (v0<(l6.length:Int))) (
gd (cG v0 l6.length) (
ob (l6[v0.toNat]?) fun x4 =>
some (IntKind.wrap .i64 ((IntKind.wrap .i64 (x3-v2))-x4)))) (
some (IntKind.wrap .i64 (x3-v2)))) fun v1 =>
ob (
br (decide (v1<0)) (
some (1,IntKind.wrap .i64 (v1+4294967296))) (
some (0,v1))) fun(v4,v3) =>
gd (lim (l2++[v3]).length) (
some (.inl ((l2++[v3]),v4,IntKind.wrap .i64 (v0+1)))))) (
some (.inr l2))
def AI (n:Nat) (l1:List (Int)) (l6:List (Int)):Option (List Int) :=
ob (
cT (Cz n l1 l6) n (([]:List (Int)),0,0)) fun l2 =>
ob (zT n l2) fun l3 =>
some l3
def Dy (n:Nat) (v0:Int) (l3:List (Int)) (l6:List (Int)) (y2:Int):(List (Int) × List (Int) × Int)→Option ((List (Int) × List (Int) × Int) ⊕ (List (Int) × List (Int))):=fun(l1,l4,v1) =>
br (decide (0≤v1)) (
ob (
gd (cG v0 l3.length) (
ob (l3[v0.toNat]?) fun x3 =>
ob (Hi n l4 (Int.tmod (Eh .i64 x3 v1.toNat) 2)) fun l2 =>
ob (Bc n l2 l6) fun r0 =>
br (decide (0≤r0)) (
ob (AI n l2 l6) fun l5 =>
gd (cG v0 y2.toNat) (
ob (l1[v0.toNat]?) fun x4 =>
gd (cG v0 y2.toNat) (
some ((l1.set v0.toNat (IntKind.wrap .i64 (x4+(Es .i64 1 v1.toNat)))),l5)))) (
some (l1,l2)))) fun(l7,l8) =>
some (.inl (l7,l8,IntKind.wrap .i64 (v1-1)))) (
some (.inr (l1,l4)))
def Dx (n:Nat) (l3:List (Int)) (l6:List (Int)) (y2:Int):(List (Int) × List (Int) × Int)→Option ((List (Int) × List (Int) × Int) ⊕ (List (Int) × List (Int))):=fun(l1,l2,v0) =>
br (decide (0≤v0)) (
ob (
cT (Dy n v0 l3 l6 y2) n (l1,l2,31)) fun(l4,l5) =>
some (.inl (l4,l5,IntKind.wrap .i64 (v0-1)))) (
some (.inr (l1,l2)))
def ET (n:Nat) (l1:List (Int)) (l6:List (Int)):Option (List Int × List Int) :=
br (decide ((l1.length:Int)≤IntKind.wrap .i64 ((l6.length:Int)-1))) (
gd (lim (([]:List (Int))++l1).length) (
some ([],(([]:List (Int))++l1)))) (
ob (some (IntKind.wrap .i64 ((l1.length:Int)-(IntKind.wrap .i64 ((l6.length:Int)-1))))) fun y2 =>
gd (decide (0≤y2)) (gd (lim y2.toNat) (
ob (some (IntKind.wrap .i64 ((l1.length:Int)-(IntKind.wrap .i64 ((l6.length:Int)-1))))) fun y3 =>
gd (okB y3 (l1.length:Int) l1.length) (
gd (lim (([]:List (Int))++((l1.drop (y3:Int).toNat).take (((l1.length:Int):Int).toNat-(y3:Int).toNat))).length) (
ob (
cT (Dx n l1 l6 y2) n ((List.replicate y2.toNat (0:Int)),(([]:List (Int))++((l1.drop (y3:Int).toNat).take (((l1.length:Int):Int).toNat-(y3:Int).toNat))),IntKind.wrap .i64 ((y2.toNat:Int)-1))) fun(l2,l3) =>
ob (zT n l2) fun l4 =>
some (l4,l3))))))
def B5 (n:Nat):(List (Int) × List (Int))→Option ((List (Int) × List (Int)) ⊕ (List (Int))):=fun(l26,l29) =>
br (decide (0<(l29.length:Int))) (
ob (ET n l26 l29) fun(l53,l57) =>
some (.inl (l29,l57))) (
some (.inr l26))
def HD (n:Nat) (x1:Bool) (l2:List (Int)) (x7:Bool) (l8:List (Int)):Option (Bool × List Int) :=
ob (
cT (B5 n) n (l2,l8)) fun l48 =>
some (false,l48)
def FZ (n:Nat) (x1:Bool) (l2:List (Int)):Option (Bool × List Int) :=
ob (tY n (!x1) l2) fun(r10,l11) =>
some (r10,l11)
def DK (n:Nat) (l1:List (Int)) (l2:List (Int)):(List (Int) × Int × Int)→Option ((List (Int) × Int × Int) ⊕ (List (Int))):=fun(l3,v1,v0) =>
ob (
br (decide (v0<(l1.length:Int))) (
some true) (
br (decide (v0<(l2.length:Int))) (
some true) (
some (decide (0<v1))))) fun v4 =>
br (v4) (
ob (
br (decide (v0<(l1.length:Int))) (
gd (cG v0 l1.length) (
ob (l1[v0.toNat]?) fun x3 =>
some (IntKind.wrap .i64 (v1+x3)))) (
some v1)) fun v3 =>
ob (
br (decide (v0<(l2.length:Int))) (
gd (cG v0 l2.length) (
ob (l2[v0.toNat]?) fun x4 =>
some (IntKind.wrap .i64 (v3+x4)))) (
some v3)) fun v2 =>
gd (lim (l3++[Int.tmod v2 4294967296]).length) (
some (.inl ((l3++[Int.tmod v2 4294967296]),IntKind.wrap .i64 (Int.tdiv v2 4294967296),IntKind.wrap .i64 (v0+1))))) (
some (.inr l3))
def GP (n:Nat) (l1:List (Int)) (l2:List (Int)):Option (List Int) :=
ob (
cT (DK n l1 l2) n (([]:List (Int)),0,0)) fun l3 =>
some l3
def CM (n:Nat) (x1:Bool) (l2:List (Int)) (x7:Bool) (l8:List (Int)):Option (Bool × List Int) :=
br ((x1 == x7)) (
ob (GP n l2 l8) fun l18 =>
ob (tY n x1 l18) fun(r22,l23) =>
some (r22,l23)) (
ob (Bc n l2 l8) fun r28 =>
br (decide (0≤r28)) (
ob (AI n l2 l8) fun l31 =>
ob (tY n x1 l31) fun(r36,l37) =>
some (r36,l37)) (
ob (AI n l8 l2) fun l42 =>
ob (tY n x7 l42) fun(r47,l48) =>
some (r47,l48)))
def Iy (n:Nat) (x1:Bool) (l2:List (Int)) (x7:Bool) (l8:List (Int)):Option (Bool × List Int) :=
ob (FZ n x7 l8) fun(r17,l18) =>
ob (CM n x1 l2 r17 l18) fun(r23,l24) =>
some (r23,l24)
def Em (n:Nat) (x1:Bool) (l5:List (Int)) (x3:Bool) (l2:List (Int)):Option (Bool × List Int × Bool × List Int) :=
ob (ET n l5 l2) fun(l7,l8) =>
ob (tY n (!(x1 == x3)) l7) fun(r0,l1) =>
ob (tY n x1 l8) fun(r1,l3) =>
ob (
br (r1) (
ob (CM n r1 l3 false l2) fun(r3,l4) =>
br (x3) (
ob (IG n 1) fun(r4,l9) =>
ob (CM n r0 l1 r4 l9) fun(r5,l10) =>
some (r5,l10,r3,l4)) (
ob (IG n 1) fun(r6,l11) =>
ob (Iy n r0 l1 r6 l11) fun(r7,l12) =>
some (r7,l12,r3,l4))) (
some (r0,l1,r1,l3))) fun(v0,l13,v1,l14) =>
some (v0,l13,v1,l14)
def H5 (n:Nat) (x1:Bool) (l2:List (Int)) (x7:Bool) (l8:List (Int)):Option (Bool × List Int × Bool × List Int) :=
ob (HD n x1 l2 x7 l8) fun(r17,l18) =>
ob (
br (x7) (
ob (FZ n r17 l18) fun(r36,l37) =>
some (r36,l37)) (
some (r17,l18))) fun(v30,l31) =>
ob (Em n x1 l2 v30 l31) fun(r44,l45,r49,l50) =>
ob (Em n x7 l8 v30 l31) fun(r57,l58,r62,l63) =>
some (r44,l45,r57,l58)
def HM (n:Nat) (x1:Int) (x2:Int):Option (Bool × List Int × Bool × List Int) :=
ob (IG n x1) fun(r5,l6) =>
ob (IG n x2) fun(r11,l12) =>
ob (H5 n r5 l6 r11 l12) fun(r17,l18,r22,l23) =>
some (r17,l18,r22,l23)
def Gt (n:Nat) (l1:List (Int)):(List (Nat) × Int)→Option ((List (Nat) × Int) ⊕ (List (Nat))):=fun(l2,v0) =>
br (decide (v0<(l1.length:Int))) (
gd (cG (IntKind.wrap .i64 (Int.tdiv v0 2)) 8) (
ob (l2[(IntKind.wrap .i64 (Int.tdiv v0 2)).toNat]?) fun x3 =>
gd (cG v0 l1.length) (
ob (l1[v0.toNat]?) fun x4 =>
gd (decide (0≤IntKind.wrap .i64 (32*(Int.tmod v0 2)))) (
ob (some (dN .u64 (ui .u64 x4) (IntKind.wrap .i64 (32*(Int.tmod v0 2))).toNat)) fun y2 =>
gd (cG (IntKind.wrap .i64 (Int.tdiv v0 2)) 8) (
some (.inl ((l2.set ((IntKind.wrap .i64 (Int.tdiv v0 2)).toNat) (uw .u64 (x3+y2))),IntKind.wrap .i64 (v0+1)))))))) (
some (.inr l2))
def J5 (n:Nat) (x1:Bool) (l1:List (Int)):Option (Nat × Nat × Nat × Nat × Nat × Nat × Nat × Nat × Int) :=
gd (decide ((0:Int)≤16)) (gd (lim ((16:Int).toNat)) (
gd (cG 15 ((16:Int).toNat)) (
ob ((List.replicate (16:Int).toNat (0:Int))[(15:Int).toNat]?) fun x11 =>
ob (Bc n l1 ((List.replicate (16:Int).toNat (0:Int)).set ((15:Int).toNat) 2147483648)) fun r0 =>
ob (
br (decide (0<r0)) (
some true) (
br (decide (r0=0)) (
some (!x1)) (
some false))) fun v0 =>
br (v0) (
some (0,0,0,0,0,0,0,0,6)) (
ob (
br (x1) (
gd (decide ((0:Int)≤17)) (gd (lim ((17:Int).toNat)) (
gd (cG 16 ((17:Int).toNat)) (
ob ((List.replicate (17:Int).toNat (0:Int))[(16:Int).toNat]?) fun x12 =>
ob (AI n ((List.replicate (17:Int).toNat (0:Int)).set ((16:Int).toNat) 1) l1) fun l2 =>
some l2)))) (
some l1)) fun l3 =>
ob (
cT (Gt n l3) n (([0,0,0,0,0,0,0,0]:List (Nat)),0)) fun l4 =>
ob (IC l4) fun(x3,x4,x5,x6,x7,x8,x9,x10) =>
some (x3,x4,x5,x6,x7,x8,x9,x10,0)))))
def Hy (n:Nat) (x1:Bool) (l2:List (Int)) (x6:Bool) (l7:List (Int)):Option (Nat × Nat × Nat × Nat × Nat × Nat × Nat × Nat × Nat × Nat × Nat × Nat × Nat × Nat × Nat × Nat × Int) :=
ob (J5 n x1 l2) fun(r14,r15,r16,r17,r18,r19,r20,r21,r22) =>
ob (J5 n x6 l7) fun(r25,r26,r27,r28,r29,r30,r31,r32,r33) =>
ob (
br (!decide (r22=0)) (
some true) (
some (!decide (r33=0)))) fun v42 =>
br (v42) (
some (0,0,0,0,0,0,0,0,0,0,0,0,0,0,0,0,6)) (
some (r14,r15,r16,r17,r18,r19,r20,r21,r25,r26,r27,r28,r29,r30,r31,r32,0))
def JS (n:Nat) (x1:Int) (x2:Int):Option (Nat × Nat × Nat × Nat × Nat × Nat × Nat × Nat × Nat × Nat × Nat × Nat × Nat × Nat × Nat × Nat × Int) :=
br (decide (x2=0)) (
some (0,0,0,0,0,0,0,0,0,0,0,0,0,0,0,0,7)) (
ob (HM n x1 x2) fun(r6,l7,r11,l12) =>
ob (Hy n r6 l7 r11 l12) fun(r17,r18,r19,r20,r21,r22,r23,r24,r25,r26,r27,r28,r29,r30,r31,r32,r33) =>
some (r17,r18,r19,r20,r21,r22,r23,r24,r25,r26,r27,r28,r29,r30,r31,r32,r33))
def rI (n:Nat) (v1:Int) (v2:Int) (l1:List (Nat)):(List (Int) × Int × Int)→Option ((List (Int) × Int × Int) ⊕ (List (Int) × Int)):=fun(l2,v4,v0) =>
br (decide (v0<v1)) (
ob (
br (decide (IntKind.wrap .i64 ((IntKind.wrap .i64 (v1*v2))+v0)<(l1.length:Int))) (
gd (cG (IntKind.wrap .i64 ((IntKind.wrap .i64 (v1*v2))+v0)) l1.length) (
ob (l1[(IntKind.wrap .i64 ((IntKind.wrap .i64 (v1*v2))+v0)).toNat]?) fun x3 =>
some (IntKind.wrap .i64 ((x3%6:Nat):Int)))) (
some 0)) fun v3 =>
gd (lim (l2++[v3]).length) (
some (.inl ((l2++[v3]),IntKind.wrap .i64 (v4+v3),IntKind.wrap .i64 (v0+1))))) (
some (.inr (l2,v4)))
def rA (n:Nat) (v1:Int) (l2:List (Int)) (l3:List (Int)) (v2:Int):(List (Nat × Nat × Nat × Nat × Nat × Nat × Nat × Nat × Nat × Nat × Nat × Nat × Nat × Nat × Nat × Nat) × Int)→Option ((List (Nat × Nat × Nat × Nat × Nat × Nat × Nat × Nat × Nat × Nat × Nat × Nat × Nat × Nat × Nat × Nat) × Int) ⊕ (List (Nat × Nat × Nat × Nat × Nat × Nat × Nat × Nat × Nat × Nat × Nat × Nat × Nat × Nat × Nat × Nat))):=fun(l1,v0) =>
br (decide (v0<v1)) (
gd (cG v0 l2.length) (
ob (l3[v0.toNat]?) fun x3 =>
ob (JS n x3 v2) fun(r0,r1,r3,r4,r5,r6,r7,r8,r9,r10,r11,r12,r13,r14,r15,r16,r17) =>
gd (lim (l1++[(r0,r1,r3,r4,r5,r6,r7,r8,r9,r10,r11,r12,r13,r14,r15,r16)]).length) (
some (.inl ((l1++[(r0,r1,r3,r4,r5,r6,r7,r8,r9,r10,r11,r12,r13,r14,r15,r16)]),IntKind.wrap .i64 (v0+1)))))) (
some (.inr l1))
def rM (n:Nat) (l4:List (Nat)):(Int × List (List (Nat × Nat × Nat × Nat × Nat × Nat × Nat × Nat × Nat × Nat × Nat × Nat × Nat × Nat × Nat × Nat)) × Int)→Option ((Int × List (List (Nat × Nat × Nat × Nat × Nat × Nat × Nat × Nat × Nat × Nat × Nat × Nat × Nat × Nat × Nat × Nat)) × Int) ⊕ (List (List (Nat × Nat × Nat × Nat × Nat × Nat × Nat × Nat × Nat × Nat × Nat × Nat × Nat × Nat × Nat × Nat)))):=fun(v1,l2,v0) =>
br (decide (v0<v1)) (
ob (
cT (rI n v1 v0 l4) n (([]:List (Int)),0,0)) fun(l1,v2) =>
ob (
br (decide (v2=0)) (
gd (cG v0 l1.length) (
ob (l1[v0.toNat]?) fun x3 =>
some ((l1.set v0.toNat 1),1))) (
some (l1,v2))) fun(l5,v3) =>
ob (
cT (rA n v1 l1 l5 v3) n (([]:List (Nat × Nat × Nat × Nat × Nat × Nat × Nat × Nat × Nat × Nat × Nat × Nat × Nat × Nat × Nat × Nat)),0)) fun l3 =>
gd (lim (l2++([l3]:List (List (Nat × Nat × Nat × Nat × Nat × Nat × Nat × Nat × Nat × Nat × Nat × Nat × Nat × Nat × Nat × Nat)))).length) (
some (.inl (v1,(l2++([l3]:List (List (Nat × Nat × Nat × Nat × Nat × Nat × Nat × Nat × Nat × Nat × Nat × Nat × Nat × Nat × Nat × Nat)))),IntKind.wrap .i64 (v0+1))))) (
some (.inr l2))
def Ji (n:Nat) (x1:Nat) (l1:List (Nat)):Option (List (List (Nat × Nat × Nat × Nat × Nat × Nat × Nat × Nat × Nat × Nat × Nat × Nat × Nat × Nat × Nat × Nat))) :=
ob (
cT (rM n l1) n (IntKind.wrap .i64 (1+(IntKind.wrap .i64 ((x1%4:Nat):Int))),([]:List (List (Nat × Nat × Nat × Nat × Nat × Nat × Nat × Nat × Nat × Nat × Nat × Nat × Nat × Nat × Nat × Nat))),0)) fun l2 =>
some l2
def GA (n:Nat):(List (Nat) × Int)→Option ((List (Nat) × Int) ⊕ (List (Nat))):=fun(l40,v41) =>
br (decide (v41<8)) (
gd (cG v41 8) (
ob (l40[v41.toNat]?) fun x52 =>
some (.inl ((l40.set v41.toNat 18446744073709551615),IntKind.wrap .i64 (v41+1))))) (
some (.inr l40))
def Jo (n:Nat) (x1:Int):Option (Nat × Nat × Nat × Nat × Nat × Nat × Nat × Nat) :=
ob (
br (decide (x1<0)) (
ob (
cT (GA n) n (([ui .u64 x1,0,0,0,0,0,0,0]:List (Nat)),1)) fun l49 =>
some l49) (
some ([ui .u64 x1,0,0,0,0,0,0,0]:List (Nat)))) fun l30 =>
ob (IC l30) fun(x59,x60,x61,x62,x63,x64,x65,x66) =>
some (x59,x60,x61,x62,x63,x64,x65,x66)
def CS (n:Nat):(List (Nat) × List (Nat) × Nat × Int)→Option ((List (Nat) × List (Nat) × Nat × Int) ⊕ (List (Nat) × Nat)):=fun(l36,l37,v38,v39) =>
br (decide (v39<8)) (
gd (cG v39 8) (
ob (l36[v39.toNat]?) fun x60 =>
gd (cG v39 8) (
ob (l37[v39.toNat]?) fun x63 =>
ob (EM n x60 x63 v38) fun(r66,r67) =>
gd (cG v39 8) (
some (.inl ((l36.set v39.toNat r66),l37,r67,IntKind.wrap .i64 (v39+1))))))) (
some (.inr (l36,v38)))
def EC (n:Nat) (x1:Nat) (x2:Nat) (x3:Nat) (x4:Nat) (x5:Nat) (x6:Nat) (x7:Nat) (x8:Nat) (x9:Nat) (x10:Nat) (x11:Nat) (x12:Nat) (x13:Nat) (x14:Nat) (x15:Nat) (x16:Nat):Option (Nat × Nat × Nat × Nat × Nat × Nat × Nat × Nat × Nat) :=
ob (
cT (CS n) n (([x1,x2,x3,x4,x5,x6,x7,x8]:List (Nat)),([x9,x10,x11,x12,x13,x14,x15,x16]:List (Nat)),0,0)) fun(l56,v57) =>
ob (IC l56) fun(x72,x73,x74,x75,x76,x77,x78,x79) =>
some (x72,x73,x74,x75,x76,x77,x78,x79,v57)
def E1 (n:Nat) (x1:Nat) (x2:Nat) (x3:Nat) (x4:Nat) (x5:Nat) (x6:Nat) (x7:Nat) (x8:Nat):Option (Bool × Nat × Nat × Nat × Nat × Nat × Nat × Nat × Nat) :=
ob (
br (decide (cK .u64 x8 63=1)) (
ob (EC n 0 0 0 0 0 0 0 0 x1 x2 x3 x4 x5 x6 x7 x8) fun(r34,r35,r36,r37,r38,r39,r40,r41,r42) =>
some (decide (cK .u64 x8 63=1),r34,r35,r36,r37,r38,r39,r40,r41)) (
some (decide (cK .u64 x8 63=1),x1,x2,x3,x4,x5,x6,x7,x8))) fun(v23,v24,v25,v26,v27,v28,v29,v30,v31) =>
some (v23,v24,v25,v26,v27,v28,v29,v30,v31)
def e6 (n:Nat) (l2:List (Nat)):Int→Option ((Int) ⊕ (Int)):=fun v9 =>
ob (
br (decide (0<v9)) (
gd (cG (IntKind.wrap .i64 (v9-1)) l2.length) (
ob (l2[(IntKind.wrap .i64 (v9-1)).toNat]?) fun x71 =>
some (decide (x71=0)))) (
some false)) fun v66 =>
br (v66) (
some (.inl (IntKind.wrap .i64 (v9-1)))) (
some (.inr v9))
def kP (n:Nat) (x1:Bool) (l2:List (Nat)):Option (Bool × List Nat) :=
ob (
cT (e6 n l2) n (l2.length:Int)) fun v43 =>
br (x1) (
gd (okB 0 v43 l2.length) (
some (decide (0<v43),((l2.drop (0:Int).toNat).take ((v43:Int).toNat-(0:Int).toNat))))) (
gd (okB 0 v43 l2.length) (
some (false,((l2.drop (0:Int).toNat).take ((v43:Int).toNat-(0:Int).toNat)))))
def Ef (n:Nat) (x1:Nat) (x2:Nat) (x3:Nat) (x4:Nat) (x5:Nat) (x6:Nat) (x7:Nat) (x8:Nat):Option (Bool × List Nat) :=
ob (E1 n x1 x2 x3 x4 x5 x6 x7 x8) fun(r12,r13,r14,r15,r16,r17,r18,r19,r20) =>
gd (lim (([]:List (Nat))++[r13,r14,r15,r16,r17,r18,r19,r20]).length) (
ob (kP n r12 (([]:List (Nat))++[r13,r14,r15,r16,r17,r18,r19,r20])) fun(r26,l27) =>
some (r26,l27))
def Fm (n:Nat) (x1:Int):Option (Bool × List Nat) :=
ob (Jo n x1) fun(r4,r5,r6,r7,r8,r9,r10,r11) =>
ob (Ef n r4 r5 r6 r7 r8 r9 r10 r11) fun(r13,l14) =>
some (r13,l14)
def BV (n:Nat) (x1:Nat) (x2:Nat) (x3:Nat) (x4:Nat) (x5:Nat) (x6:Nat) (x7:Nat) (x8:Nat) (x9:Nat) (x10:Nat) (x11:Nat) (x12:Nat) (x13:Nat) (x14:Nat) (x15:Nat) (x16:Nat):Option (Bool × List Nat × Bool × List Nat) :=
ob (Ef n x1 x2 x3 x4 x5 x6 x7 x8) fun(r20,l21) =>
ob (Ef n x9 x10 x11 x12 x13 x14 x15 x16) fun(r26,l27) =>
some (r20,l21,r26,l27)
def DY (n:Nat) (x1:Bool) (l2:List (Nat)):Option (Int) :=
br (x1) (
some (-1)) (
br (decide ((l2.length:Int)=0)) (
some 0) (
some 1))
def B1 (n:Nat) (x1:Nat):Option (Int) :=
ob (
br (decide (4294967296≤x1)) (
some (cK .u64 x1 32,32)) (
some (x1,0))) fun(v3,v4) =>
ob (
br (decide (65536≤v3)) (
some (cK .u64 v3 16,IntKind.wrap .i64 (v4+16))) (
some (v3,v4))) fun(v9,v10) =>
ob (
br (decide (256≤v9)) (
some (cK .u64 v9 8,IntKind.wrap .i64 (v10+8))) (
some (v9,v10))) fun(v15,v16) =>
gd (cG ((uw .u8 v15:Nat):Int) 256) (
ob (fQ[((uw .u8 v15:Nat):Int).toNat]?) fun y22 =>
some (IntKind.wrap .i64 (v16+(IntKind.wrap .i64 ((y22:Nat):Int)))))
def xh (n:Nat) (x1:Nat):Option (Int) :=
ob (B1 n x1) fun r3 =>
some (IntKind.wrap .i64 (64-r3))
def qg (n:Nat):(Nat × Nat × Nat × Nat × Nat × Nat × Nat × Nat)→Option ((Nat × Nat × Nat × Nat × Nat × Nat × Nat × Nat) ⊕ (Nat × Nat × Nat × Nat × Nat × Nat × Nat)):=fun(v20,v21,v22,v23,v24,v25,v26,v27) =>
ob (
br (decide (4294967296≤v26)) (
some true) (
some (decide (uw .u64 ((uw .u64 (4294967296*v27))+v24)<uw .u64 (v26*v23))))) fun v63 =>
br (v63) (
br (decide (4294967296≤uw .u64 (v27+v22))) (
some (.inr (v20,v21,v22,v23,v24,v25,gJ .u64 v26 1))) (
some (.inl (v20,v21,v22,v23,v24,v25,gJ .u64 v26 1,uw .u64 (v27+v22))))) (
some (.inr (v20,v21,v22,v23,v24,v25,v26)))
def fo (n:Nat) (v3:Nat) (v4:Nat) (v2:Nat):(Nat × Nat)→Option ((Nat × Nat) ⊕ (Nat)):=fun(v1,v0) =>
ob (
br (decide (4294967296≤v0)) (
some true) (
some (decide (uw .u64 ((uw .u64 (4294967296*v1))+v3)<uw .u64 (v0*v4))))) fun v5 =>
br (v5) (
br (decide (4294967296≤uw .u64 (v1+v2))) (
some (.inr (gJ .u64 v0 1))) (
some (.inl (uw .u64 (v1+v2),gJ .u64 v0 1)))) (
some (.inr v0))
def Dd (n:Nat) (x1:Nat) (x2:Nat) (x3:Nat):Option (Nat × Nat) :=
br (decide (x3=0)) (
none) (
br (decide (x3≤x1)) (
none) (
br (decide (x1=0)) (
gd (decide (0<x3)) (
gd (decide (0<x3)) (
some (uw .u64 (x2/x3),x2%x3)))) (
ob (xh n x3) fun r0 =>
ob (some (uw .u64 (uw .u64 (dN .u64 x1 (ui .u64 r0)) ||| uw .u64 (cK .u64 x2 (gJ .u64 64 (ui .u64 r0)))))) fun y2 =>
gd (decide (0<cK .u64 (dN .u64 x3 (ui .u64 r0)) 32)) (
ob (some (uw .u64 ((uw .u64 (y2/(cK .u64 (dN .u64 x3 (ui .u64 r0)) 32)))*(cK .u64 (dN .u64 x3 (ui .u64 r0)) 32)))) fun y4 =>
ob (
cT (qg n) n (dN .u64 x3 (ui .u64 r0),ui .u64 r0,cK .u64 (dN .u64 x3 (ui .u64 r0)) 32,uw .u64 (uw .u64 (dN .u64 x3 (ui .u64 r0)) &&& uw .u64 4294967295),cK .u64 (dN .u64 x2 (ui .u64 r0)) 32,uw .u64 (uw .u64 (dN .u64 x2 (ui .u64 r0)) &&& uw .u64 4294967295),uw .u64 (y2/(cK .u64 (dN .u64 x3 (ui .u64 r0)) 32)),gJ .u64 y2 y4)) fun(v1,v5,v0,v6,v7,v2,v3) =>
ob (some (gJ .u64 (uw .u64 ((uw .u64 (y2*4294967296))+v7)) (uw .u64 (v3*v1)))) fun y3 =>
gd (decide (0<v0)) (
ob (
cT (fo n v2 v6 v0) n (gJ .u64 y3 (uw .u64 ((uw .u64 (y3/v0))*v0)),uw .u64 (y3/v0))) fun v4 =>
ob (some (gJ .u64 (uw .u64 ((uw .u64 (y3*4294967296))+v2)) (uw .u64 (v4*v1)))) fun y5 =>
some (uw .u64 ((uw .u64 (v3*4294967296))+v4),cK .u64 y5 v5))))))
def Aa (n:Nat) (l1:List (Nat)):Option (Int) :=
br (decide ((l1.length:Int)=0)) (
some 0) (
gd (cG (IntKind.wrap .i64 ((l1.length:Int)-1)) l1.length) (
ob (l1[(IntKind.wrap .i64 ((l1.length:Int)-1)).toNat]?) fun x9 =>
ob (xh n x9) fun r12 =>
some (IntKind.wrap .i64 ((IntKind.wrap .i64 (64*(l1.length:Int)))-r12))))
def nH (n:Nat) (l2:List (Nat)) (x3:Int):(List (Nat) × Nat × Int)→Option ((List (Nat) × Nat × Int) ⊕ (List (Nat) × Nat)):=fun(l1,n1,v0) =>
br (decide (v0<(l2.length:Int))) (
ob (
gd (cG v0 l2.length) (
ob (l2[v0.toNat]?) fun x4 =>
gd (cG (IntKind.wrap .i64 (v0+(IntKind.wrap .i64 (Int.tdiv x3 64)))) n1) (
ob (l1[(IntKind.wrap .i64 (v0+(IntKind.wrap .i64 (Int.tdiv x3 64)))).toNat]?) fun x5 =>
gd (decide (0≤Int.tmod x3 64)) (
ob (some (uw .u64 (uw .u64 x5 ||| uw .u64 (dN .u64 x4 (Int.tmod x3 64).toNat)))) fun y2 =>
gd (cG (IntKind.wrap .i64 (v0+(IntKind.wrap .i64 (Int.tdiv x3 64)))) n1) (
br (decide (0<Int.tmod x3 64)) (
ob (some (IntKind.wrap .i64 ((IntKind.wrap .i64 (v0+(IntKind.wrap .i64 (Int.tdiv x3 64))))+1))) fun y3 =>
gd (decide (0≤IntKind.wrap .i64 (64-(Int.tmod x3 64)))) (
gd (cG y3 n1) (
ob ((l1.set ((IntKind.wrap .i64 (v0+(IntKind.wrap .i64 (Int.tdiv x3 64)))).toNat) y2)[y3.toNat]?) fun x6 =>
some ((l1.set ((IntKind.wrap .i64 (v0+(IntKind.wrap .i64 (Int.tdiv x3 64)))).toNat) y2).set y3.toNat (cK .u64 x4 (IntKind.wrap .i64 (64-(Int.tmod x3 64))).toNat))))) (
some (l1.set ((IntKind.wrap .i64 (v0+(IntKind.wrap .i64 (Int.tdiv x3 64)))).toNat) y2))))))) fun l3 =>
some (.inl (l3,n1,IntKind.wrap .i64 (v0+1)))) (
some (.inr (l1,n1)))
def Bv (n:Nat) (l1:List (Nat)) (x3:Int):Option (List Nat) :=
ob (some (IntKind.wrap .i64 ((l1.length:Int)+(IntKind.wrap .i64 (Int.tdiv x3 64))))) fun y2 =>
gd (decide (0≤IntKind.wrap .i64 (y2+1))) (gd (lim ((IntKind.wrap .i64 (y2+1)).toNat)) (
ob (
cT (nH n l1 x3) n ((List.replicate (IntKind.wrap .i64 (y2+1)).toNat (0:Nat)),(IntKind.wrap .i64 (y2+1)).toNat,0)) fun(l2,n1) =>
ob (kP n false l2) fun(r0,l3) =>
some l3))
def jZ (n:Nat) (l1:List (Nat)) (l5:List (Nat)):Int→Option ((Int) ⊕ ((Int) ⊕ (Unit))):=fun v11 =>
br (decide (0≤v11)) (
gd (cG v11 l1.length) (
ob (l1[v11.toNat]?) fun x33 =>
gd (cG v11 l5.length) (
ob (l5[v11.toNat]?) fun x38 =>
br (decide (x33<x38)) (
some (.inr (.inl (-1)))) (
gd (cG v11 l1.length) (
gd (cG v11 l5.length) (
br (decide (x38<x33)) (
some (.inr (.inl 1))) (
some (.inl (IntKind.wrap .i64 (v11-1)))))))))) (
some (.inr (.inr ())))
def AX (n:Nat) (l1:List (Nat)) (l5:List (Nat)):Option (Int) :=
br (!decide ((l1.length:Int)=(l5.length:Int))) (
some (IntKind.wrap .i64 ((l1.length:Int)-(l5.length:Int)))) (
ob (α:=(Int) ⊕ (Unit)) (
cT (jZ n l1 l5) n (IntKind.wrap .i64 ((l1.length:Int)-1))) fun r45=>match r45 with
| .inl v28 =>
some v28
| .inr _ =>
some 0)
def nE (n:Nat) (l1:List (Nat)) (l2:List (Nat)):(List (Nat) × Nat × Int)→Option ((List (Nat) × Nat × Int) ⊕ (List (Nat))):=fun(l3,v1,v0) =>
br (decide (v0<(l1.length:Int))) (
gd (cG v0 l1.length) (
ob (l1[v0.toNat]?) fun x3 =>
ob (
br (decide (v0<(l2.length:Int))) (
gd (cG v0 l2.length) (
ob (l2[v0.toNat]?) fun x4 =>
some x4)) (
some 0)) fun v2 =>
ob (EM n x3 v2 v1) fun(r0,r1) =>
gd (cG v0 ((l1.length:Int).toNat)) (
ob (l3[v0.toNat]?) fun x5 =>
some (.inl ((l3.set v0.toNat r0),r1,IntKind.wrap .i64 (v0+1)))))) (
some (.inr l3))
def Ar (n:Nat) (l1:List (Nat)) (l2:List (Nat)):Option (List Nat) :=
gd (decide (0≤(l1.length:Int))) (gd (lim ((l1.length:Int).toNat)) (
ob (
cT (nE n l1 l2) n ((List.replicate (l1.length:Int).toNat (0:Nat)),0,0)) fun l3 =>
some l3))
def nX (n:Nat) (l1:List (Nat)) (l6:List (Nat)):(List (Nat) × Nat × Int)→Option ((List (Nat) × Nat × Int) ⊕ (List (Nat) × Nat)):=fun(l37,v38,v39) =>
br (decide (0≤v39)) (
gd (cG v39 l1.length) (
ob (l1[v39.toNat]?) fun x67 =>
gd (cG 0 l6.length) (
ob (l6[(0:Int).toNat]?) fun x72 =>
ob (Dd n v38 x67 x72) fun(r75,r76) =>
gd (cG v39 ((l1.length:Int).toNat)) (
ob (l37[v39.toNat]?) fun x78 =>
some (.inl ((l37.set v39.toNat r75),r76,IntKind.wrap .i64 (v39-1))))))) (
some (.inr (l37,v38)))
def iJ (n:Nat) (l6:List (Nat)) (l3:List (Nat)):(List (Nat) × List (Nat) × Int)→Option ((List (Nat) × List (Nat) × Int) ⊕ (List (Nat) × List (Nat))):=fun(l1,l2,v0) =>
br (decide (0≤v0)) (
ob (
ob (Bv n l6 v0) fun l4 =>
ob (AX n l2 l4) fun r0 =>
br (decide (0≤r0)) (
ob (Ar n l2 l4) fun l5 =>
ob (kP n false l5) fun(r1,l7) =>
gd (cG (IntKind.wrap .i64 (Int.tdiv v0 64)) ((l3.length:Int).toNat)) (
ob (l1[(IntKind.wrap .i64 (Int.tdiv v0 64)).toNat]?) fun x3 =>
gd (decide (0≤Int.tmod v0 64)) (
ob (some (uw .u64 (uw .u64 x3 ||| uw .u64 (dN .u64 1 (Int.tmod v0 64).toNat)))) fun y2 =>
gd (cG (IntKind.wrap .i64 (Int.tdiv v0 64)) ((l3.length:Int).toNat)) (
some ((l1.set ((IntKind.wrap .i64 (Int.tdiv v0 64)).toNat) y2),l7))))) (
some (l1,l2))) fun(l8,l9) =>
some (.inl (l8,l9,IntKind.wrap .i64 (v0-1)))) (
some (.inr (l1,l2)))
def wG (n:Nat) (l1:List (Nat)) (l6:List (Nat)):Option (List Nat × List Nat) :=
gd (decide (0≤(l1.length:Int))) (gd (lim ((l1.length:Int).toNat)) (
br (decide ((l6.length:Int)=1)) (
ob (
cT (nX n l1 l6) n ((List.replicate (l1.length:Int).toNat (0:Nat)),0,IntKind.wrap .i64 ((l1.length:Int)-1))) fun(l2,v0) =>
ob (kP n false ([v0])) fun(r3,l3) =>
some (l2,l3)) (
ob (Aa n l1) fun r0 =>
ob (Aa n l6) fun r1 =>
ob (
cT (iJ n l6 l1) n ((List.replicate (l1.length:Int).toNat (0:Nat)),l1,IntKind.wrap .i64 (r0-r1))) fun(l4,l5) =>
some (l4,l5))))
def qa (n:Nat):(List (Nat) × List (Nat))→Option ((List (Nat) × List (Nat)) ⊕ (List (Nat))):=fun(l26,l29) =>
br (decide (0<(l29.length:Int))) (
ob (wG n l26 l29) fun(l53,l57) =>
some (.inl (l29,l57))) (
some (.inr l26))
def Ae (n:Nat) (x1:Bool) (l2:List (Nat)) (x7:Bool) (l8:List (Nat)):Option (Bool × List Nat) :=
ob (
cT (qa n) n (l2,l8)) fun l48 =>
some (false,l48)
def xQ (n:Nat) (x1:Bool) (l2:List (Nat)):Option (Bool × List Nat) :=
ob (kP n (!x1) l2) fun(r10,l11) =>
some (r10,l11)
def lT (n:Nat) (l1:List (Nat)) (l2:List (Nat)):(List (Nat) × Nat × Nat × Int)→Option ((List (Nat) × Nat × Nat × Int) ⊕ (List (Nat) × Nat × Nat)):=fun(l3,n1,v1,v0) =>
br (decide (v0<(l1.length:Int))) (
gd (cG v0 l1.length) (
ob (l1[v0.toNat]?) fun x3 =>
ob (
br (decide (v0<(l2.length:Int))) (
gd (cG v0 l2.length) (
ob (l2[v0.toNat]?) fun x4 =>
some x4)) (
some 0)) fun v2 =>
ob (AS n x3 v2 v1) fun(r0,r1) =>
gd (cG v0 n1) (
ob (l3[v0.toNat]?) fun x5 =>
some (.inl ((l3.set v0.toNat r0),n1,r1,IntKind.wrap .i64 (v0+1)))))) (
some (.inr (l3,n1,v1)))
def Bw (n:Nat) (l2:List (Nat)) (l3:List (Nat)):Option (List Nat) :=
ob (
br (decide ((l2.length:Int)<(l3.length:Int))) (
some (l3,l2)) (
some (l2,l3))) fun(l1,l5) =>
gd (decide (0≤IntKind.wrap .i64 ((l1.length:Int)+1))) (gd (lim ((IntKind.wrap .i64 ((l1.length:Int)+1)).toNat)) (
ob (
cT (lT n l1 l5) n ((List.replicate (IntKind.wrap .i64 ((l1.length:Int)+1)).toNat (0:Nat)),(IntKind.wrap .i64 ((l1.length:Int)+1)).toNat,0,0)) fun(l4,n1,v0) =>
gd (cG (l1.length:Int) n1) (
ob (l4[(l1.length:Int).toNat]?) fun x3 =>
some (l4.set ((l1.length:Int).toNat) v0))))
def vH (n:Nat) (x1:Bool) (l2:List (Nat)) (x7:Bool) (l8:List (Nat)):Option (Bool × List Nat) :=
br ((x1 == x7)) (
ob (Bw n l2 l8) fun l18 =>
ob (kP n x1 l18) fun(r22,l23) =>
some (r22,l23)) (
ob (
ob (AX n l2 l8) fun r39 =>
br (decide (r39<0)) (
some (x7,l8,x1,l2)) (
some (x1,l2,x7,l8))) fun(v30,l31,v34,l35) =>
ob (Ar n l31 l35) fun l44 =>
ob (kP n v30 l44) fun(r48,l49) =>
some (r48,l49))
def DC (n:Nat) (x1:Bool) (l2:List (Nat)) (x7:Bool) (l8:List (Nat)):Option (Bool × List Nat) :=
ob (xQ n x7 l8) fun(r17,l18) =>
ob (vH n x1 l2 r17 l18) fun(r23,l24) =>
some (r23,l24)
def AJ (n:Nat) (x1:Bool) (l2:List (Nat)) (x6:Bool) (l7:List (Nat)):Option (Int) :=
ob (DC n x1 l2 x6 l7) fun(r14,l15) =>
ob (DY n r14 l15) fun r20 =>
some r20
def Cr (n:Nat) (x1:Nat) (x2:Nat) (x3:Nat) (x4:Nat) (x5:Nat) (x6:Nat) (x7:Nat) (x8:Nat) (x9:Nat) (x10:Nat) (x11:Nat) (x12:Nat) (x13:Nat) (x14:Nat) (x15:Nat) (x16:Nat):Option (Int) :=
ob (Fm n 1) fun(r19,l20) =>
ob (BV n x1 x2 x3 x4 x5 x6 x7 x8 x9 x10 x11 x12 x13 x14 x15 x16) fun(r26,l27,r31,l32) =>
ob (
ob (DY n r31 l32) fun r76 =>
br (decide (r76≤0)) (
some true) (
ob (Ae n r26 l27 r31 l32) fun(r79,l80) =>
ob (AJ n r79 l80 r19 l20) fun r85 =>
some (!decide (r85=0)))) fun v74 =>
br (v74) (
some 20) (
some 0)
def zN (n:Nat) (x1:Nat) (x2:Nat) (x3:Nat) (x4:Nat) (x5:Nat) (x6:Nat) (x7:Nat) (x8:Nat) (x9:Nat) (x10:Nat) (x11:Nat) (x12:Nat) (x13:Nat) (x14:Nat) (x15:Nat) (x16:Nat):Option (Bool) :=
ob (Cr n x1 x2 x3 x4 x5 x6 x7 x8 x9 x10 x11 x12 x13 x14 x15 x16) fun r19 =>
br (!decide (r19=0)) (
some true) (
ob (BV n x1 x2 x3 x4 x5 x6 x7 x8 x9 x10 x11 x12 x13 x14 x15 x16) fun(r22,l23,r27,l28) =>
ob (DY n r22 l23) fun r33 =>
some (decide (r33<0)))
def Cb (n:Nat) (x1:Bool) (l2:List (Nat)):Option (Bool × List Nat × Bool × List Nat) :=
ob (Fm n 1) fun(r10,l11) =>
some (x1,l2,r10,l11)
def u7 (n:Nat) (x1:Int):Option (Bool × List Nat × Bool × List Nat) :=
ob (Fm n x1) fun(r4,l5) =>
ob (Cb n r4 l5) fun(r10,l11,r15,l16) =>
some (r10,l11,r15,l16)
def CY (n:Nat) (x1:Nat) (x2:Nat):Option (Nat × Nat) :=
ob (some (uw .u64 ((uw .u64 (uw .u64 x1 &&& uw .u64 4294967295))*(uw .u64 (uw .u64 x2 &&& uw .u64 4294967295))))) fun y3 =>
ob (some (uw .u64 ((cK .u64 x1 32)*(uw .u64 (uw .u64 x2 &&& uw .u64 4294967295))))) fun y5 =>
ob (some (uw .u64 (uw .u64 (uw .u64 (y5+(cK .u64 y3 32))) &&& uw .u64 4294967295))) fun y7 =>
ob (some (uw .u64 ((uw .u64 (uw .u64 x1 &&& uw .u64 4294967295))*(cK .u64 x2 32)))) fun y9 =>
ob (some (uw .u64 ((uw .u64 ((cK .u64 x1 32)*(cK .u64 x2 32)))+(cK .u64 (uw .u64 (y5+(cK .u64 y3 32))) 32)))) fun y11 =>
some (uw .u64 (y11+(cK .u64 (uw .u64 (y7+y9)) 32)),uw .u64 (x1*x2))
def nz (n:Nat) (l1:List (Nat)) (x3:Nat) (v1:Int) (n1:Nat):(List (Nat) × Nat × Int)→Option ((List (Nat) × Nat × Int) ⊕ (List (Nat) × Nat)):=fun(l2,v2,v0) =>
br (decide (v0<(l1.length:Int))) (
gd (cG v0 l1.length) (
ob (l1[v0.toNat]?) fun x4 =>
ob (CY n x3 x4) fun(r0,r1) =>
gd (cG (IntKind.wrap .i64 (v1+v0)) n1) (
ob (l2[(IntKind.wrap .i64 (v1+v0)).toNat]?) fun x5 =>
ob (AS n x5 r1 0) fun(r3,r4) =>
ob (AS n r3 v2 0) fun(r5,r6) =>
gd (cG (IntKind.wrap .i64 (v1+v0)) n1) (
some (.inl ((l2.set ((IntKind.wrap .i64 (v1+v0)).toNat) r5),uw .u64 ((uw .u64 (r0+r4))+r6),IntKind.wrap .i64 (v0+1))))))) (
some (.inr (l2,v2)))
def nU (n:Nat) (l2:List (Nat)) (l1:List (Nat)):(List (Nat) × Nat × Int)→Option ((List (Nat) × Nat × Int) ⊕ (List (Nat) × Nat)):=fun(l3,n1,v0) =>
br (decide (v0<(l2.length:Int))) (
gd (cG v0 l2.length) (
ob (l2[v0.toNat]?) fun x3 =>
ob (
cT (nz n l1 x3 v0 n1) n (l3,0,0)) fun(l4,v1) =>
gd (cG (IntKind.wrap .i64 (v0+(l1.length:Int))) n1) (
ob (l4[(IntKind.wrap .i64 (v0+(l1.length:Int))).toNat]?) fun x4 =>
some (.inl ((l4.set ((IntKind.wrap .i64 (v0+(l1.length:Int))).toNat) v1),n1,IntKind.wrap .i64 (v0+1)))))) (
some (.inr (l3,n1)))
def CA (n:Nat) (l1:List (Nat)) (l2:List (Nat)):Option (List Nat) :=
gd (decide (0≤IntKind.wrap .i64 ((l1.length:Int)+(l2.length:Int)))) (gd (lim ((IntKind.wrap .i64 ((l1.length:Int)+(l2.length:Int))).toNat)) (
ob (
cT (nU n l1 l2) n ((List.replicate (IntKind.wrap .i64 ((l1.length:Int)+(l2.length:Int))).toNat (0:Nat)),(IntKind.wrap .i64 ((l1.length:Int)+(l2.length:Int))).toNat,0)) fun(l3,n1) =>
some l3))
def Ei (n:Nat) (x1:Bool) (l2:List (Nat)) (x7:Bool) (l8:List (Nat)):Option (Bool × List Nat) :=
ob (CA n l2 l8) fun l17 =>
ob (kP n (!(x1 == x7)) l17) fun(r21,l22) =>
some (r21,l22)
def Ay (n:Nat) (x1:Bool) (l2:List (Nat)) (x7:Bool) (l8:List (Nat)):Option (Bool × List Nat × Bool × List Nat) :=
ob (wG n l2 l8) fun(l18,l22) =>
ob (kP n (!(x1 == x7)) l18) fun(r27,l28) =>
ob (kP n x1 l22) fun(r33,l34) =>
ob (
br (r33) (
ob (vH n r33 l34 false l8) fun(r65,l66) =>
ob (vH n r27 l28 (!x7) ([1])) fun(r73,l74) =>
some (r73,l74,r65,l66)) (
some (r27,l28,r33,l34))) fun(v54,l55,v58,l59) =>
some (v54,l55,v58,l59)
def Ag (n:Nat) (x1:Bool) (l2:List (Nat)) (x7:Bool) (l8:List (Nat)):Option (Bool × List Nat × Bool × List Nat) :=
ob (Ae n x1 l2 x7 l8) fun(r17,l18) =>
ob (Ay n x1 l2 r17 l18) fun(r24,l25,r29,l30) =>
ob (Ay n x7 l8 r17 l18) fun(r37,l38,r42,l43) =>
ob (
br (r37) (
ob (xQ n r24 l25) fun(r72,l73) =>
ob (xQ n r37 l38) fun(r78,l79) =>
some (r72,l73,r78,l79)) (
some (r24,l25,r37,l38))) fun(v62,l63,v66,l67) =>
some (v62,l63,v66,l67)
def C5 (n:Nat) (x1:Bool) (l2:List (Nat)) (x7:Bool) (l8:List (Nat)) (x13:Bool) (l14:List (Nat)) (x19:Bool) (l20:List (Nat)):Option (Bool × List Nat × Bool × List Nat) :=
ob (Ei n x1 l2 x19 l20) fun(r29,l30) =>
ob (Ei n x13 l14 x7 l8) fun(r35,l36) =>
ob (vH n r29 l30 r35 l36) fun(r41,l42) =>
ob (Ei n x7 l8 x19 l20) fun(r47,l48) =>
ob (Ag n r41 l42 r47 l48) fun(r53,l54,r58,l59) =>
some (r53,l54,r58,l59)
def FC (n:Nat) (x1:Bool) (l2:List (Nat)) (x6:Bool) (l7:List (Nat)) (x11:Bool) (l12:List (Nat)) (x16:Bool) (l17:List (Nat)):Option (Int) :=
ob (Ei n x1 l2 x16 l17) fun(r24,l25) =>
ob (Ei n x11 l12 x6 l7) fun(r30,l31) =>
ob (AJ n r24 l25 r30 l31) fun r36 =>
some r36
def qi (n:Nat) (l1:List (Nat × Nat × Nat × Nat × Nat × Nat × Nat × Nat × Nat × Nat × Nat × Nat × Nat × Nat × Nat × Nat)):Int→Option ((Int) ⊕ ((Int) ⊕ (Unit))):=fun v0 =>
br (decide (v0<(l1.length:Int))) (
gd (cG v0 l1.length) (
ob (l1[v0.toNat]?) fun(x3,x4,x5,x6,x7,x8,x9,x10,x11,x12,x13,x14,x15,x16,x17,x18) =>
ob (zN n x3 x4 x5 x6 x7 x8 x9 x10 x11 x12 x13 x14 x15 x16 x17 x18) fun r0 =>
br (r0) (
some (.inr (.inl v0))) (
some (.inl (IntKind.wrap .i64 (v0+1)))))) (
some (.inr (.inr ())))
def nD (n:Nat) (l1:List (Nat × Nat × Nat × Nat × Nat × Nat × Nat × Nat × Nat × Nat × Nat × Nat × Nat × Nat × Nat × Nat)):(Bool × List (Nat) × Bool × List (Nat) × Int)→Option ((Bool × List (Nat) × Bool × List (Nat) × Int) ⊕ (Bool × List (Nat) × Bool × List (Nat))):=fun(v1,l2,v2,l3,v0) =>
br (decide (v0<(l1.length:Int))) (
gd (cG v0 l1.length) (
ob (l1[v0.toNat]?) fun(x3,x4,x5,x6,x7,x8,x9,x10,x11,x12,x13,x14,x15,x16,x17,x18) =>
ob (BV n x3 x4 x5 x6 x7 x8 x9 x10 x11 x12 x13 x14 x15 x16 x17 x18) fun(r0,l4,r1,l5) =>
ob (C5 n v1 l2 v2 l3 r0 l4 r1 l5) fun(r3,l7,r4,l8) =>
some (.inl (r3,l7,r4,l8,IntKind.wrap .i64 (v0+1))))) (
some (.inr (v1,l2,v2,l3)))
def Bp (n:Nat) (l1:List (Nat × Nat × Nat × Nat × Nat × Nat × Nat × Nat × Nat × Nat × Nat × Nat × Nat × Nat × Nat × Nat)):Option (Bool) :=
ob (
ob (α:=Int) (
ob (α:=(Int) ⊕ (Unit)) (
cT (qi n l1) n 0) fun r0=>match r0 with
| .inl v0 =>
some v0
| .inr _ =>
some (-1)) fun v1 =>
some (decide (0≤v1))) fun v2 =>
br (v2) (
some false) (
ob (
ob (u7 n 0) fun(r1,l2,r3,l3) =>
ob (
cT (nD n l1) n (r1,l2,r3,l3,0)) fun(v3,l4,v4,l5) =>
some (v3,l4,v4,l5)) fun(v5,l7,v6,l8) =>
ob (u7 n 1) fun(r4,l9,r5,l10) =>
ob (FC n v5 l7 v6 l8 r4 l9 r5 l10) fun r6 =>
some (decide (r6=0)))
def vR (n:Nat) (l1:List (List (Nat × Nat × Nat × Nat × Nat × Nat × Nat × Nat × Nat × Nat × Nat × Nat × Nat × Nat × Nat × Nat))):Int→Option ((Int) ⊕ ((Unit) ⊕ (Unit))):=fun v21 =>
br (decide (v21<(l1.length:Int))) (
gd (cG v21 l1.length) (
ob (l1[v21.toNat]?) fun l79 =>
ob (
br (!decide ((l79.length:Int)=(l1.length:Int))) (
some true) (
ob (Bp n l79) fun r89 =>
some (!r89))) fun v86 =>
br (v86) (
some (.inr (.inl ()))) (
some (.inl (IntKind.wrap .i64 (v21+1)))))) (
some (.inr (.inr ())))
def I2 (n:Nat) (l1:List (List (Nat × Nat × Nat × Nat × Nat × Nat × Nat × Nat × Nat × Nat × Nat × Nat × Nat × Nat × Nat × Nat))):Option (Int) :=
ob (
br (decide ((l1.length:Int)<1)) (
some true) (
some (decide (60<(l1.length:Int))))) fun v15 =>
br (v15) (
some 330) (
ob (α:=(Unit) ⊕ (Unit)) (
cT (vR n l1) n 0) fun r94=>match r94 with
| .inl _ =>
some 330
| .inr _ =>
some 0)
def rq (n:Nat) (l2:List (Nat × Nat × Nat × Nat × Nat × Nat × Nat × Nat × Nat × Nat × Nat × Nat × Nat × Nat × Nat × Nat)) (v1:Int) (l3:List (List (Nat × Nat × Nat × Nat × Nat × Nat × Nat × Nat × Nat × Nat × Nat × Nat × Nat × Nat × Nat × Nat))):(List (Nat) × Int)→Option ((List (Nat) × Int) ⊕ (List (Nat))):=fun(l1,v0) =>
br (decide (v0<(l2.length:Int))) (
ob (
gd (cG v0 l2.length) (
ob (l2[v0.toNat]?) fun(x3,x4,x5,x6,x7,x8,x9,x10,x11,x12,x13,x14,x15,x16,x17,x18) =>
ob (BV n x3 x4 x5 x6 x7 x8 x9 x10 x11 x12 x13 x14 x15 x16 x17 x18) fun(r0,l4,r3,l7) =>
ob (DY n r0 l4) fun r1 =>
br (decide (0<r1)) (
gd (cG v1 ((l3.length:Int).toNat)) (
ob (l1[v1.toNat]?) fun x19 =>
gd (decide (0≤v0)) (
gd (cG v1 ((l3.length:Int).toNat)) (
some (l1.set v1.toNat (uw .u64 (uw .u64 x19 ||| uw .u64 (dN .u64 1 v0.toNat)))))))) (
some l1))) fun l5 =>
some (.inl (l5,IntKind.wrap .i64 (v0+1)))) (
some (.inr l1))
def rr (n:Nat) (l1:List (List (Nat × Nat × Nat × Nat × Nat × Nat × Nat × Nat × Nat × Nat × Nat × Nat × Nat × Nat × Nat × Nat))):(List (Nat) × Int)→Option ((List (Nat) × Int) ⊕ (List (Nat))):=fun(l2,v0) =>
br (decide (v0<(l1.length:Int))) (
gd (cG v0 l1.length) (
ob (l1[v0.toNat]?) fun l3 =>
gd (decide (0≤v0)) (
gd (cG v0 ((l1.length:Int).toNat)) (
ob (l2[v0.toNat]?) fun x3 =>
ob (
cT (rq n l3 v0 l1) n ((l2.set v0.toNat (dN .u64 1 v0.toNat)),0)) fun l4 =>
some (.inl (l4,IntKind.wrap .i64 (v0+1))))))) (
some (.inr l2))
def pV (n:Nat) (l1:List (List (Nat × Nat × Nat × Nat × Nat × Nat × Nat × Nat × Nat × Nat × Nat × Nat × Nat × Nat × Nat × Nat))) (v1:Int):(List (Nat) × Int)→Option ((List (Nat) × Int) ⊕ (List (Nat))):=fun(l2,v0) =>
br (decide (v0<(l1.length:Int))) (
ob (
gd (cG v0 ((l1.length:Int).toNat)) (
ob (l2[v0.toNat]?) fun x3 =>
gd (decide (0≤v1)) (
br (decide (uw .u64 (uw .u64 (cK .u64 x3 v1.toNat) &&& uw .u64 1)=1)) (
gd (cG v0 ((l1.length:Int).toNat)) (
gd (cG v1 ((l1.length:Int).toNat)) (
ob (l2[v1.toNat]?) fun x4 =>
gd (cG v0 ((l1.length:Int).toNat)) (
some (l2.set v0.toNat (uw .u64 (uw .u64 x3 ||| uw .u64 x4))))))) (
some l2)))) fun l3 =>
some (.inl (l3,IntKind.wrap .i64 (v0+1)))) (
some (.inr l2))
def rQ (n:Nat) (l1:List (List (Nat × Nat × Nat × Nat × Nat × Nat × Nat × Nat × Nat × Nat × Nat × Nat × Nat × Nat × Nat × Nat))):(List (Nat) × Int)→Option ((List (Nat) × Int) ⊕ (List (Nat))):=fun(l2,v0) =>
br (decide (v0<(l1.length:Int))) (
ob (
cT (pV n l1 v0) n (l2,0)) fun l3 =>
some (.inl (l3,IntKind.wrap .i64 (v0+1)))) (
some (.inr l2))
def pK (n:Nat) (v0:Int) (l2:List (List (Nat × Nat × Nat × Nat × Nat × Nat × Nat × Nat × Nat × Nat × Nat × Nat × Nat × Nat × Nat × Nat))) (l3:List (Nat)):(List (Int) × Int)→Option ((List (Int) × Int) ⊕ (List (Int))):=fun(l1,v1) =>
br (decide (v1<v0)) (
ob (
ob (
gd (cG v0 ((l2.length:Int).toNat)) (
ob (l3[v0.toNat]?) fun x3 =>
gd (decide (0≤v1)) (
br (decide (uw .u64 (uw .u64 (cK .u64 x3 v1.toNat) &&& uw .u64 1)=1)) (
gd (cG v1 ((l2.length:Int).toNat)) (
ob (l3[v1.toNat]?) fun x4 =>
gd (decide (0≤v0)) (
some (decide (uw .u64 (uw .u64 (cK .u64 x4 v0.toNat) &&& uw .u64 1)=1))))) (
some false)))) fun v2 =>
br (v2) (
gd (cG v1 ((l2.length:Int).toNat)) (
ob (l1[v1.toNat]?) fun x5 =>
gd (cG v0 ((l2.length:Int).toNat)) (
ob (l1[v0.toNat]?) fun x6 =>
some (l1.set v0.toNat x5)))) (
some l1)) fun l4 =>
some (.inl (l4,IntKind.wrap .i64 (v1+1)))) (
some (.inr l1))
def oB (n:Nat) (l1:List (List (Nat × Nat × Nat × Nat × Nat × Nat × Nat × Nat × Nat × Nat × Nat × Nat × Nat × Nat × Nat × Nat))) (l4:List (Nat)):(List (Int) × Int × Int)→Option ((List (Int) × Int × Int) ⊕ (List (Int))):=fun(l2,v1,v0) =>
br (decide (v0<(l1.length:Int))) (
ob (
gd (cG v0 ((l1.length:Int).toNat)) (
ob (l2[v0.toNat]?) fun x4 =>
ob (
cT (pK n v0 l1 l4) n ((l2.set v0.toNat v1),0)) fun l3 =>
gd (cG v0 ((l1.length:Int).toNat)) (
ob (l3[v0.toNat]?) fun x3 =>
br (decide (x3=v1)) (
some (l3,IntKind.wrap .i64 (v1+1))) (
some (l3,v1))))) fun(l5,v2) =>
some (.inl (l5,v2,IntKind.wrap .i64 (v0+1)))) (
some (.inr l2))
def Jb (n:Nat) (l1:List (List (Nat × Nat × Nat × Nat × Nat × Nat × Nat × Nat × Nat × Nat × Nat × Nat × Nat × Nat × Nat × Nat))):Option (List Int × Int) :=
ob (I2 n l1) fun r0 =>
br (!decide (r0=0)) (
some ([],r0)) (
gd (decide (0≤(l1.length:Int))) (gd (lim ((l1.length:Int).toNat)) (
ob (
cT (rr n l1) n ((List.replicate (l1.length:Int).toNat (0:Nat)),0)) fun l2 =>
ob (
cT (rQ n l1) n (l2,0)) fun l3 =>
gd (decide (0≤(l1.length:Int))) (gd (lim ((l1.length:Int).toNat)) (
ob (
cT (oB n l1 l3) n ((List.replicate (l1.length:Int).toNat (0:Int)),0,0)) fun l4 =>
some (l4,0))))))
def A9 (n:Nat):(List (Nat) × List (Nat) × Int)→Option ((List (Nat) × List (Nat) × Int) ⊕ ((Int) ⊕ (Unit))):=fun(l32,l33,v34) =>
br (decide (0≤v34)) (
gd (cG v34 8) (
ob (l32[v34.toNat]?) fun x52 =>
gd (cG v34 8) (
ob (l33[v34.toNat]?) fun x55 =>
br (!decide (x52=x55)) (
gd (cG v34 8) (
gd (cG v34 8) (
br (decide (x52<x55)) (
some (.inr (.inl (-1)))) (
some (.inr (.inl 1)))))) (
some (.inl (l32,l33,IntKind.wrap .i64 (v34-1))))))) (
some (.inr (.inr ())))
def Hw (n:Nat) (x1:Nat) (x2:Nat) (x3:Nat) (x4:Nat) (x5:Nat) (x6:Nat) (x7:Nat) (x8:Nat) (x9:Nat) (x10:Nat) (x11:Nat) (x12:Nat) (x13:Nat) (x14:Nat) (x15:Nat) (x16:Nat):Option (Int) :=
ob (α:=(Int) ⊕ (Unit)) (
cT (A9 n) n (([x1,x2,x3,x4,x5,x6,x7,x8]:List (Nat)),([x9,x10,x11,x12,x13,x14,x15,x16]:List (Nat)),7)) fun r62=>match r62 with
| .inl v49 =>
some v49
| .inr _ =>
some 0
def Hm (n:Nat) (x1:Bool) (x2:Nat) (x3:Nat) (x4:Nat) (x5:Nat) (x6:Nat) (x7:Nat) (x8:Nat) (x9:Nat):Option (Nat × Nat × Nat × Nat × Nat × Nat × Nat × Nat × Int) :=
ob (Hw n x2 x3 x4 x5 x6 x7 x8 x9 0 0 0 0 0 0 0 9223372036854775808) fun r24 =>
ob (
br (decide (0<r24)) (
some true) (
br (decide (r24=0)) (
some (!x1)) (
some false))) fun v27 =>
br (v27) (
some (0,0,0,0,0,0,0,0,6)) (
ob (
br (x1) (
ob (EC n 0 0 0 0 0 0 0 0 x2 x3 x4 x5 x6 x7 x8 x9) fun(r54,r55,r56,r57,r58,r59,r60,r61,r62) =>
some (r54,r55,r56,r57,r58,r59,r60,r61)) (
some (x2,x3,x4,x5,x6,x7,x8,x9))) fun(v44,v45,v46,v47,v48,v49,v50,v51) =>
some (v44,v45,v46,v47,v48,v49,v50,v51,0))
def Kc (n:Nat) (x1:Bool) (l2:List (Nat)):Option (Nat × Nat × Nat × Nat × Nat × Nat × Nat × Nat × Int) :=
br (decide (8<(l2.length:Int))) (
some (0,0,0,0,0,0,0,0,6)) (
gd (decide ((l2:List (Nat)).length≤8)) (
ob (IC ((l2:List (Nat))++([0,0,0,0,0,0,0,0]:List (Nat)).drop (l2:List (Nat)).length)) fun(x12,x13,x14,x15,x16,x17,x18,x19) =>
ob (Hm n x1 x12 x13 x14 x15 x16 x17 x18 x19) fun(r21,r22,r23,r24,r25,r26,r27,r28,r29) =>
some (r21,r22,r23,r24,r25,r26,r27,r28,r29)))
def HJ (n:Nat) (x1:Bool) (l2:List (Nat)) (x6:Bool) (l7:List (Nat)):Option (Nat × Nat × Nat × Nat × Nat × Nat × Nat × Nat × Nat × Nat × Nat × Nat × Nat × Nat × Nat × Nat × Int) :=
ob (Kc n x1 l2) fun(r14,r15,r16,r17,r18,r19,r20,r21,r22) =>
ob (Kc n x6 l7) fun(r25,r26,r27,r28,r29,r30,r31,r32,r33) =>
ob (
br (!decide (r22=0)) (
some true) (
some (!decide (r33=0)))) fun v42 =>
br (v42) (
some (0,0,0,0,0,0,0,0,0,0,0,0,0,0,0,0,6)) (
some (r14,r15,r16,r17,r18,r19,r20,r21,r25,r26,r27,r28,r29,r30,r31,r32,0))
def HS (n:Nat) (x1:Nat) (x2:Nat) (x3:Nat) (x4:Nat) (x5:Nat) (x6:Nat) (x7:Nat) (x8:Nat) (x9:Nat) (x10:Nat) (x11:Nat) (x12:Nat) (x13:Nat) (x14:Nat) (x15:Nat) (x16:Nat):Option (Nat × Nat × Nat × Nat × Nat × Nat × Nat × Nat × Nat × Nat × Nat × Nat × Nat × Nat × Nat × Nat × Int) :=
br ((decide (x9=0) && decide (x10=0) && decide (x11=0) && decide (x12=0) && decide (x13=0) && decide (x14=0) && decide (x15=0) && decide (x16=0))) (
some (0,0,0,0,0,0,0,0,0,0,0,0,0,0,0,0,7)) (
ob (Ef n x1 x2 x3 x4 x5 x6 x7 x8) fun(r22,l23) =>
ob (Ef n x9 x10 x11 x12 x13 x14 x15 x16) fun(r28,l29) =>
ob (Ag n r22 l23 r28 l29) fun(r34,l35,r39,l40) =>
ob (HJ n r34 l35 r39 l40) fun(r45,r46,r47,r48,r49,r50,r51,r52,r53,r54,r55,r56,r57,r58,r59,r60,r61) =>
some (r45,r46,r47,r48,r49,r50,r51,r52,r53,r54,r55,r56,r57,r58,r59,r60,r61))
def KB (n:Nat) (x1:Int) (x2:Int):Option (Nat × Nat × Nat × Nat × Nat × Nat × Nat × Nat × Nat × Nat × Nat × Nat × Nat × Nat × Nat × Nat × Int) :=
ob (Jo n x1) fun(r5,r6,r7,r8,r9,r10,r11,r12) =>
ob (Jo n x2) fun(r14,r15,r16,r17,r18,r19,r20,r21) =>
ob (HS n r5 r6 r7 r8 r9 r10 r11 r12 r14 r15 r16 r17 r18 r19 r20 r21) fun(r23,r24,r25,r26,r27,r28,r29,r30,r31,r32,r33,r34,r35,r36,r37,r38,r39) =>
some (r23,r24,r25,r26,r27,r28,r29,r30,r31,r32,r33,r34,r35,r36,r37,r38,r39)
def IE (n:Nat) (x1:Int) (x2:Int):Option (Nat × Nat × Nat × Nat × Nat × Nat × Nat × Nat × Nat × Nat × Nat × Nat × Nat × Nat × Nat × Nat) :=
ob (KB n x1 x2) fun(r5,r6,r7,r8,r9,r10,r11,r12,r13,r14,r15,r16,r17,r18,r19,r20,r21) =>
some (r5,r6,r7,r8,r9,r10,r11,r12,r13,r14,r15,r16,r17,r18,r19,r20)
def oP (n:Nat) (l2:List (List (Nat × Nat × Nat × Nat × Nat × Nat × Nat × Nat × Nat × Nat × Nat × Nat × Nat × Nat × Nat × Nat))) (v1:Int):(List (Int × Bool) × Int)→Option ((List (Int × Bool) × Int) ⊕ (List (Int × Bool))):=fun(l1,v0) =>
br (decide (v0<(l2.length:Int))) (
ob (
ob (
ob (some ((iI l1 v1).getD false)) fun y2 =>
br (y2) (
gd (cG v1 l2.length) (
ob (l2[v1.toNat]?) fun l3 =>
gd (cG v0 l3.length) (
ob (l3[v0.toNat]?) fun(x3,x4,x5,x6,x7,x8,x9,x10,x11,x12,x13,x14,x15,x16,x17,x18) =>
ob (IE n 0 1) fun(r0,r1,r3,r4,r5,r6,r7,r8,r9,r10,r11,r12,r13,r14,r15,r16) =>
some (!(decide (x3=r0) && decide (x4=r1) && decide (x5=r3) && decide (x6=r4) && decide (x7=r5) && decide (x8=r6) && decide (x9=r7) && decide (x10=r8) && decide (x11=r9) && decide (x12=r10) && decide (x13=r11) && decide (x14=r12) && decide (x15=r13) && decide (x16=r14) && decide (x17=r15) && decide (x18=r16)))))) (
some false)) fun v2 =>
br (v2) (
some (iZ l1 v0 true)) (
some l1)) fun l4 =>
some (.inl (l4,IntKind.wrap .i64 (v0+1)))) (
some (.inr l1))
def rP (n:Nat) (l1:List (List (Nat × Nat × Nat × Nat × Nat × Nat × Nat × Nat × Nat × Nat × Nat × Nat × Nat × Nat × Nat × Nat))):(List (Int × Bool) × Int)→Option ((List (Int × Bool) × Int) ⊕ (List (Int × Bool))):=fun(l2,v0) =>
br (decide (v0<(l1.length:Int))) (
ob (
cT (oP n l1 v0) n (l2,0)) fun l3 =>
some (.inl (l3,IntKind.wrap .i64 (v0+1)))) (
some (.inr l2))
def se (n:Nat) (l1:List (List (Nat × Nat × Nat × Nat × Nat × Nat × Nat × Nat × Nat × Nat × Nat × Nat × Nat × Nat × Nat × Nat))):(List (Int × Bool) × Int)→Option ((List (Int × Bool) × Int) ⊕ (List (Int × Bool))):=fun(l2,v0) =>
br (decide (v0<(l1.length:Int))) (
ob (
cT (rP n l1) n (l2,0)) fun l3 =>
some (.inl (l3,IntKind.wrap .i64 (v0+1)))) (
some (.inr l2))
def IF (n:Nat) (l1:List (List (Nat × Nat × Nat × Nat × Nat × Nat × Nat × Nat × Nat × Nat × Nat × Nat × Nat × Nat × Nat × Nat))) (x3:Int) (x4:Int):Option (Bool) :=
ob (
cT (se n l1) n ((iZ ([]:List (Int × Bool)) x3 true),0)) fun l2 =>
ob (some ((iI l2 x4).getD false)) fun y2 =>
some y2
def Aw (n:Nat) (l1:List Int) (v1:Int) (l2:List (List (Nat × Nat × Nat × Nat × Nat × Nat × Nat × Nat × Nat × Nat × Nat × Nat × Nat × Nat × Nat × Nat))) (x3:Int):Int→Option ((Int) ⊕ ((Unit) ⊕ (Unit))):=fun v0 =>
br (decide (v0<(l1.length:Int))) (
ob (
gd (cG v1 l1.length) (
gd (cG v0 l1.length) (
ob (l1[v0.toNat]?) fun x4 =>
ob (IF n l2 v1 v0) fun r0 =>
br (r0) (
ob (IF n l2 v0 v1) fun r1 =>
some (!((decide (x3=x4)) == r1))) (
some (!((decide (x3=x4)) == false)))))) fun v2 =>
br (v2) (
some (.inr (.inl ()))) (
some (.inl (IntKind.wrap .i64 (v0+1))))) (
some (.inr (.inr ())))
def zS (n:Nat) (l1:List Int) (l2:List (List (Nat × Nat × Nat × Nat × Nat × Nat × Nat × Nat × Nat × Nat × Nat × Nat × Nat × Nat × Nat × Nat))):(Int × Int)→Option ((Int × Int) ⊕ ((Unit) ⊕ (Unit))):=fun(v1,v0) =>
br (decide (v0<(l1.length:Int))) (
ob (
gd (cG v0 l1.length) (
ob (l1[v0.toNat]?) fun x3 =>
br (decide (x3<0)) (
some true) (
gd (cG v0 l1.length) (
some (decide (IntKind.wrap .i64 (v1+1)<x3)))))) fun v2 =>
br (v2) (
some (.inr (.inl ()))) (
gd (cG v0 l1.length) (
ob (l1[v0.toNat]?) fun x4 =>
ob (α:=(Unit) ⊕ (Unit)) (
cT (Aw n l1 v0 l2 x4) n 0) fun r0=>match r0 with
| .inl _ =>
some (.inr (.inl ()))
| .inr _ =>
some (.inl (ma v1 x4,IntKind.wrap .i64 (v0+1)))))) (
some (.inr (.inr ())))
def F4 (n:Nat) (x1:Nat) (l3:List (Nat)):Option (Bool) :=
ob (KI n) fun r0 =>
br (!r0) (
some false) (
ob (Ji n x1 l3) fun l2 =>
ob (Jb n l2) fun(l1,r1) =>
ob (
br (!decide (r1=0)) (
some true) (
br (!decide ((l1.length:Int)=(l2.length:Int))) (
some true) (
gd (cG 0 l1.length) (
ob (l1[(0:Int).toNat]?) fun x3 =>
some (!decide (x3=0)))))) fun v0 =>
br (v0) (
some false) (
ob (α:=(Unit) ⊕ (Unit)) (
cT (zS n l1 l2) n (0,0)) fun r3=>match r3 with
| .inl _ =>
some false
| .inr _ =>
some true))
end Go.Proofs.YtpkadoocdgdcfaaGreatDoor
end

section
namespace Go.Ab.W
open Go Go.Ab
section
variable {P : Program} {ty : TypeId}
end
section
variable {E : Env} {m0 : AMem} {fs : Fs} {ps : List Pc} {x : Operand} {ty : TypeId}
end
end Go.Ab.W
end

section
namespace Go.Ab.W
open Go Go.Ab
set_option maxRecDepth 10000
attribute [local irreducible] Tm.at Trie.set Trie.get AMem.get AMem.set AMem.alloc AMem.ww
section
variable {E : Env} {n : Nat} {m0 : AMem} {fs : Fs} {ps : List Pc} {x y z : Operand} {v : Value} {ty ty2 : TypeId}
end
end Go.Ab.W
end
