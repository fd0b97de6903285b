/- A part of the proof. -/
import Derived.Test.YtpkadoocdgdcfaaGreatDoorKf3
import Derived.Maps.RangeRun
import Derived.Laws.BytesString
set_option linter.all false
abbrev R7:=Nat×Nat×Nat×Nat×Nat×Nat×Nat×Nat×Nat×Nat×Nat×Nat×Nat×Nat×Nat×Nat
abbrev R8:=Nat×Nat×Nat×Nat×Nat×Nat×Nat×Nat
abbrev R9:=Bool×RR Nat×Bool×RR Nat
namespace Go.Ab
open Go
open Go.ChangeMaps (setBlock)
section
variable{E:Env}{n:Nat}{fn:R2}{ro:RI Nat}
def dg(E:Env)(n:Nat)(fn:R2)(ro:RI Nat)(c:Code)(Q:RO->Tm->RN->Prop)(t:Tm)(m:RN):Prop :=
 ∀(j:aT) (w:QT) (a:Act) (F:Fence) (N:Nat),MR E j m w->TR n j t a.tmps->kf j ro F->Marks N w a.defers->N<=w.heap.size ->
  c.wpIn F 0 E.P (fun e' a' w'=>∃e t' m',Q e t' m'/\kG E j m w N n e t' m' e' a' w') a w
variable{Q Q':RO->Tm->RN->Prop}{t:Tm}{m:RN}{c x y:Code}
def dg.of(hE:EnvOk E)(h:bK E n fn ro c Q t m):dg E n fn ro c Q t m:=fun j w a F N hm ht hro hd hN=>by
 obtain⟨e,t',m',⟨k,hk⟩,q⟩:=h;obtain⟨e0,t0,m0,hr,H⟩:=kh hE k _ _ hk;cases hr;exact wpIn_mono (H j w a F N hm ht hro hd hN) fun e' a' w' hq=>⟨e,t',m',q,hq⟩
def dg.mono(h:dg E n fn ro c Q t m)(hq:∀e t m,Q e t m->Q' e t m):dg E n fn ro c Q' t m:=fun j w a F N hm ht hro hd hN =>
 wpIn_mono (h j w a F N hm ht hro hd hN) fun e' a' w' ⟨e,t',m',q,hc⟩=>⟨e,t',m',hq _ _ _ q,hc⟩
def dg.DC(h:dg E n fn ro x (kR (dg E n fn ro y Q) Q) t m):dg E n fn ro (.seq x y) Q t m:=fun j w a F N hm ht hro hd hN=>by
 refine wpIn_seq (wpIn_mono (h j w a F N hm ht hro hd hN) ?_);rintro e' a' w' ⟨e,t',m',q,hc⟩;obtain⟨rfl,j',s,ht',hd'⟩:=hc;cases e with
 | normal=>exact wpIn_mono (q j' w' a' F N s.mr ht' (hro.mono s.le) hd' (O3 hN s.size)) fun _ _ _ ⟨e2,t2,m2,q2,c2⟩=>⟨e2,t2,m2,q2,c2.from hm s⟩
 | exit id=>exact⟨.exit id,t',m',q,rfl,j',s,ht',hd'⟩
 | ret=>exact⟨.ret,t',m',q,rfl,j',s,ht',hd'⟩
def dg.seq(hE:EnvOk E)(h:bK E n fn ro x (kR (dg E n fn ro y Q) Q) t m):dg E n fn ro (.seq x y) Q t m:=.DC (.of hE h)
def GQ{j:aT}{m:RN}{w:QT}(h:MR E j m w){r:Nat}(hr:∀b k,j b=some k->(m.get b).isSome=true->k.c≠r){w1:QT}(hw:w1=w\/w1=w.drew)(hE:¬E.mono){o o':Obj}(ho:w.heap[r]? = some o):MR E j m (setBlock w1 r o')/\w.heap.size=(setBlock w1 r o').heap.size/\(∀c,c≠r->(setBlock w1 r o').heap[c]? = w.heap[c]?)/\iH E w (setBlock w1 r o'):=by
 have hh:w1.heap=w.heap:=by rcases hw with rfl|rfl<;>rfl
 have hs:w.heap.size=(setBlock w1 r o').heap.size:=by simp[setBlock,hh]
 have hg:∀c,c≠r->(setBlock w1 r o').heap[c]? = w.heap[c]?:=fun c hc=>by
  show(w1.heap.setIfInBounds r o')[c]? = _
  rw[hh,P5 (Ne.symm hc)]
 refine⟨⟨fun b k e=>⟨(h.lt b k e).1,hs ▸(h.lt b k e).2⟩,fun b o k hgt e=>?_,h.inj,h.glob⟩,hs,hg,?_⟩
 obtain⟨o1,h1,h2⟩:=h.obj b o k hgt e;exact⟨o1,by rw[hg _ (hr b k e (by rw[hgt]; rfl))]; exact h1,h2⟩
 rcases hw with rfl|rfl<;>exact⟨rfl,rfl,rfl,fun e=>O6 e hE⟩
def xS{j:aT}{m:RN}{w:QT}(h:MR E j m w){r:Nat}{a:RI Nat}{b0:Nat}{s:RU Nat}{d:Nat}(hr:w.heap[r]? = some (.mapIter a b0 s d)):∀b k,j b=some k->(m.get b).isSome=true->k.c≠r:=by
 intro b k hb hl he;cases hg:m.get b with
 | none=>rw[hg] at hl; cases hl
 | some o =>
  obtain⟨o',h1,h2⟩:=h.obj b o k hg hb;rw[he,hr] at h1;cases h1;cases o<;>exact h2.elim
def tl{w:QT}{N:Nat}{ds:RR Deferred}(hm:Marks N w ds){r:Nat}{w':QT}{a:RI Nat}{b0:Nat}{s:RU Nat}{d:Nat}(hr:w.heap[r]? = some (.mapIter a b0 s d))(hg:∀c,c≠r->w'.heap[c]? = w.heap[c]?):Marks N w' ds:=by
 obtain⟨rs,h1,h2,h3⟩:=hm;refine⟨rs,h1,h2,fun x hx=>⟨(h3 x hx).1,?_⟩⟩;rw[hg x fun e=>by subst e; have:=(h3 _ hx).2; rw[hr] at this; cases this]
 exact(h3 x hx).2
end
def L8(w:QT)(r c:Nat)(ents:RU MapEntry)(clock:Nat)(S:RR Nat)(cnt:Nat):Prop :=
 ∃since seen c0,w.heap[r]? = some (.mapIter (some c) since seen c0)/\w.heap[c]? = some (.map ents clock)/\(∀x∈ents.toList,x.born<since)/\since<=c0/\since<=clock/\(∀i x,ents[i]? = some x->(seen.contains x.born=true↔i∈S))/\(leftOf ents seen).size=cnt
def qR:∀(n:Nat) (S:RR Nat),S.Nodup->(∀i∈S,i<n)->(∀i,i<n->i∈S)->S.Perm (List.range n)
 | 0,S,_,h2,_=>by
  cases S with
  | nil=>exact List.Perm.refl _
  | cons a l=>exact O6 (h2 a (by simp)) (by omega)
 | n+1,S,h1,h2,h3=>by
  have hm:n∈S:=h3 n (by omega)
  have hp:=List.perm_cons_erase hm;have ih:=qR n (S.erase n) (h1.erase n) (fun i hi=>by
   have h4:=h2 i (List.mem_of_mem_erase hi);have h5:i≠n:=fun e=>by subst e; exact(List.Nodup.not_mem_erase h1) hi
   omega) fun i hi=>(List.mem_erase_of_ne (by omega)).2 (h3 i (by omega))
  rw[List.range_succ];exact hp.trans ((List.Perm.cons n ih).trans (List.perm_append_singleton n (List.range n)).symm)
section
variable{E:Env}{n:Nat}{fn:R2}{ro:RI Nat}
def eval_put{a:Act}{d:Tmp}{v:QP}(h:d<a.tmps.size):(a.put (some d) v).eval (.tmp d)=v:=by
 simp[Act.put,Act.eval,h]
def E5(hE:EnvOk E)(hmono:¬E.mono){B B' i2 i3:Nat}{oN oX oE:Oper}{rest:RR Oper}{ops3:RU Oper}{X:Code}{d2 e1 e2 f1:Tmp}
  (hN:oN.op=.next (.tmp d2) false/\oN.dst=some e1/\oN.guard=none) (hX:oX.op=.extract (.tmp e1) 0/\oX.dst=some e2/\oX.guard=none) (hOE:oE.op=.entry (.tmp d2)/\oE.dst=some f1/\oE.guard=none) (h3:ops3.toList=oE::rest)
  (h6:e1<n) (h7:e2<n) (h14:f1<n) (h15:e1≠d2) (h16:e2≠d2) (_hd3:f1≠d2)
  {mb:RN} {w0:QT} {j0:aT} (h17:MR E j0 mb w0) {bm bi:Nat} {es:RR (QP×QP)} {lim:Nat} (hbm:mb.get bm=some (.map es)) (hbl:bm<lim)
  (Inv:RR Nat->Tm->RN->Prop) (hExt:∀S t m,Inv S t m->m.get bm=some (.map es)/\lim<=m.wl/\t.at d2=ptr bi 0)
  (hstep:∀S i e t m,S.Nodup->(∀i∈S,i<es.length)->i∉S->es[i]? = some e->Inv S t m->iL E n ops3 (fun t' m'=>bK E n fn ro X (fun e' t'' m''=>e'=.normal/\Inv (S++[i]) t'' m'') t' m') rest (((t.set e1 (.tuple #[.bool true,e.1,e.2])).set e2 (.bool true)).set f1 (.tuple #[e.1,e.2])) m)
  {r:Nat} (h32:w0.heap.size<=r) {kb:Blk} {ents:RU MapEntry} {clock:Nat} (hinc:G2 ents clock) (a0:RR Deferred) (N:Nat) :
  ∀(K:Nat) (S:RR Nat) (cnt:Nat) (t:Tm) (m:RN) (j:aT) (w:QT) (a:Act) (F:Fence),cnt<K->S.Nodup->(∀i∈S,i<es.length)->Inv S t m->Sim E j0 mb w0 j m w->TR n j t a.tmps->kf j ro F->Marks N w a.defers->N<=w.heap.size ->
   j bi=some ⟨r,none⟩->j bm=some kb->ER j es ents.toList->L8 w r kb.c ents clock S cnt ->
   mR F 0 E.P (.seq (.region i2 #[oN,oX] false) (.seq (.cond (.tmp e2) .skip (.exit B)) (.block B' (.seq (.region i3 ops3 false) X))))
    (fun e' a' w'=>∃S t' m',S.Perm (List.range es.length)/\Inv S t' m'/\kG E j0 mb w0 N n (.exit B) ((t'.set e1 (.tuple #[.bool false])).set e2 (.bool false)) m' e' a' w') a w:=by
 intro K
 induction K with
 | zero=>intro S cnt t m j w a F hc; exact O6 hc (by omega)
 | succ K ih =>
  intro S cnt t m j w a F hc hnd hSl hinv s ht hro hmk hNw hjr hjm her hit;have hlen:es.length=ents.size:=by have:=her.len; simpa using this
  obtain⟨hg,hwl,htd⟩:=hExt S t m hinv;obtain⟨since,seen,c0,i1,i2',i3',i5,i4,i0,i6⟩:=hit;refine jH (wpIn_seq (wpIn_region ?_));have hiter:a.eval (.tmp d2)=.pointer (some ⟨r,0,none⟩):=by
   have hv:=ht.2 d2;rw[htd] at hv
   show a.tmps.getD d2 undef=_
   generalize hx:a.tmps.getD d2 undef=x at hv;cases hv with
   | ptr hj=>rw[hjr] at hj; cases hj; rfl
  have hsz:a.tmps.size=n:=ht.1;have hlist:List.range (#[oN,oX]:RU Oper).size=[0,1]:=rfl;rw[hlist];have w0':Region.wanted oN (yielded #[oN,oX] a.tmps)=true:=by simp[Region.wanted,hN.2.2]
  have g0:(#[oN,oX]:RU Oper)[0]? = some oN:=rfl;have g1:(#[oN,oX]:RU Oper)[1]? = some oX:=rfl;simp only[wpOpsIn,g0,g1,w0',if_true];have hexN:execOp a.eval oN=(do pure (.value (<-Instr.next (.pointer (some ⟨r,0,none⟩)) false oN.type))):=by simp only[execOp,hN.1,hiter]
  have hdN:∀c,oN.op≠.defer c:=fun c e=>by rw[hN.1] at e; cases e
  have hdX:∀c,oX.op≠.defer c:=fun c e=>by rw[hX.1] at e; cases e
  have hbmj:bm<m.next:=(s.mr.lt bm kb hjm).1
  rcases run_next_at (P:=E.P) w oN.type r kb.c since c0 seen ents clock i1 i2' i3' i5 with⟨q0,hrun⟩|⟨x,hx,w1,h11,hrun⟩
  ·
   refine de hro.wide hdN (by rw[hexN]; exact kj.value hrun) ?_
   have h4:TR n j (t.set e1 (.tuple #[.bool false])) (a.put oN.dst (.tuple #[.bool false])).tmps:=ht.put (t':=t.set e1 (.tuple #[.bool false])) (.tuple' (LR.cons (.bool false) (.nil j))) (by rw[hN.2.1,cP,OM h6])
   rw[hN.2.1] at h4 ⊢;have w1':Region.wanted oX (yielded #[oN,oX] (a.put (some e1) (.tuple #[.bool false])).tmps)=true:=by simp[Region.wanted,hX.2.2]
   rw[OM w1'];have hexX:execOp (a.put (some e1) (.tuple #[.bool false])).eval oX=(do pure (.value (<-Instr.extract (.tuple #[.bool false]) 0))):=by
    simp only[execOp,hX.1];rw[eval_put (v:=.tuple #[.bool false]) (d:=e1) (a:=a) (hsz.symm▸h6)]
   refine de hro.wide hdX (v:=.bool false) (w':=w) (by rw[hexX]; exact kj.value rfl) ?_
   have h0:=h4.put (t':=(t.set e1 (.tuple #[.bool false])).set e2 (.bool false)) (dst:=oX.dst) (.bool false) (by rw[hX.2.1,cP,OM h7])
   rw[hX.2.1] at h0 ⊢;refine wpIn_seq (wpIn_cond_false (eval_put (by simp only[Act.put,Array.size_setIfInBounds]; exact hsz.symm▸h7)) (wpIn_exit ?_))
   refine⟨S,t,m,qR _ S hnd hSl fun i hi=>?_,hinv,rfl,j,s,h0,hmk⟩;have hi':i<ents.size:=by omega
   refine(i0 i _ (Array.getElem?_eq_getElem hi')).1 ?_;cases hcs:seen.contains (ents[i]'hi').born with
   | true=>rfl
   | false =>
    have:(ents[i]'hi') ∈(leftOf ents seen).toList:=by
     unfold leftOf;simp[hcs];exact fun h=>by simp_all
    rw[Qr q0] at this;simp at this
  
  obtain⟨hxm,hxs⟩:=mem_left hx;obtain⟨i,hi⟩:=List.mem_iff_getElem?.1 hxm;have hi':ents[i]? = some x:=by simpa using hi
  have hiS:i∉S:=fun h=>by rw[(i0 i x hi').2 h] at hxs; cases hxs
  have hil:i<es.length:=by rw[hlen]; exact(OQ.1 hi').1
  obtain⟨y,hy,hky,hvy⟩:=her.get (OG hil);rw[hi] at hy;cases hy;have hne:∀b k,j b=some k->(m.get b).isSome=true->k.c≠r:=xS s.mr i1;have hcr:kb.c≠r:=hne bm kb hjm (by rw[hg]; rfl)
  obtain⟨p2,p1,p0,p3⟩:=GQ s.mr hne h11 hmono (o':=.mapIter (some kb.c) since (seen.push x.born) clock) i1;have s1:Sim E j0 mb w0 j m (setBlock w1 r (.mapIter (some kb.c) since (seen.push x.born) clock)) :=
   { ext:=s.ext,le:=s.le,new:=s.new,mr:=p2,size:=by rw[<-p1]; exact s.size,full:=s.full,away:=s.away,fresh:=s.fresh,frame:=fun c hc H=>by rw[p0 c (by omega)]; exact s.frame c hc H,calm:=s.calm.trans p3}
  have m3:=tl hmk i1 p0;refine de hro.wide hdN (by rw[hexN]; exact kj.value hrun) ?_
  generalize h18:setBlock w1 r (.mapIter (some kb.c) since (seen.push x.born) clock)=w2 at s1 m3 p1 p0;have h8:w2.heap[r]? = some (.mapIter (some kb.c) since (seen.push x.born) clock):=by
   rw[<-h18];have hh:w1.heap=w.heap:=by rcases h11 with rfl|rfl<;>rfl
   have hrl:=(OQ.1 i1).1;simp[setBlock,hh,hrl]
  have h9:w2.heap[kb.c]? = some (.map ents clock):=by rw[p0 _ hcr]; exact i2'
  have hvT:VR j (.tuple #[.bool true,(es[i]'hil).1,(es[i]'hil).2]) (.tuple #[.bool true,x.key,x.val]):=.tuple' (LR.cons (.bool true) (LR.cons hky (LR.cons hvy (.nil j))));have h4:=ht.put (t':=t.set e1 (.tuple #[.bool true,(es[i]'hil).1,(es[i]'hil).2])) (dst:=oN.dst) hvT (by rw[hN.2.1,cP,OM h6])
  rw[hN.2.1] at h4 ⊢;have w1':Region.wanted oX (yielded #[oN,oX] (a.put (some e1) (.tuple #[.bool true,x.key,x.val])).tmps)=true:=by simp[Region.wanted,hX.2.2]
  rw[OM w1'];have hexX:execOp (a.put (some e1) (.tuple #[.bool true,x.key,x.val])).eval oX=(do pure (.value (<-Instr.extract (.tuple #[.bool true,x.key,x.val]) 0))):=by
   simp only[execOp,hX.1];rw[eval_put (v:=.tuple #[.bool true,x.key,x.val]) (d:=e1) (a:=a) (hsz.symm▸h6)]
  refine de hro.wide hdX (v:=.bool true) (w':=w2) (by rw[hexX]; exact kj.value rfl) ?_
  have h0:=h4.put (t':=(t.set e1 (.tuple #[.bool true,(es[i]'hil).1,(es[i]'hil).2])).set e2 (.bool true)) (dst:=oX.dst) (.bool true) (by rw[hX.2.1,cP,OM h7])
  rw[hX.2.1] at h0 ⊢;generalize h10:(a.put (some e1) (.tuple #[.bool true,x.key,x.val])).put (some e2) (.bool true)=a1 at h0;have hdef2:a1.defers=a.defers:=by rw[<-h10]; rfl
  have h19:a1.eval (.tmp e2)=.bool true:=by rw[<-h10]; exact eval_put (by simp only[Act.put,Array.size_setIfInBounds]; exact hsz.symm▸h7)
  have h20:a1.eval (.tmp d2)=.pointer (some ⟨r,0,none⟩):=by
   rw[<-h10]
   show(((a.tmps.setIfInBounds e1 _).setIfInBounds e2 _).getD d2 undef)=_
   have h5:a.tmps.getD d2 undef=.pointer (some ⟨r,0,none⟩):=hiter;simp only[Array.getD_eq_getD_getElem?] at h5 ⊢;rw[P5 h16,P5 h15];exact h5
  refine wpIn_seq (wpIn_cond_true h19 (wpIn_skip ?_));refine wpIn_block (wpIn_seq (wpIn_region ?_));have h21:List.range ops3.size=0::List.range' 1 (ops3.size-1):=by
   have:ops3.size=rest.length+1:=by have:=PX List.length h3; simpa using this
   rw[this,List.range_eq_range']
   rfl
  rw[h21];have g2:ops3[0]? = some oE:=by have:=PX (·[0]?) h3; simpa using this
  have w2':Region.wanted oE (yielded ops3 a1.tmps)=true:=by simp[Region.wanted,hOE.2.2]
  simp only[wpOpsIn,g2,w2',if_true];have hdE:∀c,oE.op≠.defer c:=fun c e=>by rw[hOE.1] at e; cases e
  have hexE:execOp a1.eval oE=(do pure (.value (<-Instr.entry (.pointer (some ⟨r,0,none⟩))))):=by simp only[execOp,hOE.1,h20]
  refine de hro.wide hdE (by rw[hexE]; exact kj.value (run_entry_at w2 r kb.c since seen ents clock x h8 h9 hxm hinc.2)) ?_
  have hvE:VR j (.tuple #[(es[i]'hil).1,(es[i]'hil).2]) (.tuple #[x.key,x.val]):=.tuple' (LR.cons hky (LR.cons hvy (.nil j)));have h12:=h0.put (t':=((t.set e1 (.tuple #[.bool true,(es[i]'hil).1,(es[i]'hil).2])).set e2 (.bool true)).set f1 (.tuple #[(es[i]'hil).1,(es[i]'hil).2])) (dst:=oE.dst) hvE (by rw[hOE.2.1,cP,OM h14])
  rw[hOE.2.1] at h12 ⊢;have hdef3:(a1.put (some f1) (.tuple #[x.key,x.val])).defers=a.defers:=by rw[<-hdef2]; rfl
  have hst:=hstep S i _ t m hnd hSl hiS (OG hil) hinv;obtain⟨k0,t0,m5,h22,hX4⟩:=lU hst;have hrun3:=kg (ops:=ops3) (n:=n) (tf:=t0) (mf:=m5) (F:=F) (kh hE k0) hro.wide (Q:=Exit.then (fun a' w'=>X.wpIn F 0 E.P (Exit.inBlock B' (Exit.then (fun a' w'=>mR F 0 E.P (.seq (.region i2 #[oN,oX] false) (.seq (.cond (.tmp e2) .skip (.exit B)) (.block B' (.seq (.region i3 ops3 false) X)))) (fun e' a' w'=>∃S t' m',S.Perm (List.range es.length)/\Inv S t' m'/\kG E j0 mb w0 N n (.exit B) ((t'.set e1 (.tuple #[.bool false])).set e2 (.bool false)) m' e' a' w') a' w')
    (fun e' a' w'=>∃S t' m',S.Perm (List.range es.length)/\Inv S t' m'/\kG E j0 mb w0 N n (.exit B) ((t'.set e1 (.tuple #[.bool false])).set e2 (.bool false)) m' e' a' w'))) a' w')
    (Exit.inBlock B' (Exit.then (fun a' w'=>mR F 0 E.P (.seq (.region i2 #[oN,oX] false) (.seq (.cond (.tmp e2) .skip (.exit B)) (.block B' (.seq (.region i3 ops3 false) X)))) (fun e' a' w'=>∃S t' m',S.Perm (List.range es.length)/\Inv S t' m'/\kG E j0 mb w0 N n (.exit B) ((t'.set e1 (.tuple #[.bool false])).set e2 (.bool false)) m' e' a' w') a' w')
    (fun e' a' w'=>∃S t' m',S.Perm (List.range es.length)/\Inv S t' m'/\kG E j0 mb w0 N n (.exit B) ((t'.set e1 (.tuple #[.bool false])).set e2 (.bool false)) m' e' a' w')))) s1.mr a.defers ?_ rest 1 _ m j w2 (a1.put (some f1) (.tuple #[x.key,x.val])) (by rw[h3]; rfl) h22 (.refl s1.mr) h12 hdef3
  exact hrun3
  
  intro j3 w4 a2 s3 h23 h24;obtain⟨e0,t1,m4,⟨k1,h25⟩,h26,hinv5⟩:=hX4;subst h26;obtain⟨e3,t2,m8,h27,H6⟩:=kh hE k1 _ _ h25;cases h27;have m6:Marks N w4 a2.defers:=by rw[h24]; exact m3.D0 s1.mr s3
  refine wpIn_mono (H6 j3 w4 a2 F N s3.mr h23 (hro.mono s3.le) m6 (by have:=s3.size; omega)) ?_
  rintro e4 a3 w3 ⟨rfl,j2,s4,h28,m7⟩;have s2:Sim E j m w2 j2 m4 w3:=s3.trans s1.mr s4;have hk5':=hExt _ _ _ hinv5;have h29:∀b k,j b=some k->(m.get b).isSome=true->k.c≠r:=xS s1.mr h8;have h30:w3.heap[r]? = w2.heap[r]?:=s2.frame r (OQ.1 h8).1 fun b k hb hl he=>O6 he (h29 b k hb hl);have h31:w3.heap[kb.c]? = w2.heap[kb.c]?:=s2.frame kb.c (OQ.1 h9).1 fun b k hb hl he=>by
   have:=s1.mr.inj b bm k kb hb hjm hl (by rw[hg]; rfl) he
   omega
  refine ih (S++[i]) _ t1 m4 j2 w3 a3 F ?_ ?_ ?_ hinv5 (s1.trans h17 s2) h28 ((hro.mono s3.le).mono s4.le) m7 (by have:=s2.size; omega) (s2.le _ _ hjr) (s2.le _ _ hjm) (her.mono s2.le)
   ⟨since,seen.push x.born,clock,by rw[h30]; exact h8,by rw[h31]; exact h9,i3',i4,i4,fun i' x' hx'=>?_,rfl⟩
  have:=left_shrinks ents seen x hx;omega
  exact List.nodup_append.2 ⟨hnd,by simp,fun p hp q hq=>by rw[PJ] at hq; subst hq; exact fun e=>hiS (e▸hp)⟩
  intro p hp;rcases P1.1 hp with hp|hp
  exact hSl p hp
  rw[PJ.1 hp]; exact hil
  have hcp:(seen.push x.born).contains x'.born=true↔(seen.contains x'.born=true\/x'.born=x.born):=by simp[Array.mem_push]
  rw[hcp,i0 i' x' hx',P1,PJ];refine or_congr Iff.rfl ⟨fun e=>?_,fun e=>?_⟩
  have h13:(ents.toList.map (·.born))[i']? = some x'.born:=by rw[O1]; simp[hx']
  have h5:(ents.toList.map (·.born))[i]? = some x.born:=by rw[O1]; simp[hi']
  have hl':i'<(ents.toList.map (·.born)).length:=(OX.1 h13).1;exact(List.getElem_inj (h₀:=hl') (h₁:=(OX.1 h5).1) hinc.2).1 (by
   rw[(OX.1 h13).2,(OX.1 h5).2,e])
  subst e; rw[hi'] at hx'; cases hx'; rfl
end
section
variable{E:Env}{n:Nat}{fn:R2}{ro:RI Nat}
def MR.Nt{j:aT}{m:RN}{w:QT}(h:MR E j m w)(x:Nat):MR E j (m.ww x) w :=
 ⟨fun b k e=>by rw[RN.next_ww]; exact h.lt b k e,fun b o k ho=>by rw[RN.get_ww] at ho; exact h.obj b o k ho,fun b b' k k' e e'=>by rw[RN.get_ww,RN.get_ww]; exact h.inj b b' k k' e e',h.glob⟩
def LB{j j':aT}{m m':RN}{w w':QT}{x:Nat}(s:Sim E j (m.ww x) w j' m' w'):Sim E j m w j' (m'.ww (min m.wl m'.wl)) w' where
 ext:=⟨by have:=s.ext.next; rwa[RN.next_ww] at this ⊢,by rw[RN.wl_ww]; omega,fun b hb hl=>by
  rw[RN.wl_ww] at hl;have:=s.ext.same b (by rw[RN.next_ww]; exact hb) (by omega)
  rwa[RN.get_ww] at this ⊢,fun b hb hn=>by
  have:=s.ext.dead b (by rw[RN.next_ww]; exact hb) (by rw[RN.get_ww]; exact hn)
  rwa[RN.get_ww]⟩
 le:=s.le
 new:=fun b k h h'=>by have:=s.new b k h h'; rwa[RN.next_ww] at this
 mr:=s.mr.Nt _
 size:=s.size
 full:=fun b h h' hl=>by
  rw[RN.next_ww] at h';rw[RN.get_ww] at hl;exact s.full b (by rw[RN.next_ww]; exact h) h' hl
 away:=fun b hb hn=>by
  have:=s.away b (by rw[RN.next_ww]; exact hb) hn
  rwa[RN.get_ww] at this ⊢
 fresh:=fun b k h h'=>by
  rcases s.fresh b k h h' with hf|⟨b0,k0,a1,a2,a3,a4⟩
  exact .inl hf
  rw[RN.get_ww] at a2;exact .inr ⟨b0,k0,a1,a2,a3,by rw[RN.wl_ww]; omega⟩
 frame:=fun c hc H=>s.frame c hc fun b k hb hl he=>by
  rw[RN.get_ww] at hl;have:=H b k hb hl he;rw[RN.wl_ww] at this; omega
 calm:=s.calm
def mJ(m:RN):RN:=((m.alloc (.cells [] .own)).kill m.next).ww (m.next+1)
def pH(m:RN):(mJ m).next=m.next+1:=by unfold mJ; rw[RN.next_ww,RN.next_kill,RN.next_alloc]
def BL(m:RN):(mJ m).wl=m.next+1:=by unfold mJ; rw[RN.wl_ww]
def iE(m:RN)(b:Nat):(mJ m).get b=if b=m.next then none else m.get b:=by
 unfold mJ;rw[RN.get_ww,RN.fE,RN.bD]
 split<;>rfl
def Fk{j:aT}{m:RN}{w:QT}(h:MR E j m w)(o:Obj):Sim E j (m.ww (m.next+1)) w (j.set m.next ⟨w.heap.size,none⟩) (mJ m) (w.alloc o):=by
 have hn:j m.next=none:=h.lX
 have hget:∀c,c<w.heap.size->(w.alloc o).heap[c]? = w.heap[c]?:=fun c hc=>by
  show(w.heap.push o)[c]? = w.heap[c]?
  rw[Qu,QW]
 refine⟨⟨by rw[RN.next_ww,pH]; omega,by rw[RN.wl_ww,BL]; omega,fun b hb _=>?_,fun b hb hd=>?_⟩,aT.mX _ hn,fun b k e e'=>?_,⟨fun b k e=>?_,fun b a k ha e=>?_,fun b b' k k' e e' hl hl' hc=>?_,fun g hg=>?_⟩,by rw[World.size_alloc]; omega,fun b hb hb' hl=>?_,fun b hb hj=>?_,fun b k e e'=>?_,fun c hc _=>hget c hc,⟨rfl,rfl,rfl,fun _=>OF _⟩⟩
 rw[RN.next_ww] at hb;rw[iE,QW,RN.get_ww]
 rw[RN.next_ww] at hb;rw[RN.get_ww] at hd;rw[iE,QW,hd]
 by_cases hb:b=m.next
 rw[hb,RN.next_ww]; exact OF _
 rw[aT.cb _ _ hb,e'] at e; cases e
 rw[pH,World.size_alloc]
 by_cases hb:b=m.next
 subst hb; rw[aT.cA] at e; cases e;exact⟨PD _,PD _⟩
 rw[aT.cb _ _ hb] at e;exact⟨Nat.lt_succ_of_lt (h.lt b k e).1,Nat.lt_succ_of_lt (h.lt b k e).2⟩
 rw[iE] at ha
 split at ha
 cases ha
 rename_i hb;rw[aT.cb _ _ hb] at e;obtain⟨o',h1,h2⟩:=h.obj b a k ha e;exact⟨o',by rw[hget _ (h.lt b k e).2]; exact h1,h2.mono (aT.mX _ hn)⟩
 rw[iE] at hl hl'
 split at hl
 cases hl
 rename_i hb
 split at hl'
 cases hl'
 rename_i hb';rw[aT.cb _ _ hb] at e;rw[aT.cb _ _ hb'] at e';exact h.inj b b' k k' e e' hl hl' hc
 have h1:=h.glob g hg;have hlt:=(h.lt g _ h1).1;rw[aT.cb _ _ (by omega)]; exact h1
 rw[RN.next_ww] at hb;rw[pH] at hb';rw[iE,QX] at hl
 cases hl
 rw[RN.next_ww] at hb;rw[iE,QW,RN.get_ww]
 by_cases hb:b=m.next
 subst hb; rw[aT.cA] at e; cases e;exact .inl (OF _)
 rw[aT.cb _ _ hb,e'] at e; cases e
end
end Go.Ab
namespace Go.Ab.W
open Go Go.Ab
attribute [local irreducible] Tm.at Trie.set Trie.get RN.get RN.set RN.alloc RN.ww RN.kill
def wJ(F:Func):Code:=match F.body with
 | some c=>c
 | none=>.skip
def NP:Nat->Code->Code
 | k+1,.seq _ b=>NP k b
 | _,c=>c
section
variable{E:Env}{n:Nat}{m0:RN}{fs fs':Fs}{ps ps':RR Pc}{fn:R2}{ro:RI Nat}{Q:RO->Tm->RN->Prop}{a b c:Code}
def Vk(E:Env)(n:Nat)(fn:R2)(ro:RI Nat)(c:Code)(Q:RO->Tm->RN->Prop)(m0:RN)(fs:Fs)(ps:RR Pc):Prop:=∀t m,Fr t fs->Hp m0 m ps->dg E n fn ro c Q t m
def Vk.seq(hE:EnvOk E)(h:Wk E n fn ro a (kR (dg E n fn ro b Q) Q) m0 fs ps):Vk E n fn ro (.seq a b) Q m0 fs ps:=fun t m hf hm=>.seq hE (h t m hf hm)
def Vk.of(hE:EnvOk E)(h:Wk E n fn ro c Q m0 fs ps):Vk E n fn ro c Q m0 fs ps:=fun t m hf hm=>.of hE (h t m hf hm)
def At.NT(h:Vk E n fn ro b Q m0 fs ps):At (kR (dg E n fn ro b Q) Q) .normal m0 fs ps:=h
def Vk.cx(hs:sub fs fs')(h:ah m0 ps ps')(k:Vk E n fn ro c Q m0 fs' ps'):Vk E n fn ro c Q m0 fs ps:=fun t m hf hm=>k t m (hf.sub hs) (h m hm)
def mD(E:Env)(f:R2)(args:RR QP)(m:RN)(R:QP->RN->Prop):Prop:=∀(j:aT) (w:QT) (args':RR QP),MR E j m w->LR j args args'->dX E.P false f args'.toArray w (fun v' w'=>∃v1 m1,R v1 m1/\fA E j m w v1 m1 v' w')
def yJ(hE:EnvOk E){f:R2}{F:Func}{args:RR QP}{rs:RR ResultVar}{N:Nat}{R:QP->RN->Prop}{m:RN}(hf:E.P.funcs[f]? = some F)(hb:F.body=some c)(hrs:F.results.toList=rs)(hN:max args.length F.ntmps=N)
  (h:dg E N f none c (nT E rs R) (Trie.ofList args 0 .nil) m):mD E f args m R:=fun j w args' hm hl=>by
 subst hrs hN;refine .inl ⟨hE.call f F c hf hb _ w,?_⟩;refine callsIn_of_wp_marks hf hb trivial ?_;refine wpIn_mono (h j w { tmps:=args'.toArray++QG (F.ntmps-args'.toArray.size) undef,defers:=[]} Fence.wide w.heap.size hm (TR.enter hl F.ntmps) rfl (Marks.nil _ _) (OF _)) ?_;rintro e' a' w' ⟨e,t',m',hq,rfl,j',s,ht,rs,hnd,hds,hrs⟩;have key:∀{vs:RR QP},cj E t' m' F.results.toList=some vs->R (gp vs) m'->LeavesInM Fence.wide 0 E.P F a'.tmps (fun e w'=>∃v,e=.returned v/\∃v1 m1,R v1 m1/\fA E j m w v1 m1 v w') a'.defers .returning w':=by
  intro vs hvs hR;rw[hds];refine jW (fun w'' s'=>?_) rs w' s hnd hrs;obtain⟨v',hv1,hv2⟩:=pM s'.mr ht hvs;exact⟨v',hv1,v',rfl,gp vs,m',hR,j',s',hv2⟩
 cases e with
 | exit id=>exact hq.elim
 | normal =>
  simp only[nT] at hq;unfold wm at hq
  split at hq
  rename_i vs hv; exact key hv hq
  exact hq.elim
 | ret =>
  simp only[nT] at hq;unfold wm at hq
  split at hq
  rename_i vs hv; exact key hv hq
  exact hq.elim
def Eo(hE:EnvOk E){f:R2}{F:Func}{args:RR QP}{rs:RR ResultVar}{N:Nat}{R:QP->RN->Prop}{m:RN}(hf:E.P.funcs[f]? = some F)(hb:F.body=some c)(hrs:F.results.toList=rs)(hN:max args.length F.ntmps=N)(hm:Hp m0 m ps)
  (h:Vk E N f none c (nT E rs R) m0 (yk args 0 []) ps):mD E f args m R:=yJ hE hf hb hrs hN (h _ m (Fr.args args 0 [] _ (Fr.nil _)) hm)
def Bc{f:R2}{args:RR QP}{m:RN}{v:QP}{m':RN}(h:mD E f args { m with wl:=m.next} fun v1 m1=>Grown m m1 /\
  ((bO v=true/\v1=v/\m'=m)\/∃R b1 cs tag,MH R/\v1=R b1/\v=R m.next/\m.next<=b1/\b1<m1.next/\m1.get b1=some (.cells cs tag)/\cs.all aX=true/\m'=m.alloc (.cells cs tag))) (pr:Bool) {j:aT} {w:QT} {args':RR QP} (hm:MR E j m w) (hl:LR j args args'):dX E.P pr f args'.toArray w (fA E j m w v m'):=by
 refine cG (fun h=>by cases h) (h j w args' (MR.uL hm) hl) ?_
 rintro v' w' ⟨v1,m1,⟨hg,hc⟩,j',s,hv⟩;rcases hc with⟨hpv,rfl,rfl⟩|⟨R,b1,cs,tag,hR,rfl,rfl,hb,hb1,ho,hpl,rfl⟩
 exact⟨j,Sim.forget hm s hg,VR.lW hpv hv⟩
 obtain⟨k1,hk1⟩:=s.full b1 hb hb1 (by rw[ho]; rfl)
 exact⟨_,Sim.born hm s hg hb hk1 ho hpl,hR _ _ _ _ _ _ hk1 (aT.cA _ _ _) hv⟩
end
section
variable{α:Type}{m0 m:RN}{ps:RR Pc}{r:Rep α}
end
section
variable{α:Type}{r:Rep α}{o:Orp r}{E:Env}{n:Nat}{m0 m:RN}{fs:Fs}{ps:RR Pc}{dr:Bool}{ops:RU Oper}{K:Tm->RN->Prop}{os:RR Oper}{prs:RR (Nat×Nat)}{ss:RR Nk}{ty:QQ}
end
section
variable{α β:Type}{r:Rep α}{o:Orp r}{E:Env}{n:Nat}{m0 m:RN}{fs:Fs}{ps qs:RR Pc}{dr:Bool}{ops:RU Oper}{K:Tm->RN->Prop}{os:RR Oper}{prs:RR (Nat×Nat)}{ss:RR Nk}{ty:QQ}{Q:RO->Tm->RN->Prop}
end
section
variable{α β:Type}[DecidableEq α]
end
section
variable{α β:Type}[DecidableEq α]{E:Env}{m0 m:RN}{fs:Fs}{ps:RR Pc}{r:Rep β}{kE:α->QP}
variable{x y z:QR}{ty:QQ}
end
end Go.Ab.W
namespace Go.Ab
section
open Go
section
variable{E:Env}{j j1:aT}{m m1:RN}{w w1:QT}
end
namespace W
end W
end
section
open Go
attribute [local irreducible] RN.get RN.set RN.alloc RN.ww RN.kill
def RN.gk(m:RN):RR RP->RN
 | []=>m
 | o::os=>(m.alloc o).gk os
def gF:∀(os:RR RP) (m:RN),(m.gk os).next=m.next+os.length
 | [],m=>rfl
 | o::os,m=>by rw[RN.gk,gF os,RN.next_alloc,Pg]; omega
def uQ:∀(os:RR RP) (m:RN),(m.gk os).wl=m.wl
 | [],m=>rfl
 | o::os,m=>by rw[RN.gk,uQ os,RN.wl_alloc]
def dC:∀(os:RR RP) (m:RN) {b:Nat},(b<m.next\/m.next+os.length<=b)->(m.gk os).get b=m.get b
 | [],m,b,_=>rfl
 | o::os,m,b,h=>by
  rw[Pg] at h;rw[RN.gk,dC os (m.alloc o) (by rw[RN.next_alloc]; omega),RN.bD,QW]
def tZ:∀(os:RR RP) (m:RN) (i:Nat),i<os.length->(m.gk os).get (m.next+i)=os[i]?
 | [],m,i,h=>by simp at h
 | o::os,m,0,h=>by rw[RN.gk,dC os (m.alloc o) (by rw[RN.next_alloc]; omega),RN.bD,Py,OM rfl]; rfl
 | o::os,m,i+1,h=>by
  have:=tZ os (m.alloc o) i (by simpa using h)
  rw[RN.next_alloc,show m.next+1+i=m.next+(i+1) by omega] at this
  rw[RN.gk,this]; rfl
inductive TV where
 | v (x:QP)
 | s (i:Nat)
abbrev DU:=RR (RR TV×Nat)
def DU.n(T:DU)(i:Nat):Nat:=match T[i]? with
 | some x=>x.1.length/x.2
 | none=>0
def TV.inst(T:DU)(a:Nat->Nat):TV->QP
 | .v x=>x
 | .s i=>.slice (some ⟨a i,0,none⟩) (T.n i) (T.n i)
def TV.ok(n:Nat):TV->Bool
 | .v x=>bO x
 | .s i=>Nat.blt i n
def DU.ok(T:DU):Prop:=∀x∈T,0<x.2/\x.1.length=x.1.length/x.2*x.2/\x.1.length/x.2<=9223372036854775807/\x.1.all (TV.ok T.length)=true
def DU.cd(T:DU)(a:Nat->Nat):RR RP:=T.map fun x=>.cells (x.1.map (TV.inst T a)) (.more x.2)
def lI(k:Blk)(sz len:Nat):Blk:=match k.more with
 | none=>⟨k.c,some (sz,len,len)⟩
 | some _=>k
def lP(k:Blk)(sz len:Nat):(lI k sz len).c=k.c:=by unfold lI; split<;>rfl
def Fi{k:Blk}{sz n:Nat}{tag:Tag}(ht:tag=.own\/tag=.more sz)(hsz:0<sz)(hn:n<=9223372036854775807){c:RU QP}{fz:Nat×Nat}(h:oh k tag (n*sz) c fz):oh (lI k sz (n*sz)) (.more sz) (n*sz) c fz:=by
 rcases ht with rfl|rfl
 obtain⟨t1,t2,rfl⟩:k.more=none/\c.size=n*sz/\fz=(0,0):=h;unfold lI;rw[t1];refine⟨by rw[t2],by rw[t2]; exact OF _,rfl,hsz,?_⟩
 unfold nr;rw[t2,ON]; exact PH _ hn
 have:k.more=some (sz,n*sz,c.size):=h.1;unfold lI;rw[this]; exact h
section
variable{E:Env}{j j1:aT}{m m1:RN}{w w1:QT}
def TV.move{T:DU}(hT:T.ok){j1 j2:aT}{a a2:Nat->Nat}{tg:Nat->Tag}{cf:Nat->RU QP ×(Nat×Nat)}(hj:∀i x,T[i]? = some x->∃k,j1 (a i)=some k/\j2 (a2 i)=some (lI k x.2 x.1.length)/\(tg i=.own\/tg i=.more x.2)/\oh k (tg i) x.1.length (cf i).1 (cf i).2){x:TV}(hx:x.ok T.length=true){v':QP}(h:VR j1 (x.inst T a) v'):VR j2 (x.inst T a2) v':=by
 cases x with
 | v x =>
  exact VR.lW hx h
 | s i =>
  have hi:i<T.length:=OL hx;have e:=OG hi;generalize T[i]=y at e;obtain⟨k,h1,h2,h3,h4⟩:=hj i y e;obtain⟨o1,o2,o3,o4⟩:=hT y (Pl e);have en:T.n i=y.1.length/y.2:=by unfold DU.n; rw[e]
  have h:VR j1 (.slice (some ⟨a i,0,none⟩) (T.n i) (T.n i)) v':=h
  show VR j2 (.slice (some ⟨a2 i,0,none⟩) (T.n i) (T.n i)) v'
  rw[en] at h ⊢;cases h with
  | slice e' hm =>
   rw[h1] at e'; cases e';have z:VR j2 (.slice (some ⟨a2 i,0,none⟩) (y.1.length/y.2) (y.1.length/y.2)) (.slice (some ⟨(lI k y.2 y.1.length).c,0,none⟩) (y.1.length/y.2) (y.1.length/y.2)) :=
    .sliceM h2 (by unfold lI; rw[hm]) (by rw[Py]; exact o2.symm) (by rw[Py]; exact o2.symm) (OF _) (OF _)
   rwa[lP] at z
  | sliceM e' hm a1 a2 hl hc =>
   rw[h1] at e'; cases e';have:lI k y.2 y.1.length=k:=by unfold lI; rw[hm]
   rw[this] at h2;exact .sliceM h2 hm a1 a2 hl hc
end
namespace W
end W
end
section
open Go
attribute [local irreducible] Tm.at Trie.set Trie.get RN.get RN.set RN.alloc RN.ww RN.kill
section
variable{E:Env}{n:Nat}{ops:RU Oper}{K K':Tm->RN->Prop}{t:Tm}{m:RN}
def fe(E:Env)(n:Nat)(ops:RU Oper)(K:Tm->RN->Prop)(os:RR Oper)(t:Tm)(m:RN):Prop :=
 ∀(i:Nat) (F:Fence) (j0:aT) (m0:RN) (w0:QT) (ds:RR Deferred) (Q:Exit->Act->QT->Prop) (j:aT) (w:QT) (a:Act),jC F->MR E j0 m0 w0->ops.toList.drop i=os->Sim E j0 m0 w0 j m w->TR n j t a.tmps->a.defers=ds ->
  (∀t' m' j' w' a',K t' m'->Sim E j0 m0 w0 j' m' w'->TR n j' t' a'.tmps->a'.defers=ds->Q .normal a' w')->wpOpsIn F 0 E.P ops Q (List.range' i (ops.size-i)) a w
def fe.nil(h:K t m):fe E n ops K [] t m:=fun i F j0 m0 w0 ds Q j w a hF h0 hd s ht hds hQ=>by
 have hlen:ops.size<=i:=by
  have:=PX List.length hd;simp at this; omega
 rw[show ops.size-i=0 by omega]
 exact hQ t m j w a h s ht hds
def md{os:RR Oper}{o:Oper}{i:Nat}(hd:ops.toList.drop i=o::os):ops[i]? = some o/\ops.toList.drop (i+1)=os/\List.range' i (ops.size-i)=i::List.range' (i+1) (ops.size-(i+1)):=by
 have hlt:i<ops.size:=by
  have:=PX List.length hd;simp at this; omega
 refine⟨by have:=PX (·[0]?) hd; simpa [PZ] using this,by rw[<-Qs,hd]; rfl,?_⟩
 rw[show ops.size-i=(ops.size-(i+1))+1 by omega]; rfl
def fe.op(hE:EnvOk E){o:Oper}{os:RR Oper}(hw:bt ops o t=true)(h:jb E t m o.op fun v m'=>∃t',gb n t o.dst v=some t'/\fe E n ops K os t' m'):fe E n ops K (o::os) t m:=fun i F j0 m0 w0 ds Q j w a hF h0 hd s ht hds hQ=>by
 obtain⟨ho,hd',hidx⟩:=md hd;obtain⟨v,m',⟨k,he⟩,t',hp,hk⟩:=h;rw[hidx];simp only[wpOpsIn,ho,jz ht];rw[OM hw];refine tR (kh hE k) s.mr ht he hF ?_;rintro v' w' ⟨j',s',hv⟩;exact hk (i+1) F j0 m0 w0 ds Q j' w' _ hF h0 hd' (s.trans h0 s') ((ht.mono s'.le).put hv hp) (by cases hds':o.dst<;>simp[Act.put,hds]) hQ
def fe.not{o:Oper}{os:RR Oper}(hw:bt ops o t=false){t':Tm}(hp:gb n t o.dst undef=some t')(h:fe E n ops K os t' m):fe E n ops K (o::os) t m:=fun i F j0 m0 w0 ds Q j w a hF h0 hd s ht hds hQ=>by
 obtain⟨ho,hd',hidx⟩:=md hd;rw[hidx];simp only[wpOpsIn,ho,jz ht];rw[OJ (by rw[hw]; exact PR)]
 exact⟨fun f _=>hF.fn f,h (i+1) F j0 m0 w0 ds Q j w _ hF h0 hd' s (ht.put (VR.undef j) hp) (by cases hds':o.dst<;>simp[Act.put,hds]) hQ⟩
def fe.Mg{o:Oper}{os:RR Oper}{c:Call}{fv:QR}{g:R2}{vs:RR QP}{R:QP->RN->Prop}(hw:bt ops o t=true)(hop:o.op=.call c)(hc:c.callee=.value fv)(hf:ax E t fv=some (.func (.func g) #[] #[]))(ha:bH E t c.args.toList=some vs)(h:W.mD E g vs m R)(hk:∀v m',R v m'->∃t',gb n t o.dst v=some t'/\fe E n ops K os t' m'):fe E n ops K (o::os) t m:=fun i F j0 m0 w0 ds Q j w a hF h0 hd s ht hds hQ=>by
 obtain⟨ho,hd',hidx⟩:=md hd;rw[hidx];simp only[wpOpsIn,ho,jz ht];rw[OM hw];have hfv:=aP s.mr ht hf;generalize hfe:a.eval fv=fv' at hfv;cases hfv with
 | func h1 h2 h3 h4 =>
  rename_i ys ds';have ey:ys=#[]:=Qr h1.symm;have ed:ds'=#[]:=Qr h3.symm;subst ey ed;have hl:LR j vs (c.args.toList.map a.eval):=eJ s.mr ht ha;have hcs:=h j w _ s.mr hl;have harr:(c.args.toList.map a.eval).toArray=#[]++c.args.map a.eval++#[]:=by apply Pq.1; simp
  rw[harr] at hcs;have hexec:execOp a.eval o=(do let d <-resolve a.eval c o.type; invoke d.target d.args):=by simp only[execOp,hop]
  have hrun:(execOp a.eval o).run E.P w=(callFunc g (#[]++c.args.map a.eval++#[])).run E.P w:=by
   rw[hexec];simp only[resolve,hc,hfe,Deferred.ofValue,RX,RY,RV,invoke]
  refine Does.wpIn hF (fun c' e=>by rw[hop] at e; cases e) (G:=fun v' w'=>∃v1 m1,R v1 m1/\fA E j m w v1 m1 v' w') ?_ ?_
  rcases hcs with⟨hr,hci⟩|⟨_,v',w',hr,hq⟩
  exact .inr (.inl ⟨_,_,hrun.trans hr,hci⟩)
  exact .inl ⟨v',w',.inl (hrun.trans hr),hq⟩
  rintro v' w' ⟨v1,m1,hR,j',s',hv⟩;obtain⟨t',hp,hk⟩:=hk v1 m1 hR;exact hk (i+1) F j0 m0 w0 ds Q j' w' _ hF h0 hd' (s.trans h0 s') ((ht.mono s'.le).put hv hp) (by cases hds':o.dst<;>simp[Act.put,hds]) hQ
def fe.pre(hE:EnvOk E){post:RR Oper}:∀{os:RR Oper} {t:Tm} {m:RN},iL E n ops (fun t m=>fe E n ops K post t m) os t m->fe E n ops K (os++post) t m
 | [],t,m,h=>h
 | o::os,t,m,h=>by
  simp only[iL] at h
  split at h
  rename_i hw;obtain⟨v,m1,h1,t1,hp,h2⟩:=h;exact fe.op hE hw ⟨v,m1,h1,t1,hp,fe.pre hE h2⟩
  rename_i hw;obtain⟨t1,hp,h2⟩:=h;exact fe.not (Bool.eq_false_iff.2 hw) hp (fe.pre hE h2)
def fe.of(hE:EnvOk E){os:RR Oper}(h:iL E n ops K os t m):fe E n ops K os t m:=by
 have:∀(os:RR Oper) (t:Tm) (m:RN),iL E n ops K os t m->iL E n ops (fun t m=>fe E n ops K [] t m) os t m:=by
  intro os
  induction os with
  | nil=>intro t m h; exact fe.nil h
  | cons o os ih =>
   intro t m h;simp only[iL] at h ⊢
   split at h
   rename_i hw;obtain⟨v,m1,h1,t1,hp,h2⟩:=h;rw[OM hw];exact⟨v,m1,h1,t1,hp,ih _ _ h2⟩
   rename_i hw;obtain⟨t1,hp,h2⟩:=h;rw[OJ hw];exact⟨t1,hp,ih _ _ h2⟩
 have:=fe.pre hE (this os t m h);rwa[P2] at this
variable{fn:R2}{ro:RI Nat}{Q:RO->Tm->RN->Prop}
def dg.region{id:Nat}(h:fe E n ops (Q .normal) ops.toList t m):dg E n fn ro (.region id ops false) Q t m:=fun j w a F N hm ht hro hd hN=>by
 refine wpIn_region ?_;have:=h 0 F j m w a.defers (fun e' a' w'=>∃e t' m',Q e t' m'/\kG E j m w N n e t' m' e' a' w') j w a hro.wide hm rfl (.refl hm) ht rfl fun t' m' j' w' a' hq s ht' hds=>⟨.normal,t',m',hq,rfl,j',s,ht',by rw[hds]; exact hd.D0 hm s⟩
 rwa[Qv,<-List.range_eq_range'] at this
def dg.cond{x:QR}{c:Bool}{a b:Code}(hx:ax E t x=some (.bool c))(ht:c=true->dg E n fn ro a Q t m)(hf:c=false->dg E n fn ro b Q t m):dg E n fn ro (.cond x a b) Q t m:=fun j w a' F N hm ht' hro hd hN=>by
 have hv:=aP hm ht' hx;generalize hfe:a'.eval x=v at hv;cases hv;cases c with
 | true=>exact wpIn_cond_true hfe (ht rfl j w a' F N hm ht' hro hd hN)
 | false=>exact wpIn_cond_false hfe (hf rfl j w a' F N hm ht' hro hd hN)
namespace W
section
variable{m0:RN}{fs:Fs}{ps:RR Pc}{os:RR Oper}{a b:Code}
def Vn(E:Env)(n:Nat)(ops:RU Oper)(K:Tm->RN->Prop)(os:RR Oper)(m0:RN)(fs:Fs)(ps:RR Pc):Prop:=∀t m,Fr t fs->Hp m0 m ps->fe E n ops K os t m
def Vn.of(hE:EnvOk E)(h:Wo false E n ops K os m0 fs ps):Vn E n ops K os m0 fs ps:=fun t m hf hm=>.of hE (jv (h t m hf hm))
def Vn.pre(hE:EnvOk E){post:RR Oper}(h:Wo false E n ops (fun t m=>fe E n ops K post t m) os m0 fs ps):Vn E n ops K (os++post) m0 fs ps:=fun t m hf hm=>.pre hE (jv (h t m hf hm))
def Wo.N3{dr:Bool}{K:Tm->RN->Prop}{post:RR Oper}(h:Vn E n ops K post m0 fs ps):Wo false E n ops (fun t m=>fe E n ops K post t m) [] m0 fs ps:=fun t m hf hm=>h t m hf hm
def Vk.region{id:Nat}(h:Vn E n ops (Q .normal) ops.toList m0 fs ps):Vk E n fn ro (.region id ops false) Q m0 fs ps:=fun t m hf hm=>.region (h t m hf hm)
def Vk.DC(h:Vk E n fn ro a (kR (dg E n fn ro b Q) Q) m0 fs ps):Vk E n fn ro (.seq a b) Q m0 fs ps:=fun t m hf hm=>.DC (h t m hf hm)
end
end W
end
end
end Go.Ab
namespace Go.Ab.W
open Go Go.Ab
attribute [local irreducible] Tm.at Trie.set Trie.get RN.get RN.set RN.alloc RN.ww RN.kill
section
variable{P:QS}{ty el:QQ}{k:IntKind}
end
abbrev N9:=Int×Int×Int×Int×Int×Int×Int×Int×Int×Int×Int×Int
def L3:N9->RR Int
 |(a,b,c,d,e,f,g,h,i,j,k,l)=>[a,b,c,d,e,f,g,h,i,j,k,l]
def ID{p q:N9}(h:L3 p=L3 q):p=q:=by
 obtain⟨a,b,c,d,e,f,g,i,j,k,l,m⟩:=p;obtain⟨a',b',c',d',e',f',g',i',j',k',l',m'⟩:=q;simp only[L3,List.cons.injEq,and_true] at h;obtain⟨h1,h2,h3,h4,h5,h6,h7,h8,h9,h10,h11,h12⟩:=h;subst h1 h2 h3 h4 h5 h6 h7 h8 h9 h10 h11 h12; rfl
instance:DecidableEq N9:=fun p q=>decidable_of_iff (L3 p=L3 q) ⟨ID,PX L3⟩
variable{E:Env}{m0:RN}{fs:Fs}{ps:RR Pc}{ty:QQ}
end Go.Ab.W
namespace Go.Ab
open Go
open Go.ChangeMaps (setBlock)
section
variable{E:Env}{n:Nat}{fn:R2}{ro:RI Nat}
def dg.DS(hE:EnvOk E)(hmono:¬E.mono){B B' i1 i2 i3:Nat}{o1 o2 oN oX oE:Oper}{rest:RR Oper}{ops3:RU Oper}{X:Code}{d1 d2 e1 e2 f1:Tmp}{mt kt et:QQ}
  (h1:o1.dst=some d1/\o1.guard=none) (h2:o2.op=.range mt (.tmp d1)/\o2.dst=some d2/\o2.guard=none) (hmt:E.P.underlying mt=some (.map kt et))
  (hN:oN.op=.next (.tmp d2) false/\oN.dst=some e1/\oN.guard=none) (hX:oX.op=.extract (.tmp e1) 0/\oX.dst=some e2/\oX.guard=none) (hOE:oE.op=.entry (.tmp d2)/\oE.dst=some f1/\oE.guard=none) (h3:ops3.toList=oE::rest)
  (hb:d1<n/\d2<n/\e1<n/\e2<n/\f1<n) (h6:e1≠d2) (h7:e2≠d2) (h8:f1≠d2)
  {Q:RO->Tm->RN->Prop} {t:Tm} {m:RN} {bm:Nat} {es:RR (QP×QP)} (hld:cY E t m o1.op=some (.map (some bm),m)) (hbm:m.get bm=some (.map es)) {lim:Nat} (hbl:bm<lim) (hlim:lim<=m.next)
  (Inv:RR Nat->Tm->RN->Prop) (hExt:∀S t' m',Inv S t' m'->m'.get bm=some (.map es)/\lim<=m'.wl/\t'.at d2=ptr m.next 0)
  (hinit:Inv [] ((t.set d1 (.map (some bm))).set d2 (ptr m.next 0)) (mJ m))
  (hstep:∀S i e t m,S.Nodup->(∀i∈S,i<es.length)->i∉S->es[i]? = some e->Inv S t m->iL E n ops3 (fun t' m'=>bK E n fn ro X (fun e' t'' m''=>e'=.normal/\Inv (S++[i]) t'' m'') t' m') rest (((t.set e1 (.tuple #[.bool true,e.1,e.2])).set e2 (.bool true)).set f1 (.tuple #[e.1,e.2])) m)
  (hend:∀S t' m',S.Perm (List.range es.length)->Inv S t' m'->Q .normal ((t'.set e1 (.tuple #[.bool false])).set e2 (.bool false)) (m'.ww (min m.wl m'.wl))) :
  dg E n fn ro (.seq (.region i1 #[o1,o2] false) (.block B (.loop (.seq (.region i2 #[oN,oX] false) (.seq (.cond (.tmp e2) .skip (.exit B)) (.block B' (.seq (.region i3 ops3 false) X))))))) Q t m:=fun j w a F N hm ht hro hmk hNw=>by
 refine wpIn_seq (wpIn_region ?_);have hlist:List.range (#[o1,o2]:RU Oper).size=[0,1]:=rfl;rw[hlist];have w0':Region.wanted o1 (yielded #[o1,o2] a.tmps)=true:=by simp[Region.wanted,h1.2]
 have g0:(#[o1,o2]:RU Oper)[0]? = some o1:=rfl;have g1:(#[o1,o2]:RU Oper)[1]? = some o2:=rfl;simp only[wpOpsIn,g0,g1,w0',if_true];obtain⟨j1,w1,v0,q0,s1,q1⟩:=GL hm ht (o:=o1) hld;refine de hro.wide (kM hld) q0 ?_;cases q1 with
 | map hj =>
 rename_i kb;obtain⟨oo,hh,hor⟩:=s1.mr.obj bm _ kb hbm hj;cases oo with
 | map ents clock =>
  have h0:=(ht.mono s1.le).put (t':=t.set d1 (.map (some bm))) (dst:=o1.dst) (VR.map hj) (by rw[h1.1,cP,OM hb.1])
  rw[h1.1] at h0 ⊢;have w1':Region.wanted o2 (yielded #[o1,o2] (a.put (some d1) (.map (some kb.c))).tmps)=true:=by simp[Region.wanted,h2.2.2]
  rw[OM w1'];have hsz:a.tmps.size=n:=ht.1;have h9:execOp (a.put (some d1) (.map (some kb.c))).eval o2=(do pure (.value (<-Instr.range mt (.map (some kb.c))))):=by
   simp only[execOp,h2.1];rw[eval_put (v:=.map (some kb.c)) (d:=d1) (a:=a) (hsz.symm▸hb.1)]
  have hd2':∀c,o2.op≠.defer c:=fun c e=>by rw[h2.1] at e; cases e
  refine de hro.wide hd2' (by rw[h9]; exact kj.value (run_range_map w1 mt kt et kb.c ents clock hmt hh)) ?_
  have s2:=Fk s1.mr (.mapIter (some kb.c) clock #[] clock);have h4:(j1.set m.next ⟨w1.heap.size,none⟩) m.next=some ⟨w1.heap.size,none⟩:=aT.cA _ _ _
  have h5:=(h0.mono s2.le).put (t':=(t.set d1 (.map (some bm))).set d2 (ptr m.next 0)) (dst:=o2.dst) (v:=ptr m.next 0) (v':=.pointer (some ⟨w1.heap.size,0,none⟩)) (VR.ptr h4) (by rw[h2.2.1,cP,OM hb.2.1])
  rw[h2.2.1] at h5 ⊢;have m3:Marks N (w1.alloc (.mapIter (some kb.c) clock #[] clock)) a.defers:=(hmk.D0 hm s1).D0 (s1.mr.Nt (m.next+1)) s2
  have hsize:w1.heap.size<(w1.alloc (.mapIter (some kb.c) clock #[] clock)).heap.size:=by rw[World.size_alloc]; omega
  have hcl:kb.c<w1.heap.size:=(OQ.1 hh).1;have hit:L8 (w1.alloc (.mapIter (some kb.c) clock #[] clock)) w1.heap.size kb.c ents clock [] (leftOf ents #[]).size :=
   ⟨clock,#[],clock,by show(w1.heap.push _)[w1.heap.size]? = _; simp,by show(w1.heap.push _)[kb.c]? = _; rw[Qu,QW]; exact hh,hor.2.1,OF _,OF _,fun i x hx=>by simp,rfl⟩
  refine wpIn_block (lh ?_);have hL:=E5 (fn:=fn) (B:=B) (B':=B') (i2:=i2) (i3:=i3) (X:=X) hE hmono hN hX hOE h3 hb.2.2.1 hb.2.2.2.1 hb.2.2.2.2 h6 h7 h8 (s1.mr.Nt (m.next+1)) (bm:=bm) (bi:=m.next) (es:=es) (lim:=lim) (by rw[RN.get_ww]; exact hbm) hbl Inv hExt hstep (OF _) (kb:=kb) (ents:=ents) (clock:=clock) hor.2 a.defers N _ [] _ _ (mJ m) _ _ (((a.put (some d1) (.map (some kb.c))).put (some d2) (.pointer (some ⟨w1.heap.size,0,none⟩)))) F (PD _) List.nodup_nil (fun i h=>by cases h) hinit s2 h5 ((hro.mono s1.le).mono s2.le) m3 (by have:=s1.size; omega) h4 (s2.le _ _ hj) (hor.1.mono s2.le) hit
  intro bF k cs h10 h11 h12;obtain⟨e',a',w',⟨S,t',m',hS,hI,hq⟩,harr⟩:=hL bF k cs h10 h11 h12;obtain⟨rfl,jf,sf,tf,mf⟩:=hq;refine⟨_,a',w',?_,harr⟩
  show Exit.inBlock B _ (.exit B) a' w'
  simp only[Exit.inBlock,if_true];exact⟨.normal,_,_,hend S t' m' hS hI,rfl,jf,s1.trans hm (LB sf),tf,mf⟩
 | _=>exact hor.elim
end
def dg.block{E:Env}{n:Nat}{fn:R2}{ro:RI Nat}{Q:RO->Tm->RN->Prop}{t:Tm}{m:RN}{id:Nat}{c:Code}(h:dg E n fn ro c (ep id Q) t m):dg E n fn ro (.block id c) Q t m:=fun j w a F N hm ht hro hd hN=>by
 refine wpIn_block (wpIn_mono (h j w a F N hm ht hro hd hN) ?_);rintro e' a' w' ⟨e,t',m',q,hc⟩;obtain⟨rfl,hc⟩:=hc;cases e with
 | normal=>exact⟨.normal,t',m',q,rfl,hc⟩
 | ret=>exact⟨.ret,t',m',q,rfl,hc⟩
 | exit k =>
  simp only[ep] at q
  show Exit.inBlock id _ (.exit k) a' w'
  simp only[Exit.inBlock]
  split at q
  rename_i e; rw[OM e]; exact⟨.normal,t',m',q,rfl,hc⟩
  rename_i e; rw[OJ e]; exact⟨.exit k,t',m',q,rfl,hc⟩
structure FunN where
 run:RR QP->RN->(QP->RN->Bool)->Bool
def LX(E:Env)(ND:R2->RI FunN):Prop:=∀{g:R2} {S:FunN},ND g=some S->∀{args:RR QP} {m:RN} {K:QP->RN->Bool},S.run args m K=true->W.mD E g args m fun v m'=>K v m'=true
def ql(ND:R2->RI FunN)(o:Op):RI (FunN×RR QR) :=
 match o with
 | .call c=>match c.callee with
  | .value (.func g)=>match ND g with
   | some S=>some (S,c.args.toList)
   | none=>none
  | _=>none
 | _=>none
def wK{ND:R2->RI FunN}{o:Op}{S:FunN}{ars:RR QR}(h:ql ND o=some (S,ars)):∃c g,o=.call c/\c.callee=.value (.func g)/\ND g=some S/\c.args.toList=ars:=by
 unfold ql at h
 split at h
 rename_i c
 split at h
 rename_i g hc
 split at h
 rename_i S' hS;cases h;exact⟨c,g,rfl,hc,hS,rfl⟩
 cases h
 cases h
 cases h
noncomputable def zt (E:Env) (n:Nat) (ops:RU Oper) (ND:R2->RI FunN):RR Oper->RegSem
 | []=>⟨fun _ t m K=>K t m⟩
 | o::os=>match o.guard with
  | none=>match ql ND o.op with
   | some (S,ars)=>⟨fun H t m K=>(tN E ars).run t fun args=>S.run args m fun v m=>(jI n o.dst).run t v fun t=>(zt E n ops ND os).run H t m K⟩
   | none=>⟨fun H t m K=>(mF E o.op).run H t m fun v m=>(jI n o.dst).run t v fun t=>(zt E n ops ND os).run H t m K⟩
  | some _=>⟨fun H t m K=>(nm ops o).run t ((mF E o.op).run H t m fun v m=>(jI n o.dst).run t v fun t=>(zt E n ops ND os).run H t m K) ((jI n o.dst).run t undef fun t=>(zt E n ops ND os).run H t m K)⟩
def nO{E:Env}(hE:EnvOk E){H:Hand}(hH:zH E H){ND:R2->RI FunN}(hN:LX E ND){n:Nat}{ops:RU Oper}{K:Tm->RN->Bool}:∀{os:RR Oper} {t:Tm} {m:RN},(zt E n ops ND os).run H t m K=true->fe E n ops (fun t m=>K t m=true) os t m
 | [],t,m,h=>.nil h
 | o::os,t,m,h=>by
  unfold zt at h
  split at h
  rename_i hg;have hw:bt ops o t=true:=by simp only[bt,hg]
  split at h
  rename_i S ars hc;obtain⟨c,g,h1,h2,h3,rfl⟩:=wK hc;obtain⟨args,h4,h5⟩:=lM h;refine .Mg hw h1 h2 rfl h4 (hN h3 h5) fun v m' hv=>?_;obtain⟨t',hp,h⟩:=fi hv;exact⟨t',hp,nO hE hH hN h⟩
  refine .op hE hw ((jt hH h).mono fun v m' h=>?_);obtain⟨t',hp,h⟩:=fi h;exact⟨t',hp,nO hE hH hN h⟩
  rcases jn h with⟨hw,h⟩|⟨hw,h⟩
  refine .op hE hw ((jt hH h).mono fun v m' h=>?_);obtain⟨t',hp,h⟩:=fi h;exact⟨t',hp,nO hE hH hN h⟩
  obtain⟨t',hp,h⟩:=fi h;exact .not hw hp (nO hE hH hN h)
structure RangeD where
 i1:Nat
 o1:Oper
 o2:Oper
 B:Nat
 i2:Nat
 oN:Oper
 oX:Oper
 B':Nat
 i3:Nat
 oE:Oper
 rest:RR Oper
 ops3:RU Oper
 X:Code
 d1:Tmp
 d2:Tmp
 e1:Tmp
 e2:Tmp
 f1:Tmp
 mt:QQ
 kt:QQ
 et:QQ
def RangeD.code(d:RangeD):Code:=.seq (.region d.i1 #[d.o1,d.o2] false) (.block d.B (.loop (.seq (.region d.i2 #[d.oN,d.oX] false) (.seq (.cond (.tmp d.e2) .skip (.exit d.B)) (.block d.B' (.seq (.region d.i3 d.ops3 false) d.X))))))
structure RangeD.Ok(E:Env)(n:Nat)(d:RangeD):Prop where
 h1:d.o1.dst=some d.d1/\d.o1.guard=none
 h2:d.o2.op=.range d.mt (.tmp d.d1)/\d.o2.dst=some d.d2/\d.o2.guard=none
 hmt:E.P.underlying d.mt=some (.map d.kt d.et)
 hN:d.oN.op=.next (.tmp d.d2) false/\d.oN.dst=some d.e1/\d.oN.guard=none
 hX:d.oX.op=.extract (.tmp d.e1) 0/\d.oX.dst=some d.e2/\d.oX.guard=none
 hOE:d.oE.op=.entry (.tmp d.d2)/\d.oE.dst=some d.f1/\d.oE.guard=none
 h3:d.ops3.toList=d.oE::d.rest
 hb:d.d1<n/\d.d2<n/\d.e1<n/\d.e2<n/\d.f1<n
 hd:d.e1≠d.d2/\d.e2≠d.d2/\d.f1≠d.d2
def EN(o:Oper):RI (QQ×Tmp×Tmp) :=
 match o.guard,o.dst,o.op with
 | none,some d,.range mt (.tmp x)=>some (mt,x,d)
 | _,_,_=>none
def zX{o:Oper}{mt:QQ}{x d:Tmp}(h:EN o=some (mt,x,d)):o.op=.range mt (.tmp x)/\o.dst=some d/\o.guard=none:=by
 unfold EN at h
 split at h
 rename_i a b c; cases h; exact⟨c,b,a⟩
 cases h
def Aj(o:Oper):RI (Tmp×Tmp) :=
 match o.guard,o.dst,o.op with
 | none,some d,.next (.tmp x) false=>some (x,d)
 | _,_,_=>none
def yy{o:Oper}{x d:Tmp}(h:Aj o=some (x,d)):o.op=.next (.tmp x) false/\o.dst=some d/\o.guard=none:=by
 unfold Aj at h
 split at h
 rename_i a b c; cases h; exact⟨c,b,a⟩
 cases h
def A1(o:Oper):RI (Tmp×Tmp) :=
 match o.guard,o.dst,o.op with
 | none,some d,.extract (.tmp x) 0=>some (x,d)
 | _,_,_=>none
def yh{o:Oper}{x d:Tmp}(h:A1 o=some (x,d)):o.op=.extract (.tmp x) 0/\o.dst=some d/\o.guard=none:=by
 unfold A1 at h
 split at h
 rename_i a b c; cases h; exact⟨c,b,a⟩
 cases h
def FL(o:Oper):RI (Tmp×Tmp) :=
 match o.guard,o.dst,o.op with
 | none,some d,.entry (.tmp x)=>some (x,d)
 | _,_,_=>none
def zK{o:Oper}{x d:Tmp}(h:FL o=some (x,d)):o.op=.entry (.tmp x)/\o.dst=some d/\o.guard=none:=by
 unfold FL at h
 split at h
 rename_i a b c; cases h; exact⟨c,b,a⟩
 cases h
def FQ(o:Oper):RI Tmp :=
 match o.guard,o.dst with
 | none,some d=>some d
 | _,_=>none
def zQ{o:Oper}{d:Tmp}(h:FQ o=some d):o.dst=some d/\o.guard=none:=by
 unfold FQ at h
 split at h
 rename_i a b; cases h; exact⟨b,a⟩
 cases h
def nA(E:Env)(n:Nat)(i1:Nat)(a1:RU Oper)(B i2:Nat)(a2:RU Oper)(e2 B2 B' i3:Nat)(a3:RU Oper)(X:Code):RI RangeD :=
 match a1.toList,a2.toList,a3.toList with
 | [o1,o2],[oN,oX],oE::rest =>
  match FQ o1,EN o2,Aj oN,A1 oX,FL oE with
  | some d1,some (mt,d1',d2),some (d2',e1),some (e1',e2'),some (d2'',f1) =>
   match E.P.underlying mt with
   | some (.map kt et)=>if B2=B/\d1'=d1/\d2'=d2/\e1'=e1/\e2'=e2/\d2''=d2/\(d1<n/\d2<n/\e1<n/\e2<n/\f1<n)/\(e1≠d2/\e2≠d2/\f1≠d2) then some ⟨i1,o1,o2,B,i2,oN,oX,B',i3,oE,rest,a3,X,d1,d2,e1,e2,f1,mt,kt,et⟩ else none
   | _=>none
  | _,_,_,_,_=>none
 | _,_,_=>none
def p9{E:Env}{n i1 B i2 e2 B2 B' i3:Nat}{a1 a2 a3:RU Oper}{X:Code}{d:RangeD}(h:nA E n i1 a1 B i2 a2 e2 B2 B' i3 a3 X=some d) :
  .seq (.region i1 a1 false) (.block B (.loop (.seq (.region i2 a2 false) (.seq (.cond (.tmp e2) .skip (.exit B2)) (.block B' (.seq (.region i3 a3 false) X))))))=d.code/\d.Ok E n:=by
 unfold nA at h
 split at h
 rename_i o1 o2 oN oX oE rest q1 q2 q3
 split at h
 rename_i d1 mt d1' d2 d2' e1 e1' e2' d2'' f1 r1 r2 r3 r4 r5
 split at h
 rename_i kt et hu
 split at h
 rename_i hc;obtain⟨rfl,rfl,rfl,rfl,rfl,rfl,hb,hd⟩:=hc;cases h;refine⟨?_,zQ r1,zX r2,hu,yy r3,yh r4,zK r5,q3,hb,hd⟩;have e1:a1=#[o1,o2]:=Pq.1 q1;have e2:a2=#[oN,oX]:=Pq.1 q2;rw[e1,e2]; rfl
 cases h
 cases h
 cases h
 cases h
def vn(E:Env)(n:Nat):Code->RI RangeD
 | .seq (.region i1 a1 false) (.block B (.loop (.seq (.region i2 a2 false) (.seq (.cond (.tmp e2) .skip (.exit B2)) (.block B' (.seq (.region i3 a3 false) X))))))=>nA E n i1 a1 B i2 a2 e2 B2 B' i3 a3 X
 | _=>none
def vK{E:Env}{n:Nat}{c:Code}{d:RangeD}(h:vn E n c=some d):c=d.code/\d.Ok E n:=by
 unfold vn at h
 split at h
 exact p9 h
 cases h
structure SrcSem where
 run:Tm->RN->(QP->Bool)->Bool
noncomputable def KF (E:Env) (o:Op):SrcSem :=
 match o with
 | .move x=>⟨fun t _ K=>(dm E x).run t K⟩
 | .load ty a=>⟨fun t m K=>(dm E a).run t fun p=>(yi E.P ty).run p m K⟩
 | _=>⟨fun _ _ _=>false⟩
def G9{E:Env}{o:Op}{t:Tm}{m:RN}{K:QP->Bool}(h:(KF E o).run t m K=true):∃v,cY E t m o=some (v,m)/\K v=true:=by
 unfold KF at h
 split at h
 obtain⟨v,h1,h2⟩:=bq h;exact⟨v,by simp only[cY,h1,OI],h2⟩
 obtain⟨p,h1,h2⟩:=bq h;obtain⟨v,h3,h4⟩:=rB h2;exact⟨v,by simp only[cY,h1,h3,OI],h4⟩
 cases h
def tC:QP->QP->Bool
 | .agg a,.agg b=>pP a.toList b.toList
 | .tuple a,.tuple b=>pP a.toList b.toList
 | .string a,.string b=>decide (a=b)
 | v,u=>uh v u
def ou:∀{v u:QP},tC v u=true->v=u:=by
 intro v u h;unfold tC at h
 split at h
 rw[Pq.1 (jr h)]
 rw[Pq.1 (jr h)]
 rw[of_decide_eq_true h]
 exact nC h
def sF:RR QP->RR QP->Bool
 | [],[]=>true
 | v::vs,u::us=>tC v u&&sF vs us
 | _,_=>false
def pD:∀{v u:RR QP},sF v u=true->v=u
 | [],[],_=>rfl
 | v::vs,u::us,h=>by
  simp only[sF,OD] at h;rw[ou h.1,pD h.2]
 | [],_::_,h=>by cases h
 | _::_,[],h=>by cases h
def Bh:RR (QP×QP)->RR (QP×QP)->Bool
 | [],[]=>true
 | v::vs,u::us=>tC v.1 u.1&&tC v.2 u.2&&Bh vs us
 | _,_=>false
def yv:∀{v u:RR (QP×QP)},Bh v u=true->v=u
 | [],[],_=>rfl
 |(a,b)::vs,(c,d)::us,h=>by
  simp only[Bh,OD] at h;rw[show a=c from ou h.1.1,show b=d from ou h.1.2,yv h.2]
 | [],_::_,h=>by cases h
 | _::_,[],h=>by cases h
def vh(o:RI RP)(es:RR (QP×QP)):Bool :=
 match o with
 | some (.map es')=>Bh es' es
 | _=>false
def xG{o:RI RP}{es:RR (QP×QP)}(h:vh o es=true):o=some (.map es):=by
 unfold vh at h
 split at h
 rw[yv h]
 cases h
noncomputable def JB (es:RR (QP×QP)) (i:Nat) (k:QP->QP->Bool):Bool:=Option.rec (motive:=fun _=>Bool) false (fun e=>Prod.rec (motive:=fun _=>Bool) (fun a b=>k a b) e) es[i]?
def DW{es:RR (QP×QP)}{i:Nat}{k:QP->QP->Bool}{e:QP×QP}(he:es[i]? = some e)(h:JB es i k=true):k e.1 e.2=true:=by
 unfold JB at h;rw[he] at h;exact h
noncomputable def H9 (l:RR Nat) (k:Nat->Bool):Bool:=List.rec (motive:=fun _=>Bool) true (fun i _ ih=>dS (k i) ih false) l
def tD{k:Nat->Bool}:∀{l:RR Nat},H9 l k=true->∀i∈l,k i=true
 | [],_,i,hi=>by cases hi
 | a::l,h,i,hi=>by
  have h':dS (k a) (H9 l k) false=true:=h;obtain⟨h1,h2⟩:=bz h';rcases Pb.1 hi with rfl|hi
  exact h1
  exact tD h2 i hi
noncomputable def KN (l:RR Nat) (a b:Bool):Bool:=List.rec (motive:=fun _=>Bool) a (fun _ _ _=>b) l
noncomputable def goN (E:Env) (n:Nat) (fn:R2) (d:RangeD) (H:Hand) (bm bi lim wl:Nat) (es:RR (QP×QP)) (K:Tm->RN->Bool):Nat->RR Nat->Tm->RN->Bool
 | 0,_,_,_=>false
 | k+1,idx,t,m=>KN idx ((gW d.e1).run t (.tuple #[.bool false]) fun t=>(gW d.e2).run t (.bool false) fun t=>fM (m.ww (min wl m.wl)) fun m=>K t m)
  (H9 idx fun i=>JB es i fun ke ve=>(gW d.e1).run t (.tuple #[.bool true,ke,ve]) fun t=>(gW d.e2).run t (.bool true) fun t=>(gW d.f1).run t (.tuple #[ke,ve]) fun t =>
   (xK E n d.ops3 d.rest).run H t m fun t m=>(ik E n fn d.X).run H none t m fun e t m=>fm e (dS (vh (m.get bm) es) (dS (Nat.ble lim m.wl) ((F4 d.d2).run t fun v=>dS (ph v (ptr bi 0)) (goN E n fn d H bm bi lim wl es K k (idx.filter fun j=>!Nat.beq j i) t m) false) false) false) (fun _=>false) false)
structure RngSem where
 run:Hand->Tm->RN->(Tm->RN->Bool)->Bool
noncomputable def Ax (E:Env) (n:Nat) (fn:R2) (d:RangeD):RngSem :=
 match Nat.ble n 512 with
 | true=>⟨fun H t m K=>(KF E d.o1.op).run t m fun v=>EI v fun r=>Option.rec (motive:=fun _=>Bool) false (fun bm=>dS (Nat.blt bm m.next) (Dt m bm fun es =>
   fM (mJ m) fun m2=>(gW d.d1).run t (.map (some bm)) fun t=>(gW d.d2).run t (ptr m.next 0) fun t=>fN es.length fun N=>goN E n fn d H bm m.next (Nat.succ bm) m.wl es K (Nat.succ N) (List.range N) t m2) false) r⟩
 | false=>⟨fun _ _ _ _=>false⟩
def xD(N:Nat)(S:RR Nat)(i:Nat):(List.range N).filter (fun j=>!(S++[i]).contains j)=((List.range N).filter fun j=>!S.contains j).filter fun j=>!Nat.beq j i:=by
 rw[List.filter_filter];refine PX (fun p=>(List.range N).filter p) (funext fun j=>?_);rw[Bool.eq_iff_iff];simp only[Pv,OD,List.contains_eq_mem,P1,PJ,decide_eq_false_iff_not,not_or];have:(Nat.beq j i=false)↔¬j=i:=by
  rw[<-Bool.not_eq_true];exact not_congr ⟨OE,fun e=>by rw[e]; exact Nat.beq_refl i⟩
 rw[this];exact And.comm
def C5 {E:Env} (hE:EnvOk E) (hmono:¬E.mono) {H:Hand} (hH:zH E H) {n:Nat} {fn:R2} {d:RangeD} (hd:d.Ok E n) {t:Tm} {m:RN} {K:Tm->RN->Bool} (h:(Ax E n fn d).run H t m K=true):dg E n fn none d.code (fun e t m=>e = .normal/\K t m=true) t m:=by
 unfold Ax at h
 split at h
 ·rename_i hn;have hn:=OL hn;obtain⟨v,h1,h⟩:=G9 h;obtain⟨r,rfl,h⟩:=mg h;cases r with
  | none=>cases h
  | some bm =>
   obtain⟨hbm,h⟩:=bz h;obtain⟨es,h2,h⟩:=mh h;obtain⟨b1,b2,b3,b4,b5⟩:=hd.hb;have c1:d.d1<512:=OH b1 hn;have c2:d.d2<512:=OH b2 hn;have c3:d.e1<512:=OH b3 hn;have c4:d.e2<512:=OH b4 hn;have c5:d.f1<512:=OH b5 hn;rw[ye,fI _ c1,fI _ c2,dn] at h;have hbl:bm<m.next:=OL hbm
   refine dg.DS hE hmono hd.h1 hd.h2 hd.hmt hd.hN hd.hX hd.hOE hd.h3 hd.hb hd.hd.1 hd.hd.2.1 hd.hd.2.2 h1 h2 (lim:=bm+1) (PD _) hbl
    (fun S t' m'=>∃k,goN E n fn d H bm m.next (Nat.succ bm) m.wl es K k ((List.range es.length).filter fun j=>!S.contains j) t' m'=true/\m'.get bm=some (.map es)/\bm+1<=m'.wl/\t'.at d.d2=ptr m.next 0)
    (fun S t' m' hI=>by obtain⟨_,_,hI⟩:=hI; exact hI) ⟨es.length+1,?_,?_,?_,?_⟩ ?_ ?_
   have:(List.range es.length).filter (fun j=>!([]:RR Nat).contains j)=List.range es.length:=List.filter_eq_self.2 fun a _=>by simp
   rw[this]; exact h
   rw[iE,QW]; exact h2
   rw[BL]; omega
   rw[at_set,OM rfl]
   ·intro S i e t1 m1 x1 x2 x3 x4 hI;obtain⟨k,g1,g2,g3,g4⟩:=hI;cases k with
    | zero=>cases g1
    | succ k =>
     have hi:i<es.length:=(OX.1 x4).1;have hmem:i ∈(List.range es.length).filter fun j=>!S.contains j:=List.mem_filter.2 ⟨P7.2 hi,by simp[x3]⟩
     have g1':(H9 ((List.range es.length).filter fun j=>!S.contains j) fun i=>JB es i fun ke ve=>(gW d.e1).run t1 (.tuple #[.bool true,ke,ve]) fun t=>(gW d.e2).run t (.bool true) fun t=>(gW d.f1).run t (.tuple #[ke,ve]) fun t =>
   (xK E n d.ops3 d.rest).run H t m1 fun t m'=>(ik E n fn d.X).run H none t m' fun e t m'=>fm e (dS (vh (m'.get bm) es) (dS (Nat.ble (Nat.succ bm) m'.wl) ((F4 d.d2).run t fun v=>dS (ph v (ptr m.next 0)) (goN E n fn d H bm m.next (Nat.succ bm) m.wl es K k (((List.range es.length).filter fun j=>!S.contains j).filter fun j=>!Nat.beq j i) t m') false) false) false) (fun _=>false) false)=true:=by
         unfold goN at g1;cases hl:(List.range es.length).filter fun j=>!S.contains j with
         | nil=>rw[hl] at hmem; cases hmem
         | cons a l=>rw[hl] at g1; exact g1
     have g5:=DW x4 (tD g1' i hmem);rw[fI _ c3,fI _ c4,fI _ c5] at g5;have g6:=nY hH g5;have mono:∀{os:RR Oper} {t:Tm} {m:RN} {K K':Tm->RN->Prop},(∀t m,K t m->K' t m)->iL E n d.ops3 K os t m->iL E n d.ops3 K' os t m:=by
      intro os
      induction os with
      | nil=>intro t m K K' hk h; exact hk _ _ h
      | cons o os ih =>
       intro t m K K' hk h;simp only[iL] at h ⊢
       split at h
       rename_i hw;obtain⟨v,m1,a1,t1,hp,a2⟩:=h;rw[OM hw];exact⟨v,m1,a1,t1,hp,ih hk a2⟩
       rename_i hw;obtain⟨t1,hp,a2⟩:=h;rw[OJ hw];exact⟨t1,hp,ih hk a2⟩
     refine mono (fun t2 m2 h2=>?_) g6;refine(ld hH d.X h2).mono fun e t3 m3 h3=>?_;rcases cZ h3 with⟨rfl,h3⟩|⟨id,rfl,h3⟩|⟨rfl,h3⟩
     obtain⟨y1,h3⟩:=bz h3;obtain⟨y2,h3⟩:=bz h3;rw[wg _ c2] at h3;obtain⟨y3,h3⟩:=bz h3;refine⟨rfl,k,?_,xG y1,OL y2,pK y3⟩;rw[xD]; exact h3
     cases h3
     cases h3
   ·intro S t1 m1 hS hI;obtain⟨k,g1,_⟩:=hI;have hnil:(List.range es.length).filter (fun j=>!S.contains j)=[]:=List.filter_eq_nil_iff.2 fun a ha=>by
     have:=hS.mem_iff.2 ha;simp[this]
    rw[hnil] at g1;cases k with
    | zero=>cases g1
    | succ k =>
     have g1':((gW d.e1).run t1 (.tuple #[.bool false]) fun t=>(gW d.e2).run t (.bool false) fun t=>fM (m1.ww (min m.wl m1.wl)) fun m=>K t m)=true:=g1;rw[fI _ c3,fI _ c4,ye] at g1';exact⟨rfl,g1'⟩
 cases h
def N1(ND:R2->RI FunN)(l:RR Oper):Bool:=l.any fun o=>(ql ND o.op).isSome
structure SemN where
 run:Hand->Tm->RN->(RO->Tm->RN->Bool)->Bool
noncomputable def jB (E:Env) (n:Nat) (fn:R2) (ND:R2->RI FunN):Code->SemN
 | .seq a b=>match vn E n a with
  | some d=>⟨fun H t m K=>(Ax E n fn d).run H t m fun t m=>(jB E n fn ND b).run H t m K⟩
  | none=>⟨fun H t m K=>(jB E n fn ND a).run H t m fun e t m=>fm e ((jB E n fn ND b).run H t m K) (fun id=>K (.exit id) t m) (K .ret t m)⟩
 | .cond x a b=>⟨fun H t m K=>(dm E x).run t fun v=>pO v (fun c=>dS c ((jB E n fn ND a).run H t m K) ((jB E n fn ND b).run H t m K)) false⟩
 | .block id a=>⟨fun H t m K=>(jB E n fn ND a).run H t m fun e t m=>fm e (K .normal t m) (fun id'=>dS (Nat.beq id' id) (K .normal t m) (K (.exit id') t m)) (K .ret t m)⟩
 | .region i ops draw=>match draw,N1 ND ops.toList with
  | false,true=>⟨fun H t m K=>(zt E n ops ND ops.toList).run H t m fun t m=>K .normal t m⟩
  | _,_=>⟨fun H t m K=>(JA E n ops draw).run H t m fun t m=>K .normal t m⟩
 | c=>⟨fun H t m K=>(ik E n fn c).run H none t m K⟩
def Ej{E:Env}(hE:EnvOk E)(hmono:¬E.mono){H:Hand}(hH:zH E H){ND:R2->RI FunN}(hN:LX E ND){n:Nat}{fn:R2}:∀(c:Code) {t:Tm} {m:RN} {K:RO->Tm->RN->Bool},(jB E n fn ND c).run H t m K=true->dg E n fn none c (fun e t m=>K e t m=true) t m:=by
 intro c
 induction c with
 | seq a b iha ihb =>
  intro t m K h;unfold jB at h
  split at h
  rename_i d hd;obtain⟨rfl,hok⟩:=vK hd;refine .DC ((C5 hE hmono hH hok h).mono fun e t m h=>?_);obtain⟨rfl,h⟩:=h;exact ihb h
  refine .DC ((iha h).mono fun e t m h=>?_);rcases cZ h with⟨rfl,h⟩|⟨id,rfl,h⟩|⟨rfl,h⟩
  exact ihb h
  exact h
  exact h
 | cond x a b iha ihb =>
  intro t m K h;unfold jB at h;obtain⟨v,h1,h⟩:=bq (x:=x) h;obtain⟨c,rfl,h⟩:=iI h;refine .cond h1 (fun hc=>?_) (fun hc=>?_)
  subst hc; exact iha h
  subst hc; exact ihb h
 | block id a ih =>
  intro t m K h;unfold jB at h;refine .block ((ih h).mono fun e t m h=>?_);rcases cZ h with⟨rfl,h⟩|⟨id',rfl,h⟩|⟨rfl,h⟩
  exact h
  simp only[ep];rcases cM h with⟨h1,h⟩|⟨h1,h⟩
  rw[OM (OE h1)]; exact h
  rw[OJ (fun e=>by rw[e,Nat.beq_refl] at h1; cases h1)]; exact h
  exact h
 | region i ops draw =>
  intro t m K h;unfold jB at h
  split at h
  exact .region (nO hE hH hN h)
  exact .of hE (Cq hH (fun t m h=>h) h)
 | _ =>
  intro t m K h;unfold jB at h;exact .of hE (ld hH _ h)
noncomputable def om (E:Env) (H:Hand) (ND:R2->RI FunN) (f:R2):FunN :=
 match E.P.funcs[f]? with
 | some fn=>match fn.body,Nat.ble fn.ntmps 512 with
  | some c,true=>⟨fun args m K=>dS (Nat.ble args.length fn.ntmps) (wo args 0 .nil fun t=>(jB E fn.ntmps f ND c).run H t m fun e t m=>fm e ((Ac E fn.results.toList).run t m fun vs=>Gq vs fun v=>K v m) (fun _=>false) ((Ac E fn.results.toList).run t m fun vs=>Gq vs fun v=>K v m)) false⟩
  | _,_=>⟨fun _ _ _=>false⟩
 | none=>⟨fun _ _ _=>false⟩
def rK{E:Env}(hE:EnvOk E)(hmono:¬E.mono){H:Hand}(hH:zH E H){ND:R2->RI FunN}(hN:LX E ND){f:R2}{args:RR QP}{m:RN}{K:QP->RN->Bool}(h:(om E H ND f).run args m K=true):W.mD E f args m fun v m'=>K v m'=true:=by
 unfold om at h
 split at h
 rename_i F hf
 split at h
 rename_i c hb hn;have g:=bz h; clear h; obtain⟨h1,h⟩:=g;have hle:=OL h1;have hn':=OL hn;rw[oK args 0 _ _ (by omega)] at h
 have hmax:max args.length F.ntmps=F.ntmps:=Nat.max_eq_right hle;refine W.yJ hE hf hb rfl hmax ((Ej hE hmono hH hN c h).mono fun e t m h=>?_);rcases cZ h with⟨rfl,h⟩|⟨id,rfl,h⟩|⟨rfl,h⟩
 obtain⟨vs,h2,h⟩:=mn h;rw[qk] at h;rw[C2,h2,uu]; exact h
 cases h
 obtain⟨vs,h2,h⟩:=mn h;rw[qk] at h;rw[FZ,h2,uu]; exact h
 cases h
 cases h
section
variable{E:Env}{j j1:aT}{m m1:RN}{w w1:QT}
def Sim.same(h:MR E j m w)(hold:∀c,c<w.heap.size->w1.heap[c]? = w.heap[c]?)(hsize:w.heap.size<=w1.heap.size)(hcalm:iH E w w1):Sim E j m w j m w1 where
 ext:=.refl m
 le:=.refl j
 new:=fun b k h h'=>by simp[h'] at h
 mr:=⟨fun b k hb=>⟨(h.lt b k hb).1,OH (h.lt b k hb).2 hsize⟩,fun b o k ho hb=>by
  obtain⟨o',h1,h2⟩:=h.obj b o k ho hb;exact⟨o',(hold k.c (h.lt b k hb).2).trans h1,h2⟩,h.inj,h.glob⟩
 size:=hsize
 full:=fun b h h' _=>O6 h (by omega)
 away:=fun _ _ _=>rfl
 fresh:=fun b k h h'=>by simp[h'] at h
 frame:=fun c hc _=>hold c hc
 calm:=hcalm
def Aa(hE:EnvOk E){pr:R2->RI Prim}(h:∀f p,pr f=some p->E.dj f=some p\/∀args m v m',p.run args m=some (v,m')->∀(j:aT) (w:QT) (args':RR QP),MR E j m w->LR j args args'->dX E.P (E.dj f).isSome f args'.toArray w (fA E j m w v m')):EnvOk { E with dj:=pr}:=by
 refine⟨hE.call,hE.mixed,fun f p hp args m v m' hrun j w args' hm hl=>?_⟩;have hp':({ E with dj:=pr}:Env).dj f=some p:=hp;have hm0:MR E j m w:=MR.env (E:={ E with dj:=pr}) (E':=E) rfl hm;have key:∀v' w',fA E j m w v m' v' w'->fA { E with dj:=pr} j m w v m' v' w':=fun v' w' ⟨j',s,hv⟩=>⟨j',Sim.env (E:=E) rfl (fun e=>e) s,hv⟩;rcases h f p hp with h1|h1
 exact cG (fun _=>by rw[hp']; rfl) (hE.dj f p h1 args m v m' hrun j w args' hm0 hl) key
 exact cG (fun _=>by rw[hp']; rfl) (h1 args m v m' hrun j w args' hm0 hl) key
end
section
variable{E:Env}{j:aT}{m:RN}{w:QT}
def lz(j:aT)(g:Nat):aT:=fun x=>if x<g then j x else none
def xU(n:Nat)(gs:Nat->RI (RR QP))(b:Nat):(CG n gs).get b=(gs b).map fun cs=>.cells cs .ro:=by
 simp[RN.get,CG,Heap.get_nil]
def MR.ME{gs:Nat->RI (RR QP)}(h:MR E j m w)(hgs:∀x c,x<E.glob->gs x=some c->m.get x=some (.cells c .ro))(hgp:∀x c,gs x=some c->c.all aX=true):MR E (lz j E.glob) (CG E.glob gs) w:=by
 have cases1:∀x k,lz j E.glob x=some k->x<E.glob/\j x=some k:=by
  intro x k hx;unfold lz at hx
  split at hx
  rename_i hlt; exact⟨hlt,hx⟩
  cases hx
 refine⟨fun x k hx=>?_,fun x o k ho hx=>?_,fun x x' k k' hx hx' hl hl' hc=>?_,fun gl hgl=>?_⟩
 obtain⟨hlt,hj⟩:=cases1 x k hx;exact⟨hlt,(h.lt x k hj).2⟩
 ·rw[xU] at ho;obtain⟨hlt,hj⟩:=cases1 x k hx;cases hg:gs x with
  | none=>rw[hg] at ho; cases ho
  | some c =>
   rw[hg] at ho; cases ho;have hgx:=hgs x c hlt hg;obtain⟨o',h1,h2⟩:=h.obj x _ k hgx hj;refine⟨o',h1,?_⟩;cases o' with
   | cells c' ty fz =>
    refine⟨h2.1,fun i v hi=>?_⟩;obtain⟨v',h3,h4⟩:=h2.2 i v hi;have hpv:=OV.1 (hgp x c hg) v (Pl hi);have:=eL hpv h4;subst this;exact⟨_,h3,.aX hpv⟩
   | _=>exact h2.elim
 ·have live:∀y,y<E.glob->((CG E.glob gs).get y).isSome=true->(m.get y).isSome=true:=by
   intro y hy hl;rw[xU] at hl;cases hg:gs y with
   | none=>rw[hg] at hl; cases hl
   | some c=>rw[hgs y c hy hg]; rfl
  obtain⟨hlt,hj⟩:=cases1 x k hx;obtain⟨hlt',hj'⟩:=cases1 x' k' hx';exact h.inj x x' k k' hj hj' (live x hlt hl) (live x' hlt' hl') hc
 unfold lz;rw[OM hgl];exact h.glob gl hgl
def vp(hE:EnvOk E){f:R2}{gs:Nat->RI (RR QP)}(hgp:∀x c,gs x=some c->c.all aX=true){fuel:Nat}{v:QP}{m0:RN}
  (hrun:run E fuel (.call f [] (CG E.glob gs))=some (.val v m0)) (hwl:E.glob<=m0.wl) (hpv:bO v=true) {args':RR QP} (h:MR E j m w) (hgs:∀x c,x<E.glob->gs x=some c->m.get x=some (.cells c .ro)) (hl:LR j [] args') :
  dX E.P (E.dj f).isSome f args'.toArray w (fA E j m w v m):=by
 have hm0:=h.ME hgs hgp;have hl0:LR (lz j E.glob) [] args':=by
  rw[LR.dz hl]; exact .nil _
 obtain⟨_,_,e,hs⟩:=kh hE fuel _ _ hrun;cases e;refine cG (fun x=>x) (hs _ w args' hm0 hl0) ?_;intro v' w' ⟨j',s,hv'⟩;have hold:∀c,c<w.heap.size->w'.heap[c]? = w.heap[c]?:=fun c hc=>s.frame c hc fun x k hx _ _=>by
  have:x<E.glob:=(hm0.lt x k hx).1;omega
 exact⟨j,.same h hold s.size s.calm,VR.lW hpv hv'⟩
end
attribute [local irreducible] RN.get RN.set RN.alloc RN.ww RN.kill
section
variable{E:Env}{j j1:aT}{m m1:RN}{w w1:QT}
def Sim.Nw{js:aT}{ms:RN}(h:MR E j m w)(hs:MR E js ms w)(s:Sim E js { ms with wl:=ms.next} w j1 m1 w1)(g:Grown ms m1){T:DU}{a:Nat->Nat}{tg:Nat->Tag}(hT:T.ok)
  (ha:∀i,i<T.length->ms.next<=a i/\a i<m1.next) (hinj:∀i k,i<T.length->k<T.length->a i=a k->i=k) (ho:∀i x,T[i]? = some x->m1.get (a i)=some (.cells (x.1.map (TV.inst T a)) (tg i))/\(tg i=.own\/tg i=.more x.2)) :
  ∃j2,Sim E j m w j2 (m.gk (T.cd fun i=>m.next+i)) w1/\∀x:TV,x.ok T.length=true->∀v',VR j1 (x.inst T a) v'->VR j2 (x.inst T fun i=>m.next+i) v':=by
 have hol:(T.cd fun i=>m.next+i).length=T.length:=by unfold DU.cd; rw[O7]
 have hjn:∀b,ms.next<=b->js b=none:=fun b hb=>by
  cases e:js b with
  | none=>rfl
  | some k=>exact O6 (hs.lt b k e).1 (by omega)
 have hold:=s.old hs g;have hk:∀i x,T[i]? = some x->∃k,j1 (a i)=some k:=fun i x hi=>by
  have hlt:=(OX.1 hi).1;exact s.full (a i) (ha i hlt).1 (ha i hlt).2 (by rw[(ho i x hi).1]; rfl)
 have hfresh:∀i k,i<T.length->j1 (a i)=some k->w.heap.size<=k.c:=fun i k hi hk=>by
  rcases s.fresh (a i) k hk (hjn _ (ha i hi).1) with hf|⟨b0,k0,a1,_,_,a4⟩
  exact hf
  have:=(hs.lt b0 k0 a1).1; have:=g.wl; omega
 have hcell:∀i x k,T[i]? = some x->j1 (a i)=some k->∃c ty fz,w1.heap[k.c]? = some (.cells c ty fz)/\oh k (tg i) x.1.length c fz/\∀(q:Nat) (z:TV),x.1[q]? = some z->∃v',c[q]? = some v'/\VR j1 (z.inst T a) v':=fun i x k hi hk=>by
  obtain⟨o',g1,g2⟩:=s.mr.obj (a i) _ k (ho i x hi).1 hk;cases o' with
  | cells c ty fz =>
   refine⟨c,ty,fz,g1,by have:=g2.1; rwa[O7] at this,fun q z hq=>?_⟩
   exact g2.2 q (z.inst T a) (by rw[O1,hq]; rfl)
  | _=>exact g2.elim
 have key:∀j2:aT,(∀i x,T[i]? = some x->∀k,j1 (a i)=some k->j2 (m.next+i)=some (lI k x.2 x.1.length))->∀x:TV,x.ok T.length=true->∀v',VR j1 (x.inst T a) v'->VR j2 (x.inst T fun i=>m.next+i) v':=fun j2 hj2 x hx v' hv=>by
  let cf:Nat->RU QP ×(Nat×Nat):=fun i=>match j1 (a i) with
   | some k=>match w1.heap[k.c]? with
    | some (.cells c _ fz)=>(c,fz)
    | _=>(#[],(0,0))
   | none=>(#[],(0,0))
  refine TV.move hT (tg:=tg) (cf:=cf) (fun i y hi=>?_) hx hv;obtain⟨k,hk⟩:=hk i y hi;obtain⟨c,ty,fz,h1,h2,_⟩:=hcell i y k hi hk;have ecf:cf i=(c,fz):=by show(match j1 (a i) with|some k=>_|none=>_)=_; rw[hk]; dsimp only; rw[h1]
  exact⟨k,hk,hj2 i y hi k hk,(ho i y hi).2,by rw[ecf]; exact h2⟩
 have e1:∀i x,T[i]? = some x->∀k,j1 (a i)=some k->(fun b=>if m.next<=b then match T[b-m.next]?,j1 (a (b-m.next)) with|some x,some k=>some (lI k x.2 x.1.length)|_,_=>none else j b) (m.next+i)=some (lI k x.2 x.1.length):=fun i x hi k hk=>by
  dsimp only
  rw[QX,Nat.add_sub_cancel_left,hi,hk]
 have e2:∀b,b<m.next->(fun b=>if m.next<=b then match T[b-m.next]?,j1 (a (b-m.next)) with|some x,some k=>some (lI k x.2 x.1.length)|_,_=>none else j b) b=j b:=fun b hb=>by
  dsimp only
  rw[QW]
 have e3:∀b k,(fun b=>if m.next<=b then match T[b-m.next]?,j1 (a (b-m.next)) with|some x,some k=>some (lI k x.2 x.1.length)|_,_=>none else j b) b=some k->(b<m.next/\j b=some k)\/∃i x k1,T[i]? = some x/\b=m.next+i/\j1 (a i)=some k1/\k=lI k1 x.2 x.1.length:=fun b k hb=>by
  by_cases c:m.next<=b
  ·dsimp only at hb
   rw[OM c] at hb;cases hx:T[b-m.next]? with
   | none=>rw[hx] at hb; cases hb
   | some x =>
    cases hk:j1 (a (b-m.next)) with
    | none=>rw[hx,hk] at hb; cases hb
    | some k1 =>
     rw[hx,hk] at hb;exact .inr ⟨b-m.next,x,k1,hx,by omega,hk,(OK hb).symm⟩
  dsimp only at hb
  rw[OJ c] at hb;exact .inl ⟨(h.lt b k hb).1,hb⟩
 generalize(fun b=>if m.next<=b then match T[b-m.next]?,j1 (a (b-m.next)) with|some x,some k=>some (lI k x.2 x.1.length)|_,_=>none else j b)=j2 at e1 e2 e3
 refine⟨j2,?_,key j2 e1⟩;have hle:j.le j2:=fun b k hb=>by rw[e2 b (h.lt b k hb).1]; exact hb
 have hget:∀i,i<T.length->(m.gk (T.cd fun i=>m.next+i)).get (m.next+i)=(T.cd fun i=>m.next+i)[i]?:=fun i hi=>tZ _ m i (by omega)
 have ha2:MR E j m w1:=⟨fun b k e=>⟨(h.lt b k e).1,OH (h.lt b k e).2 s.size⟩,fun b o k ho e=>by
  obtain⟨o',h1,h2⟩:=h.obj b o k ho e;exact⟨o',(hold _ (h.lt b k e).2).trans h1,h2⟩,h.inj,h.glob⟩
 have hlt:∀{i x},T[i]? = some x->i<T.length:=fun hi=>(OX.1 hi).1;have hlive:∀{i x},T[i]? = some x->(m1.get (a i)).isSome=true:=fun hi=>by rw[(ho _ _ hi).1]; rfl
 refine⟨⟨by rw[gF]; omega,by rw[uQ]; exact OF _,fun b hb _=>dC _ _ (.inl hb),fun b hb hn=>(dC _ _ (.inl hb)).trans hn⟩,hle,fun b k e e'=>?_,⟨fun b k e=>?_,fun b o k ho' e=>?_,fun b b' k k' e e' hl hl' hc=>?_,fun gl hgl=>?_⟩,s.size,fun b hb1 hb2 _=>?_,fun b hb _=>?_,fun b k e e'=>?_,fun c hc _=>hold c hc,s.calm⟩
 rcases e3 b k e with⟨_,c⟩|⟨i,_,_,_,rfl,_⟩
 rw[e'] at c; cases c
 omega
 rcases e3 b k e with⟨c1,c2⟩|⟨i,x,k1,hi,rfl,c2,rfl⟩
 exact⟨by rw[gF]; omega,(ha2.lt b k c2).2⟩
 exact⟨by rw[gF,hol]; have:=hlt hi; omega,by rw[lP]; exact(s.mr.lt _ k1 c2).2⟩
 rcases e3 b k e with⟨c1,c2⟩|⟨i,x,k1,hi,rfl,c2,rfl⟩
 rw[dC _ _ (.inl c1)] at ho';obtain⟨o',h1,h2⟩:=ha2.obj b o k ho' c2;exact⟨o',h1,h2.mono hle⟩
 rw[hget i (hlt hi)] at ho';unfold DU.cd at ho';rw[O1,hi,OI] at ho';cases ho';obtain⟨c,ty,fz,g1,g2,g3⟩:=hcell i x k1 hi c2;obtain⟨o1,o2,o3,o4⟩:=hT x (Pl hi);refine⟨.cells c ty fz,by rw[lP]; exact g1,?_,fun q v hq=>?_⟩
 rw[O7];rw[o2] at g2 ⊢;exact Fi (ho i x hi).2 o1 o3 g2
 rw[O1] at hq;obtain⟨z,hz,rfl⟩:=P9.1 hq;obtain⟨v',h3,h4⟩:=g3 q z hz;exact⟨v',h3,key j2 e1 z (OV.1 o4 z (Pl hz)) v' h4⟩
 have old:∀{b k},b<m.next->j b=some k->(m.get b).isSome=true->∀i x,T[i]? = some x->∀k1,j1 (a i)=some k1->k.c≠k1.c:=fun{b k} hb e hl i x hi k1 hk1 hc=>by
  have:=(h.lt b k e).2;have:=hfresh i k1 (hlt hi) hk1;omega
 rcases e3 b k e with⟨c1,c2⟩|⟨i,x,k1,hi,rfl,c2,rfl⟩<;>rcases e3 b' k' e' with⟨d1,d2⟩|⟨i',x',k1',hi',rfl,d2,rfl⟩
 rw[dC _ _ (.inl c1)] at hl;rw[dC _ _ (.inl d1)] at hl';exact h.inj b b' k k' c2 d2 hl hl' hc
 rw[dC _ _ (.inl c1)] at hl;rw[lP] at hc;exact O6 hc (old c1 c2 hl i' x' hi' k1' d2)
 rw[dC _ _ (.inl d1)] at hl';rw[lP] at hc;exact O6 hc.symm (old d1 d2 hl' i x hi k1 c2)
 rw[lP,lP] at hc;have:=s.mr.inj (a i) (a i') k1 k1' c2 d2 (hlive hi) (hlive hi') hc;rw[hinj i i' (hlt hi) (hlt hi') this]
 have:=h.glob gl hgl;rw[e2 gl (h.lt gl _ this).1]; exact this
 rw[gF,hol] at hb2;have hi:=OG (show b-m.next<T.length by omega)
 obtain⟨k,hk⟩:=hk _ _ hi;have:=e1 _ _ hi k hk;exact⟨_,by rw[show b=m.next+(b-m.next) by omega]; exact this⟩
 rw[dC _ _ (.inl hb)]
 rcases e3 b k e with⟨_,c⟩|⟨i,x,k1,hi,rfl,c,rfl⟩
 rw[e'] at c; cases c
 rw[lP]; exact .inl (hfresh i k1 (hlt hi) c)
end
inductive SV where
 | v (x:QP)
 | s (b n:Nat)
inductive AV where
 | one (x:SV)
 | agg (xs:RR SV)
def SV.val(f:Nat->Nat):SV->QP
 | .v x=>x
 | .s b n=>.slice (some ⟨f b,0,none⟩) n n
def SV.ok(N:Nat):SV->Bool
 | .v x=>bO x
 | .s b _=>Nat.blt b N
def AV.val(f:Nat->Nat):AV->QP
 | .one x=>x.val f
 | .agg xs=>.agg (xs.map (SV.val f)).toArray
def AV.ok(N:Nat):AV->Bool
 | .one x=>x.ok N
 | .agg xs=>xs.all (SV.ok N)
abbrev Bk:=RR SV×Tag
def mT(g:Nat)(gs:Nat->RI (RR QP))(A:RR Bk):RN:=⟨g+A.length,g+A.length,.nil,fun b=>if b<g then(gs b).map fun cs=>.cells cs .ro else(A[b-g]?).map fun x=>.cells (x.1.map (SV.val fun b=>b)) x.2⟩
def AG(g:Nat)(gs:Nat->RI (RR QP))(A:RR Bk)(b:Nat):(mT g gs A).get b=if b<g then(gs b).map fun cs=>.cells cs .ro else(A[b-g]?).map fun x=>.cells (x.1.map (SV.val fun b=>b)) x.2:=by
 simp[RN.get,mT,Heap.get_nil]
def eU(g:Nat)(l:RR Nat)(b:Nat):Nat:=if b<g then b else l.getD (b-g) 0
def ti(g N:Nat)(l:RR Nat)(j:aT):aT:=fun b=>if b<N then j (eU g l b) else none
def SV.VR{j:aT}{g N:Nat}{l:RR Nat}{x:SV}(hx:x.ok N=true){v':QP}(h:VR j (x.val (eU g l)) v'):VR (ti g N l j) (x.val fun b=>b) v':=by
 cases x with
 | v x=>exact VR.lW hx h
 | s b n =>
  have hb:b<N:=OL hx;have e:∀k,j (eU g l b)=some k->ti g N l j b=some k:=fun k hk=>by unfold ti; rw[OM hb]; exact hk
  have h:Go.Ab.VR j (.slice (some ⟨eU g l b,0,none⟩) n n) v':=h
  show Go.Ab.VR _ (.slice (some ⟨b,0,none⟩) n n) v'
  cases h with
  | slice hj hm=>exact .slice (e _ hj) hm
  | sliceM hj hm h1 h2 hl hc=>exact .sliceM (e _ hj) hm h1 h2 hl hc
structure SmallIn(m:RN)(g:Nat)(gs:Nat->RI (RR QP))(A:RR Bk)(l:RR Nat):Prop where
 len:l.length=A.length
 glob:∀x c,x<g->gs x=some c->m.get x=some (.cells c .ro)/\c.all aX=true
 at_:∀i (h:i<A.length),m.get (l.getD i 0)=some (.cells (A[i].1.map (SV.val (eU g l))) A[i].2)
 low:∀i,i<l.length->g<=l.getD i 0
 nd:∀i k,i<l.length->k<l.length->l.getD i 0=l.getD k 0->i=k
 ok:A.all (fun x=>x.1.all (SV.ok (g+A.length)))=true
def MR.JE{E:Env}{j:aT}{m:RN}{w:QT}{gs:Nat->RI (RR QP)}{A:RR Bk}{l:RR Nat}(h:MR E j m w)(hs:SmallIn m E.glob gs A l):MR E (ti E.glob (E.glob+A.length) l j) (mT E.glob gs A) w:=by
 have hj:∀x k,ti E.glob (E.glob+A.length) l j x=some k->x<E.glob+A.length/\j (eU E.glob l x)=some k:=fun x k hx=>by
  unfold ti at hx
  split at hx
  rename_i hlt; exact⟨hlt,hx⟩
  cases hx
 have hobj:∀x o,(mT E.glob gs A).get x=some o->x<E.glob+A.length->(x<E.glob/\m.get (eU E.glob l x)=some o/\∃c,o=.cells c .ro/\c.all aX=true)\/∃y:Bk,y∈A/\o=.cells (y.1.map (SV.val fun b=>b)) y.2/\m.get (eU E.glob l x)=some (.cells (y.1.map (SV.val (eU E.glob l))) y.2):=fun x o ho hx=>by
  rw[AG] at ho
  split at ho
  ·rename_i hlt;cases hg:gs x with
   | none=>rw[hg] at ho; cases ho
   | some c =>
    rw[hg] at ho; cases ho;have e:eU E.glob l x=x:=by unfold eU; rw[OM hlt]
    rw[e];exact .inl ⟨hlt,(hs.glob x c hlt hg).1,c,rfl,(hs.glob x c hlt hg).2⟩
  rename_i hlt;have hi:x-E.glob<A.length:=by omega
  have h1:=hs.at_ (x-E.glob) hi;rw[OG hi] at ho;cases ho;have e:eU E.glob l x=l.getD (x-E.glob) 0:=by unfold eU; rw[OJ hlt]
  rw[e];exact .inr ⟨_,Ql hi,rfl,h1⟩
 have hlive:∀x,x<E.glob+A.length->((mT E.glob gs A).get x).isSome=true->(m.get (eU E.glob l x)).isSome=true:=fun x hx hl=>by
  cases e1:(mT E.glob gs A).get x with
  | none=>rw[e1] at hl; cases hl
  | some o =>
   rcases hobj x o e1 hx with⟨_,h1,_⟩|⟨y,_,_,h1⟩
   rw[h1]; rfl
   rw[h1]; rfl
 refine⟨fun x k hx=>?_,fun x o k ho hx=>?_,fun x x' k k' hx hx' hl hl' hc=>?_,fun gl hgl=>?_⟩
 obtain⟨hlt,hj⟩:=hj x k hx;exact⟨hlt,(h.lt _ k hj).2⟩
 ·obtain⟨hlt,hj⟩:=hj x k hx;rcases hobj x o ho hlt with⟨_,h1,cs,rfl,h2⟩|⟨y,hy,rfl,h1⟩
  ·obtain⟨o',h3,h4⟩:=h.obj _ _ k h1 hj;refine⟨o',h3,?_⟩;cases o' with
   | cells c' ty fz =>
    refine⟨h4.1,fun i v hi=>?_⟩;obtain⟨v',h5,h6⟩:=h4.2 i v hi;have hpv:=OV.1 h2 v (Pl hi);have:=eL hpv h6;subst this;exact⟨_,h5,.aX hpv⟩
   | _=>exact h4.elim
  ·obtain⟨o',h3,h4⟩:=h.obj _ _ k h1 hj;refine⟨o',h3,?_⟩;have hok:=OV.1 hs.ok y hy;cases o' with
   | cells c' ty fz =>
    refine⟨by have:=h4.1; rwa[O7] at this ⊢,fun i v hi=>?_⟩
    rw[O1] at hi;obtain⟨z,hz,rfl⟩:=P9.1 hi;obtain⟨v',h5,h6⟩:=h4.2 i (z.val (eU E.glob l)) (by rw[O1,hz]; rfl)
    exact⟨v',h5,SV.VR (OV.1 hok z (Pl hz)) h6⟩
   | _=>exact h4.elim
 obtain⟨hlt,hj1⟩:=hj x k hx;obtain⟨hlt',hj2⟩:=hj x' k' hx';have e:=h.inj _ _ k k' hj1 hj2 (hlive x hlt hl) (hlive x' hlt' hl') hc;unfold eU at e;have hlen:=hs.len
 split at e
 split at e
 exact e
 rename_i a b; have:=hs.low (x'-E.glob) (by omega); omega
 split at e
 rename_i a b; have:=hs.low (x-E.glob) (by omega); omega
 rename_i a b;have:=hs.nd _ _ (by omega) (by omega) e
 omega
 show ti E.glob (E.glob+A.length) l j gl=_
 unfold ti eU;rw[QX,OM hgl]
 exact h.glob gl hgl
def SV.LR{j:aT}{g N:Nat}{l:RR Nat}:∀{xs:RR SV} {ys:RR QP},xs.all (SV.ok N)=true->LR j (xs.map (SV.val (eU g l))) ys->Go.Ab.LR (ti g N l j) (xs.map (SV.val fun b=>b)) ys
 | [],ys,_,h=>by rw[Go.Ab.LR.dz h]; exact .nil _
 | x::xs,ys,hx,h=>by
  obtain⟨y,ys',rfl,h1,h2⟩:=Go.Ab.LR.cons_inv h;simp only[PI,OD] at hx;exact .cons (SV.VR hx.1 h1) (SV.LR hx.2 h2)
def AV.LR{j:aT}{g N:Nat}{l:RR Nat}:∀{xs:RR AV} {ys:RR QP},xs.all (AV.ok N)=true->LR j (xs.map (AV.val (eU g l))) ys->Go.Ab.LR (ti g N l j) (xs.map (AV.val fun b=>b)) ys
 | [],ys,_,h=>by rw[Go.Ab.LR.dz h]; exact .nil _
 | x::xs,ys,hx,h=>by
  obtain⟨y,ys',rfl,h1,h2⟩:=Go.Ab.LR.cons_inv h;simp only[PI,OD] at hx;refine .cons ?_ (AV.LR hx.2 h2);cases x with
  | one x=>exact SV.VR hx.1 h1
  | agg xs =>
   have h1:Go.Ab.VR j (.agg (xs.map (SV.val (eU g l))).toArray) y:=h1;cases h1 with
   | agg a b =>
    rename_i zs;have:=SV.LR (j:=j) (g:=g) (N:=N) (l:=l) (xs:=xs) (ys:=zs.toList) hx.1 (by
     have:=Go.Ab.LR.eW a b
     simpa using this)
    refine Go.Ab.VR.z8 ?_
    simpa using this
structure Case where
 A:RR Bk
 args:RR AV
 V:RR TV
 T:DU
def Case.small(c:Case)(g:Nat)(gs:Nat->RI (RR QP)):RN:=mT g gs c.A
def Case.Out(c:Case)(ms:RN)(v1:QP)(m1:RN):Prop:=Grown ms m1/\∃(a:Nat->Nat) (tg:Nat->Tag),v1=.tuple (c.V.map (TV.inst c.T a)).toArray /\
  (∀i,i<c.T.length->ms.next<=a i/\a i<m1.next)/\(∀i k,i<c.T.length->k<c.T.length->a i=a k->i=k)/\∀i x,c.T[i]? = some x->m1.get (a i)=some (.cells (x.1.map (TV.inst c.T a)) (tg i))/\(tg i=.own\/tg i=.more x.2)
def vU:QP->RR Nat
 | .slice (some a) _ _=>[a.block]
 | _=>[]
def KS:QP->RR Nat
 | .agg xs=>xs.toList.flatMap vU
 | .tuple xs=>xs.toList.flatMap vU
 | v=>vU v
def cellsOf(m:RN)(b:Nat):RR QP :=
 match m.get b with
 | some (.cells cs _)=>cs
 | _=>[]
def qn(m:RN)(v:QP):RR Nat:=(KS v).flatMap fun b=>b::(cellsOf m b).flatMap vU
def Mr:RR Nat->Bool
 | []=>true
 | x::xs=>!xs.contains x&&Mr xs
def AM:∀{l:RR Nat},Mr l=true->∀i k,i<l.length->k<l.length->l.getD i 0=l.getD k 0->i=k
 | [],_,i,k,hi,_,_=>by simp at hi
 | x::xs,h,i,k,hi,hk,e=>by
  simp only[Mr,OD,Pv,List.contains_eq_mem,decide_eq_false_iff_not] at h;have hx:∀q,q<xs.length->xs.getD q 0∈xs:=fun q hq=>by
   rw[PB,OG hq]; exact Ql hq
  cases i with
  | zero =>
   cases k with
   | zero=>rfl
   | succ k =>
    have e:x=xs.getD k 0:=e;exact O6 (e▸hx k (by simpa using hk)) h.1
  | succ i =>
   cases k with
   | zero =>
    have e:xs.getD i 0=x:=e;exact O6 (e▸hx i (by simpa using hi)) h.1
   | succ k=>exact PX (· + 1) (AM h.2 i k (by simpa using hi) (by simpa using hk) e)
def vm(o:RI RP)(cs:RR QP)(t:Tag):Bool :=
 match o with
 | some (.cells cs' t')=>pP cs' cs&&decide (t'=t)
 | _=>false
def vL{o:RI RP}{cs:RR QP}{t:Tag}(h:vm o cs t=true):o=some (.cells cs t):=by
 unfold vm at h
 split at h
 simp only[OD,O5] at h;rw[jr h.1,h.2]
 cases h
def CC(m:RN)(g:Nat)(f:Nat->Nat):RR Bk->RR Nat->Bool
 | [],[]=>true
 | o::os,b::bs=>vm (m.get b) (o.1.map (SV.val f)) o.2 &&(Nat.ble g b&&CC m g f os bs)
 | _,_=>false
def q8{m:RN}{g:Nat}{f:Nat->Nat}:∀{A:RR Bk} {l:RR Nat},CC m g f A l=true->l.length=A.length/\∀i (h:i<A.length),m.get (l.getD i 0)=some (.cells (A[i].1.map (SV.val f)) A[i].2)/\g<=l.getD i 0
 | [],[],_=>⟨rfl,fun i h=>by simp at h⟩
 | o::os,b::bs,h=>by
  simp only[CC,OD] at h;obtain⟨h1,h3,h4⟩:=h;obtain⟨h5,h6⟩:=q8 h4;refine⟨by simp[h5],fun i hi=>?_⟩
  cases i with
  | zero=>exact⟨vL h1,OL h3⟩
  | succ i=>exact h6 i (by simpa using hi)
 | [],_::_,h=>by cases h
 | _::_,[],h=>by cases h
def Case.fits(c:Case)(g:Nat)(tabB:RN->Bool)(args:RR QP)(m:RN):Bool :=
 (fun l=>sF args (c.args.map (AV.val (eU g l))) &&(CC m g (eU g l) c.A l &&(Mr l&&tabB m))) (args.flatMap (qn m))
def Case.value(c:Case)(a:Nat->Nat):QP:=.tuple (c.V.map (TV.inst c.T a)).toArray
def Case.run(c:Case)(g:Nat)(tabB:RN->Bool)(args:RR QP)(m:RN):RI (QP×RN) :=
 if c.fits g tabB args m then some (c.value fun i=>m.next+i,m.gk (c.T.cd fun i=>m.next+i)) else none
def Case.GF{E:Env}{c:Case}{f:R2}{gs:Nat->RI (RR QP)}{tabB:RN->Bool}(ht:∀m,tabB m=true->∀x cs,x<E.glob->gs x=some cs->m.get x=some (.cells cs .ro)/\cs.all aX=true)(hT:c.T.ok)(hV:c.V.all (TV.ok c.T.length)=true)(hA:c.args.all (AV.ok (E.glob+c.A.length))=true)
  (hA2:c.A.all (fun x=>x.1.all (SV.ok (E.glob+c.A.length)))=true) (h:W.mD E f (c.args.map (AV.val fun b=>b)) (c.small E.glob gs) (c.Out (c.small E.glob gs))) {args:RR QP} {m m':RN} {v:QP} (hr:c.run E.glob tabB args m=some (v,m')) (pr:Bool) {j:aT} {w:QT} {args':RR QP} (hm:MR E j m w) (hl:LR j args args'):dX E.P pr f args'.toArray w (fA E j m w v m'):=by
 unfold Case.run at hr
 split at hr
 ·rename_i hf;cases hr;unfold Case.fits at hf;simp only[OD] at hf;obtain⟨h1,h2,h3,h4⟩:=hf;have h1:=pD h1;obtain⟨h5,h6⟩:=q8 h2;generalize args.flatMap (qn m)=l at h1 h2 h3 h5 h6;subst h1;have hs:=hm.JE (gs:=gs) (A:=c.A) (l:=l) ⟨h5,ht m h4,fun i hi=>(h6 i hi).1,fun i hi=>(h6 i (by omega)).2,AM h3,hA2⟩
  have hl':=AV.LR (g:=E.glob) (N:=E.glob+c.A.length) (l:=l) hA hl;have e:c.small E.glob gs ={ c.small E.glob gs with wl:=(c.small E.glob gs).next}:=rfl
  refine cG (fun h=>by cases h) (h _ w args' hs hl') ?_
  rintro v' w' ⟨v1,m1,⟨hg,a,tg,rfl,g1,g2,g3⟩,j',s,hv⟩;obtain⟨j2,s2,hmv⟩:=Sim.Nw hm hs (by rw[<-Case.small,<-e]; exact s) hg hT g1 g2 g3
  refine⟨j2,s2,?_⟩;cases hv with
  | tuple e1 e2 =>
   rename_i ys;refine .tuple (by rw[<-e1]; simp) fun i hi hi2=>?_
   simp only[List.size_toArray,O7] at hi;have hx:=OV.1 hV c.V[i] (Ql hi);have h5:=e2 i (by simpa using hi) hi2
   simp only[List.getElem_toArray,List.getElem_map] at h5 ⊢;exact hmv _ hx _ h5
 cases hr
def M1(t:Tag)(sz:Nat):Bool :=
 match t with
 | .own=>true
 | .more k=>Nat.beq k sz
 | .ro=>false
def zy(o:RI RP)(cs:RR QP)(sz:Nat):Bool :=
 match o with
 | some (.cells cs' t)=>pP cs' cs&&M1 t sz
 | _=>false
def yu{o:RI RP}{cs:RR QP}{sz:Nat}(h:zy o cs sz=true):∃t,o=some (.cells cs t)/\(t=.own\/t=.more sz):=by
 unfold zy at h
 split at h
 rename_i cs' t;simp only[OD] at h;rw[jr h.1];refine⟨t,rfl,?_⟩;have h2:=h.2;unfold M1 at h2
 split at h2
 exact .inl rfl
 rw[OE h2]; exact .inr rfl
 cases h2
 cases h
def HQ(c:Case)(a:Nat->Nat)(lo:Nat)(m1:RN):RR (RR TV×Nat)->RR Nat->Bool
 | [],[]=>true
 | x::xs,b::bs=>zy (m1.get b) (x.1.map (TV.inst c.T a)) x.2 &&(Nat.ble lo b &&(Nat.blt b m1.next&&HQ c a lo m1 xs bs))
 | _,_=>false
def ug{c:Case}{a:Nat->Nat}{lo:Nat}{m1:RN}:∀{T:RR (RR TV×Nat)} {l:RR Nat},HQ c a lo m1 T l=true->l.length=T.length/\∀i x,T[i]? = some x->(∃t,m1.get (l.getD i 0)=some (.cells (x.1.map (TV.inst c.T a)) t)/\(t=.own\/t=.more x.2))/\lo<=l.getD i 0/\l.getD i 0<m1.next
 | [],[],_=>⟨rfl,fun i x h=>by simp at h⟩
 | y::xs,b::bs,h=>by
  simp only[HQ,OD] at h;obtain⟨h1,h2,h3,h4⟩:=h;obtain⟨h5,h6⟩:=ug h4;refine⟨by simp[h5],fun i x hi=>?_⟩
  cases i with
  | zero =>
   simp only[OZ,Option.some.injEq] at hi;subst hi;exact⟨yu h1,OL h2,OL h3⟩
  | succ i=>exact h6 i x (by simpa using hi)
 | [],_::_,h=>by cases h
 | _::_,[],h=>by cases h
def Gi:QP->QP->Bool
 | .tuple a,.tuple b=>sF a.toList b.toList
 | v,u=>tC v u
def Fz:∀{v u:QP},Gi v u=true->v=u:=by
 intro v u h;unfold Gi at h
 split at h
 rw[Pq.1 (pD h)]
 exact ou h
def Case.Fm(c:Case)(ms:RN)(v:QP)(m1:RN):Bool :=
 (fun l=>Gi v (c.value fun i=>l.getD i 0) &&(HQ c (fun i=>l.getD i 0) ms.next m1 c.T l &&(Mr l &&(Nat.ble ms.next m1.wl &&(Nat.ble ms.next m1.next &&(List.range ms.next).all fun b=>BJ (m1.get b) (ms.get b)))))) (qn m1 v)
def Case.tJ{c:Case}{ms:RN}{v:QP}{m1:RN}(h:c.Fm ms v m1=true):c.Out ms v m1:=by
 unfold Case.Fm at h;simp only[OD] at h;obtain⟨h1,h2,h3,h4,h5,h6⟩:=h;obtain⟨h7,h8⟩:=ug h2;generalize qn m1 v=l at h1 h2 h3 h7 h8;refine⟨⟨OL h5,fun b hb=>yS (OV.1 h6 b (P7.2 hb)),OL h4⟩,fun i=>l.getD i 0,fun i=>match m1.get (l.getD i 0) with
  | some (.cells _ t)=>t
  | _=>.own,Fz h1,fun i hi=>?_,fun i k hi hk e=>AM h3 i k (by omega) (by omega) e,fun i x hi=>?_⟩
 have hi':=OG hi;exact(h8 i _ hi').2
 obtain⟨⟨t,g1,g2⟩,_⟩:=h8 i x hi
 dsimp only
 rw[g1];exact⟨rfl,g2⟩
end Go.Ab
namespace Go.Proofs.YtpkadoocdgdcfaaGreatDoor
section
open Go Go.Ab
set_option maxRecDepth 100000
def iv(x:Int):QP:=.int .i64 x
def tv(x:Int):TV:=.v (.int .i64 x)
def sv(x:Int):SV:=.v (.int .i64 x)
def ee:RR TV:=([1,0,0,0,0,0,0,0,3,0,0,0,0,0,0,0]:RR Int).map fun x=>.v (.int .u64 x)
def eA(tag:Tag)(p:RR Int):Case where
 A:=[([0,1,1,2,2,3].map sv,.own),([1,1,1,1].map sv,.own),(p.map sv,tag)]
 args:=[.agg [.v (iv 4),.s 1 3],.agg [.s 2 4,.v (iv 1),.v (iv 3),.v (iv 2)],.one (.s 3 4)]
 V:=[.s 0,.s 4,.v (iv 0)]
 T:=[([.s 1,.s 2,.s 3],1),([0,0,0,1].map tv,1),([0,0,1,1].map tv,1),([0,1,1,1].map tv,1),(ee++ee++ee,16)]
noncomputable def NJ:Hand:=hand mC kS 1000
noncomputable def KE (f:R2):RI FunN:=if f=137 then some (om mC NJ (fun _=>none) 137) else none
def JZ:zH mC NJ:=nU (oU none none none) 1000
def AE:¬mC.mono:=fun h=>h
def IX:LX mC KE:=by
 intro g S hS args m K h;unfold KE at hS
 split at hS
 rename_i e;subst e;cases hS;exact rK oi AE JZ (fun h=>by cases h) h
 cases hS
abbrev Ny:Case:=eA .own [0,0,1,1]
abbrev MW:Case:=eA (.more 1) [0,0,0,1]
abbrev Nr:Case:=eA (.more 1) [0,0,1,1]
abbrev Mf:Case:=eA (.more 1) [0,1,1,1]
noncomputable def ET (S:FunN) (c:Case):Bool:=S.run (c.args.map (AV.val fun b=>b)) (c.small 1 ft) fun v m=>c.Fm (c.small 1 ft) v m
noncomputable def sL (c:Case):Bool:=ET (om mC NJ KE 66) c
noncomputable def kU (f:R2) (c:Case):Bool:=ET (om mC NJ (fun _=>none) f) c
def J8(n d:Int):RR TV:=([n,0,0,0,0,0,0,0,d,0,0,0,0,0,0,0]:RR Int).map fun x=>.v (.int .u64 x)
def zJ(n d:Int):RR SV:=([n,0,0,0,0,0,0,0,d,0,0,0,0,0,0,0]:RR Int).map fun x=>.v (.int .u64 x)
def LY(n:Int):RR SV:=([n,0,0,0,0,0,0,0]:RR Int).map fun x=>.v (.int .u64 x)
def Oq(n:Int):QP:=.agg #[.int .u64 n,.int .u64 0,.int .u64 0,.int .u64 0,.int .u64 0,.int .u64 0,.int .u64 0,.int .u64 0]
def Oo(n d:Int):QP:=.agg #[.int .u64 n,.int .u64 0,.int .u64 0,.int .u64 0,.int .u64 0,.int .u64 0,.int .u64 0,.int .u64 0,.int .u64 d,.int .u64 0,.int .u64 0,.int .u64 0,.int .u64 0,.int .u64 0,.int .u64 0,.int .u64 0]
def dI(n d:Int):Case:=⟨[],[.one (sv n),.one (sv d)],[.v (Oo n d),tv 0],[]⟩
def oR:Case where
 A:=[([0,1,1,2,2,3].map sv,.own),([1,1,1,1].map sv,.own),([0,0,1,1].map sv,.own)]
 args:=[.agg [.v (iv 4),.s 1 3],.agg [.s 2 4,.v (iv 1),.v (iv 3),.v (iv 2)],.one (.s 3 4)]
 V:=[.s 0,.s 4,tv 0]
 T:=[([.s 1,.s 2,.s 3],1),([0,0,0,1].map tv,1),([0,0,1,1].map tv,1),([0,1,1,1].map tv,1),([.s 5,.s 6,.s 7],1),(ee++ee++ee,16),(ee++ee++ee,16),(ee++ee++ee,16)]
def gh(p:RR Int)(k n:Int):Case:=⟨[([0,1,0,3,1,2,2,3].map sv,.own),(p.map sv,.own)],[.agg [.v (iv 4),.s 1 4],.one (.s 2 4),.one (sv k)],[.v (Oq n),tv 0],[]⟩
def kA:RR Bk:=[([.s 2 2,.s 3 2],.own),(zJ 1 2++zJ 1 2,.more 16),(zJ 1 4++zJ 3 4,.more 16)]
def nq:Case:=⟨kA++[(LY 1++LY 1,.more 8)],[.one (.s 1 2),.one (.s 4 2)],[.s 0,tv 0],[([.s 1,.s 2],1),(J8 3 4++J8 1 4,16),(J8 1 4++J8 3 4,16)]⟩
def kQ:Case:=⟨[([.s 2 3,.s 3 3,.s 4 3],.own),(zJ 1 1++zJ 0 1++zJ 0 1,.more 16),(zJ 1 2++zJ 0 1++zJ 1 2,.more 16),(zJ 0 1++zJ 1 1++zJ 0 1,.more 16)],[.one (.s 1 3)],[.s 0,tv 0],[([0,1,1].map tv,1)]⟩
def dT(a b:Int)(r:Bool):Case:=⟨kA++[(LY a++LY b,.more 8)],[.one (.s 1 2),.one (.s 4 2)],[.v (.bool r),tv 0],[]⟩
def sj:Case:=⟨[(LY 1++LY 2,.more 8)],[.one (.s 1 2)],[.s 0,tv 0],[(J8 1 3++J8 2 3,16)]⟩
def uB(a b c d k p q r s:Int):Case:=⟨kA++[(zJ a b++zJ c d,.more 16)],[.one (.s 1 2),.one (.s 4 2),.one (sv k)],[.s 0,tv 0],[(J8 p q++J8 r s,16)]⟩
abbrev zF:Case:=uB 1 1 0 1 1 1 2 1 2
abbrev A8:Case:=uB 1 3 2 3 5 1 3 2 3
set_option maxHeartbeats 0 in
def zk:sL Ny=true:=by decide +kernel
set_option maxHeartbeats 0 in
def xW:sL MW=true:=by decide +kernel
set_option maxHeartbeats 0 in
def yZ:sL Nr=true:=by decide +kernel
set_option maxHeartbeats 0 in
def xO:sL Mf=true:=by decide +kernel
end
section
open Go Go.Ab
set_option maxRecDepth 100000
attribute [local irreducible] om Case.run Case.fits
def Ni{c:Case}(h:sL c=true):W.mD mC 66 (c.args.map (AV.val fun b=>b)) (c.small 1 ft) (c.Out (c.small 1 ft)):=by
 unfold sL at h;have h1:=rK oi AE JZ IX (f:=66) (args:=c.args.map (AV.val fun b=>b)) (m:=c.small 1 ft) (K:=fun v m=>c.Fm (c.small 1 ft) v m) h;intro j w args' hm hl;refine cG (fun h=>h) (h1 j w args' hm hl) ?_;rintro v' w' ⟨v1,m1,hq,hv⟩;exact⟨v1,m1,Case.tJ hq,hv⟩
def tT:RR QP->RR Int->Bool
 | [],[]=>true
 | .int .u8 n::vs,k::ks=>n==k&&tT vs ks
 | _,_=>false
def sB:∀{vs:RR QP} {ks:RR Int},tT vs ks=true->vs=ks.map (.int .u8)
 | [],[],_=>rfl
 | [],_::_,h=>by cases h
 | v::vs,[],h=>by simp[tT] at h
 | v::vs,k::ks,h=>by
  unfold tT at h
  split at h
  rename_i e _; cases e
  rename_i n vs' k' ks' e1 e2;cases e1; cases e2;simp only[OD,beq_iff_eq] at h;rw[h.1,sB h.2]; rfl
  cases h
def gX(m:RN):Bool :=
 match m.get 0 with
 | some (.cells cs .ro)=>tT cs j7
 | _=>false
def zR{m:RN}(h:gX m=true):m.get 0=some (.cells (j7.map (.int .u8)) .ro):=by
 unfold gX at h
 split at h
 rename_i cs hg; rw[hg,sB h]
 cases h
def pS:∀x c,ft x=some c->c.all aX=true:=by
 intro x c h;unfold ft at h
 split at h
 cases h;rw[List.all_map];exact OV.2 fun x _=>rfl
 cases h
def sM{m:RN}(h:gX m=true):∀x cs,x<1->ft x=some cs->m.get x=some (.cells cs .ro)/\cs.all aX=true:=fun x cs hx he=>by
 refine⟨?_,pS x cs he⟩;have:x=0:=by omega
 subst this;simp only[ft,if_true,Option.some.injEq] at he;rw[<-he]; exact zR h
def vC(args:RR QP)(m:RN):RI (QP×RN) :=
 (Ny.run 1 gX args m).or ((MW.run 1 gX args m).or ((Nr.run 1 gX args m).or (Mf.run 1 gX args m)))
def F6(tag:Tag)(p:RR Int):(eA tag p).T.ok:=by
 intro x hx;have h:∀x ∈(eA .own [0,0,1,1]).T,0<x.2/\x.1.length=x.1.length/x.2*x.2/\x.1.length/x.2<=9223372036854775807/\x.1.all (TV.ok (eA .own [0,0,1,1]).T.length)=true:=by
  intro y hy;have:y=([.s 1,.s 2,.s 3],1)\/y=([0,0,0,1].map tv,1)\/y=([0,0,1,1].map tv,1)\/y=([0,1,1,1].map tv,1)\/y=(ee++ee++ee,16):=by simpa [eA] using hy
  rcases this with rfl|rfl|rfl|rfl|rfl<;>decide
 exact h x hx
def xH{args:RR QP}{m m':RN}{v:QP}(h:vC args m=some (v,m'))(pr:Bool){j:aT}{w:QT}{args':RR QP}(hm:MR mC j m w)(hl:LR j args args'):dX Tryz.prog pr 66 args'.toArray w (fA mC j m w v m'):=by
 have key:∀(tag:Tag) (p:RR Int),((eA tag p).A.all fun x=>x.1.all (SV.ok 4))=true->sL (eA tag p)=true->(eA tag p).run 1 gX args m=some (v,m')->dX Tryz.prog pr 66 args'.toArray w (fA mC j m w v m'):=fun tag p h0 h1 h2 =>
  Case.GF (E:=mC) (gs:=ft) (tabB:=gX) (fun m ht=>sM ht) (F6 tag p) (by show([.s 0,.s 4,.v (iv 0)]:RR TV).all (TV.ok 5)=true; decide) (by show([.agg [.v (iv 4),.s 1 3],.agg [.s 2 4,.v (iv 1),.v (iv 3),.v (iv 2)],.one (.s 3 4)]:RR AV).all (AV.ok 4)=true; decide) h0 (Ni h1) h2 pr hm hl
 unfold vC at h;simp only[Option.or_eq_some_iff] at h;rcases h with h|⟨_,h|⟨_,h|⟨_,h⟩⟩⟩
 exact key _ _ (by decide) zk h
 exact key _ _ (by decide) xW h
 exact key _ _ (by decide) yZ h
 exact key _ _ (by decide) xO h
end
end Go.Proofs.YtpkadoocdgdcfaaGreatDoor
namespace Go.Ab
open Go
end Go.Ab
namespace Go.Proofs.YtpkadoocdgdcfaaGreatDoor
section
open Go Go.Ab Go.Ab.W
variable{p q pz:RI Prim}
def DO(_:Nat)(x y c:Nat):RI (Nat×Nat):=gd (decide (c<=1)) (some ((x+y+c)%18446744073709551616,(x+y+c)/18446744073709551616))
def JJ(_:Nat)(x y c:Nat):RI (Nat×Nat):=gd (decide (c<=1)) (some ((x+18446744073709551616-y-c)%18446744073709551616,if x<y+c then 1 else 0))
def uN{V:Nat->Nat->Nat->QP}{x y c:Nat}(hc:c<=1)(m:RN):dQ V [.int .u64 ((x:Nat):Int),.int .u64 ((y:Nat):Int),.int .u64 ((c:Nat):Int)] m=some (V x y c,m):=by
 show(if Nat.ble c 1 then some (V x y c,m) else none)=_
 rw[O9 hc]; rfl
def wY(n:Nat)(x y c:Nat)(r:Nat×Nat)(hF:DO n x y c=some r)(m:RN) :
  aG (eo p q pz) 234 [.int .u64 ((x:Nat):Int),.int .u64 ((y:Nat):Int),.int .u64 ((c:Nat):Int)] m (fun v m'=>∃_:RS,v=.tuple #[.int .u64 ((r.1:Nat):Int),.int .u64 ((r.2:Nat):Int)]/\Hp m m' []):=by
 obtain⟨hc,hF⟩:=ak hF;have hr:=OK hF;subst hr;exact aG.dj (p:=⟨dQ u7⟩) rfl (uN (of_decide_eq_true hc) m) ⟨(),rfl,.start m⟩
def B1(n:Nat)(x y c:Nat)(r:Nat×Nat)(hF:JJ n x y c=some r)(m:RN) :
  aG (eo p q pz) 251 [.int .u64 ((x:Nat):Int),.int .u64 ((y:Nat):Int),.int .u64 ((c:Nat):Int)] m (fun v m'=>∃_:RS,v=.tuple #[.int .u64 ((r.1:Nat):Int),.int .u64 ((r.2:Nat):Int)]/\Hp m m' []):=by
 obtain⟨hc,hF⟩:=ak hF;have hr:=OK hF;subst hr;exact aG.dj (p:=⟨dQ s6⟩) rfl (uN (of_decide_eq_true hc) m) ⟨(),by
  show s6 x y c=_
  unfold s6
  split<;>rfl,.start m⟩
end
section
open Go Go.Ab
set_option maxRecDepth 10000
variable{p q pz:RI Prim}
end
end Go.Proofs.YtpkadoocdgdcfaaGreatDoor
namespace Go.Ab.W
open Go Go.Ab
section
variable{α β:Type}{r:Rep β}
variable{m0 m m':RN}{J rest I:RR Pc}{kE:α->QP}
end
section
variable{α β:Type}{r:Rep β}{E:Env}{n:Nat}{m0:RN}{fs:Fs}{J rest:RR Pc}{fn:R2}{ro:RI Nat}{Q:RO->Tm->RN->Prop}{kE:α->QP}
end
section
variable{α β:Type}{r:Rep β}{E:Env}{n:Nat}{m0:RN}{fs:Fs}{J rest:RR Pc}{fn:R2}{ro:RI Nat}{Q:RO->Tm->RN->Prop}{kE:α->QP}
end
def sY.Mm{α:Type}{m0:RN}{ps:RR Pc}{r:Rep α}{z:α}{g:r.G}{S:QO}(h:Lf m0 ps r z g S)(k:Nat):sY m0 ps r (List.replicate k z) (List.replicate k (r.V z g)) S:=by
 have:=sY.rep h k;rwa[List.map_id'] at this
end Go.Ab.W
namespace Go.Proofs.YtpkadoocdgdcfaaGreatDoor
open Go Go.Ab Go.Ab.W
set_option maxRecDepth 10000
set_option maxHeartbeats 4000000
attribute [local irreducible] Tm.at Trie.set Trie.get RN.get RN.set RN.alloc RN.ww RN.kill
variable{p q pz:RI Prim}
def Gl(m:RN):Prop:=m.get 0=some (.cells (j7.map (.int .u8)) .ro)/\0<m.next
def Gl.ext{m m':RN}(h:Gl m)(e:Ext m m'):Gl m':=⟨by rw[e.same 0 h.2]; exact h.1,OH h.2 e.next⟩
def N8(_:Nat):RI Bool:=some true
end Go.Proofs.YtpkadoocdgdcfaaGreatDoor
namespace Go.Ab.W
open Go Go.Ab
attribute [local irreducible] Tm.at Trie.set Trie.get RN.get RN.set RN.alloc RN.ww RN.kill
section
variable{E:Env}{n:Nat}{m0:RN}{fs:Fs}{ps:RR Pc}{ty:QQ}{ops:RU Oper}{K:Tm->RN->Prop}{os:RR Oper}
end
end Go.Ab.W
namespace Go.Ab
open Go
attribute [local irreducible] Tm.at Trie.set Trie.get RN.get RN.set RN.alloc RN.ww RN.kill
def AN(ns:RR Int):ByteArray:=ns.foldl (fun r n=>r.push (UInt8.ofNat n.toNat)) ByteArray.empty
section
variable{E:Env}{n:Nat}{ops:RU Oper}{K:Tm->RN->Prop}{t:Tm}{m:RN}
def Fa{j:aT}{w:QT}(h:MR E j m w){s d e:QQ}(hs:E.P.underlying s=some (.slice e))(he:E.P.underlying e=some (.int .u8))(hd:E.P.underlying d=some .string){a:QN}{len cap:Nat}{ns:RR Int}(hc:cD 1 (.slice a len cap) len m=some (ns.map (Value.int .u8))){x':QP}(hx:VR j (.slice a len cap) x') :
  (convert s d x').run E.P w=.ok (.string (AN ns)) w:=by
 obtain⟨new',h1,h2⟩:=wP h hc hx;have hnew:new'=ns.map (Value.int .u8):=LR.Cv (by rw[List.all_map]; exact OV.2 fun _ _=>rfl) h2
 subst hnew;have h3:=h1 w rfl;have key:∀(a':Addr) (cap':Nat),x'=.slice (some a') len cap'->(convert s d x').run E.P w=.ok (.string (AN ns)) w:=fun a' cap' e'=>by
  subst e';rw[run_convert_bytes_string w s d e (some a') len cap' hs he hd];refine run_bytesToString w a' len cap' ns ?_;have:(Builtin.firstCells 1 len (.slice (some a') len cap')).run E.P w=(loadCells a' (len*1)).run E.P w:=rfl;rw[this,Qf] at h3;exact h3
 cases hx with
 | snil l c =>
  rw[run_convert_bytes_string w s d e none len cap hs he hd];have hz:ns=[]:=by
   simp only[cD] at hc
   split at hc
   ·cases ns with
    | nil=>rfl
    | cons a l=>cases hc
   cases hc
  subst hz
  rfl
 | slice _ _=>exact key _ _ rfl
 | sliceM _ _ _ _ _ _=>exact key _ _ rfl
 | gL=>exact key _ _ rfl
 | dry=>exact key _ _ rfl
def fe.str{o:Oper}{os:RR Oper}{s d e:QQ}{x:QR}{a:QN}{len cap:Nat}{ns:RR Int}(hw:bt ops o t=true)(hop:o.op=.convert s d x)(hs:E.P.underlying s=some (.slice e))(he:E.P.underlying e=some (.int .u8))(hd:E.P.underlying d=some .string)(hx:ax E t x=some (.slice a len cap))(hc:cD 1 (.slice a len cap) len m=some (ns.map (Value.int .u8)))
  (hk:∃t',gb n t o.dst (.string (AN ns))=some t'/\fe E n ops K os t' m):fe E n ops K (o::os) t m:=fun i F j0 m0 w0 ds Q j w a' hF h0 hd' s' ht hds hQ=>by
 obtain⟨ho,hd2,hidx⟩:=md hd';obtain⟨t',hp,hk⟩:=hk;rw[hidx];simp only[wpOpsIn,ho,jz ht];rw[OM hw];have hrun:=Fa s'.mr hs he hd hc (aP s'.mr ht hx);have hex:execOp a'.eval o=(do pure (.value (<-convert s d (a'.eval x)))):=by simp only[execOp,hop]
 refine de hF (fun c e=>by rw[hop] at e; cases e) (v:=.string (AN ns)) (w':=w) (by rw[hex]; exact kj.value hrun) ?_
 exact hk (i+1) F j0 m0 w0 ds Q j w _ hF h0 hd2 s' (ht.put (.string _) hp) (by cases hds':o.dst<;>simp[Act.put,hds]) hQ
namespace W
section
variable{m0:RN}{fs:Fs}{ps:RR Pc}{os:RR Oper}
def Vn.str{s d e q:QQ}{x:QR}{a:QN}{len cap:Nat}{ns:RR Int}{ty:QQ}{p:String}{af:RU Edge}(hs:E.P.underlying s=some (.slice e))(he:E.P.underlying e=some (.int .u8))(hd:E.P.underlying d=some .string)(hx:ev E fs x=some (.slice a len cap))(hc:∀m,Hp m0 m ps->cD 1 (.slice a len cap) len m=some (ns.map (Value.int .u8)))(hq:Nat.blt q n=true)
  (k:Vn E n ops K os m0 ((q,.string (AN ns))::fs) ps):Vn E n ops K (⟨some q,.convert s d x,ty,p,af,none⟩::os) m0 fs ps:=fun t m hfr hm=>by
 have hq':q<n:=by rwa[Qd] at hq
 refine fe.str rfl rfl hs he hd (hfr.ev hx) (hc m hm) ⟨_,by rw[cP,OM hq'],k _ m hfr.set hm⟩
end
end W
end
end Go.Ab
namespace Go.Ab.W
open Go Go.Ab
section
variable{E:Env}{n:Nat}{m0:RN}{fs:Fs}{ps:RR Pc}{x:QR}{v:QP}{ty:QQ}
end
class TyC (P:QS) (ty:QQ) (ag:outParam Bool) (sz:outParam Nat):Prop where
 t:TyI P ty ag sz
class FaC (P:QS) (ty:QQ) (f:Nat) (off:outParam Nat):Prop where
 t:∀b o:Nat,bh P ty (ptr b o) f=some (ptr b (o+off))
class SlC (P:QS) (ty:QQ) (el:outParam QQ) (w:outParam Nat):Prop where
 t:SlT P ty el w
class ArC (P:QS) (ty:QQ) (el:outParam QQ) (len w:outParam Nat):Prop where
 t:ArT P ty el len w
class UsC (P:QS) (ty:QQ) (el:outParam QQ):Prop where
 t:P.underlying ty=some (.slice el)
section
variable{E:Env}{n:Nat}{m0:RN}{fs:Fs}{ps ps':RR Pc}{ops:RU Oper}{os:RR Oper}{K:Tm->RN->Prop}{dr:Bool}
variable{ty:QQ}{p:String}{af:RU Edge}{d:RI Nat}{o:Op}{g:RI (Nat×Bool)}{v:QP}
end
section
variable{k:IntKind}{P:QS}{ty:QQ}
end
section
variable{E:Env}{n:Nat}{m0:RN}{fs:Fs}{ps ps':RR Pc}{ops:RU Oper}{os:RR Oper}{K:Tm->RN->Prop}{dr:Bool}
variable{ty ty' oty:QQ}{p:String}{af:RU Edge}{d:Nat}{dd:RI Nat}{o:Op}{a b r v:QP}{x y c:QR}
def N5(ps:RR Pc)(q q':Pc)(ps':RR Pc):Prop:=∃k,pk ps k=some q/\dE ps k q'=ps'
end
structure Bx(Q:Prop):Prop where
 v:Q
section
variable{E:Env}{n:Nat}{m0:RN}{fs:Fs}{ps:RR Pc}{fn:R2}{ro:RI Nat}{c:Code}{Q:RO->Tm->RN->Prop}
def Wl(E:Env)(n:Nat)(fn:R2)(ro:RI Nat)(c:Code)(Q:RO->Tm->RN->Prop)(m0:RN)(fs:Fs)(ps:RR Pc):Prop:=∀t m,Fr t fs->Hp m0 m ps->tL E n fn ro c Q t m
end
section
variable{E:Env}{n:Nat}{m0:RN}{fs fs':Fs}{ps ps':RR Pc}{ops:RU Oper}{os:RR Oper}{K:Tm->RN->Prop}{dr:Bool}{fn:R2}{ro:RI Nat}{c:Code}{Q:RO->Tm->RN->Prop}
variable{ty oty:QQ}{p:String}{af:RU Edge}{d:Nat}{g:RI (Nat×Bool)}{x:QR}{v:QP}
def ap{ρ:Type}{δ:ρ->Type}(X:(r:ρ)->δ r->En)(r:ρ):δ r->En:=X r
def lo{σ ρ γ:Type}{δ:ρ->Type}{body:σ->RI (σ⊕ρ)}{X:(r:ρ)->δ r->En}{N:Nat}{s:σ}{r:ρ}(h:cy body N s=some r)(g:γ)(ks:RR Nat)(I:σ->γ->En)
  (hb:∀s g r,body s=some r->Wk E n fn ro c (match r with|.inl s'=>wL m0 (I s')|.inr r=>wL m0 (X r)) m0 (I s g).fs (I s g).ps)
  (hs:sub fs (I s g).fs:=by repeat first|exact sn|refine sc rfl ?_) (hd:oM ks=true:=by rfl) (hp:ae ps ks=some (I s g).ps:=by rfl)
  (hn:∀s g,(I s g).e=.normal:=by exact fun _ _=>rfl) (hx:∀r g,(X r g).e≠.normal:=by intro r d; first |(intro e; cases e; done) |(rcases r with r|r<;>first |(intro e; cases e; done) |(rcases r with r|r<;>first |(intro e; cases e; done) |(rcases r with r|r<;>intro e<;>cases e)))):Wk E n fn ro (.loop c) (wL m0 (ap X r)) m0 fs ps:=.cx hs (ah.ae ks hd hp) (Rl body I X hb hn hx N s r h g)
variable{m:RN}{a:QN}{cap w l:Nat}{es:QM}
variable{α:Type}{V:α->QP}{N:α->RR Pc}{R:α->Pc}{f:QR}{q:R2}{ars:RU QR}{ts:RU QQ}{args:RR QP}{prs:RR (Nat×Nat)}{ss:RR Nk}
def wc(hg:xj ops fs g true)(hc:∀m,Hp m0 m ps->aG E q args m (fun v m'=>∃x,v=V x/\Hp m m' (N x)))(k:∀x,Wo dr E n ops K os m0 ((d,V x)::fs) (N x++ps))(hf:ev E fs f=some (.func (.func q) #[] #[]):=by rfl)(ha:mw E fs ars.toList=some args:=by rfl)(ho:∀x,vg (N x)=true:=by exact fun _=>rfl)(hd:Nat.blt d n=true:=by rfl):Wo dr E n ops K (⟨some d,.call ⟨.value f,ars,ts⟩,ty,p,af,g⟩::os) m0 fs ps:=Q5 (bW hf ha hc ho) hg hd k
def nc(hg:xj ops fs g true)(hc:∀m,Hp m0 m ps->aG E q args m (fun v m'=>∃x,v=V x/\Hp m m' (N x)))(k:∀x,Wn E n ops prs K os (.call::ss) m0 ((d,V x)::fs) (N x++ps))(hf:ev E fs f=some (.func (.func q) #[] #[]):=by rfl)(ha:mw E fs ars.toList=some args:=by rfl)(ho:∀x,vg (N x)=true:=by exact fun _=>rfl)(hd:Nat.blt d n=true:=by rfl):Wn E n ops prs K (⟨some d,.call ⟨.value f,ars,ts⟩,ty,p,af,g⟩::os) ss m0 fs ps:=Rw (oj hf ha hc ho) hg hd k
end
end Go.Ab.W
namespace Go.Proofs.YtpkadoocdgdcfaaGreatDoor
section
open Go Go.Ab Go.Ab.W
set_option maxRecDepth 100000
namespace Nm
attribute [local irreducible] Wo Wk At Wn Od Ox bN bS
attribute [local irreducible] Tm.at Trie.set Trie.get RN.get RN.set RN.alloc RN.ww RN.kill
variable{p q pz:RI Prim}
def pT(n:Nat)(l1:RR (Int)):(RR (Nat)×Int)->RI ((RR (Nat)×Int) ⊕(RR (Nat))):=fun(l20,v21) =>
br (decide (v21<(l1.length:Int))) (
gd (bY v21 l1.length) (
ob (l1[v21.toNat]?) fun x39 =>
gd (bY v21 ((l1.length:Int).toNat)) (
ob (l20[v21.toNat]?) fun x42 =>
some (.inl ((l20.set v21.toNat (ui .u8 x39)),QU (v21+1)))))) (
some (.inr l20))
def Hb(n:Nat)(l1:RR (Int)):RI (RR (Nat)×Nat) :=
gd (decide (0<=(l1.length:Int))) (gd (lim ((l1.length:Int).toNat)) (
ob (
cy (pT n l1) n ((List.replicate (l1.length:Int).toNat (0:Nat)),0)) fun l34 =>
some (l34,(l1.length:Int).toNat)))
def Oh:(eo p q pz).P.underlying 39=some (.slice 3):=by kernel_rfl
def z5:cg (eo p q pz).P 5=some (.int .u8 ((0:Nat):Int)):=by kernel_rfl
def Ot:SlT (eo p q pz).P 39 3 1:=SlT.of (by kernel_rfl)
def oC:TyI (eo p q pz).P 3 false 1:=⟨by kernel_rfl,by kernel_rfl,by kernel_rfl⟩
def u3:(eo p q pz).P.underlying 3=some (.int .i64):=by kernel_rfl
def u5:(eo p q pz).P.underlying 5=some (.int .u8):=by kernel_rfl
def MZ:SlT (eo p q pz).P 26 5 1:=SlT.of (by kernel_rfl)
def MV:TyI (eo p q pz).P 5 false 1:=⟨by kernel_rfl,by kernel_rfl,by kernel_rfl⟩
def Hg(hE:EnvOk (eo p q pz))(n:Nat)(l1:RR (Int))(a2:QN)(c3:Nat)(r:RR (Nat)×Nat)(hF:Hb n l1=some r)(m:RN)(h4:Rd m a2 c3 1 l1.length (l1.map (eI .i64))){R:QP->RN->Prop}(kN:∀g:QN,Vk (eo p q pz) 24 70 none (NP 3 (wJ Tryz.f70)) (nT (eo p q pz) [.tmp 2] R) m ((fun(r:RR (Nat)×Nat) (g:QN)=>match r,g with |(l47,n49),a48=>([(3,.slice a48 n49 n49)]:Fs)) r g) ((fun(r:RR (Nat)×Nat) (g:QN)=>match r,g with |(l47,n49),a48=>([.sl a48 1 n49 (l47.map (eN .u8))]:RR Pc)) r g)) :
  Vk (eo p q pz) 24 70 none (wJ Tryz.f70) (nT (eo p q pz) [.tmp 2] R) m (yk [.slice a2 l1.length c3] 0 []) [.rd a2 c3 1 l1.length (l1.map (eI .i64))]:=by
 unfold Hb at hF;refine Vk.seq hE ?_;refine QZ ?_;refine QY (ai rfl) rfl ?_;refine Q3 ?_;refine At.NT ?_;refine Vk.seq hE ?_;refine QZ ?_;refine QY (ab rfl) rfl ?_;refine QY (bj (k:=0) Oh rfl rfl (.inl rfl)) rfl ?_;obtain⟨h5,hF⟩:=ak hF;obtain⟨h6,hF⟩:=ak hF;refine Q5 (lT (f:=eN .u8) (z0:=(0:Nat)) MZ rfl h5 h6 z5 rfl rfl) gn rfl fun b7=>?_;refine QY (ai rfl) rfl ?_;refine Q3 ?_;refine At.NT ?_;refine Vk.seq hE ?_;refine Q2 ?_;refine QZ ?_;refine QY (ab rfl) rfl ?_;refine QY (bj (k:=1) Oh rfl rfl (.inl rfl)) rfl ?_;refine QY (ab rfl) rfl ?_;refine Q3 ?_;refine Q4 ?_;refine Ra ?_;obtain⟨l34,h45,hF⟩:=aa hF;refine Rh (G:=(fun(r:RR (Nat)) (g:RS)=>match r,g with|l34,_=>⟨(.exit 0),[(3,.slice (some ⟨b7,0,none⟩) ((l1.length:Int).toNat) ((l1.length:Int).toNat))],[.arr b7 1 ((l1.length:Int).toNat) (l34.map (eN .u8)) .own]⟩) l34) ?_ ?_
 refine Rv (fs':=[(3,.slice (some ⟨b7,0,none⟩) ((l1.length:Int).toNat) ((l1.length:Int).toNat)),(9,.slice a2 l1.length c3),(10,.int .i64 (l1.length:Int)),(11,.int .i64 0)]) (ps':=[.arr b7 1 ((l1.length:Int).toNat) ((List.replicate (l1.length:Int).toNat (0:Nat)).map (eN .u8)) .own,.rd a2 c3 1 l1.length (l1.map (eI .i64))]) (sc rfl (sc rfl (sc rfl (sc rfl sn)))) (ah.ae [0,1] rfl rfl) ?_;refine Rl (σ:=RR (Nat)×Int) (ρ:=RR (Nat)) (γ:=RS) (δ:=fun _=>RS) _ (fun(s:RR (Nat)×Int) (g:RS)=>match s,g with |(l20,v21),_=>⟨.normal,[(3,.slice (some ⟨b7,0,none⟩) ((l1.length:Int).toNat) ((l1.length:Int).toNat)),(9,.slice a2 l1.length c3),(10,.int .i64 (l1.length:Int)),(11,.int .i64 v21)],[.arr b7 1 ((l1.length:Int).toNat) (l20.map (eN .u8)) .own,.rd a2 c3 1 l1.length (l1.map (eI .i64))]⟩) (fun(r:RR (Nat)) (g:RS)=>match r,g with|l34,_=>⟨(.exit 0),[(3,.slice (some ⟨b7,0,none⟩) ((l1.length:Int).toNat) ((l1.length:Int).toNat))],[.arr b7 1 ((l1.length:Int).toNat) (l34.map (eN .u8)) .own]⟩) ?_ (fun _ _=>rfl) (fun r d=>by intro e; cases e) _ _ _ h45 ()
 clear hF h45;rintro⟨l20,v21⟩ ⟨⟩ r hF;unfold pT at hF;refine Q2 ?_;refine QZ ?_;refine QY (an rfl rfl (aM _ _ _)) rfl ?_;refine Q3 ?_;refine Q4 ?_;refine Q2 ?_;rcases aj hF with⟨h35,hF⟩|⟨h35,hF⟩
 refine Rf rfl h35 ?_;refine Q8 ?_;refine Q4 ?_;refine Q2 ?_;refine Ra ?_;refine Q2 ?_;refine QZ ?_;refine QY (ab rfl) rfl ?_;obtain⟨h36,hF⟩:=ak hF;replace h36:=aq h36;refine Ry (k:=1) rfl (aO h36) ?_;rintro b37 o38 rfl;refine Q6 (bw Ot rfl rfl h36) gn rfl ?_;obtain⟨x39,h40,hF⟩:=aa hF;refine QY (bR (k:=0) oC rfl rfl (aU h40) rfl rfl) rfl ?_;refine QY (ai rfl) rfl ?_;refine QY (ai rfl) rfl ?_;refine Q3 ?_;refine Q4 ?_;refine QZ ?_;refine QY (ab rfl) rfl ?_;refine QY (ab rfl) rfl ?_;refine QY (ab rfl) rfl ?_;refine QY (jR rfl (vR (by rw[u3]; rfl) u5 rfl)) rfl ?_
 obtain⟨h41,hF⟩:=ak hF;replace h41:=aq h41;refine Q6 (cF MZ rfl rfl h41) gn rfl ?_;obtain⟨x42,h43,hF⟩:=aa hF;refine Ri (fu (k:=1) (x1:=x42) (x2:=ui .u8 x39) MV rfl rfl rfl h43 rfl) ?_;refine Q3 ?_;refine Rr ?_;refine Q4 ?_;refine QZ ?_;refine QY (an rfl rfl (aJ _ _ _)) rfl ?_;refine QY (ab rfl) rfl ?_;refine Q3 ?_;cases hF;exact Q7 () rfl (sc rfl (sc rfl (sc rfl (sc rfl sn)))) (ah.ae [1,2] rfl rfl)
 refine Rg rfl h35 ?_;refine Rk ?_;refine Rs ?_;cases hF;exact Q7 () rfl (sc rfl sn) (ah.ae [0] rfl rfl)
 clear h45;rintro⟨⟩;refine Ru ?_;refine At.NT ?_;cases hF;exact Vk.cx (sc rfl sn) (ah.trans (ah.close (k:=0) rfl) (ah.ae [0] rfl rfl)) (kN (some ⟨b7,0,none⟩))
end Nm
def Ml(l1:RR Int)(n0:Nat)(hl:l1.length<9223372036854775807):∀k i m,i+k=l1.length->k<m->cy (Nm.pT n0 l1) m ((l1.take i).map (ui .u8)++List.replicate k 0,(i:Int))=some (l1.map (ui .u8))
 | 0,i,m,h,hm=>by
  obtain⟨m,rfl⟩:∃k,m=k+1:=⟨m-1,by omega⟩
  have hi:i=l1.length:=by omega
  subst hi;rw[List.take_length,List.replicate_zero,P2];have e1:Nm.pT n0 l1 (l1.map (ui .u8),(l1.length:Int))=some (.inr (l1.map (ui .u8))):=by
   unfold Nm.pT
   dsimp only
   rw[Pm (show ¬(l1.length:Int)<(l1.length:Int) by omega)]; rfl
  simp only[cy,e1]
 | k+1,i,m,h,hm=>by
  obtain⟨m,rfl⟩:∃k,m=k+1:=⟨m-1,by omega⟩
  have hi:i<l1.length:=by omega
  have ih:=Ml l1 n0 hl k (i+1) m (by omega) (by omega)
  have e1:Nm.pT n0 l1 ((l1.take i).map (ui .u8)++List.replicate (k+1) 0,(i:Int))=some (.inl ((l1.take (i+1)).map (ui .u8)++List.replicate k 0,((i+1:Nat):Int))):=by
   unfold Nm.pT;have b1:bY (i:Int) l1.length=true:=by simp[bY]; omega
   have b2:bY (i:Int) ((l1.length:Int).toNat)=true:=by simp[bY]; omega
   have b3:((l1.take i).map (ui .u8)++List.replicate (k+1) 0)[i]? = some 0:=by
    rw[O2 (by simp; omega)]
    simp[show min i l1.length=i by omega]
   have b4:((l1.take i).map (ui .u8)++List.replicate (k+1) 0).set i (ui .u8 l1[i])=(l1.take (i+1)).map (ui .u8)++List.replicate k 0:=by
    rw[List.set_append_right _ _ (by simp; omega)]
    rw[List.take_succ_eq_append_getElem hi,List.map_append,List.append_assoc];simp[show min i l1.length=i by omega,PT]
   have b5:QU ((i:Int)+1)=((i+1:Nat):Int):=by
    rw[show QU ((i:Int)+1)=(i:Int)+1 from wrap_i64 _ (by omega) (by omega)]; omega
   dsimp only
   rw[OY (show(i:Int)<(l1.length:Int) by omega)]
   simp only[br,gd,ob,OC,b1,b2,b3,OG hi,b4,b5]
  simp only[cy,e1];exact ih
def JI(l1:RR Int)(hl:lim l1.length=true)(hl2:l1.length<9223372036854775807)(n:Nat)(hn:l1.length<n):Nm.Hb n l1=some (l1.map (ui .u8),l1.length):=by
 have h:=Ml l1 n hl2 l1.length 0 n (by omega) hn
 rw[List.take_zero,List.map_nil,PM] at h;unfold Nm.Hb;simp only[gd,ob,OC,hl,PF,decide_true,if_true];have h':cy (Nm.pT n l1) n (List.replicate l1.length 0,0)=some (l1.map (ui .u8)):=h;rw[h']
open Go.Ab.W
def bytesOf(l:RR Int):RR Int:=l.map fun x=>((ui .u8 x:Nat):Int)
def sE:∀l:RR Int,((l.map (ui .u8)).map (eN .u8)).flatten=(bytesOf l).map (Value.int .u8)
 | []=>rfl
 | a::l=>by
  have h:=sE l;simp only[QH,Px,bytesOf] at h ⊢;rw[h]; rfl
def F3{m:RN}{l:RR Int}{A:QN}{R:QP->RN->Prop}(hR:∀m1,Hp m m1 []->R (.string (AN (bytesOf l))) m1):Vk mC 24 70 none (NP 3 (wJ Tryz.f70)) (nT mC [.tmp 2] R) m ([(3,.slice A l.length l.length)]:Fs) ([.sl A 1 l.length ((l.map (ui .u8)).map (eN .u8))]:RR Pc):=by
 refine Vk.DC (Vk.region ?_);refine Vn.pre (os:=[_]) oi (QY (ab rfl) rfl (Wo.N3 (dr:=false) ?_));refine Vn.str (e:=5) (ns:=bytesOf l) (by kernel_rfl) (by kernel_rfl) (by kernel_rfl) rfl (fun m1 hm=>?_) rfl ?_
 have h:=hm.get (k:=0) rfl;rw[<-sE];rcases h with⟨h1,h2,rfl,_⟩|⟨b,tg,rfl,h1⟩
 have:l=[]:=PL h1;subst this; rfl
 exact h1.rd.cells
 refine Vn.of oi (QY (ai rfl) rfl ?_);refine Q3 (Q:=fun _=>_) ?_
 show Vk mC 24 70 none _ _ m _ _
 refine Vk.of oi (Q9 ?_);exact Rb (.tmp rfl .nil) fun m1 hm=>hR m1 ((ah.ae [] rfl rfl) m1 hm)
def Fj:Tag->Bool
 | .more k=>Nat.beq k 1
 | _=>true
def wS:RR QP->RI (RR Int)
 | []=>some []
 | .int .i64 x::vs=>(wS vs).map (x::·)
 | _=>none
def pN:∀{vs:RR QP} {l:RR Int},wS vs=some l->vs=l.map (.int .i64)
 | [],l,h=>by cases h; rfl
 | v::vs,l,h=>by
  unfold wS at h
  split at h
  rename_i e; cases e
  rename_i x vs' e;cases e;obtain⟨l',h1,rfl⟩:=P9.1 h;rw[pN h1]; rfl
  cases h
def vT(args:RR QP)(m:RN):RI (QP×RN) :=
 match args with
 | [.slice (some ⟨b,o,none⟩) n c]=>match m.get b with
  | some (.cells cs tag)=>if Nat.ble n c &&(Nat.blt b m.next &&(Fj tag &&(lim n&&Nat.ble (o+n) cs.length))) then(wS ((cs.drop o).take n)).map fun l=>(.string (AN (bytesOf l)),m) else none
  | _=>none
 | _=>none
def zd{args:RR QP}{m m':RN}{v:QP}(h:vT args m=some (v,m'))(pr:Bool){j:aT}{w:QT}{args':RR QP}(hm:MR mC j m w)(hl:LR j args args'):dX Tryz.prog pr 70 args'.toArray w (fA mC j m w v m'):=by
 unfold vT at h
 split at h
 rename_i b o n c
 split at h
 rename_i cs tag hg
 split at h
 rename_i hc;obtain⟨l,h1,h2⟩:=P9.1 h;cases h2;simp only[OD] at hc;obtain⟨c1,c2,c3,c4,c5⟩:=hc;have c5:=OL c5;have c2:b<m.next:=OL c2
 have hi:=pN h1;have hlen:l.length=n:=by
  have:=PX List.length hi;rw[PV,QC,O7] at this; omega
 subst hlen;have hr:∀x,Rd { m with wl:=x} (some ⟨b,o,none⟩) c 1 l.length (l.map (eI .i64)):=fun x=>by
  refine⟨by rw[O7],OL c1,.inr (.inr ⟨b,o,rfl,c2,cs,tag,hg,fun sz e=>?_,fun i e he=>?_⟩)⟩
  subst e;exact OE c3
  rw[O1] at he;obtain⟨y,hy,rfl⟩:=P9.1 he;have hil:=(OX.1 hy).1;refine⟨?_,rfl⟩;have h3:((cs.drop o).take l.length)[i]? = some (.int .i64 y):=by rw[hi,O1,hy]; rfl
  rw[Qq,OM hil,PZ] at h3;rw[Qf];have h4:o+i<cs.length:=by omega
  rw[List.drop_eq_getElem_cons h4,List.take_succ_cons,List.take_zero];rw[OG h4] at h3;rw[OK h3]; rfl
 have hlm:l.length<9223372036854775807:=by
  have:l.length<=1073741824:=OL c4;omega
 refine Bc (m:=m) (Eo (E:=mC) (c:=wJ Tryz.f70) (m0:={ m with wl:=m.next}) (N:=24) (rs:=[.tmp 2]) (ps:=[.rd (some ⟨b,o,none⟩) c 1 l.length (l.map (eI .i64))]) oi Tryz.func70 rfl rfl rfl ((Rj _).cL cl (hr _)) ?_) pr hm hl
 refine Nm.Hg oi (l.length+1) l _ c _ (JI l c4 hlm _ (PD _)) _ (hr _) fun g=>?_;refine F3 fun m1 hm1=>?_;have hn0:({ m with wl:=m.next}:RN).next=m.next:=rfl
 exact⟨⟨hm1.ext.next,fun b hb=>hm1.ext.same b hb,by have:=hm1.ext.wl; rw[hn0] at this; exact O3 (Nat.le_of_eq (Nat.min_self _).symm) this⟩,.inl ⟨rfl,rfl,rfl⟩⟩
 cases h
 cases h
 cases h
end
section
open Go Go.Ab
set_option maxRecDepth 100000
noncomputable abbrev D9:Env:=eo (some ⟨vC⟩) none (some ⟨vT⟩)
def xc{a b c a' b' c':RI Prim}{j:aT}{m:RN}{w:QT}{v:QP}{m':RN}{v':QP}{w':QT}(h:fA (eo a b c) j m w v m' v' w'):fA (eo a' b' c') j m w v m' v' w':=by
 obtain⟨j',s,hv⟩:=h;exact⟨j',Sim.env (E:=eo a b c) (E':=eo a' b' c') rfl (fun e=>e) s,hv⟩
def I1:EnvOk D9:=rM
 (fun c h args m v m' hr j w args' hm hl=>by cases h; exact cG (fun h=>h) (xH hr true (MR.env (E:=D9) (E':=mC) rfl hm) hl) fun _ _=>xc)
 (fun c h=>by cases h)
 (fun c h args m v m' hr j w args' hm hl=>by cases h; exact cG (fun h=>h) (zd hr true (MR.env (E:=D9) (E':=mC) rfl hm) hl) fun _ _=>xc)
noncomputable def NQ:Hand:=hand D9 kS 1000
set_option maxHeartbeats 0 in
def Ie:ET (om D9 NQ (fun _=>none) 14) oR=true:=by decide +kernel
set_option maxHeartbeats 0 in
def Eh:kU 18 (gh [0,0,1,1] 2 1)=true:=by decide +kernel
set_option maxHeartbeats 0 in
def E4:kU 18 (gh [0,0,0,0] 1 4)=true:=by decide +kernel
set_option maxHeartbeats 0 in
def Es:kU 31 nq=true:=by decide +kernel
set_option maxHeartbeats 0 in
def CF:kU 22 kQ=true:=by decide +kernel
set_option maxHeartbeats 0 in
def LH:kU 75 (dI 1 3)=true:=by decide +kernel
set_option maxHeartbeats 0 in
def KL:kU 75 (dI 1 2)=true:=by decide +kernel
set_option maxHeartbeats 0 in
def Lh:kU 75 (dI 1 4)=true:=by decide +kernel
set_option maxHeartbeats 0 in
def Ld:kU 75 (dI 3 4)=true:=by decide +kernel
set_option maxHeartbeats 0 in
def Kr:kU 75 (dI 1 1)=true:=by decide +kernel
set_option maxHeartbeats 0 in
def KC:kU 75 (dI 0 1)=true:=by decide +kernel
set_option maxHeartbeats 0 in
def Km:kU 75 (dI 2 3)=true:=by decide +kernel
set_option maxHeartbeats 0 in
def Mo:kU 29 (dT 1 2 true)=true:=by decide +kernel
set_option maxHeartbeats 0 in
def M6:kU 29 (dT 1 1 false)=true:=by decide +kernel
set_option maxHeartbeats 0 in
def Kt:kU 33 sj=true:=by decide +kernel
set_option maxHeartbeats 0 in
def JN:kU 38 zF=true:=by decide +kernel
set_option maxHeartbeats 0 in
def IQ:kU 38 A8=true:=by decide +kernel
end
section
open Go Go.Ab
set_option maxRecDepth 100000
attribute [local irreducible] om Case.run Case.fits
def Mz{E:Env}(hE:EnvOk E)(hmono:¬E.mono){F:R2->RI PSem}(hF:Lj E F){ND:R2->RI FunN}(hN:LX E ND){n:Nat}{f:R2}{c:Case}(h:ET (om E (hand E F n) ND f) c=true):W.mD E f (c.args.map (AV.val fun b=>b)) (c.small 1 ft) (c.Out (c.small 1 ft)):=by
 unfold ET at h;have h1:=rK hE hmono (nU hF n) hN (f:=f) (args:=c.args.map (AV.val fun b=>b)) (m:=c.small 1 ft) (K:=fun v m=>c.Fm (c.small 1 ft) v m) h;intro j w args' hm hl;refine cG (fun h=>h) (h1 j w args' hm hl) ?_;rintro v' w' ⟨v1,m1,hq,hv⟩;exact⟨v1,m1,Case.tJ hq,hv⟩
def BV(c:Case):Bool:=c.V.all (TV.ok c.T.length) &&(c.args.all (AV.ok (1+c.A.length)) &&(c.A.all (fun x=>x.1.all (SV.ok (1+c.A.length)))&&c.T.all fun x=>Nat.blt 0 x.2 &&(Nat.beq x.1.length (x.1.length/x.2*x.2) &&(Nat.ble (x.1.length/x.2) 9223372036854775807&&x.1.all (TV.ok c.T.length)))))
structure CaseOk(f:R2)(c:Case):Prop where
 call:∀{args:RR QP} {m m':RN} {v:QP},c.run 1 gX args m=some (v,m')->∀(pr:Bool) {j:aT} {w:QT} {args':RR QP},MR mC j m w->LR j args args'->dX Tryz.prog pr f args'.toArray w (fA mC j m w v m')
def FI{p q r:RI Prim}{f:R2}{c:Case}(hg:BV c=true)(h:W.mD (eo p q r) f (c.args.map (AV.val fun b=>b)) (c.small 1 ft) (c.Out (c.small 1 ft))):CaseOk f c:=⟨fun hr pr _ _ _ hm hl=>by
 unfold BV at hg;simp only[OD] at hg;obtain⟨h1,h2,h3,h4⟩:=hg;refine cG (fun h=>h) (Case.GF (E:=eo p q r) (gs:=ft) (tabB:=gX) (fun m ht=>sM ht) (fun x hx=>?_) h1 h2 h3 h hr pr (MR.env (E:=mC) (E':=eo p q r) rfl hm) hl) fun _ _=>xc;have h5:=OV.1 h4 x hx;simp only[OD] at h5;exact⟨OL h5.1,OE h5.2.1,OL h5.2.2.1,h5.2.2.2⟩⟩
def B4{E:Env}:LX E fun _=>none:=fun h=>by cases h
def gU{f:R2}{c:Case}(hg:BV c=true)(h:kU f c=true):CaseOk f c:=FI (p:=none) (q:=none) (r:=none) hg (Mz oi AE (oU _ _ _) B4 h)
def iX:RR (R2×Case):=[(14,oR),(18,gh [0,0,1,1] 2 1),(18,gh [0,0,0,0] 1 4),(31,nq),(22,kQ),(29,dT 1 2 true),(29,dT 1 1 false),(33,sj),(38,zF),(38,A8),(75,dI 1 3),(75,dI 1 2),(75,dI 1 4),(75,dI 3 4),(75,dI 1 1),(75,dI 0 1),(75,dI 2 3)]
def wU:iX.all (fun x=>BV x.2)=true:=by decide +kernel
def su:∀x∈iX,CaseOk x.1 x.2:=by
 intro x hx;have hg:=OV.1 wU x hx;simp only[iX,Pb,List.not_mem_nil,or_false] at hx;rcases hx with rfl|rfl|rfl|rfl|rfl|rfl|rfl|rfl|rfl|rfl|rfl|rfl|rfl|rfl|rfl|rfl|rfl
 exact FI hg (Mz I1 (fun h=>h) (oU _ _ _) B4 Ie)
 exact gU hg Eh
 exact gU hg E4
 exact gU hg Es
 exact gU hg CF
 exact gU hg Mo
 exact gU hg M6
 exact gU hg Kt
 exact gU hg JN
 exact gU hg IQ
 exact gU hg LH
 exact gU hg KL
 exact gU hg Lh
 exact gU hg Ld
 exact gU hg Kr
 exact gU hg KC
 exact gU hg Km
def wC(args:RR QP)(m:RN):RR Case->RI (QP×RN)
 | []=>none
 | c::cs=>(c.run 1 gX args m).or (wC args m cs)
def tV{f:R2}{args:RR QP}{m m':RN}{v:QP}:∀{cs:RR Case},(∀c∈cs,CaseOk f c)->wC args m cs=some (v,m')->∃c,CaseOk f c/\c.run 1 gX args m=some (v,m')
 | [],_,h=>by cases h
 | c::cs,hc,h=>by
  unfold wC at h;simp only[Option.or_eq_some_iff] at h;rcases h with h|⟨_,h⟩
  exact⟨c,hc c (Qp ..),h⟩
  exact tV (fun c h=>hc c (List.mem_cons_of_mem _ h)) h
def sU:RR Case:=[oR]
def L0:RR Case:=[gh [0,0,1,1] 2 1,gh [0,0,0,0] 1 4]
def zl:RR Case:=[nq]
def kY:RR Case:=[kQ]
def DZ:RR Case:=[dT 1 2 true,dT 1 1 false]
def I2:RR Case:=[sj]
def xm:RR Case:=[zF,A8]
def EZ:RR Case:=[dI 1 3,dI 1 2,dI 1 4,dI 3 4,dI 1 1,dI 0 1,dI 2 3]
def oq(f:R2):RR Case :=
 if f=75 then EZ else if f=14 then sU else if f=18 then L0 else if f=31 then zl else if f=22 then kY else if f=29 then DZ else if f=33 then I2 else if f=38 then xm else[]
def AR(f:R2):∀c∈oq f,CaseOk f c:=by
 have key:∀(g:R2) (l:RR Case),(∀c∈l,(g,c)∈iX)->∀c∈l,CaseOk g c:=fun g l h c hc=>su (g,c) (h c hc);have sub:∀c,∀{g:R2},(c∈oq g)->(g,c)∈iX:=by
  intro c g h;unfold oq at h
  repeat' split at h
  all_goals first
   |(rename_i e; subst e; simp only[EZ,sU,L0,zl,kY,DZ,I2,xm,Pb,List.not_mem_nil,or_false] at h; simp only[iX,Pb,QA]; rcases h with rfl|rfl|rfl|rfl|rfl|rfl|rfl<;>simp)
   |(rename_i e; subst e; simp only[EZ,sU,L0,zl,kY,DZ,I2,xm,Pb,List.not_mem_nil,or_false] at h; simp only[iX,Pb,QA]; rcases h with rfl|rfl<;>simp)
   |(rename_i e; subst e; simp only[EZ,sU,L0,zl,kY,DZ,I2,xm,Pb,List.not_mem_nil,or_false] at h; simp only[iX,Pb,QA]; subst h; simp)
   | cases h
 exact fun c hc=>su (f,c) (sub c hc)
noncomputable def Ey (f:R2):RI Prim:=if(oq f).isEmpty then mC.dj f else some ⟨fun args m=>wC args m (oq f)⟩
noncomputable def ym:Env:={ mC with dj:=Ey}
def Je:EnvOk ym:=Aa (E:=mC) oi (pr:=Ey) fun f p hp=>by
 unfold Ey at hp
 split at hp
 exact .inl hp
 cases hp;refine .inr fun args m v m' h j w args' hm hl=>?_;obtain⟨c,h1,h2⟩:=tV (AR f) h;exact h1.call h2 _ hm hl
def zq:Lj ym kS:=by
 intro f S hS;unfold kS at hS
 split at hS
 rename_i e; cases hS; subst e;exact⟨⟨dQ u7⟩,rfl,fun h=>lV Cj h⟩
 split at hS
 rename_i e; cases hS; subst e;exact⟨⟨dQ s6⟩,rfl,fun h=>lV Bf h⟩
 cases hS
end
section
open Go Go.Ab
set_option maxRecDepth 100000
set_option maxHeartbeats 0 in
def zo:(hand ym kS 1000).call 11 [] Ob (Me 1)=true:=by decide +kernel
end
section
open Go Go.Ab Go.Ab.W
def DE:∃fuel m',run ym fuel (.call 11 [] Ob)=some (.val (.bool true) m')/\1<=m'.wl:=yd (E:=ym) (F:=kS) (n:=1000) (g:=1) zq zo
def jo(args:RR QP)(m:RN):RI (QP×RN) :=
 match args with
 | []=>if gX m then some (.bool true,m) else none
 | _=>none
def vF{args:RR QP}{m m':RN}{v:QP}(h:jo args m=some (v,m')){j:aT}{w:QT}{args':RR QP}(hm:MR mC j m w)(hl:LR j args args') :
  dX Tryz.prog true 11 args'.toArray w (fA mC j m w v m'):=by
 unfold jo at h
 split at h
 split at h
 rename_i ht;cases h;obtain⟨fuel,m0,h1,h2⟩:=DE;refine cG (fun _=>rfl) (vp (E:=ym) (gs:=ft) Je pS h1 h2 rfl (MR.env (E:=mC) (E':=ym) rfl hm) (fun x c hx hg=>(sM ht x c hx hg).1) hl) fun _ _ ⟨j',s,hv⟩=>⟨j',Sim.env (E:=ym) (E':=mC) rfl (fun e=>e) s,hv⟩
 cases h
 cases h
noncomputable abbrev aL:Env:=eo none (some ⟨jo⟩) none
def Jp:EnvOk aL:=rM (fun c h=>by cases h)
 (fun c h args m v m' hr j w args' hm hl=>by cases h; exact cG (fun h=>h) (vF hr (MR.env (E:=aL) (E':=mC) rfl hm) hl) fun _ _=>xc)
 (fun c h=>by cases h)
def Kw(n:Nat)(r:Bool)(hF:N8 n=some r)(m:RN)(hG:Gl m):aG aL 11 [] m (fun v m'=>∃x:RS,v=.bool r/\Hp m m' []):=by
 cases hF;refine aG.dj (p:=⟨jo⟩) rfl (v:=.bool true) (m':=m) ?_ ⟨(),rfl,Rj m⟩;have ht:gX m=true:=by
  unfold gX;rw[hG.1];exact(by decide +kernel:tT (j7.map (.int .u8)) j7=true)
 show jo [] m=_
 simp only[jo,ht,if_true]
end
section
set_option maxRecDepth 100000
open Go Go.ChangeShapes Go.WideShapes Go.ChangeAt Go.WideMaps Go.WideElems Go.RowKit Go.Ab Go.Ab.W
def NW:Gz Tryz.prog 5 61=some [.int .u8,.sl 5]:=by kernel_rfl
def NU:Gz Tryz.prog 5 5=some [.int .u8]:=by kernel_rfl
section
variable{H:Type}{enc:QQ×QP->H}{W:QT}{sp:Nat->Bool}{held:Bool}{v:QP}{d:DataW H}{p:RR MemPlace}{base:Nat}
theorem NY:∀(n:Nat) (cs:RR QP) (x:DataW H×RR MemPlace),DataW.trod enc Tryz.prog W 0 sp held n 5 cs=some x->∃p:Nat,cs=eN .u8 p/\p<256:=by
 intro n cs x h;obtain⟨v1,cs,rfl,h1,h⟩:=pB (yc 5 5 _ NU n _ x h);obtain rfl:=xE h;obtain⟨a,rfl,ha⟩:=FD h1;exact⟨a,rfl,ha⟩
theorem J9(hok:Value.okWide Tryz.prog W .any base 61 v)(hs:0<W.heap.size)(h:DataW.Trod enc Tryz.prog W 0 sp held 61 v d p):∃(x1:Nat) (l:RR Nat) (a:QN) (c:Nat),
  VR (eG W) (.agg #[.int .u8 ((x1:Nat):Int),.slice a l.length c]) v/\x1<256/\(∀q∈l,q<256)/\l.length<=maxLen/\Rd (eZ W) a c 1 l.length (l.map (eN .u8)):=by
 obtain⟨cs,rfl,_⟩:=okWide_struct (t:=61) (fs:=Tryz.prog.underlying 61 |>.elim #[] fun u=>match u with|.struct fs=>fs|_=>#[]) (by kernel_rfl) hok
 obtain⟨n,h⟩:=h;obtain⟨v1,r,hr,h1,h⟩:=pB (zS NW h);obtain⟨v2,r,rfl,h2,h⟩:=pB h;obtain rfl:=xE h;obtain⟨x1,rfl,g1⟩:=FD h1;obtain⟨a,c,l,e1,e2,e3,e4⟩:=LL (f:=eN .u8) (w:=1) (by kernel_rfl) (by omega) hs (fun q=>rfl) NY h2
 refine⟨x1,l,a,c,?_,g1,e3,e4,e2⟩;refine Kc (l:=[.int .u8 ((x1:Nat):Int),.slice a l.length c]) ?_;rw[hr];exact .cons (.int _ _) (.cons e1 (.nil _))
end
def Nb:laidOutB Tryz.prog=true:=by kernel_rfl
def HH:mapsRowed Tryz.prog=true:=by kernel_rfl
def JF:sizedB Tryz.prog=true:=by kernel_rfl
def KI{W:QT}(h:laidMetH Tryz.prog qS W):Gl (eZ W)/\0<W.heap.size:=by
 rw[MakeChecks.laidMetH_plain _ _ _ (by kernel_rfl)] at h
 obtain⟨ps,hL,_⟩:=h;have ht:(Tryz.prog.globals[0]?).map (·.type)=some 354:=by kernel_rfl
 obtain⟨c,ty,fz,h1,h2⟩:=C8 (L:=j7) (k:=.u8) (N:=64) (t:=354) (e:=5) NV ht (by kernel_rfl) (by kernel_rfl) (by kernel_rfl) (by kernel_rfl) rfl hL
 have hs:0<W.heap.size:=(OQ.1 h1).1;refine⟨⟨?_,hs⟩,hs⟩;rw[oz h1,h2,List.map_map]
 congr 2
def Dj{H:Type}{enc:QQ×QP->H}{f:R2}{fn:Func}{s:ChangeSpec}{W:QT}{args:RU QP}{ds:RR (DataW H)}{before:RR MemPlace}{tb:QQ}{fresh handsOn:Bool}{absArgs:RR QP}(hpr:aL.dj f=none)
  (hvars:s.vars=[]) (hres:fn.resultTypes.toList=[tb]) (hrs:fn.resultTypes.size=1) (htb:Tryz.prog.underlying tb=some .bool) (hpt:∀t∈fn.params.toList,t<Tryz.prog.types.size) (hfn:s.fn H ds ={ results:=[.lit (.bool true)],args:=ds,vars:=[]})
  (hW:DataW.Whole enc Tryz.prog fn.params.toList s.vars false W args.toList ds [] before) (hs:0<W.heap.size)
  (hl:LR (eG W) absArgs args.toList) (hc:aG aL f absArgs (eZ W) (fun v m'=>∃x:RS,v=.bool true/\Hp (eZ W) m' [])) :
  Calls Tryz.prog f args W fun e W'=>∃v,e=.returned v/\s.post enc Tryz.prog fn false fresh handsOn false W args v W':=by
 obtain⟨v,m',⟨fuel,hrun⟩,_,rfl,hm'⟩:=hc;have hm:MR aL (eG W) (eZ W) W:=LM hs;have hcall:=callsIn_wide.1 (vq Jp hrun hpr hm hl);refine hcall.mono fun e W' ⟨v',he,j',sm,hv⟩=>?_;have hv':v'=.bool true:=eL rfl hv;subst hv';have hwl:(eZ W).next<=m'.wl:=by
  have h1:=hm'.ext.wl;have h2:min (eZ W).wl (eZ W).next=(eZ W).next:=Nat.min_self _
  omega
 exact⟨_,he,Fc Nb HH JF hvars hres hrs htb hpt hfn hW sm.calm (sm.grown hm hwl)⟩
end
section
open Go Go.Ab Go.Ab.W
def gA:RR Nat:=[0,1,2,2,3,3,3,3,4,4,4,4,4,4,4,4,5,5,5,5,5,5,5,5,5,5,5,5,5,5,5,5,6,6,6,6,6,6,6,6,6,6,6,6,6,6,6,6,6,6,6,6,6,6,6,6,6,6,6,6,6,6,6,6,7,7,7,7,7,7,7,7,7,7,7,7,7,7,7,7,7,7,7,7,7,7,7,7,7,7,7,7,7,7,7,7,7,7,7,7,7,7,7,7,7,7,7,7,7,7,7,7,7,7,7,7,7,7,7,7,7,7,7,7,7,7,7,7,8,8,8,8,8,8,8,8,8,8,8,8,8,8,8,8,8,8,8,8,8,8,8,8,8,8,8,8,8,8,8,8,8,8,8,8,8,8,8,8,8,8,8,8,8,8,8,8,8,8,8,8,8,8,8,8,8,8,8,8,8,8,8,8,8,8,8,8,8,8,8,8,8,8,8,8,8,8,8,8,8,8,8,8,8,8,8,8,8,8,8,8,8,8,8,8,8,8,8,8,8,8,8,8,8,8,8,8,8,8,8,8,8,8,8,8,8,8,8,8,8,8,8,8,8,8,8,8]
def qV(n:Nat)(l1:RR (Int)):Int->RI (Int⊕Int):=fun v7 =>
ob (
br (decide (0<v7)) (
gd (bY (QU (v7-1)) l1.length) (
ob (l1[(QU (v7-1)).toNat]?) fun x69 =>
some (decide (x69=0)))) (
some false)) fun v64 =>
br (v64) (
some (.inl (QU (v7-1)))) (
some (.inr v7))
def oH(n:Nat)(l1:RR (Int)):RI (RR Int) :=
ob (
cy (qV n l1) n (l1.length:Int)) fun v41 =>
gd (okB 0 v41 l1.length) (
some ((l1.drop QV).take ((v41:Int).toNat-QV)))
def nw(n:Nat)(x1:Bool)(l2:RR (Int)):RI (Bool×RR Int) :=
ob (oH n l2) fun l9 =>
br (x1) (
some (decide (0<(l9.length:Int)),l9)) (
some (false,l9))
def HW(n:Nat)(x1:Int):RI (Bool×RR Int) :=
ob (
br (decide (x1<0)) (
some (Ik .u64 (ui .u64 x1))) (
some (ui .u64 x1))) fun v4 =>
ob (nw n (decide (x1<0)) ([QU ((v4%4294967296:Nat):Int),QU ((uw .u64 (v4/4294967296):Nat):Int)])) fun(r10,l11) =>
some (r10,l11)
def rL(n:Nat)(l1:RR (Int)):(Int×RR (Int)×Int)->RI ((Int×RR (Int)×Int) ⊕(Int×RR (Int))):=fun(v24,l25,v27) =>
br (decide (v27<(l1.length:Int))) (
gd (bY v27 l1.length) (
ob (l1[v27.toNat]?) fun x52 =>
ob (some (Int.tmod (QU ((QU (2*x52))+v24)) 4294967296)) fun y54 =>
gd (lim (l25++[y54]).length) (
ob (some (QU (Int.tdiv (QU ((QU (2*x52))+v24)) 4294967296))) fun y59 =>
some (.inl (y59,(l25++[y54]),QU (v27+1)))))) (
some (.inr (v24,l25)))
def Gn(n:Nat)(l1:RR (Int))(x6:Int):RI (RR Int) :=
ob (
cy (rL n l1) n (x6,([]:RR (Int)),0)) fun(v45,l46) =>
gd (lim (l46++[v45]).length) (
ob (oH n (l46++[v45])) fun l67 =>
some l67)
def jL(n:Nat)(l1:RR (Int))(l5:RR (Int)):Int->RI (Int⊕Int⊕RS):=fun v11 =>
br (decide (0<=v11)) (
gd (bY v11 l1.length) (
ob (l1[v11.toNat]?) fun x32 =>
gd (bY v11 l5.length) (
ob (l5[v11.toNat]?) fun x37 =>
br (!decide (x32=x37)) (
gd (bY v11 l1.length) (
gd (bY v11 l5.length) (
some (.inr (.inl (QU (x32-x37))))))) (
some (.inl (QU (v11-1))))))) (
some (.inr (.inr ())))
def Av(n:Nat)(l1:RR (Int))(l5:RR (Int)):RI Int :=
br (!decide ((l1.length:Int)=(l5.length:Int))) (
some (QU ((l1.length:Int)-(l5.length:Int)))) (
ob (α:=(Int)⊕RS) (
cy (jL n l1 l5) n (QU ((l1.length:Int)-1))) fun r43=>match r43 with
| .inl v27 =>
some v27
| .inr _ =>
some 0)
def si(n:Nat)(l1:RR (Int))(l6:RR (Int)):(RR (Int)×Int×Int)->RI ((RR (Int)×Int×Int) ⊕(RR (Int))):=fun(l2,v2,v0) =>
br (decide (v0<(l1.length:Int))) (
gd (bY v0 l1.length) (
ob (l1[v0.toNat]?) fun x3 =>
ob (
br (decide (v0<(l6.length:Int))) (
gd (bY v0 l6.length) (
ob (l6[v0.toNat]?) fun x4 =>
some (QU ((QU (x3-v2))-x4)))) (
some (QU (x3-v2)))) fun v1 =>
ob (
br (decide (v1<0)) (
some (1,QU (v1+4294967296))) (
some (0,v1))) fun(v4,v3) =>
gd (lim (l2++[v3]).length) (
some (.inl ((l2++[v3]),v4,QU (v0+1)))))) (
some (.inr l2))
def sZ(n:Nat)(l1:RR (Int))(l6:RR (Int)):RI (RR Int) :=
ob (
cy (si n l1 l6) n (([]:RR (Int)),0,0)) fun l2 =>
ob (oH n l2) fun l3 =>
some l3
def pt(n:Nat)(v0:Int)(l1:RR (Int))(l6:RR (Int))(y2:Int):(RR (Int)×RR (Int)×Int)->RI ((RR (Int)×RR (Int)×Int) ⊕(RR (Int)×RR (Int))):=fun(l2,l4,v1) =>
br (decide (0<=v1)) (
ob (
gd (bY v0 l1.length) (
ob (l1[v0.toNat]?) fun x3 =>
ob (Gn n l4 (Int.tmod (DK .i64 x3 v1.toNat) 2)) fun l3 =>
ob (Av n l3 l6) fun r0 =>
br (decide (0<=r0)) (
ob (sZ n l3 l6) fun l7 =>
gd (bY v0 y2.toNat) (
ob (l2[v0.toNat]?) fun x4 =>
gd (bY v0 y2.toNat) (
some ((l2.set v0.toNat (QU (x4+(A2 .i64 1 v1.toNat)))),l7)))) (
some (l2,l3)))) fun(l8,l9) =>
some (.inl (l8,l9,QU (v1-1)))) (
some (.inr (l2,l4)))
def rh(n:Nat)(l1:RR (Int))(l6:RR (Int))(y2:Int):(RR (Int)×RR (Int)×Int)->RI ((RR (Int)×RR (Int)×Int) ⊕(RR (Int)×RR (Int))):=fun(l2,l3,v0) =>
br (decide (0<=v0)) (
ob (
cy (pt n v0 l1 l6 y2) n (l2,l3,31)) fun(l4,l7) =>
some (.inl (l4,l7,QU (v0-1)))) (
some (.inr (l2,l3)))
def DR(n:Nat)(l1:RR (Int))(l6:RR (Int)):RI (RR Int×RR Int) :=
br (decide ((l1.length:Int)<=QU ((l6.length:Int)-1))) (
gd (lim (([]:RR (Int))++l1).length) (
some ([],(([]:RR (Int))++l1)))) (
ob (some (QU ((l1.length:Int)-(QU ((l6.length:Int)-1))))) fun y2 =>
gd (decide (0<=y2)) (gd (lim y2.toNat) (
ob (some (QU ((l1.length:Int)-(QU ((l6.length:Int)-1))))) fun y3 =>
gd (okB y3 (l1.length:Int) l1.length) (
gd (lim (([]:RR (Int))++((l1.drop (y3:Int).toNat).take (((l1.length:Int):Int).toNat-(y3:Int).toNat))).length) (
ob (
cy (rh n l1 l6 y2) n ((List.replicate y2.toNat (0:Int)),(([]:RR (Int))++((l1.drop (y3:Int).toNat).take (((l1.length:Int):Int).toNat-(y3:Int).toNat))),QU ((y2.toNat:Int)-1))) fun(l2,l3) =>
ob (oH n l2) fun l4 =>
some (l4,l3))))))
def rO(n:Nat):(RR (Int)×RR (Int))->RI ((RR (Int)×RR (Int)) ⊕(RR (Int))):=fun(l26,l29) =>
br (decide (0<(l29.length:Int))) (
ob (DR n l26 l29) fun(l53,l57) =>
some (.inl (l29,l57))) (
some (.inr l26))
def Di(n:Nat)(x1:Bool)(l2:RR (Int))(x7:Bool)(l8:RR (Int)):RI (Bool×RR Int) :=
ob (
cy (rO n) n (l2,l8)) fun l48 =>
some (false,l48)
def JH(n:Nat)(x1:Bool)(l2:RR (Int)):RI (Bool×RR Int) :=
ob (nw n (!x1) l2) fun(r10,l11) =>
some (r10,l11)
def qQ(n:Nat)(l1:RR (Int))(l5:RR (Int)):(RR (Int)×Int×Int)->RI ((RR (Int)×Int×Int) ⊕(RR (Int))):=fun(l2,v1,v0) =>
ob (
br (decide (v0<(l1.length:Int))) (
some true) (
br (decide (v0<(l5.length:Int))) (
some true) (
some (decide (0<v1))))) fun v4 =>
br (v4) (
ob (
br (decide (v0<(l1.length:Int))) (
gd (bY v0 l1.length) (
ob (l1[v0.toNat]?) fun x3 =>
some (QU (v1+x3)))) (
some v1)) fun v3 =>
ob (
br (decide (v0<(l5.length:Int))) (
gd (bY v0 l5.length) (
ob (l5[v0.toNat]?) fun x4 =>
some (QU (v3+x4)))) (
some v3)) fun v2 =>
gd (lim (l2++[Int.tmod v2 4294967296]).length) (
some (.inl ((l2++[Int.tmod v2 4294967296]),QU (Int.tdiv v2 4294967296),QU (v0+1))))) (
some (.inr l2))
def DA(n:Nat)(l1:RR (Int))(l5:RR (Int)):RI (RR Int) :=
ob (
cy (qQ n l1 l5) n (([]:RR (Int)),0,0)) fun l2 =>
some l2
def xy(n:Nat)(x1:Bool)(l2:RR (Int))(x7:Bool)(l8:RR (Int)):RI (Bool×RR Int) :=
br ((x1==x7)) (
ob (DA n l2 l8) fun l18 =>
ob (nw n x1 l18) fun(r22,l23) =>
some (r22,l23)) (
ob (Av n l2 l8) fun r28 =>
br (decide (0<=r28)) (
ob (sZ n l2 l8) fun l31 =>
ob (nw n x1 l31) fun(r36,l37) =>
some (r36,l37)) (
ob (sZ n l8 l2) fun l42 =>
ob (nw n x7 l42) fun(r47,l48) =>
some (r47,l48)))
def Ip(n:Nat)(x1:Bool)(l2:RR (Int))(x7:Bool)(l8:RR (Int)):RI (Bool×RR Int) :=
ob (JH n x7 l8) fun(r17,l18) =>
ob (xy n x1 l2 r17 l18) fun(r23,l24) =>
some (r23,l24)
def CL(n:Nat)(x1:Bool)(l8:RR (Int))(x3:Bool)(l3:RR (Int)):RI (Bool×RR Int×Bool×RR Int) :=
ob (DR n l8 l3) fun(l9,l10) =>
ob (nw n (!(x1==x3)) l9) fun(r0,l2) =>
ob (nw n x1 l10) fun(r1,l4) =>
ob (
br (r1) (
ob (xy n r1 l4 false l3) fun(r3,l7) =>
br (x3) (
ob (HW n 1) fun(r4,l11) =>
ob (xy n r0 l2 r4 l11) fun(r5,l12) =>
some (r5,l12,r3,l7)) (
ob (HW n 1) fun(r6,l13) =>
ob (Ip n r0 l2 r6 l13) fun(r7,l14) =>
some (r7,l14,r3,l7))) (
some (r0,l2,r1,l4))) fun(v0,l15,v1,l16) =>
some (v0,l15,v1,l16)
def Du(n:Nat)(x1:Bool)(l2:RR (Int))(x7:Bool)(l8:RR (Int)):RI (Bool×RR Int×Bool×RR Int) :=
ob (Di n x1 l2 x7 l8) fun(r17,l18) =>
ob (
br (x7) (
ob (JH n r17 l18) fun(r36,l37) =>
some (r36,l37)) (
some (r17,l18))) fun(v30,l31) =>
ob (CL n x1 l2 v30 l31) fun(r44,l45,r49,l50) =>
ob (CL n x7 l8 v30 l31) fun(r57,l58,r62,l63) =>
some (r44,l45,r57,l58)
def yW(n:Nat)(x1:Int)(x2:Int):RI (Bool×RR Int×Bool×RR Int) :=
ob (HW n x1) fun(r5,l6) =>
ob (HW n x2) fun(r11,l12) =>
ob (Du n r5 l6 r11 l12) fun(r17,l18,r22,l23) =>
some (r17,l18,r22,l23)
def JW(n:Nat)(l2:RR (Int)):(RR (Nat)×Int)->RI ((RR (Nat)×Int) ⊕(RR (Nat))):=fun(l3,v0) =>
br (decide (v0<(l2.length:Int))) (
gd (bY (QU (Int.tdiv v0 2)) 8) (
ob (l3[(QU (Int.tdiv v0 2)).toNat]?) fun x3 =>
gd (bY v0 l2.length) (
ob (l2[v0.toNat]?) fun x4 =>
gd (decide (0<=QU (32*(Int.tmod v0 2)))) (
ob (some (eY .u64 (ui .u64 x4) (QU (32*(Int.tmod v0 2))).toNat)) fun y2 =>
gd (bY (QU (Int.tdiv v0 2)) 8) (
some (.inl ((l3.set ((QU (Int.tdiv v0 2)).toNat) (uw .u64 (x3+y2))),QU (v0+1)))))))) (
some (.inr l3))
def Nd(n:Nat)(x1:Bool)(l2:RR (Int)):RI (Nat×Nat×Nat×Nat×Nat×Nat×Nat×Nat×Int) :=
gd (decide ((0:Int)<=16)) (gd (lim ((16:Int).toNat)) (
gd (bY 15 ((16:Int).toNat)) (
ob ((List.replicate (16:Int).toNat (0:Int))[(15:Int).toNat]?) fun x11 =>
ob (Av n l2 ((List.replicate (16:Int).toNat (0:Int)).set ((15:Int).toNat) 2147483648)) fun r0 =>
ob (
br (decide (0<r0)) (
some true) (
br (decide (r0=0)) (
some (!x1)) (
some false))) fun v0 =>
br (v0) (
some (0,0,0,0,0,0,0,0,6)) (
ob (
br (x1) (
gd (decide ((0:Int)<=17)) (gd (lim ((17:Int).toNat)) (
gd (bY 16 ((17:Int).toNat)) (
ob ((List.replicate (17:Int).toNat (0:Int))[(16:Int).toNat]?) fun x12 =>
ob (sZ n ((List.replicate (17:Int).toNat (0:Int)).set ((16:Int).toNat) 1) l2) fun l3 =>
some l3)))) (
some l2)) fun l4 =>
ob (
cy (JW n l4) n (([0,0,0,0,0,0,0,0]:RR (Nat)),0)) fun l7 =>
ob (LG l7) fun(x3,x4,x5,x6,x7,x8,x9,x10) =>
some (x3,x4,x5,x6,x7,x8,x9,x10,0)))))
def Lb(n:Nat)(x1:Bool)(l2:RR (Int))(x6:Bool)(l7:RR (Int)):RI (Nat×Nat×Nat×Nat×Nat×Nat×Nat×Nat×Nat×Nat×Nat×Nat×Nat×Nat×Nat×Nat×Int) :=
ob (Nd n x1 l2) fun(r14,r15,r16,r17,r18,r19,r20,r21,r22) =>
ob (Nd n x6 l7) fun(r25,r26,r27,r28,r29,r30,r31,r32,r33) =>
ob (
br (!decide (r22=0)) (
some true) (
some (!decide (r33=0)))) fun v42 =>
br (v42) (
some (0,0,0,0,0,0,0,0,0,0,0,0,0,0,0,0,6)) (
some (r14,r15,r16,r17,r18,r19,r20,r21,r25,r26,r27,r28,r29,r30,r31,r32,0))
def L9(n:Nat)(x1:Int)(x2:Int):RI (Nat×Nat×Nat×Nat×Nat×Nat×Nat×Nat×Nat×Nat×Nat×Nat×Nat×Nat×Nat×Nat×Int) :=
br (decide (x2=0)) (
some (0,0,0,0,0,0,0,0,0,0,0,0,0,0,0,0,7)) (
ob (yW n x1 x2) fun(r6,l7,r11,l12) =>
ob (Lb n r6 l7 r11 l12) fun(r17,r18,r19,r20,r21,r22,r23,r24,r25,r26,r27,r28,r29,r30,r31,r32,r33) =>
some (r17,r18,r19,r20,r21,r22,r23,r24,r25,r26,r27,r28,r29,r30,r31,r32,r33))
def uP(n:Nat)(v1:Int)(v2:Int)(l2:RR (Nat)):(RR (Int)×Int×Int)->RI ((RR (Int)×Int×Int) ⊕(RR (Int)×Int)):=fun(l3,v4,v0) =>
br (decide (v0<v1)) (
ob (
br (decide (QU ((QU (v1*v2))+v0)<(l2.length:Int))) (
gd (bY (QU ((QU (v1*v2))+v0)) l2.length) (
ob (l2[(QU ((QU (v1*v2))+v0)).toNat]?) fun x3 =>
some (QU ((x3%6:Nat):Int)))) (
some 0)) fun v3 =>
gd (lim (l3++[v3]).length) (
some (.inl ((l3++[v3]),QU (v4+v3),QU (v0+1))))) (
some (.inr (l3,v4)))
def tG(n:Nat)(v1:Int)(l3:RR (Int))(l4:RR (Int))(v2:Int):(RR R7×Int)->RI ((RR R7×Int) ⊕(RR R7)):=fun(l2,v0) =>
br (decide (v0<v1)) (
gd (bY v0 l3.length) (
ob (l4[v0.toNat]?) fun x3 =>
ob (L9 n x3 v2) fun(r0,r1,r3,r4,r5,r6,r7,r8,r9,r10,r11,r12,r13,r14,r15,r16,r17) =>
gd (lim (l2++[(r0,r1,r3,r4,r5,r6,r7,r8,r9,r10,r11,r12,r13,r14,r15,r16)]).length) (
some (.inl ((l2++[(r0,r1,r3,r4,r5,r6,r7,r8,r9,r10,r11,r12,r13,r14,r15,r16)]),QU (v0+1)))))) (
some (.inr l2))
def uf(n:Nat)(l7:RR (Nat)):(Int×RR (RR R7)×Int)->RI ((Int×RR (RR R7)×Int) ⊕(RR (RR R7))):=fun(v1,l3,v0) =>
br (decide (v0<v1)) (
ob (
cy (uP n v1 v0 l7) n (([]:RR (Int)),0,0)) fun(l2,v2) =>
ob (
br (decide (v2=0)) (
gd (bY v0 l2.length) (
ob (l2[v0.toNat]?) fun x3 =>
some ((l2.set v0.toNat 1),1))) (
some (l2,v2))) fun(l8,v3) =>
ob (
cy (tG n v1 l2 l8 v3) n (([]:RR R7),0)) fun l4 =>
gd (lim (l3++([l4]:RR (RR R7))).length) (
some (.inl (v1,(l3++([l4]:RR (RR R7))),QU (v0+1))))) (
some (.inr l3))
def MD(n:Nat)(x1:Nat)(l2:RR (Nat)):RI (RR (RR R7)) :=
ob (
cy (uf n l2) n (QU (1+(QU ((x1%4:Nat):Int))),([]:RR (RR R7)),0)) fun l3 =>
some l3
def JR(n:Nat):(RR (Nat)×Int)->RI ((RR (Nat)×Int) ⊕(RR (Nat))):=fun(l40,v41) =>
br (decide (v41<8)) (
gd (bY v41 8) (
ob (l40[v41.toNat]?) fun x52 =>
some (.inl ((l40.set v41.toNat 18446744073709551615),QU (v41+1))))) (
some (.inr l40))
def M4(n:Nat)(x1:Int):RI R8 :=
ob (
br (decide (x1<0)) (
ob (
cy (JR n) n (([ui .u64 x1,0,0,0,0,0,0,0]:RR (Nat)),1)) fun l49 =>
some l49) (
some ([ui .u64 x1,0,0,0,0,0,0,0]:RR (Nat)))) fun l30 =>
ob (LG l30) fun(x59,x60,x61,x62,x63,x64,x65,x66) =>
some (x59,x60,x61,x62,x63,x64,x65,x66)
def EG(n:Nat):(RR (Nat)×RR (Nat)×Nat×Int)->RI ((RR (Nat)×RR (Nat)×Nat×Int) ⊕(RR (Nat)×Nat)):=fun(l36,l37,v38,v39) =>
br (decide (v39<8)) (
gd (bY v39 8) (
ob (l36[v39.toNat]?) fun x60 =>
gd (bY v39 8) (
ob (l37[v39.toNat]?) fun x63 =>
ob (JJ n x60 x63 v38) fun(r66,r67) =>
gd (bY v39 8) (
some (.inl ((l36.set v39.toNat r66),l37,r67,QU (v39+1))))))) (
some (.inr (l36,v38)))
def Jl(n:Nat)(x1:Nat)(x2:Nat)(x3:Nat)(x4:Nat)(x5:Nat)(x6:Nat)(x7:Nat)(x8:Nat)(x9:Nat)(x10:Nat)(x11:Nat)(x12:Nat)(x13:Nat)(x14:Nat)(x15:Nat)(x16:Nat):RI (Nat×Nat×Nat×Nat×Nat×Nat×Nat×Nat×Nat) :=
ob (
cy (EG n) n (([x1,x2,x3,x4,x5,x6,x7,x8]:RR (Nat)),([x9,x10,x11,x12,x13,x14,x15,x16]:RR (Nat)),0,0)) fun(l56,v57) =>
ob (LG l56) fun(x72,x73,x74,x75,x76,x77,x78,x79) =>
some (x72,x73,x74,x75,x76,x77,x78,x79,v57)
def HX(n:Nat)(x1:Nat)(x2:Nat)(x3:Nat)(x4:Nat)(x5:Nat)(x6:Nat)(x7:Nat)(x8:Nat):RI (Bool×Nat×Nat×Nat×Nat×Nat×Nat×Nat×Nat) :=
ob (
br (decide (dF .u64 x8 63=1)) (
ob (Jl n 0 0 0 0 0 0 0 0 x1 x2 x3 x4 x5 x6 x7 x8) fun(r34,r35,r36,r37,r38,r39,r40,r41,r42) =>
some (decide (dF .u64 x8 63=1),r34,r35,r36,r37,r38,r39,r40,r41)) (
some (decide (dF .u64 x8 63=1),x1,x2,x3,x4,x5,x6,x7,x8))) fun(v23,v24,v25,v26,v27,v28,v29,v30,v31) =>
some (v23,v24,v25,v26,v27,v28,v29,v30,v31)
def m9(n:Nat)(l2:RR (Nat)):Int->RI (Int⊕Int):=fun v9 =>
ob (
br (decide (0<v9)) (
gd (bY (QU (v9-1)) l2.length) (
ob (l2[(QU (v9-1)).toNat]?) fun x71 =>
some (decide (x71=0)))) (
some false)) fun v66 =>
br (v66) (
some (.inl (QU (v9-1)))) (
some (.inr v9))
def mY(n:Nat)(x1:Bool)(l2:RR (Nat)):RI (Bool×RR Nat) :=
ob (
cy (m9 n l2) n (l2.length:Int)) fun v43 =>
br (x1) (
gd (okB 0 v43 l2.length) (
some (decide (0<v43),((l2.drop QV).take ((v43:Int).toNat-QV))))) (
gd (okB 0 v43 l2.length) (
some (false,((l2.drop QV).take ((v43:Int).toNat-QV)))))
def Jo(n:Nat)(x1:Nat)(x2:Nat)(x3:Nat)(x4:Nat)(x5:Nat)(x6:Nat)(x7:Nat)(x8:Nat):RI (Bool×RR Nat) :=
ob (HX n x1 x2 x3 x4 x5 x6 x7 x8) fun(r12,r13,r14,r15,r16,r17,r18,r19,r20) =>
gd (lim (([]:RR (Nat))++[r13,r14,r15,r16,r17,r18,r19,r20]).length) (
ob (mY n r12 (([]:RR (Nat))++[r13,r14,r15,r16,r17,r18,r19,r20])) fun(r26,l27) =>
some (r26,l27))
def Hv(n:Nat)(x1:Int):RI (Bool×RR Nat) :=
ob (M4 n x1) fun(r4,r5,r6,r7,r8,r9,r10,r11) =>
ob (Jo n r4 r5 r6 r7 r8 r9 r10 r11) fun(r13,l14) =>
some (r13,l14)
def zB(n:Nat)(x1:Nat)(x2:Nat)(x3:Nat)(x4:Nat)(x5:Nat)(x6:Nat)(x7:Nat)(x8:Nat)(x9:Nat)(x10:Nat)(x11:Nat)(x12:Nat)(x13:Nat)(x14:Nat)(x15:Nat)(x16:Nat):RI R9 :=
ob (Jo n x1 x2 x3 x4 x5 x6 x7 x8) fun(r20,l21) =>
ob (Jo n x9 x10 x11 x12 x13 x14 x15 x16) fun(r26,l27) =>
some (r20,l21,r26,l27)
def BH(n:Nat)(x1:Bool)(l2:RR (Nat)):RI Int :=
br (x1) (
some (-1)) (
br (decide ((l2.length:Int)=0)) (
some 0) (
some 1))
def EK(n:Nat)(x1:Nat):RI Int :=
ob (
br (decide (4294967296<=x1)) (
some (dF .u64 x1 32,32)) (
some (x1,0))) fun(v3,v4) =>
ob (
br (decide (65536<=v3)) (
some (dF .u64 v3 16,QU (v4+16))) (
some (v3,v4))) fun(v9,v10) =>
ob (
br (decide (256<=v9)) (
some (dF .u64 v9 8,QU (v10+8))) (
some (v9,v10))) fun(v15,v16) =>
gd (bY ((uw .u8 v15:Nat):Int) 256) (
ob (gA[((uw .u8 v15:Nat):Int).toNat]?) fun y22 =>
some (QU (v16+(QU ((y22:Nat):Int)))))
def Ag(n:Nat)(x1:Nat):RI Int :=
ob (EK n x1) fun r3 =>
some (QU (64-r3))
def rU(n:Nat):R8->RI (R8 ⊕(Nat×Nat×Nat×Nat×Nat×Nat×Nat)):=fun(v20,v21,v22,v23,v24,v25,v26,v27) =>
ob (
br (decide (4294967296<=v26)) (
some true) (
some (decide (uw .u64 ((uw .u64 (4294967296*v27))+v24)<uw .u64 (v26*v23))))) fun v63 =>
br (v63) (
br (decide (4294967296<=uw .u64 (v27+v22))) (
some (.inr (v20,v21,v22,v23,v24,v25,gZ .u64 v26 1))) (
some (.inl (v20,v21,v22,v23,v24,v25,gZ .u64 v26 1,uw .u64 (v27+v22))))) (
some (.inr (v20,v21,v22,v23,v24,v25,v26)))
def fQ(n:Nat)(v3:Nat)(v4:Nat)(v2:Nat):(Nat×Nat)->RI ((Nat×Nat)⊕Nat):=fun(v1,v0) =>
ob (
br (decide (4294967296<=v0)) (
some true) (
some (decide (uw .u64 ((uw .u64 (4294967296*v1))+v3)<uw .u64 (v0*v4))))) fun v5 =>
br (v5) (
br (decide (4294967296<=uw .u64 (v1+v2))) (
some (.inr (gZ .u64 v0 1))) (
some (.inl (uw .u64 (v1+v2),gZ .u64 v0 1)))) (
some (.inr v0))
def D8(n:Nat)(x1:Nat)(x2:Nat)(x3:Nat):RI (Nat×Nat) :=
br (decide (x3=0)) (
none) (
br (decide (x3<=x1)) (
none) (
br (decide (x1=0)) (
gd (decide (0<x3)) (
gd (decide (0<x3)) (
some (uw .u64 (x2/x3),x2%x3)))) (
ob (Ag n x3) fun r0 =>
ob (some (uw .u64 (uw .u64 (eY .u64 x1 (ui .u64 r0)) ||| uw .u64 (dF .u64 x2 (gZ .u64 64 (ui .u64 r0)))))) fun y2 =>
gd (decide (0<dF .u64 (eY .u64 x3 (ui .u64 r0)) 32)) (
ob (some (uw .u64 ((uw .u64 (y2/(dF .u64 (eY .u64 x3 (ui .u64 r0)) 32)))*(dF .u64 (eY .u64 x3 (ui .u64 r0)) 32)))) fun y4 =>
ob (
cy (rU n) n (eY .u64 x3 (ui .u64 r0),ui .u64 r0,dF .u64 (eY .u64 x3 (ui .u64 r0)) 32,uw .u64 (uw .u64 (eY .u64 x3 (ui .u64 r0)) &&& uw .u64 4294967295),dF .u64 (eY .u64 x2 (ui .u64 r0)) 32,uw .u64 (uw .u64 (eY .u64 x2 (ui .u64 r0)) &&& uw .u64 4294967295),uw .u64 (y2/(dF .u64 (eY .u64 x3 (ui .u64 r0)) 32)),gZ .u64 y2 y4)) fun(v1,v5,v0,v6,v7,v2,v3) =>
ob (some (gZ .u64 (uw .u64 ((uw .u64 (y2*4294967296))+v7)) (uw .u64 (v3*v1)))) fun y3 =>
gd (decide (0<v0)) (
ob (
cy (fQ n v2 v6 v0) n (gZ .u64 y3 (uw .u64 ((uw .u64 (y3/v0))*v0)),uw .u64 (y3/v0))) fun v4 =>
ob (some (gZ .u64 (uw .u64 ((uw .u64 (y3*4294967296))+v2)) (uw .u64 (v4*v1)))) fun y5 =>
some (uw .u64 ((uw .u64 (v3*4294967296))+v4),dF .u64 y5 v5))))))
def C9(n:Nat)(l1:RR (Nat)):RI Int :=
br (decide ((l1.length:Int)=0)) (
some 0) (
gd (bY (QU ((l1.length:Int)-1)) l1.length) (
ob (l1[(QU ((l1.length:Int)-1)).toNat]?) fun x9 =>
ob (Ag n x9) fun r12 =>
some (QU ((QU (64*(l1.length:Int)))-r12))))
def oF(n:Nat)(l1:RR (Nat))(x3:Int):(RR (Nat)×Nat×Int)->RI ((RR (Nat)×Nat×Int) ⊕(RR (Nat)×Nat)):=fun(l2,n2,v0) =>
br (decide (v0<(l1.length:Int))) (
ob (
gd (bY v0 l1.length) (
ob (l1[v0.toNat]?) fun x4 =>
gd (bY (QU (v0+(QU (Int.tdiv x3 64)))) n2) (
ob (l2[(QU (v0+(QU (Int.tdiv x3 64)))).toNat]?) fun x5 =>
gd (decide (0<=Int.tmod x3 64)) (
ob (some (uw .u64 (uw .u64 x5 ||| uw .u64 (eY .u64 x4 (Int.tmod x3 64).toNat)))) fun y2 =>
gd (bY (QU (v0+(QU (Int.tdiv x3 64)))) n2) (
br (decide (0<Int.tmod x3 64)) (
ob (some (QU ((QU (v0+(QU (Int.tdiv x3 64))))+1))) fun y3 =>
gd (decide (0<=QU (64-(Int.tmod x3 64)))) (
gd (bY y3 n2) (
ob ((l2.set ((QU (v0+(QU (Int.tdiv x3 64)))).toNat) y2)[y3.toNat]?) fun x6 =>
some ((l2.set ((QU (v0+(QU (Int.tdiv x3 64)))).toNat) y2).set y3.toNat (dF .u64 x4 (QU (64-(Int.tmod x3 64))).toNat))))) (
some (l2.set ((QU (v0+(QU (Int.tdiv x3 64)))).toNat) y2))))))) fun l3 =>
some (.inl (l3,n2,QU (v0+1)))) (
some (.inr (l2,n2)))
def GN(n:Nat)(l1:RR (Nat))(x3:Int):RI (RR Nat) :=
ob (some (QU ((l1.length:Int)+(QU (Int.tdiv x3 64))))) fun y2 =>
gd (decide (0<=QU (y2+1))) (gd (lim ((QU (y2+1)).toNat)) (
ob (
cy (oF n l1 x3) n ((List.replicate (QU (y2+1)).toNat (0:Nat)),(QU (y2+1)).toNat,0)) fun(l2,n2) =>
ob (mY n false l2) fun(r0,l3) =>
some l3))
def kT(n:Nat)(l1:RR (Nat))(l5:RR (Nat)):Int->RI (Int⊕Int⊕RS):=fun v11 =>
br (decide (0<=v11)) (
gd (bY v11 l1.length) (
ob (l1[v11.toNat]?) fun x33 =>
gd (bY v11 l5.length) (
ob (l5[v11.toNat]?) fun x38 =>
br (decide (x33<x38)) (
some (.inr (.inl (-1)))) (
gd (bY v11 l1.length) (
gd (bY v11 l5.length) (
br (decide (x38<x33)) (
some (.inr (.inl 1))) (
some (.inl (QU (v11-1)))))))))) (
some (.inr (.inr ())))
def CZ(n:Nat)(l1:RR (Nat))(l5:RR (Nat)):RI Int :=
br (!decide ((l1.length:Int)=(l5.length:Int))) (
some (QU ((l1.length:Int)-(l5.length:Int)))) (
ob (α:=(Int)⊕RS) (
cy (kT n l1 l5) n (QU ((l1.length:Int)-1))) fun r45=>match r45 with
| .inl v28 =>
some v28
| .inr _ =>
some 0)
def px(n:Nat)(l1:RR (Nat))(l5:RR (Nat)):(RR (Nat)×Nat×Int)->RI ((RR (Nat)×Nat×Int) ⊕(RR (Nat))):=fun(l2,v1,v0) =>
br (decide (v0<(l1.length:Int))) (
gd (bY v0 l1.length) (
ob (l1[v0.toNat]?) fun x3 =>
ob (
br (decide (v0<(l5.length:Int))) (
gd (bY v0 l5.length) (
ob (l5[v0.toNat]?) fun x4 =>
some x4)) (
some 0)) fun v2 =>
ob (JJ n x3 v2 v1) fun(r0,r1) =>
gd (bY v0 ((l1.length:Int).toNat)) (
ob (l2[v0.toNat]?) fun x5 =>
some (.inl ((l2.set v0.toNat r0),r1,QU (v0+1)))))) (
some (.inr l2))
def CJ(n:Nat)(l1:RR (Nat))(l5:RR (Nat)):RI (RR Nat) :=
gd (decide (0<=(l1.length:Int))) (gd (lim ((l1.length:Int).toNat)) (
ob (
cy (px n l1 l5) n ((List.replicate (l1.length:Int).toNat (0:Nat)),0,0)) fun l2 =>
some l2))
def oV(n:Nat)(l1:RR (Nat))(l6:RR (Nat)):(RR (Nat)×Nat×Int)->RI ((RR (Nat)×Nat×Int) ⊕(RR (Nat)×Nat)):=fun(l37,v38,v39) =>
br (decide (0<=v39)) (
gd (bY v39 l1.length) (
ob (l1[v39.toNat]?) fun x67 =>
gd (bY 0 l6.length) (
ob (l6[QV]?) fun x72 =>
ob (D8 n v38 x67 x72) fun(r75,r76) =>
gd (bY v39 ((l1.length:Int).toNat)) (
ob (l37[v39.toNat]?) fun x78 =>
some (.inl ((l37.set v39.toNat r75),r76,QU (v39-1))))))) (
some (.inr (l37,v38)))
def jg(n:Nat)(l6:RR (Nat))(l1:RR (Nat)):(RR (Nat)×RR (Nat)×Int)->RI ((RR (Nat)×RR (Nat)×Int) ⊕(RR (Nat)×RR (Nat))):=fun(l2,l3,v0) =>
br (decide (0<=v0)) (
ob (
ob (GN n l6 v0) fun l4 =>
ob (CZ n l3 l4) fun r0 =>
br (decide (0<=r0)) (
ob (CJ n l3 l4) fun l7 =>
ob (mY n false l7) fun(r1,l8) =>
gd (bY (QU (Int.tdiv v0 64)) ((l1.length:Int).toNat)) (
ob (l2[(QU (Int.tdiv v0 64)).toNat]?) fun x3 =>
gd (decide (0<=Int.tmod v0 64)) (
ob (some (uw .u64 (uw .u64 x3 ||| uw .u64 (eY .u64 1 (Int.tmod v0 64).toNat)))) fun y2 =>
gd (bY (QU (Int.tdiv v0 64)) ((l1.length:Int).toNat)) (
some ((l2.set ((QU (Int.tdiv v0 64)).toNat) y2),l8))))) (
some (l2,l3))) fun(l9,l10) =>
some (.inl (l9,l10,QU (v0-1)))) (
some (.inr (l2,l3)))
def xB(n:Nat)(l1:RR (Nat))(l6:RR (Nat)):RI (RR Nat×RR Nat) :=
gd (decide (0<=(l1.length:Int))) (gd (lim ((l1.length:Int).toNat)) (
br (decide ((l6.length:Int)=1)) (
ob (
cy (oV n l1 l6) n ((List.replicate (l1.length:Int).toNat (0:Nat)),0,QU ((l1.length:Int)-1))) fun(l2,v0) =>
ob (mY n false ([v0])) fun(r3,l3) =>
some (l2,l3)) (
ob (C9 n l1) fun r0 =>
ob (C9 n l6) fun r1 =>
ob (
cy (jg n l6 l1) n ((List.replicate (l1.length:Int).toNat (0:Nat)),l1,QU (r0-r1))) fun(l4,l7) =>
some (l4,l7))))
def qM(n:Nat):(RR (Nat)×RR (Nat))->RI ((RR (Nat)×RR (Nat)) ⊕(RR (Nat))):=fun(l26,l29) =>
br (decide (0<(l29.length:Int))) (
ob (xB n l26 l29) fun(l53,l57) =>
some (.inl (l29,l57))) (
some (.inr l26))
def CV(n:Nat)(x1:Bool)(l2:RR (Nat))(x7:Bool)(l8:RR (Nat)):RI (Bool×RR Nat) :=
ob (
cy (qM n) n (l2,l8)) fun l48 =>
some (false,l48)
def xx(n:Nat)(x1:Bool)(l2:RR (Nat)):RI (Bool×RR Nat) :=
ob (mY n (!x1) l2) fun(r10,l11) =>
some (r10,l11)
def nf(n:Nat)(l2:RR (Nat))(l3:RR (Nat)):(RR (Nat)×Nat×Nat×Int)->RI ((RR (Nat)×Nat×Nat×Int) ⊕(RR (Nat)×Nat×Nat)):=fun(l4,n2,v1,v0) =>
br (decide (v0<(l2.length:Int))) (
gd (bY v0 l2.length) (
ob (l2[v0.toNat]?) fun x3 =>
ob (
br (decide (v0<(l3.length:Int))) (
gd (bY v0 l3.length) (
ob (l3[v0.toNat]?) fun x4 =>
some x4)) (
some 0)) fun v2 =>
ob (DO n x3 v2 v1) fun(r0,r1) =>
gd (bY v0 n2) (
ob (l4[v0.toNat]?) fun x5 =>
some (.inl ((l4.set v0.toNat r0),n2,r1,QU (v0+1)))))) (
some (.inr (l4,n2,v1)))
def E6(n:Nat)(l1:RR (Nat))(l5:RR (Nat)):RI (RR Nat) :=
ob (
br (decide ((l1.length:Int)<(l5.length:Int))) (
some (l5,l1)) (
some (l1,l5))) fun(l2,l4) =>
gd (decide (0<=QU ((l2.length:Int)+1))) (gd (lim ((QU ((l2.length:Int)+1)).toNat)) (
ob (
cy (nf n l2 l4) n ((List.replicate (QU ((l2.length:Int)+1)).toNat (0:Nat)),(QU ((l2.length:Int)+1)).toNat,0,0)) fun(l3,n2,v0) =>
gd (bY (l2.length:Int) n2) (
ob (l3[(l2.length:Int).toNat]?) fun x3 =>
some (l3.set ((l2.length:Int).toNat) v0))))
def vA(n:Nat)(x1:Bool)(l2:RR (Nat))(x7:Bool)(l8:RR (Nat)):RI (Bool×RR Nat) :=
br ((x1==x7)) (
ob (E6 n l2 l8) fun l18 =>
ob (mY n x1 l18) fun(r22,l23) =>
some (r22,l23)) (
ob (
ob (CZ n l2 l8) fun r39 =>
br (decide (r39<0)) (
some (x7,l8,x1,l2)) (
some (x1,l2,x7,l8))) fun(v30,l31,v34,l35) =>
ob (CJ n l31 l35) fun l44 =>
ob (mY n v30 l44) fun(r48,l49) =>
some (r48,l49))
def EF(n:Nat)(x1:Bool)(l2:RR (Nat))(x7:Bool)(l8:RR (Nat)):RI (Bool×RR Nat) :=
ob (xx n x7 l8) fun(r17,l18) =>
ob (vA n x1 l2 r17 l18) fun(r23,l24) =>
some (r23,l24)
def Dz(n:Nat)(x1:Bool)(l2:RR (Nat))(x6:Bool)(l7:RR (Nat)):RI Int :=
ob (EF n x1 l2 x6 l7) fun(r14,l15) =>
ob (BH n r14 l15) fun r20 =>
some r20
def Ay(n:Nat)(x1:Nat)(x2:Nat)(x3:Nat)(x4:Nat)(x5:Nat)(x6:Nat)(x7:Nat)(x8:Nat)(x9:Nat)(x10:Nat)(x11:Nat)(x12:Nat)(x13:Nat)(x14:Nat)(x15:Nat)(x16:Nat):RI Int :=
ob (Hv n 1) fun(r19,l20) =>
ob (zB n x1 x2 x3 x4 x5 x6 x7 x8 x9 x10 x11 x12 x13 x14 x15 x16) fun(r26,l27,r31,l32) =>
ob (
ob (BH n r31 l32) fun r76 =>
br (decide (r76<=0)) (
some true) (
ob (CV n r26 l27 r31 l32) fun(r79,l80) =>
ob (Dz n r79 l80 r19 l20) fun r85 =>
some (!decide (r85=0)))) fun v74 =>
br (v74) (
some 20) (
some 0)
def EX(n:Nat)(x1:Nat)(x2:Nat)(x3:Nat)(x4:Nat)(x5:Nat)(x6:Nat)(x7:Nat)(x8:Nat)(x9:Nat)(x10:Nat)(x11:Nat)(x12:Nat)(x13:Nat)(x14:Nat)(x15:Nat)(x16:Nat):RI Bool :=
ob (Ay n x1 x2 x3 x4 x5 x6 x7 x8 x9 x10 x11 x12 x13 x14 x15 x16) fun r19 =>
br (!decide (r19=0)) (
some true) (
ob (zB n x1 x2 x3 x4 x5 x6 x7 x8 x9 x10 x11 x12 x13 x14 x15 x16) fun(r22,l23,r27,l28) =>
ob (BH n r22 l23) fun r33 =>
some (decide (r33<0)))
def AJ(n:Nat)(x1:Bool)(l2:RR (Nat)):RI R9 :=
ob (Hv n 1) fun(r10,l11) =>
some (x1,l2,r10,l11)
def qd(n:Nat)(x1:Int):RI R9 :=
ob (Hv n x1) fun(r4,l5) =>
ob (AJ n r4 l5) fun(r10,l11,r15,l16) =>
some (r10,l11,r15,l16)
def GI(n:Nat)(x1:Nat)(x2:Nat):RI (Nat×Nat) :=
ob (some (uw .u64 ((uw .u64 (uw .u64 x1 &&& uw .u64 4294967295))*(uw .u64 (uw .u64 x2 &&& uw .u64 4294967295))))) fun y3 =>
ob (some (uw .u64 ((dF .u64 x1 32)*(uw .u64 (uw .u64 x2 &&& uw .u64 4294967295))))) fun y5 =>
ob (some (uw .u64 (uw .u64 (uw .u64 (y5+(dF .u64 y3 32))) &&& uw .u64 4294967295))) fun y7 =>
ob (some (uw .u64 ((uw .u64 (uw .u64 x1 &&& uw .u64 4294967295))*(dF .u64 x2 32)))) fun y9 =>
ob (some (uw .u64 ((uw .u64 ((dF .u64 x1 32)*(dF .u64 x2 32)))+(dF .u64 (uw .u64 (y5+(dF .u64 y3 32))) 32)))) fun y11 =>
some (uw .u64 (y11+(dF .u64 (uw .u64 (y7+y9)) 32)),uw .u64 (x1*x2))
def oO(n:Nat)(l5:RR (Nat))(x3:Nat)(v1:Int)(n2:Nat):(RR (Nat)×Nat×Int)->RI ((RR (Nat)×Nat×Int) ⊕(RR (Nat)×Nat)):=fun(l2,v2,v0) =>
br (decide (v0<(l5.length:Int))) (
gd (bY v0 l5.length) (
ob (l5[v0.toNat]?) fun x4 =>
ob (GI n x3 x4) fun(r0,r1) =>
gd (bY (QU (v1+v0)) n2) (
ob (l2[(QU (v1+v0)).toNat]?) fun x5 =>
ob (DO n x5 r1 0) fun(r3,r4) =>
ob (DO n r3 v2 0) fun(r5,r6) =>
gd (bY (QU (v1+v0)) n2) (
some (.inl ((l2.set ((QU (v1+v0)).toNat) r5),uw .u64 ((uw .u64 (r0+r4))+r6),QU (v0+1))))))) (
some (.inr (l2,v2)))
def pF(n:Nat)(l1:RR (Nat))(l5:RR (Nat)):(RR (Nat)×Nat×Int)->RI ((RR (Nat)×Nat×Int) ⊕(RR (Nat)×Nat)):=fun(l2,n2,v0) =>
br (decide (v0<(l1.length:Int))) (
gd (bY v0 l1.length) (
ob (l1[v0.toNat]?) fun x3 =>
ob (
cy (oO n l5 x3 v0 n2) n (l2,0,0)) fun(l3,v1) =>
gd (bY (QU (v0+(l5.length:Int))) n2) (
ob (l3[(QU (v0+(l5.length:Int))).toNat]?) fun x4 =>
some (.inl ((l3.set ((QU (v0+(l5.length:Int))).toNat) v1),n2,QU (v0+1)))))) (
some (.inr (l2,n2)))
def EJ(n:Nat)(l1:RR (Nat))(l5:RR (Nat)):RI (RR Nat) :=
gd (decide (0<=QU ((l1.length:Int)+(l5.length:Int)))) (gd (lim ((QU ((l1.length:Int)+(l5.length:Int))).toNat)) (
ob (
cy (pF n l1 l5) n ((List.replicate (QU ((l1.length:Int)+(l5.length:Int))).toNat (0:Nat)),(QU ((l1.length:Int)+(l5.length:Int))).toNat,0)) fun(l2,n2) =>
some l2))
def Cw(n:Nat)(x1:Bool)(l2:RR (Nat))(x7:Bool)(l8:RR (Nat)):RI (Bool×RR Nat) :=
ob (EJ n l2 l8) fun l17 =>
ob (mY n (!(x1==x7)) l17) fun(r21,l22) =>
some (r21,l22)
def Dl(n:Nat)(x1:Bool)(l2:RR (Nat))(x7:Bool)(l8:RR (Nat)):RI R9 :=
ob (xB n l2 l8) fun(l18,l22) =>
ob (mY n (!(x1==x7)) l18) fun(r27,l28) =>
ob (mY n x1 l22) fun(r33,l34) =>
ob (
br (r33) (
ob (vA n r33 l34 false l8) fun(r65,l66) =>
ob (vA n r27 l28 (!x7) ([1])) fun(r73,l74) =>
some (r73,l74,r65,l66)) (
some (r27,l28,r33,l34))) fun(v54,l55,v58,l59) =>
some (v54,l55,v58,l59)
def zN(n:Nat)(x1:Bool)(l2:RR (Nat))(x7:Bool)(l8:RR (Nat)):RI R9 :=
ob (CV n x1 l2 x7 l8) fun(r17,l18) =>
ob (Dl n x1 l2 r17 l18) fun(r24,l25,r29,l30) =>
ob (Dl n x7 l8 r17 l18) fun(r37,l38,r42,l43) =>
ob (
br (r37) (
ob (xx n r24 l25) fun(r72,l73) =>
ob (xx n r37 l38) fun(r78,l79) =>
some (r72,l73,r78,l79)) (
some (r24,l25,r37,l38))) fun(v62,l63,v66,l67) =>
some (v62,l63,v66,l67)
def wA(n:Nat)(x1:Bool)(l2:RR (Nat))(x7:Bool)(l8:RR (Nat))(x13:Bool)(l14:RR (Nat))(x19:Bool)(l20:RR (Nat)):RI R9 :=
ob (Cw n x1 l2 x19 l20) fun(r29,l30) =>
ob (Cw n x13 l14 x7 l8) fun(r35,l36) =>
ob (vA n r29 l30 r35 l36) fun(r41,l42) =>
ob (Cw n x7 l8 x19 l20) fun(r47,l48) =>
ob (zN n r41 l42 r47 l48) fun(r53,l54,r58,l59) =>
some (r53,l54,r58,l59)
def xb(n:Nat)(x1:Bool)(l2:RR (Nat))(x6:Bool)(l7:RR (Nat))(x11:Bool)(l12:RR (Nat))(x16:Bool)(l17:RR (Nat)):RI Int :=
ob (Cw n x1 l2 x16 l17) fun(r24,l25) =>
ob (Cw n x11 l12 x6 l7) fun(r30,l31) =>
ob (Dz n r24 l25 r30 l31) fun r36 =>
some r36
def sC(n:Nat)(l1:RR R7):Int->RI (Int⊕Int⊕RS):=fun v0 =>
br (decide (v0<(l1.length:Int))) (
gd (bY v0 l1.length) (
ob (l1[v0.toNat]?) fun(x3,x4,x5,x6,x7,x8,x9,x10,x11,x12,x13,x14,x15,x16,x17,x18) =>
ob (EX n x3 x4 x5 x6 x7 x8 x9 x10 x11 x12 x13 x14 x15 x16 x17 x18) fun r0 =>
br (r0) (
some (.inr (.inl v0))) (
some (.inl (QU (v0+1)))))) (
some (.inr (.inr ())))
def oG(n:Nat)(l1:RR R7):(Bool×RR (Nat)×Bool×RR (Nat)×Int)->RI ((Bool×RR (Nat)×Bool×RR (Nat)×Int) ⊕(Bool×RR (Nat)×Bool×RR (Nat))):=fun(v1,l2,v2,l3,v0) =>
br (decide (v0<(l1.length:Int))) (
gd (bY v0 l1.length) (
ob (l1[v0.toNat]?) fun(x3,x4,x5,x6,x7,x8,x9,x10,x11,x12,x13,x14,x15,x16,x17,x18) =>
ob (zB n x3 x4 x5 x6 x7 x8 x9 x10 x11 x12 x13 x14 x15 x16 x17 x18) fun(r0,l4,r1,l7) =>
ob (wA n v1 l2 v2 l3 r0 l4 r1 l7) fun(r3,l8,r4,l9) =>
some (.inl (r3,l8,r4,l9,QU (v0+1))))) (
some (.inr (v1,l2,v2,l3)))
def CO(n:Nat)(l1:RR R7):RI Bool :=
ob (
ob (α:=Int) (
ob (α:=(Int)⊕RS) (
cy (sC n l1) n 0) fun r0=>match r0 with
| .inl v0 =>
some v0
| .inr _ =>
some (-1)) fun v1 =>
some (decide (0<=v1))) fun v2 =>
br (v2) (
some false) (
ob (
ob (qd n 0) fun(r1,l2,r3,l3) =>
ob (
cy (oG n l1) n (r1,l2,r3,l3,0)) fun(v3,l4,v4,l7) =>
some (v3,l4,v4,l7)) fun(v5,l8,v6,l9) =>
ob (qd n 1) fun(r4,l10,r5,l11) =>
ob (xb n v5 l8 v6 l9 r4 l10 r5 l11) fun r6 =>
some (decide (r6=0)))
def xo(n:Nat)(l1:RR (RR R7)):Int->RI (Int⊕RS⊕RS):=fun v21 =>
br (decide (v21<(l1.length:Int))) (
gd (bY v21 l1.length) (
ob (l1[v21.toNat]?) fun l79 =>
ob (
br (!decide ((l79.length:Int)=(l1.length:Int))) (
some true) (
ob (CO n l79) fun r89 =>
some (!r89))) fun v86 =>
br (v86) (
some (.inr (.inl ()))) (
some (.inl (QU (v21+1)))))) (
some (.inr (.inr ())))
def HV(n:Nat)(l1:RR (RR R7)):RI Int :=
ob (
br (decide ((l1.length:Int)<1)) (
some true) (
some (decide (60<(l1.length:Int))))) fun v15 =>
br (v15) (
some 330) (
ob (α:=(RS)⊕RS) (
cy (xo n l1) n 0) fun r94=>match r94 with
| .inl _ =>
some 330
| .inr _ =>
some 0)
def GB(n:Nat):(RR (Nat)×RR (Nat)×Int)->RI ((RR (Nat)×RR (Nat)×Int)⊕Int⊕RS):=fun(l32,l33,v34) =>
br (decide (0<=v34)) (
gd (bY v34 8) (
ob (l32[v34.toNat]?) fun x52 =>
gd (bY v34 8) (
ob (l33[v34.toNat]?) fun x55 =>
br (!decide (x52=x55)) (
gd (bY v34 8) (
gd (bY v34 8) (
br (decide (x52<x55)) (
some (.inr (.inl (-1)))) (
some (.inr (.inl 1)))))) (
some (.inl (l32,l33,QU (v34-1))))))) (
some (.inr (.inr ())))
def C3(n:Nat)(x1:Nat)(x2:Nat)(x3:Nat)(x4:Nat)(x5:Nat)(x6:Nat)(x7:Nat)(x8:Nat)(x9:Nat)(x10:Nat)(x11:Nat)(x12:Nat)(x13:Nat)(x14:Nat)(x15:Nat)(x16:Nat):RI Int :=
ob (α:=(Int)⊕RS) (
cy (GB n) n (([x1,x2,x3,x4,x5,x6,x7,x8]:RR (Nat)),([x9,x10,x11,x12,x13,x14,x15,x16]:RR (Nat)),7)) fun r62=>match r62 with
| .inl v49 =>
some v49
| .inr _ =>
some 0
def G4(n:Nat)(x1:Bool)(x2:Nat)(x3:Nat)(x4:Nat)(x5:Nat)(x6:Nat)(x7:Nat)(x8:Nat)(x9:Nat):RI (Nat×Nat×Nat×Nat×Nat×Nat×Nat×Nat×Int) :=
ob (C3 n x2 x3 x4 x5 x6 x7 x8 x9 0 0 0 0 0 0 0 9223372036854775808) fun r24 =>
ob (
br (decide (0<r24)) (
some true) (
br (decide (r24=0)) (
some (!x1)) (
some false))) fun v27 =>
br (v27) (
some (0,0,0,0,0,0,0,0,6)) (
ob (
br (x1) (
ob (Jl n 0 0 0 0 0 0 0 0 x2 x3 x4 x5 x6 x7 x8 x9) fun(r54,r55,r56,r57,r58,r59,r60,r61,r62) =>
some (r54,r55,r56,r57,r58,r59,r60,r61)) (
some (x2,x3,x4,x5,x6,x7,x8,x9))) fun(v44,v45,v46,v47,v48,v49,v50,v51) =>
some (v44,v45,v46,v47,v48,v49,v50,v51,0))
def LZ(n:Nat)(x1:Bool)(l2:RR (Nat)):RI (Nat×Nat×Nat×Nat×Nat×Nat×Nat×Nat×Int) :=
br (decide (8<(l2.length:Int))) (
some (0,0,0,0,0,0,0,0,6)) (
gd (decide ((l2:RR (Nat)).length<=8)) (
ob (LG ((l2:RR (Nat))++([0,0,0,0,0,0,0,0]:RR (Nat)).drop (l2:RR (Nat)).length)) fun(x12,x13,x14,x15,x16,x17,x18,x19) =>
ob (G4 n x1 x12 x13 x14 x15 x16 x17 x18 x19) fun(r21,r22,r23,r24,r25,r26,r27,r28,r29) =>
some (r21,r22,r23,r24,r25,r26,r27,r28,r29)))
def Eb(n:Nat)(x1:Bool)(l2:RR (Nat))(x6:Bool)(l7:RR (Nat)):RI (Nat×Nat×Nat×Nat×Nat×Nat×Nat×Nat×Nat×Nat×Nat×Nat×Nat×Nat×Nat×Nat×Int) :=
ob (LZ n x1 l2) fun(r14,r15,r16,r17,r18,r19,r20,r21,r22) =>
ob (LZ n x6 l7) fun(r25,r26,r27,r28,r29,r30,r31,r32,r33) =>
ob (
br (!decide (r22=0)) (
some true) (
some (!decide (r33=0)))) fun v42 =>
br (v42) (
some (0,0,0,0,0,0,0,0,0,0,0,0,0,0,0,0,6)) (
some (r14,r15,r16,r17,r18,r19,r20,r21,r25,r26,r27,r28,r29,r30,r31,r32,0))
def EV(n:Nat)(x1:Int):RI R8 :=
ob (HW n x1) fun(r4,l5) =>
ob (Nd n r4 l5) fun(r10,r11,r12,r13,r14,r15,r16,r17,r18) =>
some (r10,r11,r12,r13,r14,r15,r16,r17)
def ux(n:Nat)(x3:Int)(l2:RR (Nat)):(RR R8×Int)->RI ((RR R8×Int) ⊕(RR R8)):=fun(l3,v0) =>
br (decide (v0<x3)) (
ob (
br (decide (v0<(l2.length:Int))) (
gd (bY v0 l2.length) (
ob (l2[v0.toNat]?) fun x4 =>
some (QU (1+(QU ((x4%9:Nat):Int)))))) (
some 1)) fun v1 =>
ob (EV n v1) fun(r0,r1,r3,r4,r5,r6,r7,r8) =>
gd (lim (l3++[(r0,r1,r3,r4,r5,r6,r7,r8)]).length) (
some (.inl ((l3++[(r0,r1,r3,r4,r5,r6,r7,r8)]),QU (v0+1))))) (
some (.inr l3))
def MU(n:Nat)(x1:Nat)(l2:RR (Nat))(x3:Int):RI (RR R8) :=
ob (
cy (ux n x3 l2) n (([]:RR R8),0)) fun l3 =>
some l3
def C7(n:Nat)(x1:Nat)(x2:Nat)(x3:Nat)(x4:Nat)(x5:Nat)(x6:Nat)(x7:Nat)(x8:Nat)(x9:Nat)(x10:Nat)(x11:Nat)(x12:Nat)(x13:Nat)(x14:Nat)(x15:Nat)(x16:Nat):RI Int :=
ob (C3 n x1 x2 x3 x4 x5 x6 x7 (uw .u64 (uw .u64 x8 ^^^ uw .u64 9223372036854775808)) x9 x10 x11 x12 x13 x14 x15 (uw .u64 (uw .u64 x16 ^^^ uw .u64 9223372036854775808))) fun r20 =>
some r20
def sq(n:Nat)(l1:RR R8)(x3:Int):Int->RI (Int⊕Int⊕RS):=fun v0 =>
br (decide (v0<(l1.length:Int))) (
gd (bY v0 l1.length) (
ob (l1[v0.toNat]?) fun(x4,x5,x6,x7,x8,x9,x10,x11) =>
ob (
ob (M4 n x3) fun(r0,r1,r3,r4,r5,r6,r7,r8) =>
ob (C7 n x4 x5 x6 x7 x8 x9 x10 x11 r0 r1 r3 r4 r5 r6 r7 r8) fun r9 =>
some (decide (r9<0))) fun v1 =>
br (v1) (
some (.inr (.inl v0))) (
some (.inl (QU (v0+1)))))) (
some (.inr (.inr ())))
def zY(n:Nat)(l1:RR R8)(x3:Int):RI Bool :=
ob (
ob (α:=Int) (
ob (α:=(Int)⊕RS) (
cy (sq n l1 x3) n 0) fun r0=>match r0 with
| .inl v0 =>
some v0
| .inr _ =>
some (-1)) fun v1 =>
some (decide (0<=v1))) fun v2 =>
some v2
def po(n:Nat)(l1:RR R8):(RR (R9)×Int)->RI ((RR (R9)×Int) ⊕(RR R9)):=fun(l2,v0) =>
br (decide (v0<(l1.length:Int))) (
gd (bY v0 l1.length) (
ob (l1[v0.toNat]?) fun(x3,x4,x5,x6,x7,x8,x9,x10) =>
ob (Jo n x3 x4 x5 x6 x7 x8 x9 x10) fun(r3,l7) =>
ob (AJ n r3 l7) fun(r0,l3,r1,l4) =>
gd (lim (l2++([(r0,l3,r1,l4)]:RR R9)).length) (
some (.inl ((l2++([(r0,l3,r1,l4)]:RR R9)),QU (v0+1)))))) (
some (.inr l2))
def Af(n:Nat)(l1:RR R8):RI (RR R9) :=
ob (
cy (po n l1) n (([]:RR R9),0)) fun l93 =>
some l93
def zb(n:Nat)(x1:Bool)(l2:RR (Nat))(x7:Bool)(l8:RR (Nat))(x13:Bool)(l14:RR (Nat))(x19:Bool)(l20:RR (Nat)):RI R9 :=
ob (Cw n x1 l2 x13 l14) fun(r29,l30) =>
ob (Cw n x7 l8 x19 l20) fun(r35,l36) =>
ob (zN n r29 l30 r35 l36) fun(r41,l42,r46,l47) =>
some (r41,l42,r46,l47)
def CP(n:Nat)(x1:Bool)(l2:RR (Nat))(x7:Bool)(l8:RR (Nat))(x13:Bool)(l14:RR (Nat))(x19:Bool)(l20:RR (Nat)):RI R9 :=
ob (Cw n x1 l2 x19 l20) fun(r29,l30) =>
ob (Cw n x7 l8 x13 l14) fun(r35,l36) =>
ob (zN n r29 l30 r35 l36) fun(r41,l42,r46,l47) =>
some (r41,l42,r46,l47)
def I5(n:Nat)(x1:Bool)(l2:RR (Nat))(x7:Bool)(l8:RR (Nat)):RI R9 :=
ob (xx n x1 l2) fun(r16,l17) =>
some (r16,l17,x7,l8)
def Dn(n:Nat)(x1:Bool)(l2:RR (Nat))(x7:Bool)(l8:RR (Nat))(x13:Bool)(l14:RR (Nat))(x19:Bool)(l20:RR (Nat)):RI R9 :=
ob (I5 n x13 l14 x19 l20) fun(r29,l30,r34,l35) =>
ob (wA n x1 l2 x7 l8 r29 l30 r34 l35) fun(r40,l41,r45,l46) =>
some (r40,l41,r45,l46)
def oJ(n:Nat)(l1:RR R9):(RR R7×Int)->RI ((RR R7×Int) ⊕(Int ⊕(RR R7))):=fun(l2,v0) =>
br (decide (v0<(l1.length:Int))) (
gd (bY v0 l1.length) (
ob (l1[v0.toNat]?) fun(x3,l3,x4,l4) =>
ob (Eb n x3 l3 x4 l4) fun(r0,r1,r3,r4,r5,r6,r7,r8,r9,r10,r11,r12,r13,r14,r15,r16,r17) =>
br (!decide (r17=0)) (
some (.inr (.inl r17))) (
gd (lim (l2++[(r0,r1,r3,r4,r5,r6,r7,r8,r9,r10,r11,r12,r13,r14,r15,r16)]).length) (
some (.inl ((l2++[(r0,r1,r3,r4,r5,r6,r7,r8,r9,r10,r11,r12,r13,r14,r15,r16)]),QU (v0+1))))))) (
some (.inr (.inr l2)))
def yL(n:Nat)(l1:RR R9):RI (RR R7×Int) :=
ob (α:=(Int) ⊕(RR R7)) (
cy (oJ n l1) n (([]:RR R7),0)) fun r0=>match r0 with
| .inl v0 =>
some ([],v0)
| .inr l2 =>
some (l2,0)
def um(n:Nat)(l1:RR (RR R7))(v1:Int)(l3:RR R9):(RR (R9)×Bool×RR (Nat)×Bool×RR (Nat)×Int)->RI ((RR (R9)×Bool×RR (Nat)×Bool×RR (Nat)×Int) ⊕(RR (R9)×Bool×RR (Nat)×Bool×RR (Nat))):=fun(l2,v2,l8,v3,l9,v0) =>
br (decide (v0<(l1.length:Int))) (
ob (
gd (bY v1 l1.length) (
ob (l1[v1.toNat]?) fun l11 =>
gd (bY v0 l11.length) (
ob (l11[v0.toNat]?) fun(x3,x4,x5,x6,x7,x8,x9,x10,x11,x12,x13,x14,x15,x16,x17,x18) =>
ob (zB n x3 x4 x5 x6 x7 x8 x9 x10 x11 x12 x13 x14 x15 x16 x17 x18) fun(r0,l4,r1,l7) =>
gd (bY v0 l1.length) (
ob (l1[v0.toNat]?) fun l12 =>
gd (bY v1 l12.length) (
ob (l12[v1.toNat]?) fun(x19,x20,x21,x22,x23,x24,x25,x26,x27,x28,x29,x30,x31,x32,x33,x34) =>
ob (zB n x19 x20 x21 x22 x23 x24 x25 x26 x27 x28 x29 x30 x31 x32 x33 x34) fun(r5,l15,r6,l16) =>
gd (bY v0 ((l1.length:Int).toNat)) (
ob (l2[v0.toNat]?) fun(x41,l30,x42,l31) =>
ob (
gd (bY v0 l3.length) (
ob (l3[v0.toNat]?) fun(x35,l17,x36,l18) =>
ob (zb n r5 l15 r6 l16 x35 l17 x36 l18) fun(r7,l19,r8,l20) =>
gd (bY v1 l3.length) (
ob (l3[v1.toNat]?) fun(x37,l21,x38,l22) =>
ob (CP n r7 l19 r8 l20 x37 l21 x38 l22) fun(r3,l13,r4,l14) =>
ob (xb n r3 l13 r4 l14 r0 l4 r1 l7) fun r9 =>
br (decide (r9<0)) (
gd (bY v0 ((l1.length:Int).toNat)) (
ob ((l2.set v0.toNat (r0,l4,r1,l7))[v0.toNat]?) fun(x43,l32,x44,l33) =>
some ((l2.set v0.toNat (r0,l4,r1,l7)).set v0.toNat (r3,l13,r4,l14)))) (
some (l2.set v0.toNat (r0,l4,r1,l7)))))) fun l10 =>
br (!decide (v1=v0)) (
gd (bY v0 ((l1.length:Int).toNat)) (
ob (l10[v0.toNat]?) fun(x39,l23,x40,l24) =>
ob (Dn n v2 l8 v3 l9 x39 l23 x40 l24) fun(r10,l25,r11,l26) =>
some (l10,r10,l25,r11,l26))) (
some (l10,v2,l8,v3,l9)))))))) fun(l27,v4,l28,v5,l29) =>
some (.inl (l27,v4,l28,v5,l29,QU (v0+1)))) (
some (.inr (l2,v2,l8,v3,l9)))
def tM(n:Nat)(l1:RR (RR R7))(l7:RR R9):(RR (RR R7)×Int)->RI ((RR (RR R7)×Int) ⊕(Int ⊕(RR (RR R7)))):=fun(l2,v0) =>
br (decide (v0<(l1.length:Int))) (
gd (decide (0<=(l1.length:Int))) (gd (lim ((l1.length:Int).toNat)) (
ob (qd n 1) fun(r1,l8,r3,l9) =>
ob (
cy (um n l1 v0 l7) n ((List.replicate (l1.length:Int).toNat ((false,[],false,[]):R9)),r1,l8,r3,l9,0)) fun(l3,v1,l10,v2,l11) =>
gd (bY v0 ((l1.length:Int).toNat)) (
ob (l3[v0.toNat]?) fun(x3,l12,x4,l13) =>
ob (yL n (l3.set v0.toNat (v1,l10,v2,l11))) fun(l4,r0) =>
br (!decide (r0=0)) (
some (.inr (.inl r0))) (
gd (lim (l2++([l4]:RR (RR R7))).length) (
some (.inl ((l2++([l4]:RR (RR R7))),QU (v0+1))))))))) (
some (.inr (.inr l2)))
def L2(n:Nat)(l1:RR (RR R7))(l2:RR R8):RI (RR (RR R7)×Int) :=
ob (HV n l1) fun r0 =>
br (!decide (r0=0)) (
some ([],r0)) (
ob (
br (!decide ((l2.length:Int)=(l1.length:Int))) (
some true) (
ob (zY n l2 1) fun r1 =>
some r1)) fun v0 =>
br (v0) (
some ([],2)) (
ob (Af n l2) fun l3 =>
ob (α:=(Int) ⊕(RR (RR R7))) (
cy (tM n l1 l3) n (([]:RR (RR R7)),0)) fun r3=>match r3 with
| .inl v1 =>
some ([],v1)
| .inr l4 =>
some (l4,0)))
def Gm(n:Nat):(RR (Nat)×RR (Int)×Int)->RI ((RR (Nat)×RR (Int)×Int) ⊕(RR (Int))):=fun(l20,l21,v23) =>
br (decide (v23<8)) (
gd (bY v23 8) (
ob (l20[v23.toNat]?) fun x40 =>
gd (bY v23 8) (
gd (lim (l21++[QU ((x40%4294967296:Nat):Int),QU ((uw .u64 (x40/4294967296):Nat):Int)]).length) (
some (.inl (l20,(l21++[QU ((x40%4294967296:Nat):Int),QU ((uw .u64 (x40/4294967296):Nat):Int)]),QU (v23+1))))))) (
some (.inr l21))
def E9(n:Nat)(x1:Nat)(x2:Nat)(x3:Nat)(x4:Nat)(x5:Nat)(x6:Nat)(x7:Nat)(x8:Nat):RI (RR Int) :=
ob (
cy (Gm n) n (([x1,x2,x3,x4,x5,x6,x7,x8]:RR (Nat)),([]:RR (Int)),0)) fun l36 =>
some l36
def JU(n:Nat)(x1:Nat)(x2:Nat)(x3:Nat)(x4:Nat)(x5:Nat)(x6:Nat)(x7:Nat)(x8:Nat):RI (Bool×RR Int) :=
ob (E9 n x1 x2 x3 x4 x5 x6 x7 x8) fun l12 =>
br (decide (x8<9223372036854775808)) (
ob (nw n false l12) fun(r17,l18) =>
some (r17,l18)) (
gd (decide ((0:Int)<=17)) (gd (lim ((17:Int).toNat)) (
gd (bY 16 ((17:Int).toNat)) (
ob ((List.replicate (17:Int).toNat (0:Int))[(16:Int).toNat]?) fun x26 =>
ob (oH n l12) fun l30 =>
ob (sZ n ((List.replicate (17:Int).toNat (0:Int)).set ((16:Int).toNat) 1) l30) fun l35 =>
ob (nw n true l35) fun(r40,l41) =>
some (r40,l41)))))
def Lw(n:Nat)(x1:Bool)(l2:RR (Int)):RI Bool :=
br (decide ((l2.length:Int)=1)) (
gd (bY 0 l2.length) (
ob (l2[QV]?) fun x11 =>
br (decide (x11=1)) (
some (!x1)) (
some false))) (
some false)
def F2(n:Nat)(x1:Nat)(x2:Nat)(x3:Nat)(x4:Nat)(x5:Nat)(x6:Nat)(x7:Nat)(x8:Nat)(x9:Nat)(x10:Nat)(x11:Nat)(x12:Nat)(x13:Nat)(x14:Nat)(x15:Nat)(x16:Nat):RI Bool :=
ob (JU n x1 x2 x3 x4 x5 x6 x7 x8) fun(r19,l20) =>
ob (JU n x9 x10 x11 x12 x13 x14 x15 x16) fun(r25,l26) =>
br (!r25) (
br (decide (0<(l26.length:Int))) (
ob (Di n r19 l20 r25 l26) fun(r35,l36) =>
ob (Lw n r35 l36) fun r41 =>
some r41) (
some false)) (
some false)
def qT(n:Nat)(l1:RR R7):Int->RI (Int⊕RS⊕RS):=fun v6 =>
br (decide (v6<(l1.length:Int))) (
gd (bY v6 l1.length) (
ob (l1[v6.toNat]?) fun(x36,x37,x38,x39,x40,x41,x42,x43,x44,x45,x46,x47,x48,x49,x50,x51) =>
ob (F2 n x36 x37 x38 x39 x40 x41 x42 x43 x44 x45 x46 x47 x48 x49 x50 x51) fun r54 =>
br (!r54) (
some (.inr (.inl ()))) (
some (.inl (QU (v6+1)))))) (
some (.inr (.inr ())))
def GJ(n:Nat)(l1:RR R7):RI Bool :=
ob (α:=(RS)⊕RS) (
cy (qT n l1) n 0) fun r57=>match r57 with
| .inl _ =>
some false
| .inr _ =>
some true
def II(n:Nat):RI (Bool×RR Int×Bool×RR Int) :=
ob (yW n 0 1) fun(r3,l4,r8,l9) =>
some (r3,l4,r8,l9)
def HI(n:Nat)(x1:Nat)(x2:Nat)(x3:Nat)(x4:Nat)(x5:Nat)(x6:Nat)(x7:Nat)(x8:Nat)(x9:Nat)(x10:Nat)(x11:Nat)(x12:Nat)(x13:Nat)(x14:Nat)(x15:Nat)(x16:Nat):RI (Bool×RR Int×Bool×RR Int) :=
ob (JU n x1 x2 x3 x4 x5 x6 x7 x8) fun(r20,l21) =>
ob (JU n x9 x10 x11 x12 x13 x14 x15 x16) fun(r26,l27) =>
some (r20,l21,r26,l27)
def o9(n:Nat)(l6:RR (Int))(v1:Int)(n2:Nat)(l1:RR (Int)):(RR (Int)×Nat×Int)->RI ((RR (Int)×Nat×Int) ⊕(RR (Int)×Nat)):=fun(l2,v2,v0) =>
br (decide (v0<(l6.length:Int))) (
gd (bY (QU (v1+v0)) n2) (
ob (l2[(QU (v1+v0)).toNat]?) fun x3 =>
gd (bY v1 l1.length) (
ob (l1[v1.toNat]?) fun x4 =>
gd (bY v0 l6.length) (
ob (l6[v0.toNat]?) fun x5 =>
ob (some (uw .u64 ((uw .u64 (v2+(ui .u64 x3)))+(uw .u64 ((ui .u64 x4)*(ui .u64 x5)))))) fun y2 =>
gd (bY (QU (v1+v0)) n2) (
some (.inl ((l2.set ((QU (v1+v0)).toNat) (QU ((y2%4294967296:Nat):Int))),uw .u64 (y2/4294967296),QU (v0+1)))))))) (
some (.inr (l2,v2)))
def j6(n:Nat)(l1:RR (Int))(l6:RR (Int)):(RR (Int)×Nat×Int)->RI ((RR (Int)×Nat×Int) ⊕(RR (Int)×Nat)):=fun(l2,n2,v0) =>
br (decide (v0<(l1.length:Int))) (
ob (
cy (o9 n l6 v0 n2 l1) n (l2,0,0)) fun(l3,v1) =>
gd (bY (QU (v0+(l6.length:Int))) n2) (
ob (l3[(QU (v0+(l6.length:Int))).toNat]?) fun x3 =>
some (.inl ((l3.set ((QU (v0+(l6.length:Int))).toNat) (QU ((v1:Nat):Int))),n2,QU (v0+1))))) (
some (.inr (l2,n2)))
def De(n:Nat)(l1:RR (Int))(l6:RR (Int)):RI (RR Int) :=
gd (decide (0<=QU ((l1.length:Int)+(l6.length:Int)))) (gd (lim ((QU ((l1.length:Int)+(l6.length:Int))).toNat)) (
ob (
cy (j6 n l1 l6) n ((List.replicate (QU ((l1.length:Int)+(l6.length:Int))).toNat (0:Int)),(QU ((l1.length:Int)+(l6.length:Int))).toNat,0)) fun(l2,n2) =>
ob (oH n l2) fun l3 =>
some l3))
def IG(n:Nat)(x1:Bool)(l2:RR (Int))(x7:Bool)(l8:RR (Int)):RI (Bool×RR Int) :=
ob (De n l2 l8) fun l17 =>
ob (nw n (!(x1==x7)) l17) fun(r22,l23) =>
some (r22,l23)
def GW(n:Nat)(x1:Bool)(l2:RR (Int))(x7:Bool)(l8:RR (Int))(x13:Bool)(l14:RR (Int))(x19:Bool)(l20:RR (Int)):RI (Bool×RR Int×Bool×RR Int) :=
ob (IG n x1 l2 x19 l20) fun(r29,l30) =>
ob (IG n x13 l14 x7 l8) fun(r35,l36) =>
ob (xy n r29 l30 r35 l36) fun(r41,l42) =>
ob (IG n x7 l8 x19 l20) fun(r47,l48) =>
ob (Du n r41 l42 r47 l48) fun(r53,l54,r58,l59) =>
some (r53,l54,r58,l59)
def Kq(n:Nat)(x1:Bool)(l2:RR (Int))(x6:Bool)(l7:RR (Int)):RI Int :=
ob (Ip n x1 l2 x6 l7) fun(r14,l15) =>
br (r14) (
some (-1)) (
br (decide (0<(l15.length:Int))) (
some 1) (
some 0))
def H0(n:Nat)(x1:Bool)(l2:RR (Int))(x6:Bool)(l7:RR (Int))(x11:Bool)(l12:RR (Int))(x16:Bool)(l17:RR (Int)):RI Int :=
ob (IG n x1 l2 x16 l17) fun(r24,l25) =>
ob (IG n x11 l12 x6 l7) fun(r30,l31) =>
ob (Kq n r24 l25 r30 l31) fun r36 =>
some r36
def pa(n:Nat)(l1:RR R7):(Bool×RR (Int)×Bool×RR (Int)×Int)->RI ((Bool×RR (Int)×Bool×RR (Int)×Int) ⊕(RS ⊕(Bool×RR (Int)×Bool×RR (Int)))):=fun(v1,l2,v2,l3,v0) =>
br (decide (v0<(l1.length:Int))) (
gd (bY v0 l1.length) (
ob (l1[v0.toNat]?) fun(x3,x4,x5,x6,x7,x8,x9,x10,x11,x12,x13,x14,x15,x16,x17,x18) =>
ob (HI n x3 x4 x5 x6 x7 x8 x9 x10 x11 x12 x13 x14 x15 x16 x17 x18) fun(r0,l4,r1,l7) =>
br (r0) (
some (.inr (.inl ()))) (
ob (GW n v1 l2 v2 l3 r0 l4 r1 l7) fun(r3,l8,r4,l9) =>
some (.inl (r3,l8,r4,l9,QU (v0+1)))))) (
some (.inr (.inr (v1,l2,v2,l3))))
def FA(n:Nat)(l1:RR R7):RI Bool :=
ob (II n) fun(r0,l2,r1,l3) =>
ob (α:=(RS) ⊕(Bool×RR (Int)×Bool×RR (Int))) (
cy (pa n l1) n (r0,l2,r1,l3,0)) fun r3=>match r3 with
| .inl _ =>
some false
| .inr (v0,l4,v1,l7) =>
ob (yW n 1 1) fun(r4,l8,r5,l9) =>
ob (H0 n v0 l4 v1 l7 r4 l8 r5 l9) fun r6 =>
some (decide (r6=0))
def yb(n:Nat)(l1:RR (RR R7)):Int->RI (Int⊕RS⊕RS):=fun v0 =>
br (decide (v0<(l1.length:Int))) (
ob (
gd (bY v0 l1.length) (
ob (l1[v0.toNat]?) fun l2 =>
br (!decide ((l2.length:Int)=(l1.length:Int))) (
some true) (
gd (bY v0 l1.length) (
ob (GJ n l2) fun r0 =>
br (!r0) (
some true) (
gd (bY v0 l1.length) (
ob (FA n l2) fun r1 =>
some (!r1))))))) fun v1 =>
br (v1) (
some (.inr (.inl ()))) (
some (.inl (QU (v0+1))))) (
some (.inr (.inr ())))
def Ng(n:Nat)(l1:RR (RR R7)):RI Bool :=
ob (
br (decide ((l1.length:Int)<1)) (
some true) (
some (decide (60<(l1.length:Int))))) fun v0 =>
br (v0) (
some false) (
ob (α:=(RS)⊕RS) (
cy (yb n l1) n 0) fun r0=>match r0 with
| .inl _ =>
some false
| .inr _ =>
some true)
def ua(n:Nat)(v1:Int)(l2:RR R9)(l1:RR (RR R7)):(Bool×Int)->RI ((Bool×Int)⊕RS⊕Bool):=fun(v2,v0) =>
br (decide (v0<v1)) (
gd (bY v1 l2.length) (
ob (l2[v1.toNat]?) fun(x3,l7,x4,l8) =>
gd (bY v1 l1.length) (
ob (l1[v1.toNat]?) fun l3 =>
gd (bY v0 l3.length) (
ob (l3[v0.toNat]?) fun(x5,x6,x7,x8,x9,x10,x11,x12,x13,x14,x15,x16,x17,x18,x19,x20) =>
ob (zB n x5 x6 x7 x8 x9 x10 x11 x12 x13 x14 x15 x16 x17 x18 x19 x20) fun(r0,l9,r1,l10) =>
ob (zb n x3 l7 x4 l8 r0 l9 r1 l10) fun(r3,l11,r4,l12) =>
gd (bY v0 l2.length) (
ob (l2[v0.toNat]?) fun(x21,l13,x22,l14) =>
gd (bY v0 l1.length) (
ob (l1[v0.toNat]?) fun l4 =>
gd (bY v1 l4.length) (
ob (l4[v1.toNat]?) fun(x23,x24,x25,x26,x27,x28,x29,x30,x31,x32,x33,x34,x35,x36,x37,x38) =>
ob (zB n x23 x24 x25 x26 x27 x28 x29 x30 x31 x32 x33 x34 x35 x36 x37 x38) fun(r5,l15,r6,l16) =>
ob (zb n x21 l13 x22 l14 r5 l15 r6 l16) fun(r7,l17,r8,l18) =>
ob (xb n r3 l11 r4 l12 r7 l17 r8 l18) fun r9 =>
br (!decide (r9=0)) (
some (.inr (.inl ()))) (
some (.inl (v2,QU (v0+1))))))))))) (
some (.inr (.inr v2)))
def tY(n:Nat)(l1:RR (RR R7))(l2:RR R9):(Bool×Int)->RI ((Bool×Int)⊕Bool):=fun(v1,v0) =>
br (decide (v0<(l1.length:Int))) (
ob (α:=(RS)⊕Bool) (
cy (ua n v0 l2 l1) n (v1,0)) fun r0=>match r0 with
| .inl _ =>
some (.inr false)
| .inr v2 =>
some (.inl (v2,QU (v0+1)))) (
some (.inr v1))
def M0(n:Nat)(l1:RR (RR R7))(l2:RR R8):RI (Bool×Int) :=
ob (HV n l1) fun r0 =>
br (!decide (r0=0)) (
some (false,r0)) (
ob (
br (!decide ((l2.length:Int)=(l1.length:Int))) (
some true) (
ob (zY n l2 0) fun r1 =>
some r1)) fun v0 =>
br (v0) (
some (false,2)) (
ob (Af n l2) fun l3 =>
ob (
cy (tY n l1 l3) n (true,0)) fun v1 =>
some (v1,0)))
def uy(n:Nat)(v1:Int)(l1:RR (RR R7))(l2:RR R7)(l4:RR (RR R7))(l3:RR R7):Int->RI (Int⊕RS⊕RS):=fun v0 =>
gd (bY v1 l1.length) (
br (decide (v0<(l2.length:Int))) (
gd (bY v1 l1.length) (
gd (bY v0 l2.length) (
ob (l2[v0.toNat]?) fun(x3,x4,x5,x6,x7,x8,x9,x10,x11,x12,x13,x14,x15,x16,x17,x18) =>
gd (bY v1 l4.length) (
gd (bY v0 l3.length) (
ob (l3[v0.toNat]?) fun(x19,x20,x21,x22,x23,x24,x25,x26,x27,x28,x29,x30,x31,x32,x33,x34) =>
br (!(decide (x3=x19)&&decide (x4=x20)&&decide (x5=x21)&&decide (x6=x22)&&decide (x7=x23)&&decide (x8=x24)&&decide (x9=x25)&&decide (x10=x26)&&decide (x11=x27)&&decide (x12=x28)&&decide (x13=x29)&&decide (x14=x30)&&decide (x15=x31)&&decide (x16=x32)&&decide (x17=x33)&&decide (x18=x34))) (
some (.inr (.inl ()))) (
some (.inl (QU (v0+1))))))))) (
some (.inr (.inr ()))))
def yO(n:Nat)(l1:RR (RR R7))(l2:RR (RR R7)):Int->RI (Int⊕RS⊕RS):=fun v0 =>
br (decide (v0<(l1.length:Int))) (
gd (bY v0 l1.length) (
ob (l1[v0.toNat]?) fun l3 =>
gd (bY v0 l2.length) (
ob (l2[v0.toNat]?) fun l4 =>
br (!decide ((l3.length:Int)=(l4.length:Int))) (
some (.inr (.inl ()))) (
ob (α:=(RS)⊕RS) (
cy (uy n v0 l1 l3 l2 l4) n 0) fun r0=>match r0 with
| .inl _ =>
some (.inr (.inl ()))
| .inr _ =>
some (.inl (QU (v0+1))))))) (
some (.inr (.inr ())))
def Np(n:Nat)(l1:RR (RR R7))(l2:RR (RR R7)):RI Bool :=
br (!decide ((l1.length:Int)=(l2.length:Int))) (
some false) (
ob (α:=(RS)⊕RS) (
cy (yO n l1 l2) n 0) fun r0=>match r0 with
| .inl _ =>
some false
| .inr _ =>
some true)
def G7(n:Nat)(x1:Bool)(l2:RR (Nat))(x7:Bool)(l8:RR (Nat)):RI R9 :=
some (x1,l2,x7,l8)
def ub(n:Nat)(l2:RR R9):(Bool×RR (Nat)×Bool×RR (Nat)×Int)->RI ((Bool×RR (Nat)×Bool×RR (Nat)×Int) ⊕(Bool×RR (Nat)×Bool×RR (Nat))):=fun(v1,l3,v2,l4,v0) =>
br (decide (v0<(l2.length:Int))) (
gd (bY v0 l2.length) (
ob (l2[v0.toNat]?) fun(x3,l7,x4,l8) =>
ob (G7 n x3 l7 x4 l8) fun(r0,l9,r1,l10) =>
ob (wA n v1 l3 v2 l4 r0 l9 r1 l10) fun(r3,l11,r4,l12) =>
some (.inl (r3,l11,r4,l12,QU (v0+1))))) (
some (.inr (v1,l3,v2,l4)))
def uC(n:Nat)(l2:RR R9)(v1:Bool)(l4:RR (Nat))(v2:Bool)(l7:RR (Nat)):(RR (R9)×Int)->RI ((RR (R9)×Int) ⊕(RR R9)):=fun(l3,v0) =>
br (decide (v0<(l2.length:Int))) (
gd (bY v0 l2.length) (
ob (l3[v0.toNat]?) fun(x3,l8,x4,l9) =>
ob (CP n x3 l8 x4 l9 v1 l4 v2 l7) fun(r0,l10,r1,l11) =>
gd (bY v0 l2.length) (
some (.inl ((l3.set v0.toNat (r0,l10,r1,l11)),QU (v0+1)))))) (
some (.inr l3))
def Mh(n:Nat)(l1:RR R8):RI (RR R7×Int) :=
br (decide (60<(l1.length:Int))) (
some ([],3)) (
ob (zY n l1 0) fun r0 =>
br (r0) (
some ([],2)) (
ob (Af n l1) fun l2 =>
ob (
ob (qd n 0) fun(r1,l4,r3,l7) =>
ob (
cy (ub n l2) n (r1,l4,r3,l7,0)) fun(v1,l8,v2,l9) =>
some (v1,l8,v2,l9)) fun(v0,l3,v3,l10) =>
ob (BH n v0 l3) fun r4 =>
br (decide (r4=0)) (
some ([],7)) (
ob (
cy (uC n l2 v0 l3 v3 l10) n (l2,0)) fun l11 =>
ob (yL n l11) fun(l12,r5) =>
some (l12,r5))))
def Hr(n:Nat)(x1:Nat)(x2:Nat)(x3:Nat)(x4:Nat)(x5:Nat)(x6:Nat)(x7:Nat)(x8:Nat)(x9:Nat)(x10:Nat)(x11:Nat)(x12:Nat)(x13:Nat)(x14:Nat)(x15:Nat)(x16:Nat):RI Bool :=
ob (Ay n x1 x2 x3 x4 x5 x6 x7 x8 x9 x10 x11 x12 x13 x14 x15 x16) fun r19 =>
some (!decide (r19=0))
def yI(n:Nat)(l2:RR R7):Int->RI (Int⊕Int⊕RS):=fun v0 =>
br (decide (v0<(l2.length:Int))) (
gd (bY v0 l2.length) (
ob (l2[v0.toNat]?) fun(x3,x4,x5,x6,x7,x8,x9,x10,x11,x12,x13,x14,x15,x16,x17,x18) =>
ob (Hr n x3 x4 x5 x6 x7 x8 x9 x10 x11 x12 x13 x14 x15 x16 x17 x18) fun r0 =>
br (r0) (
some (.inr (.inl v0))) (
some (.inl (QU (v0+1)))))) (
some (.inr (.inr ())))
def uH(n:Nat)(l2:RR R7):(RR (R9)×Int)->RI ((RR (R9)×Int) ⊕(RR R9)):=fun(l3,v0) =>
br (decide (v0<(l2.length:Int))) (
gd (bY v0 l2.length) (
ob (l2[v0.toNat]?) fun(x3,x4,x5,x6,x7,x8,x9,x10,x11,x12,x13,x14,x15,x16,x17,x18) =>
ob (zB n x3 x4 x5 x6 x7 x8 x9 x10 x11 x12 x13 x14 x15 x16 x17 x18) fun(r0,l4,r1,l7) =>
gd (lim (l3++([(r0,l4,r1,l7)]:RR R9)).length) (
some (.inl ((l3++([(r0,l4,r1,l7)]:RR R9)),QU (v0+1)))))) (
some (.inr l3))
def sw(n:Nat)(n2:Nat)(l8:RR R9)(l1:RR (RR R7))(v0:Int):(RR (R9)×Int)->RI ((RR (R9)×Int) ⊕(RR R9)):=fun(l2,v1) =>
br (decide (v1<(n2:Int))) (
ob (
gd (bY v1 n2) (
ob (l8[v1.toNat]?) fun(x3,l3,x4,l9) =>
gd (bY v1 l1.length) (
ob (l1[v1.toNat]?) fun l4 =>
gd (bY v0 l4.length) (
ob (l4[v0.toNat]?) fun(x5,x6,x7,x8,x9,x10,x11,x12,x13,x14,x15,x16,x17,x18,x19,x20) =>
ob (zB n x5 x6 x7 x8 x9 x10 x11 x12 x13 x14 x15 x16 x17 x18 x19 x20) fun(r0,l7,r1,l10) =>
ob (
ob (BH n r0 l7) fun r3 =>
br (!decide (r3=0)) (
ob (BH n x3 l3) fun r4 =>
some (!decide (r4=0))) (
some false)) fun v2 =>
br (v2) (
gd (bY v0 ((l1.length:Int).toNat)) (
ob (l2[v0.toNat]?) fun(x21,l11,x22,l12) =>
ob (zb n x3 l3 x4 l9 r0 l7 r1 l10) fun(r5,l13,r6,l14) =>
ob (wA n x21 l11 x22 l12 r5 l13 r6 l14) fun(r7,l15,r8,l16) =>
gd (bY v0 ((l1.length:Int).toNat)) (
some (l2.set v0.toNat (r7,l15,r8,l16))))) (
some l2))))) fun l17 =>
some (.inl (l17,QU (v1+1)))) (
some (.inr l2))
def tK(n:Nat)(l1:RR (RR R7))(n2:Nat)(l3:RR R9):(RR (R9)×Int)->RI ((RR (R9)×Int) ⊕(RR R9)):=fun(l2,v0) =>
br (decide (v0<(l1.length:Int))) (
ob (qd n 0) fun(r0,l4,r1,l7) =>
gd (bY v0 ((l1.length:Int).toNat)) (
ob (l2[v0.toNat]?) fun(x3,l9,x4,l10) =>
ob (
cy (sw n n2 l3 l1 v0) n ((l2.set v0.toNat (r0,l4,r1,l7)),0)) fun l8 =>
some (.inl (l8,QU (v0+1))))) (
some (.inr l2))
def tA(n:Nat)(x3:Int)(l1:RR (RR R7)):(Nat×RR (R9)×Int)->RI ((Nat×RR (R9)×Int) ⊕(Nat×RR R9)):=fun(n2,l2,v0) =>
br (decide (v0<x3)) (
gd (decide (0<=(l1.length:Int))) (gd (lim ((l1.length:Int).toNat)) (
ob (
cy (tK n l1 n2 l2) n ((List.replicate (l1.length:Int).toNat ((false,[],false,[]):R9)),0)) fun l3 =>
some (.inl ((l1.length:Int).toNat,l3,QU (v0+1)))))) (
some (.inr (n2,l2)))
def Md(n:Nat)(l1:RR (RR R7))(l2:RR R7)(x3:Int):RI (RR R7×Int) :=
ob (HV n l1) fun r0 =>
br (!decide (r0=0)) (
some ([],r0)) (
ob (
ob (α:=Int) (
ob (α:=(Int)⊕RS) (
cy (yI n l2) n 0) fun r1=>match r1 with
| .inl v0 =>
some v0
| .inr _ =>
some (-1)) fun v1 =>
some (decide (0<=v1))) fun v2 =>
br (v2) (
some ([],20)) (
ob (
br (!decide ((l2.length:Int)=(l1.length:Int))) (
some true) (
ob (CO n l2) fun r3 =>
br (!r3) (
some true) (
br (decide (x3<0)) (
some true) (
some (decide (30<x3)))))) fun v3 =>
br (v3) (
some ([],2)) (
ob (
cy (uH n l2) n (([]:RR R9),0)) fun l3 =>
ob (
cy (tA n x3 l1) n (l3.length,l3,0)) fun(n2,l4) =>
ob (yL n l4) fun(l7,r4) =>
some (l7,r4))))
def xz(n:Nat)(l1:RR R7)(l5:RR R7):Int->RI (Int⊕RS⊕RS):=fun v11 =>
br (decide (v11<(l1.length:Int))) (
gd (bY v11 l1.length) (
ob (l1[v11.toNat]?) fun(x59,x60,x61,x62,x63,x64,x65,x66,x67,x68,x69,x70,x71,x72,x73,x74) =>
gd (bY v11 l5.length) (
ob (l5[v11.toNat]?) fun(x79,x80,x81,x82,x83,x84,x85,x86,x87,x88,x89,x90,x91,x92,x93,x94) =>
br (!(decide (x59=x79)&&decide (x60=x80)&&decide (x61=x81)&&decide (x62=x82)&&decide (x63=x83)&&decide (x64=x84)&&decide (x65=x85)&&decide (x66=x86)&&decide (x67=x87)&&decide (x68=x88)&&decide (x69=x89)&&decide (x70=x90)&&decide (x71=x91)&&decide (x72=x92)&&decide (x73=x93)&&decide (x74=x94))) (
some (.inr (.inl ()))) (
some (.inl (QU (v11+1))))))) (
some (.inr (.inr ())))
def M8(n:Nat)(l1:RR R7)(l5:RR R7):RI Bool :=
br (!decide ((l1.length:Int)=(l5.length:Int))) (
some false) (
ob (α:=(RS)⊕RS) (
cy (xz n l1 l5) n 0) fun r98=>match r98 with
| .inl _ =>
some false
| .inr _ =>
some true)
def IB(n:Nat)(x1:Nat)(x2:Nat)(x3:Nat)(x4:Nat)(x5:Nat)(x6:Nat)(x7:Nat)(x8:Nat)(x9:Nat)(x10:Nat)(x11:Nat)(x12:Nat)(x13:Nat)(x14:Nat)(x15:Nat)(x16:Nat):RI Bool :=
ob (Ay n x1 x2 x3 x4 x5 x6 x7 x8 x9 x10 x11 x12 x13 x14 x15 x16) fun r19 =>
some (decide (r19=0))
def qN(n:Nat)(l1:RR R7):Int->RI (Int⊕RS⊕RS):=fun v0 =>
br (decide (v0<(l1.length:Int))) (
gd (bY v0 l1.length) (
ob (l1[v0.toNat]?) fun(x3,x4,x5,x6,x7,x8,x9,x10,x11,x12,x13,x14,x15,x16,x17,x18) =>
ob (IB n x3 x4 x5 x6 x7 x8 x9 x10 x11 x12 x13 x14 x15 x16 x17 x18) fun r0 =>
br (!r0) (
some (.inr (.inl ()))) (
some (.inl (QU (v0+1)))))) (
some (.inr (.inr ())))
def CM(n:Nat)(l1:RR R7):RI Bool :=
ob (
ob (α:=(RS)⊕RS) (
cy (qN n l1) n 0) fun r0=>match r0 with
| .inl _ =>
some false
| .inr _ =>
some true) fun v0 =>
some v0
def Mj(n:Nat)(x1:Nat)(x2:Nat)(x3:Nat)(x4:Nat)(x5:Nat)(x6:Nat)(x7:Nat)(x8:Nat)(x9:Nat)(x10:Nat)(x11:Nat)(x12:Nat)(x13:Nat)(x14:Nat)(x15:Nat)(x16:Nat)(x17:Nat)(x18:Nat)(x19:Nat)(x20:Nat)(x21:Nat)(x22:Nat)(x23:Nat)(x24:Nat)(x25:Nat)(x26:Nat)(x27:Nat)(x28:Nat)(x29:Nat)(x30:Nat)(x31:Nat)(x32:Nat):RI (Int×Int) :=
ob (α:=Int×Int) (
ob (CM n ([(x1,x2,x3,x4,x5,x6,x7,x8,x9,x10,x11,x12,x13,x14,x15,x16),(x17,x18,x19,x20,x21,x22,x23,x24,x25,x26,x27,x28,x29,x30,x31,x32)])) fun r71 =>
br (!r71) (
some (0,20)) (
ob (zB n x1 x2 x3 x4 x5 x6 x7 x8 x9 x10 x11 x12 x13 x14 x15 x16) fun(r74,l75,r79,l80) =>
ob (zB n x17 x18 x19 x20 x21 x22 x23 x24 x25 x26 x27 x28 x29 x30 x31 x32) fun(r85,l86,r90,l91) =>
ob (xb n r74 l75 r79 l80 r85 l86 r90 l91) fun r96 =>
some (r96,0))) fun(v65,v66) =>
some (v65,v66)
def C6(n:Nat)(l2:RR (RR R7))(v1:Int)(l3:RR (RR R7)):Int->RI (Int⊕RS⊕RS):=fun v0 =>
br (decide (v0<(l2.length:Int))) (
gd (bY v1 l3.length) (
ob (l3[v1.toNat]?) fun l4 =>
gd (bY v0 l4.length) (
ob (l4[v0.toNat]?) fun(x3,x4,x5,x6,x7,x8,x9,x10,x11,x12,x13,x14,x15,x16,x17,x18) =>
gd (bY v1 l2.length) (
ob (l2[v1.toNat]?) fun l7 =>
gd (bY v0 l7.length) (
ob (l7[v0.toNat]?) fun(x19,x20,x21,x22,x23,x24,x25,x26,x27,x28,x29,x30,x31,x32,x33,x34) =>
ob (Mj n x3 x4 x5 x6 x7 x8 x9 x10 x11 x12 x13 x14 x15 x16 x17 x18 x19 x20 x21 x22 x23 x24 x25 x26 x27 x28 x29 x30 x31 x32 x33 x34) fun(r0,r1) =>
ob (
br (!decide (r1=0)) (
some true) (
br (!decide (v1=v0)) (
br (decide (0<r0)) (
some true) (
br (decide (v1=v0)) (
some (decide (r0<0))) (
some false))) (
br (decide (v1=v0)) (
some (decide (r0<0))) (
some false)))) fun v2 =>
br (v2) (
some (.inr (.inl ()))) (
some (.inl (QU (v0+1))))))))) (
some (.inr (.inr ())))
def CK(n:Nat)(l2:RR (RR R7))(l3:RR (RR R7)):Int->RI (Int⊕RS⊕RS):=fun v0 =>
br (decide (v0<(l2.length:Int))) (
ob (α:=(RS)⊕RS) (
cy (C6 n l2 v0 l3) n 0) fun r0=>match r0 with
| .inl _ =>
some (.inr (.inl ()))
| .inr _ =>
some (.inl (QU (v0+1)))) (
some (.inr (.inr ())))
def F7(n:Nat)(x1:Nat)(l8:RR (Nat))(x3:Nat)(l9:RR (Nat)):RI Bool :=
ob (N8 n) fun r0 =>
br (!r0) (
some false) (
ob (MD n x1 l8) fun l3 =>
ob (MU n x3 l9 (l3.length:Int)) fun l4 =>
ob (L2 n l3 l4) fun(l2,r1) =>
ob (L2 n l2 l4) fun(l10,r3) =>
ob (
br (!decide (r1=0)) (
some true) (
br (!decide (r3=0)) (
some true) (
br (!decide ((l2.length:Int)=(l3.length:Int))) (
some true) (
ob (Ng n l2) fun r4 =>
br (!r4) (
some true) (
ob (HV n l2) fun r5 =>
br (!decide (r5=0)) (
some true) (
ob (
some ()) fun _ =>
ob (M0 n l2 l4) fun(r6,r7) =>
ob (
br ((r6==true)) (
some (decide (r7=0))) (
some false)) fun v0 =>
br (!v0) (
some true) (
ob (Np n l2 l10) fun r8 =>
some (!r8)))))))) fun v1 =>
br (v1) (
some false) (
ob (Mh n l4) fun(l7,r9) =>
ob (
br (!decide (r9=0)) (
some true) (
ob (
some ()) fun _ =>
ob (Md n l2 l7 1) fun(l11,r10) =>
ob (
ob (M8 n l11 l7) fun r11 =>
br (r11) (
some (decide (r10=0))) (
some false)) fun v2 =>
some (!v2))) fun v3 =>
br (v3) (
some false) (
ob (α:=(RS)⊕RS) (
cy (CK n l3 l2) n 0) fun r12=>match r12 with
| .inl _ =>
some false
| .inr _ =>
some true)))
end
end Go.Proofs.YtpkadoocdgdcfaaGreatDoor
namespace Go.Ab.W
open Go Go.Ab
section
variable{P:QS}{ty:QQ}
end
section
variable{E:Env}{m0:RN}{fs:Fs}{ps:RR Pc}{x:QR}{ty:QQ}
def JY{elem:QQ}{w:Nat}{i:Int}{z:QP}{es:QM}(ht:SlT E.P ty elem w)(hx:ev E fs x=some (.int .i64 i))(hi:decide (0<=i)=true)(hl:lim i.toNat=true)(hz:cg E.P elem=some z)(hp:z.cells.toList.all aX=true)(he:List.replicate i.toNat z.cells.toList=es) :
  Ox E m0 fs ps (.makeSlice ty x x) (fun b=>.slice (some ⟨b,0,none⟩) i.toNat i.toNat) (fun b=>.arr b w i.toNat es .own::ps):=by
 have:=M9 (m0:=m0) (ps:=ps) ht hx (Qo (of_decide_eq_true hi)).symm hl hz hp;rw[he] at this;exact this
end
set_option maxRecDepth 10000
attribute [local irreducible] Tm.at Trie.set Trie.get RN.get RN.set RN.alloc RN.ww
section
variable{E:Env}{n:Nat}{m0:RN}{fs:Fs}{ps:RR Pc}{x y z:QR}{v:QP}{ty ty2:QQ}
end
end Go.Ab.W
