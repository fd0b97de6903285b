/- A part of the proof. -/
import Derived.Test.YtpkadoocdgdcfaaGreatDoorKs3
import Derived.Maps.RangeRun
import Derived.Laws.BytesString
set_option linter.all false
namespace Go.Ab
open Go
open Go.ChangeMaps (setBlock)
section
variable{E:Env}{n:Nat}{fn:PU}{ro:PE Nat}
def cM(E:Env)(n:Nat)(fn:PU)(ro:PE Nat)(c:Code)(Q:PK->Tm->PJ->Prop)(t:Tm)(m:PJ):Prop :=
 ∀(j:aI) (w:OS) (a:Act) (F:Fence) (N:Nat),MR E j m w->TR n j t a.tmps->jJ j ro F->Marks N w a.defers->N<=w.heap.size ->
  c.wpIn F 0 E.P (fun e' a' w'=>∃e t' m',Q e t' m'/\jW E j m w N n e t' m' e' a' w') a w
variable{Q Q':PK->Tm->PJ->Prop}{t:Tm}{m:PJ}{c x y:Code}
def cM.of(hE:EnvOk E)(h:bp E n fn ro c Q t m):cM E n fn ro c Q t m:=fun j w a F N hm ht hro hd hN=>by
 obtain⟨e,t',m',⟨k,hk⟩,q⟩:=h;obtain⟨e0,t0,m0,hr,H⟩:=jU hE k _ _ hk;cases hr;exact wpIn_mono (H j w a F N hm ht hro hd hN) fun e' a' w' hq=>⟨e,t',m',q,hq⟩
def cM.mono(h:cM E n fn ro c Q t m)(hq:∀e t m,Q e t m->Q' e t m):cM E n fn ro c Q' t m:=fun j w a F N hm ht hro hd hN =>
 wpIn_mono (h j w a F N hm ht hro hd hN) fun e' a' w' ⟨e,t',m',q,hc⟩=>⟨e,t',m',hq _ _ _ q,hc⟩
def cM.BD(h:cM E n fn ro x (j9 (cM E n fn ro y Q) Q) t m):cM E n fn ro (.seq x y) Q t m:=fun j w a F N hm ht hro hd hN=>by
 refine wpIn_seq (wpIn_mono (h j w a F N hm ht hro hd hN) ?_);rintro e' a' w' ⟨e,t',m',q,hc⟩;obtain⟨rfl,j',s,ht',hd'⟩:=hc;cases e with
 | normal=>exact wpIn_mono (q j' w' a' F N s.mr ht' (hro.mono s.le) hd' (MU hN s.size)) fun _ _ _ ⟨e2,t2,m2,q2,c2⟩=>⟨e2,t2,m2,q2,c2.from hm s⟩
 | exit id=>exact⟨.exit id,t',m',q,rfl,j',s,ht',hd'⟩
 | ret=>exact⟨.ret,t',m',q,rfl,j',s,ht',hd'⟩
def cM.seq(hE:EnvOk E)(h:bp E n fn ro x (j9 (cM E n fn ro y Q) Q) t m):cM E n fn ro (.seq x y) Q t m:=.BD (.of hE h)
def Cn{j:aI}{m:PJ}{w:OS}(h:MR E j m w){r:Nat}(hr:∀b k,j b=some k->(m.get b).isSome=true->k.c≠r){w1:OS}(hw:w1=w\/w1=w.drew)(hE:¬E.mono){o o':Obj}(ho:w.heap[r]? = some o):MR E j m (setBlock w1 r o')/\w.heap.size=(setBlock w1 r o').heap.size/\(∀c,c≠r->(setBlock w1 r o').heap[c]? = w.heap[c]?)/\ib E w (setBlock w1 r o'):=by
 have hh:w1.heap=w.heap:=by rcases hw with rfl|rfl<;>rfl
 have hs:w.heap.size=(setBlock w1 r o').heap.size:=by simp[setBlock,hh]
 have hg:∀c,c≠r->(setBlock w1 r o').heap[c]? = w.heap[c]?:=fun c hc=>by
  show(w1.heap.setIfInBounds r o')[c]? = _
  rw[hh,NU (Ne.symm hc)]
 refine⟨⟨fun b k e=>⟨(h.lt b k e).1,hs ▸(h.lt b k e).2⟩,fun b o k hgt e=>?_,h.inj,h.glob⟩,hs,hg,?_⟩
 obtain⟨o1,h1,h2⟩:=h.obj b o k hgt e;exact⟨o1,by rw[hg _ (hr b k e (by rw[hgt]; rfl))]; exact h1,h2⟩
 rcases hw with rfl|rfl<;>exact⟨rfl,rfl,rfl,fun e=>MX e hE⟩
def xb{j:aI}{m:PJ}{w:OS}(h:MR E j m w){r:Nat}{a:PE Nat}{b0:Nat}{s:PO Nat}{d:Nat}(hr:w.heap[r]? = some (.mapIter a b0 s d)):∀b k,j b=some k->(m.get b).isSome=true->k.c≠r:=by
 intro b k hb hl he;cases hg:m.get b with
 | none=>rw[hg] at hl; cases hl
 | some o =>
  obtain⟨o',h1,h2⟩:=h.obj b o k hg hb;rw[he,hr] at h1;cases h1;cases o<;>exact h2.elim
def rV{w:OS}{N:Nat}{ds:PM Deferred}(hm:Marks N w ds){r:Nat}{w':OS}{a:PE Nat}{b0:Nat}{s:PO Nat}{d:Nat}(hr:w.heap[r]? = some (.mapIter a b0 s d))(hg:∀c,c≠r->w'.heap[c]? = w.heap[c]?):Marks N w' ds:=by
 obtain⟨rs,h1,h2,h3⟩:=hm;refine⟨rs,h1,h2,fun x hx=>⟨(h3 x hx).1,?_⟩⟩;rw[hg x fun e=>by subst e; have:=(h3 _ hx).2; rw[hr] at this; cases this]
 exact(h3 x hx).2
end
def KO(w:OS)(r c:Nat)(ents:PO MapEntry)(clock:Nat)(S:PM Nat)(cnt:Nat):Prop :=
 ∃since seen c0,w.heap[r]? = some (.mapIter (some c) since seen c0)/\w.heap[c]? = some (.map ents clock)/\(∀x∈ents.toList,x.born<since)/\since<=c0/\since<=clock/\(∀i x,ents[i]? = some x->(seen.contains x.born=true↔i∈S))/\(leftOf ents seen).size=cnt
def qM:∀(n:Nat) (S:PM Nat),S.Nodup->(∀i∈S,i<n)->(∀i,i<n->i∈S)->S.Perm (List.range n)
 | 0,S,_,h2,_=>by
  cases S with
  | nil=>exact List.Perm.refl _
  | cons a l=>exact MX (h2 a (by simp)) (by omega)
 | n+1,S,h1,h2,h3=>by
  have hm:n∈S:=h3 n (by omega)
  have hp:=List.perm_cons_erase hm;have ih:=qM n (S.erase n) (h1.erase n) (fun i hi=>by
   have h4:=h2 i (List.mem_of_mem_erase hi);have h5:i≠n:=fun e=>by subst e; exact(List.Nodup.not_mem_erase h1) hi
   omega) fun i hi=>(List.mem_erase_of_ne (by omega)).2 (h3 i (by omega))
  rw[List.range_succ];exact hp.trans ((List.Perm.cons n ih).trans (List.perm_append_singleton n (List.range n)).symm)
section
variable{E:Env}{n:Nat}{fn:PU}{ro:PE Nat}
def eval_put{a:Act}{d:Tmp}{v:ON}(h:d<a.tmps.size):(a.put (some d) v).eval (.tmp d)=v:=by
 simp[Act.put,Act.eval,h]
def DF(hE:EnvOk E)(hmono:¬E.mono){B B' i2 i3:Nat}{oN oX oE:Oper}{rest:PM Oper}{ops3:PO Oper}{X:Code}{d2 e1 e2 f1:Tmp}
  (hN:oN.op=.next (.tmp d2) false/\oN.dst=some e1/\oN.guard=none) (hX:oX.op=.extract (.tmp e1) 0/\oX.dst=some e2/\oX.guard=none) (hOE:oE.op=.entry (.tmp d2)/\oE.dst=some f1/\oE.guard=none) (h3:ops3.toList=oE::rest)
  (h6:e1<n) (h7:e2<n) (h14:f1<n) (h15:e1≠d2) (h16:e2≠d2) (_hd3:f1≠d2)
  {mb:PJ} {w0:OS} {j0:aI} (h17:MR E j0 mb w0) {bm bi:Nat} {es:PM (ON×ON)} {lim:Nat} (hbm:mb.get bm=some (.map es)) (hbl:bm<lim)
  (Inv:PM Nat->Tm->PJ->Prop) (hExt:∀S t m,Inv S t m->m.get bm=some (.map es)/\lim<=m.wl/\t.at d2=ptr bi 0)
  (hstep:∀S i e t m,S.Nodup->(∀i∈S,i<es.length)->i∉S->es[i]? = some e->Inv S t m->ir E n ops3 (fun t' m'=>bp E n fn ro X (fun e' t'' m''=>e'=.normal/\Inv (S++[i]) t'' m'') t' m') rest (((t.set e1 (.tuple #[.bool true,e.1,e.2])).set e2 (.bool true)).set f1 (.tuple #[e.1,e.2])) m)
  {r:Nat} (h32:w0.heap.size<=r) {kb:Blk} {ents:PO MapEntry} {clock:Nat} (hinc:E7 ents clock) (a3:PM Deferred) (N:Nat) :
  ∀(K:Nat) (S:PM Nat) (cnt:Nat) (t:Tm) (m:PJ) (j:aI) (w:OS) (a:Act) (F:Fence),cnt<K->S.Nodup->(∀i∈S,i<es.length)->Inv S t m->Sim E j0 mb w0 j m w->TR n j t a.tmps->jJ j ro F->Marks N w a.defers->N<=w.heap.size ->
   j bi=some ⟨r,none⟩->j bm=some kb->ER j es ents.toList->KO w r kb.c ents clock S cnt ->
   mz F 0 E.P (.seq (.region i2 #[oN,oX] false) (.seq (.cond (.tmp e2) .skip (.exit B)) (.block B' (.seq (.region i3 ops3 false) X))))
    (fun e' a' w'=>∃S t' m',S.Perm (List.range es.length)/\Inv S t' m'/\jW E j0 mb w0 N n (.exit B) ((t'.set e1 (.tuple #[.bool false])).set e2 (.bool false)) m' e' a' w') a w:=by
 intro K
 induction K with
 | zero=>intro S cnt t m j w a F hc; exact MX hc (by omega)
 | succ K ih =>
  intro S cnt t m j w a F hc hnd hSl hinv s ht hro hmk hNw hjr hjm her hit;have hlen:es.length=ents.size:=by have:=her.len; simpa using this
  obtain⟨hg,hwl,htd⟩:=hExt S t m hinv;obtain⟨since,seen,c0,i1,i2',i3',i5,i4,i0,i6⟩:=hit;refine jK (wpIn_seq (wpIn_region ?_));have hiter:a.eval (.tmp d2)=.pointer (some ⟨r,0,none⟩):=by
   have hv:=ht.2 d2;rw[htd] at hv
   show a.tmps.getD d2 undef=_
   generalize hx:a.tmps.getD d2 undef=x at hv;cases hv with
   | ptr hj=>rw[hjr] at hj; cases hj; rfl
  have hsz:a.tmps.size=n:=ht.1;have hlist:List.range (#[oN,oX]:PO Oper).size=[0,1]:=rfl;rw[hlist];have w0':Region.wanted oN (yielded #[oN,oX] a.tmps)=true:=by simp[Region.wanted,hN.2.2]
  have g0:(#[oN,oX]:PO Oper)[0]? = some oN:=rfl;have g1:(#[oN,oX]:PO Oper)[1]? = some oX:=rfl;simp only[wpOpsIn,g0,g1,w0',if_true];have hexN:execOp a.eval oN=(do pure (.value (<-Instr.next (.pointer (some ⟨r,0,none⟩)) false oN.type))):=by simp only[execOp,hN.1,hiter]
  have hdN:∀c,oN.op≠.defer c:=fun c e=>by rw[hN.1] at e; cases e
  have hdX:∀c,oX.op≠.defer c:=fun c e=>by rw[hX.1] at e; cases e
  have hbmj:bm<m.next:=(s.mr.lt bm kb hjm).1
  rcases run_next_at (P:=E.P) w oN.type r kb.c since c0 seen ents clock i1 i2' i3' i5 with⟨q0,hrun⟩|⟨x,hx,w1,h11,hrun⟩
  ·
   refine cH hro.wide hdN (by rw[hexN]; exact jO.value hrun) ?_
   have h4:TR n j (t.set e1 (.tuple #[.bool false])) (a.put oN.dst (.tuple #[.bool false])).tmps:=ht.put (t':=t.set e1 (.tuple #[.bool false])) (.tuple' (LR.cons (.bool false) (.nil j))) (by rw[hN.2.1,cy,MG h6])
   rw[hN.2.1] at h4 ⊢;have w1':Region.wanted oX (yielded #[oN,oX] (a.put (some e1) (.tuple #[.bool false])).tmps)=true:=by simp[Region.wanted,hX.2.2]
   rw[MG w1'];have hexX:execOp (a.put (some e1) (.tuple #[.bool false])).eval oX=(do pure (.value (<-Instr.extract (.tuple #[.bool false]) 0))):=by
    simp only[execOp,hX.1];rw[eval_put (v:=.tuple #[.bool false]) (d:=e1) (a:=a) (hsz.symm▸h6)]
   refine cH hro.wide hdX (v:=.bool false) (w':=w) (by rw[hexX]; exact jO.value rfl) ?_
   have h0:=h4.put (t':=(t.set e1 (.tuple #[.bool false])).set e2 (.bool false)) (dst:=oX.dst) (.bool false) (by rw[hX.2.1,cy,MG h7])
   rw[hX.2.1] at h0 ⊢;refine wpIn_seq (wpIn_cond_false (eval_put (by simp only[Act.put,Array.size_setIfInBounds]; exact hsz.symm▸h7)) (wpIn_exit ?_))
   refine⟨S,t,m,qM _ S hnd hSl fun i hi=>?_,hinv,rfl,j,s,h0,hmk⟩;have hi':i<ents.size:=by omega
   refine(i0 i _ (Array.getElem?_eq_getElem hi')).1 ?_;cases hcs:seen.contains (ents[i]'hi').born with
   | true=>rfl
   | false =>
    have:(ents[i]'hi') ∈(leftOf ents seen).toList:=by
     unfold leftOf;simp[hcs];exact fun h=>by simp_all
    rw[Ol q0] at this;simp at this
  
  obtain⟨hxm,hxs⟩:=mem_left hx;obtain⟨i,hi⟩:=List.mem_iff_getElem?.1 hxm;have hi':ents[i]? = some x:=by simpa using hi
  have hiS:i∉S:=fun h=>by rw[(i0 i x hi').2 h] at hxs; cases hxs
  have hil:i<es.length:=by rw[hlen]; exact(MI.1 hi').1
  obtain⟨y,hy,hky,hvy⟩:=her.get (MF hil);rw[hi] at hy;cases hy;have hne:∀b k,j b=some k->(m.get b).isSome=true->k.c≠r:=xb s.mr i1;have hcr:kb.c≠r:=hne bm kb hjm (by rw[hg]; rfl)
  obtain⟨p2,p1,p0,p3⟩:=Cn s.mr hne h11 hmono (o':=.mapIter (some kb.c) since (seen.push x.born) clock) i1;have s1:Sim E j0 mb w0 j m (setBlock w1 r (.mapIter (some kb.c) since (seen.push x.born) clock)) :=
   { ext:=s.ext,le:=s.le,new:=s.new,mr:=p2,size:=by rw[<-p1]; exact s.size,full:=s.full,away:=s.away,fresh:=s.fresh,frame:=fun c hc H=>by rw[p0 c (by omega)]; exact s.frame c hc H,calm:=s.calm.trans p3}
  have m3:=rV hmk i1 p0;refine cH hro.wide hdN (by rw[hexN]; exact jO.value hrun) ?_
  generalize h18:setBlock w1 r (.mapIter (some kb.c) since (seen.push x.born) clock)=w2 at s1 m3 p1 p0;have h8:w2.heap[r]? = some (.mapIter (some kb.c) since (seen.push x.born) clock):=by
   rw[<-h18];have hh:w1.heap=w.heap:=by rcases h11 with rfl|rfl<;>rfl
   have hrl:=(MI.1 i1).1;simp[setBlock,hh,hrl]
  have h9:w2.heap[kb.c]? = some (.map ents clock):=by rw[p0 _ hcr]; exact i2'
  have hvT:VR j (.tuple #[.bool true,(es[i]'hil).1,(es[i]'hil).2]) (.tuple #[.bool true,x.key,x.val]):=.tuple' (LR.cons (.bool true) (LR.cons hky (LR.cons hvy (.nil j))));have h4:=ht.put (t':=t.set e1 (.tuple #[.bool true,(es[i]'hil).1,(es[i]'hil).2])) (dst:=oN.dst) hvT (by rw[hN.2.1,cy,MG h6])
  rw[hN.2.1] at h4 ⊢;have w1':Region.wanted oX (yielded #[oN,oX] (a.put (some e1) (.tuple #[.bool true,x.key,x.val])).tmps)=true:=by simp[Region.wanted,hX.2.2]
  rw[MG w1'];have hexX:execOp (a.put (some e1) (.tuple #[.bool true,x.key,x.val])).eval oX=(do pure (.value (<-Instr.extract (.tuple #[.bool true,x.key,x.val]) 0))):=by
   simp only[execOp,hX.1];rw[eval_put (v:=.tuple #[.bool true,x.key,x.val]) (d:=e1) (a:=a) (hsz.symm▸h6)]
  refine cH hro.wide hdX (v:=.bool true) (w':=w2) (by rw[hexX]; exact jO.value rfl) ?_
  have h0:=h4.put (t':=(t.set e1 (.tuple #[.bool true,(es[i]'hil).1,(es[i]'hil).2])).set e2 (.bool true)) (dst:=oX.dst) (.bool true) (by rw[hX.2.1,cy,MG h7])
  rw[hX.2.1] at h0 ⊢;generalize h10:(a.put (some e1) (.tuple #[.bool true,x.key,x.val])).put (some e2) (.bool true)=a0 at h0;have hdef2:a0.defers=a.defers:=by rw[<-h10]; rfl
  have h19:a0.eval (.tmp e2)=.bool true:=by rw[<-h10]; exact eval_put (by simp only[Act.put,Array.size_setIfInBounds]; exact hsz.symm▸h7)
  have h20:a0.eval (.tmp d2)=.pointer (some ⟨r,0,none⟩):=by
   rw[<-h10]
   show(((a.tmps.setIfInBounds e1 _).setIfInBounds e2 _).getD d2 undef)=_
   have h5:a.tmps.getD d2 undef=.pointer (some ⟨r,0,none⟩):=hiter;simp only[Array.getD_eq_getD_getElem?] at h5 ⊢;rw[NU h16,NU h15];exact h5
  refine wpIn_seq (wpIn_cond_true h19 (wpIn_skip ?_));refine wpIn_block (wpIn_seq (wpIn_region ?_));have h21:List.range ops3.size=0::List.range' 1 (ops3.size-1):=by
   have:ops3.size=rest.length+1:=by have:=NS List.length h3; simpa using this
   rw[this,List.range_eq_range']
   rfl
  rw[h21];have g2:ops3[0]? = some oE:=by have:=NS (·[0]?) h3; simpa using this
  have w2':Region.wanted oE (yielded ops3 a0.tmps)=true:=by simp[Region.wanted,hOE.2.2]
  simp only[wpOpsIn,g2,w2',if_true];have hdE:∀c,oE.op≠.defer c:=fun c e=>by rw[hOE.1] at e; cases e
  have hexE:execOp a0.eval oE=(do pure (.value (<-Instr.entry (.pointer (some ⟨r,0,none⟩))))):=by simp only[execOp,hOE.1,h20]
  refine cH hro.wide hdE (by rw[hexE]; exact jO.value (run_entry_at w2 r kb.c since seen ents clock x h8 h9 hxm hinc.2)) ?_
  have hvE:VR j (.tuple #[(es[i]'hil).1,(es[i]'hil).2]) (.tuple #[x.key,x.val]):=.tuple' (LR.cons hky (LR.cons hvy (.nil j)));have h12:=h0.put (t':=((t.set e1 (.tuple #[.bool true,(es[i]'hil).1,(es[i]'hil).2])).set e2 (.bool true)).set f1 (.tuple #[(es[i]'hil).1,(es[i]'hil).2])) (dst:=oE.dst) hvE (by rw[hOE.2.1,cy,MG h14])
  rw[hOE.2.1] at h12 ⊢;have hdef3:(a0.put (some f1) (.tuple #[x.key,x.val])).defers=a.defers:=by rw[<-hdef2]; rfl
  have hst:=hstep S i _ t m hnd hSl hiS (MF hil) hinv;obtain⟨k0,t0,m5,h22,hX4⟩:=lg hst;have hrun3:=jN (ops:=ops3) (n:=n) (tf:=t0) (mf:=m5) (F:=F) (jU hE k0) hro.wide (Q:=Exit.then (fun a' w'=>X.wpIn F 0 E.P (Exit.inBlock B' (Exit.then (fun a' w'=>mz F 0 E.P (.seq (.region i2 #[oN,oX] false) (.seq (.cond (.tmp e2) .skip (.exit B)) (.block B' (.seq (.region i3 ops3 false) X)))) (fun e' a' w'=>∃S t' m',S.Perm (List.range es.length)/\Inv S t' m'/\jW E j0 mb w0 N n (.exit B) ((t'.set e1 (.tuple #[.bool false])).set e2 (.bool false)) m' e' a' w') a' w')
    (fun e' a' w'=>∃S t' m',S.Perm (List.range es.length)/\Inv S t' m'/\jW E j0 mb w0 N n (.exit B) ((t'.set e1 (.tuple #[.bool false])).set e2 (.bool false)) m' e' a' w'))) a' w')
    (Exit.inBlock B' (Exit.then (fun a' w'=>mz F 0 E.P (.seq (.region i2 #[oN,oX] false) (.seq (.cond (.tmp e2) .skip (.exit B)) (.block B' (.seq (.region i3 ops3 false) X)))) (fun e' a' w'=>∃S t' m',S.Perm (List.range es.length)/\Inv S t' m'/\jW E j0 mb w0 N n (.exit B) ((t'.set e1 (.tuple #[.bool false])).set e2 (.bool false)) m' e' a' w') a' w')
    (fun e' a' w'=>∃S t' m',S.Perm (List.range es.length)/\Inv S t' m'/\jW E j0 mb w0 N n (.exit B) ((t'.set e1 (.tuple #[.bool false])).set e2 (.bool false)) m' e' a' w')))) s1.mr a.defers ?_ rest 1 _ m j w2 (a0.put (some f1) (.tuple #[x.key,x.val])) (by rw[h3]; rfl) h22 (.refl s1.mr) h12 hdef3
  exact hrun3
  
  intro j3 w4 a1 s3 h23 h24;obtain⟨e0,t1,m4,⟨k1,h25⟩,h26,hinv5⟩:=hX4;subst h26;obtain⟨e3,t2,m8,h27,H6⟩:=jU hE k1 _ _ h25;cases h27;have m6:Marks N w4 a1.defers:=by rw[h24]; exact m3.B6 s1.mr s3
  refine wpIn_mono (H6 j3 w4 a1 F N s3.mr h23 (hro.mono s3.le) m6 (by have:=s3.size; omega)) ?_
  rintro e4 a2 w3 ⟨rfl,j2,s4,h28,m7⟩;have s2:Sim E j m w2 j2 m4 w3:=s3.trans s1.mr s4;have hk5':=hExt _ _ _ hinv5;have h29:∀b k,j b=some k->(m.get b).isSome=true->k.c≠r:=xb s1.mr h8;have h30:w3.heap[r]? = w2.heap[r]?:=s2.frame r (MI.1 h8).1 fun b k hb hl he=>MX he (h29 b k hb hl);have h31:w3.heap[kb.c]? = w2.heap[kb.c]?:=s2.frame kb.c (MI.1 h9).1 fun b k hb hl he=>by
   have:=s1.mr.inj b bm k kb hb hjm hl (by rw[hg]; rfl) he
   omega
  refine ih (S++[i]) _ t1 m4 j2 w3 a2 F ?_ ?_ ?_ hinv5 (s1.trans h17 s2) h28 ((hro.mono s3.le).mono s4.le) m7 (by have:=s2.size; omega) (s2.le _ _ hjr) (s2.le _ _ hjm) (her.mono s2.le)
   ⟨since,seen.push x.born,clock,by rw[h30]; exact h8,by rw[h31]; exact h9,i3',i4,i4,fun i' x' hx'=>?_,rfl⟩
  have:=left_shrinks ents seen x hx;omega
  exact List.nodup_append.2 ⟨hnd,by simp,fun p hp q hq=>by rw[NH] at hq; subst hq; exact fun e=>hiS (e▸hp)⟩
  intro p hp;rcases NW.1 hp with hp|hp
  exact hSl p hp
  rw[NH.1 hp]; exact hil
  have hcp:(seen.push x.born).contains x'.born=true↔(seen.contains x'.born=true\/x'.born=x.born):=by simp[Array.mem_push]
  rw[hcp,i0 i' x' hx',NW,NH];refine or_congr Iff.rfl ⟨fun e=>?_,fun e=>?_⟩
  have h13:(ents.toList.map (·.born))[i']? = some x'.born:=by rw[MP]; simp[hx']
  have h5:(ents.toList.map (·.born))[i]? = some x.born:=by rw[MP]; simp[hi']
  have hl':i'<(ents.toList.map (·.born)).length:=(ML.1 h13).1;exact(List.getElem_inj (h₀:=hl') (h₁:=(ML.1 h5).1) hinc.2).1 (by
   rw[(ML.1 h13).2,(ML.1 h5).2,e])
  subst e; rw[hi'] at hx'; cases hx'; rfl
end
section
variable{E:Env}{n:Nat}{fn:PU}{ro:PE Nat}
def MR.KD{j:aI}{m:PJ}{w:OS}(h:MR E j m w)(x:Nat):MR E j (m.ww x) w :=
 ⟨fun b k e=>by rw[PJ.next_ww]; exact h.lt b k e,fun b o k ho=>by rw[PJ.get_ww] at ho; exact h.obj b o k ho,fun b b' k k' e e'=>by rw[PJ.get_ww,PJ.get_ww]; exact h.inj b b' k k' e e',h.glob⟩
def I7{j j':aI}{m m':PJ}{w w':OS}{x:Nat}(s:Sim E j (m.ww x) w j' m' w'):Sim E j m w j' (m'.ww (min m.wl m'.wl)) w' where
 ext:=⟨by have:=s.ext.next; rwa[PJ.next_ww] at this ⊢,by rw[PJ.wl_ww]; omega,fun b hb hl=>by
  rw[PJ.wl_ww] at hl;have:=s.ext.same b (by rw[PJ.next_ww]; exact hb) (by omega)
  rwa[PJ.get_ww] at this ⊢,fun b hb hn=>by
  have:=s.ext.dead b (by rw[PJ.next_ww]; exact hb) (by rw[PJ.get_ww]; exact hn)
  rwa[PJ.get_ww]⟩
 le:=s.le
 new:=fun b k h h'=>by have:=s.new b k h h'; rwa[PJ.next_ww] at this
 mr:=s.mr.KD _
 size:=s.size
 full:=fun b h h' hl=>by
  rw[PJ.next_ww] at h';rw[PJ.get_ww] at hl;exact s.full b (by rw[PJ.next_ww]; exact h) h' hl
 away:=fun b hb hn=>by
  have:=s.away b (by rw[PJ.next_ww]; exact hb) hn
  rwa[PJ.get_ww] at this ⊢
 fresh:=fun b k h h'=>by
  rcases s.fresh b k h h' with hf|⟨b0,k0,a1,a2,a3,a4⟩
  exact .inl hf
  rw[PJ.get_ww] at a2;exact .inr ⟨b0,k0,a1,a2,a3,by rw[PJ.wl_ww]; omega⟩
 frame:=fun c hc H=>s.frame c hc fun b k hb hl he=>by
  rw[PJ.get_ww] at hl;have:=H b k hb hl he;rw[PJ.wl_ww] at this; omega
 calm:=s.calm
def lN(m:PJ):PJ:=((m.alloc (.cells [] .own)).kill m.next).ww (m.next+1)
def nE(m:PJ):(lN m).next=m.next+1:=by unfold lN; rw[PJ.next_ww,PJ.next_kill,PJ.next_alloc]
def AP(m:PJ):(lN m).wl=m.next+1:=by unfold lN; rw[PJ.wl_ww]
def ie(m:PJ)(b:Nat):(lN m).get b=if b=m.next then none else m.get b:=by
 unfold lN;rw[PJ.get_ww,PJ.fC,PJ.bg]
 split<;>rfl
def Ce{j:aI}{m:PJ}{w:OS}(h:MR E j m w)(o:Obj):Sim E j (m.ww (m.next+1)) w (j.set m.next ⟨w.heap.size,none⟩) (lN m) (w.alloc o):=by
 have hn:j m.next=none:=h.lf
 have hget:∀c,c<w.heap.size->(w.alloc o).heap[c]? = w.heap[c]?:=fun c hc=>by
  show(w.heap.push o)[c]? = w.heap[c]?
  rw[Ot,OV]
 refine⟨⟨by rw[PJ.next_ww,nE]; omega,by rw[PJ.wl_ww,AP]; omega,fun b hb _=>?_,fun b hb hd=>?_⟩,aI.mq _ hn,fun b k e e'=>?_,⟨fun b k e=>?_,fun b a k ha e=>?_,fun b b' k k' e e' hl hl' hc=>?_,fun g hg=>?_⟩,by rw[World.size_alloc]; omega,fun b hb hb' hl=>?_,fun b hb hj=>?_,fun b k e e'=>?_,fun c hc _=>hget c hc,⟨rfl,rfl,rfl,fun _=>MA _⟩⟩
 rw[PJ.next_ww] at hb;rw[ie,OV,PJ.get_ww]
 rw[PJ.next_ww] at hb;rw[PJ.get_ww] at hd;rw[ie,OV,hd]
 by_cases hb:b=m.next
 rw[hb,PJ.next_ww]; exact MA _
 rw[aI.bQ _ _ hb,e'] at e; cases e
 rw[nE,World.size_alloc]
 by_cases hb:b=m.next
 subst hb; rw[aI.cj] at e; cases e;exact⟨Nq _,Nq _⟩
 rw[aI.bQ _ _ hb] at e;exact⟨Nat.lt_succ_of_lt (h.lt b k e).1,Nat.lt_succ_of_lt (h.lt b k e).2⟩
 rw[ie] at ha
 split at ha
 cases ha
 rename_i hb;rw[aI.bQ _ _ hb] at e;obtain⟨o',h1,h2⟩:=h.obj b a k ha e;exact⟨o',by rw[hget _ (h.lt b k e).2]; exact h1,h2.mono (aI.mq _ hn)⟩
 rw[ie] at hl hl'
 split at hl
 cases hl
 rename_i hb
 split at hl'
 cases hl'
 rename_i hb';rw[aI.bQ _ _ hb] at e;rw[aI.bQ _ _ hb'] at e';exact h.inj b b' k k' e e' hl hl' hc
 have h1:=h.glob g hg;have hlt:=(h.lt g _ h1).1;rw[aI.bQ _ _ (by omega)]; exact h1
 rw[PJ.next_ww] at hb;rw[nE] at hb';rw[ie,OW] at hl
 cases hl
 rw[PJ.next_ww] at hb;rw[ie,OV,PJ.get_ww]
 by_cases hb:b=m.next
 subst hb; rw[aI.cj] at e; cases e;exact .inl (MA _)
 rw[aI.bQ _ _ hb,e'] at e; cases e
end
end Go.Ab
namespace Go.Ab.W
open Go Go.Ab
attribute [local irreducible] Tm.at Trie.set Trie.get PJ.get PJ.set PJ.alloc PJ.ww PJ.kill
def vP(F:Func):Code:=match F.body with
 | some c=>c
 | none=>.skip
def LH:Nat->Code->Code
 | k+1,.seq _ b=>LH k b
 | _,c=>c
section
variable{E:Env}{n:Nat}{m0:PJ}{fs fs':Fs}{ps ps':PM Pc}{fn:PU}{ro:PE Nat}{Q:PK->Tm->PJ->Prop}{a b c:Code}
def Vk(E:Env)(n:Nat)(fn:PU)(ro:PE Nat)(c:Code)(Q:PK->Tm->PJ->Prop)(m0:PJ)(fs:Fs)(ps:PM Pc):Prop:=∀t m,Fr t fs->Hp m0 m ps->cM E n fn ro c Q t m
def Vk.seq(hE:EnvOk E)(h:Wk E n fn ro a (j9 (cM E n fn ro b Q) Q) m0 fs ps):Vk E n fn ro (.seq a b) Q m0 fs ps:=fun t m hf hm=>.seq hE (h t m hf hm)
def Vk.of(hE:EnvOk E)(h:Wk E n fn ro c Q m0 fs ps):Vk E n fn ro c Q m0 fs ps:=fun t m hf hm=>.of hE (h t m hf hm)
def At.LD(h:Vk E n fn ro b Q m0 fs ps):At (j9 (cM E n fn ro b Q) Q) .normal m0 fs ps:=h
def Vk.cG(hs:sub fs fs')(h:ah m0 ps ps')(k:Vk E n fn ro c Q m0 fs' ps'):Vk E n fn ro c Q m0 fs ps:=fun t m hf hm=>k t m (hf.sub hs) (h m hm)
def lT(E:Env)(f:PU)(args:PM ON)(m:PJ)(R:ON->PJ->Prop):Prop:=∀(j:aI) (w:OS) (args':PM ON),MR E j m w->LR j args args'->dL E.P false f args'.toArray w (fun v' w'=>∃v1 m1,R v1 m1/\fo E j m w v1 m1 v' w')
def xA(hE:EnvOk E){f:PU}{F:Func}{args:PM ON}{rs:PM ResultVar}{N:Nat}{R:ON->PJ->Prop}{m:PJ}(hf:E.P.funcs[f]? = some F)(hb:F.body=some c)(hrs:F.results.toList=rs)(hN:max args.length F.ntmps=N)
  (h:cM E N f none c (mM E rs R) (Trie.ofList args 0 .nil) m):lT E f args m R:=fun j w args' hm hl=>by
 subst hrs hN;refine .inl ⟨hE.call f F c hf hb _ w,?_⟩;refine callsIn_of_wp_marks hf hb trivial ?_;refine wpIn_mono (h j w { tmps:=args'.toArray++OE (F.ntmps-args'.toArray.size) undef,defers:=[]} Fence.wide w.heap.size hm (TR.enter hl F.ntmps) rfl (Marks.nil _ _) (MA _)) ?_;rintro e' a' w' ⟨e,t',m',hq,rfl,j',s,ht,rs,hnd,hds,hrs⟩;have key:∀{vs:PM ON},bX E t' m' F.results.toList=some vs->R (fR vs) m'->LeavesInM Fence.wide 0 E.P F a'.tmps (fun e w'=>∃v,e=.returned v/\∃v1 m1,R v1 m1/\fo E j m w v1 m1 v w') a'.defers .returning w':=by
  intro vs hvs hR;rw[hds];refine jQ (fun w'' s'=>?_) rs w' s hnd hrs;obtain⟨v',hv1,hv2⟩:=oP s'.mr ht hvs;exact⟨v',hv1,v',rfl,fR vs,m',hR,j',s',hv2⟩
 cases e with
 | exit id=>exact hq.elim
 | normal =>
  simp only[mM] at hq;unfold uR at hq
  split at hq
  rename_i vs hv; exact key hv hq
  exact hq.elim
 | ret =>
  simp only[mM] at hq;unfold uR at hq
  split at hq
  rename_i vs hv; exact key hv hq
  exact hq.elim
def EW(hE:EnvOk E){f:PU}{F:Func}{args:PM ON}{rs:PM ResultVar}{N:Nat}{R:ON->PJ->Prop}{m:PJ}(hf:E.P.funcs[f]? = some F)(hb:F.body=some c)(hrs:F.results.toList=rs)(hN:max args.length F.ntmps=N)(hm:Hp m0 m ps)
  (h:Vk E N f none c (mM E rs R) m0 (wT args 0 []) ps):lT E f args m R:=xA hE hf hb hrs hN (h _ m (Fr.args args 0 [] _ (Fr.nil _)) hm)
def yi{f:PU}{args:PM ON}{m:PJ}{v:ON}{m':PJ}(h:lT E f args { m with wl:=m.next} fun v1 m1=>Grown m m1 /\
  ((bu v=true/\v1=v/\m'=m)\/∃R b1 cs tag,KI R/\v1=R b1/\v=R m.next/\m.next<=b1/\b1<m1.next/\m1.get b1=some (.cells cs tag)/\cs.all aM=true/\m'=m.alloc (.cells cs tag))) (pr:Bool) {j:aI} {w:OS} {args':PM ON} (hm:MR E j m w) (hl:LR j args args'):dL E.P pr f args'.toArray w (fo E j m w v m'):=by
 refine cq (fun h=>by cases h) (h j w args' (MR.sC hm) hl) ?_
 rintro v' w' ⟨v1,m1,⟨hg,hc⟩,j',s,hv⟩;rcases hc with⟨hpv,rfl,rfl⟩|⟨R,b1,cs,tag,hR,rfl,rfl,hb,hb1,ho,hpl,rfl⟩
 exact⟨j,Sim.forget hm s hg,VR.kX hpv hv⟩
 obtain⟨k1,hk1⟩:=s.full b1 hb hb1 (by rw[ho]; rfl)
 exact⟨_,Sim.born hm s hg hb hk1 ho hpl,hR _ _ _ _ _ _ hk1 (aI.cj _ _ _) hv⟩
end
section
variable{α:Type}{m0 m:PJ}{ps:PM Pc}{r:Rep α}
end
section
variable{α:Type}{r:Rep α}{o:Orp r}{E:Env}{n:Nat}{m0 m:PJ}{fs:Fs}{ps:PM Pc}{dr:Bool}{ops:PO Oper}{K:Tm->PJ->Prop}{os:PM Oper}{prs:PM (Nat×Nat)}{ss:PM Nk}{ty:OO}
end
section
variable{α β:Type}{r:Rep α}{o:Orp r}{E:Env}{n:Nat}{m0 m:PJ}{fs:Fs}{ps qs:PM Pc}{dr:Bool}{ops:PO Oper}{K:Tm->PJ->Prop}{os:PM Oper}{prs:PM (Nat×Nat)}{ss:PM Nk}{ty:OO}{Q:PK->Tm->PJ->Prop}
end
section
variable{α β:Type}[DecidableEq α]
end
section
variable{α β:Type}[DecidableEq α]{E:Env}{m0 m:PJ}{fs:Fs}{ps:PM Pc}{r:Rep β}{kE:α->ON}
variable{x y z:OP}{ty:OO}
end
end Go.Ab.W
namespace Go.Ab
section
open Go
section
variable{E:Env}{j j1:aI}{m m1:PJ}{w w1:OS}
end
namespace W
end W
end
section
open Go
attribute [local irreducible] PJ.get PJ.set PJ.alloc PJ.ww PJ.kill
def PJ.fU(m:PJ):PM PL->PJ
 | []=>m
 | o::os=>(m.alloc o).fU os
def gB:∀(os:PM PL) (m:PJ),(m.fU os).next=m.next+os.length
 | [],m=>rfl
 | o::os,m=>by rw[PJ.fU,gB os,PJ.next_alloc,Ni]; omega
def td:∀(os:PM PL) (m:PJ),(m.fU os).wl=m.wl
 | [],m=>rfl
 | o::os,m=>by rw[PJ.fU,td os,PJ.wl_alloc]
def dm:∀(os:PM PL) (m:PJ) {b:Nat},(b<m.next\/m.next+os.length<=b)->(m.fU os).get b=m.get b
 | [],m,b,_=>rfl
 | o::os,m,b,h=>by
  rw[Ni] at h;rw[PJ.fU,dm os (m.alloc o) (by rw[PJ.next_alloc]; omega),PJ.bg,OV]
def th:∀(os:PM PL) (m:PJ) (i:Nat),i<os.length->(m.fU os).get (m.next+i)=os[i]?
 | [],m,i,h=>by simp at h
 | o::os,m,0,h=>by rw[PJ.fU,dm os (m.alloc o) (by rw[PJ.next_alloc]; omega),PJ.bg,NA,MG rfl]; rfl
 | o::os,m,i+1,h=>by
  have:=th os (m.alloc o) i (by simpa using h)
  rw[PJ.next_alloc,show m.next+1+i=m.next+(i+1) by omega] at this
  rw[PJ.fU,this]; rfl
inductive TV where
 | v (x:ON)
 | s (i:Nat)
abbrev Bz:=PM (PM TV×Nat)
def Bz.n(T:Bz)(i:Nat):Nat:=match T[i]? with
 | some x=>x.1.length/x.2
 | none=>0
def TV.inst(T:Bz)(a:Nat->Nat):TV->ON
 | .v x=>x
 | .s i=>.slice (some ⟨a i,0,none⟩) (T.n i) (T.n i)
def TV.ok(n:Nat):TV->Bool
 | .v x=>bu x
 | .s i=>Nat.blt i n
def Bz.ok(T:Bz):Prop:=∀x∈T,0<x.2/\x.1.length=x.1.length/x.2*x.2/\x.1.length/x.2<=9223372036854775807/\x.1.all (TV.ok T.length)=true
def Bz.bT(T:Bz)(a:Nat->Nat):PM PL:=T.map fun x=>.cells (x.1.map (TV.inst T a)) (.more x.2)
def kH(k:Blk)(sz len:Nat):Blk:=match k.more with
 | none=>⟨k.c,some (sz,len,len)⟩
 | some _=>k
def kB(k:Blk)(sz len:Nat):(kH k sz len).c=k.c:=by unfold kH; split<;>rfl
def CG{k:Blk}{sz n:Nat}{tag:Tag}(ht:tag=.own\/tag=.more sz)(hsz:0<sz)(hn:n<=9223372036854775807){c:PO ON}{fz:Nat×Nat}(h:nm k tag (n*sz) c fz):nm (kH k sz (n*sz)) (.more sz) (n*sz) c fz:=by
 rcases ht with rfl|rfl
 obtain⟨t1,t2,rfl⟩:k.more=none/\c.size=n*sz/\fz=(0,0):=h;unfold kH;rw[t1];refine⟨by rw[t2],by rw[t2]; exact MA _,rfl,hsz,?_⟩
 unfold mn;rw[t2,M9]; exact Np _ hn
 have:k.more=some (sz,n*sz,c.size):=h.1;unfold kH;rw[this]; exact h
section
variable{E:Env}{j j1:aI}{m m1:PJ}{w w1:OS}
def TV.move{T:Bz}(hT:T.ok){j1 j2:aI}{a a2:Nat->Nat}{tg:Nat->Tag}{cf:Nat->PO ON ×(Nat×Nat)}(hj:∀i x,T[i]? = some x->∃k,j1 (a i)=some k/\j2 (a2 i)=some (kH k x.2 x.1.length)/\(tg i=.own\/tg i=.more x.2)/\nm k (tg i) x.1.length (cf i).1 (cf i).2){x:TV}(hx:x.ok T.length=true){v':ON}(h:VR j1 (x.inst T a) v'):VR j2 (x.inst T a2) v':=by
 cases x with
 | v x =>
  exact VR.kX hx h
 | s i =>
  have hi:i<T.length:=MD hx;have e:=MF hi;generalize T[i]=y at e;obtain⟨k,h1,h2,h3,h4⟩:=hj i y e;obtain⟨o1,o2,o3,o4⟩:=hT y (M5 e);have en:T.n i=y.1.length/y.2:=by unfold Bz.n; rw[e]
  have h:VR j1 (.slice (some ⟨a i,0,none⟩) (T.n i) (T.n i)) v':=h
  show VR j2 (.slice (some ⟨a2 i,0,none⟩) (T.n i) (T.n i)) v'
  rw[en] at h ⊢;cases h with
  | slice e' hm =>
   rw[h1] at e'; cases e';have z:VR j2 (.slice (some ⟨a2 i,0,none⟩) (y.1.length/y.2) (y.1.length/y.2)) (.slice (some ⟨(kH k y.2 y.1.length).c,0,none⟩) (y.1.length/y.2) (y.1.length/y.2)) :=
    .sliceM h2 (by unfold kH; rw[hm]) (by rw[NA]; exact o2.symm) (by rw[NA]; exact o2.symm) (MA _) (MA _)
   rwa[kB] at z
  | sliceM e' hm a1 a2 hl hc =>
   rw[h1] at e'; cases e';have:kH k y.2 y.1.length=k:=by unfold kH; rw[hm]
   rw[this] at h2;exact .sliceM h2 hm a1 a2 hl hc
end
namespace W
end W
end
section
open Go
attribute [local irreducible] Tm.at Trie.set Trie.get PJ.get PJ.set PJ.alloc PJ.ww PJ.kill
section
variable{E:Env}{n:Nat}{ops:PO Oper}{K K':Tm->PJ->Prop}{t:Tm}{m:PJ}
def eS(E:Env)(n:Nat)(ops:PO Oper)(K:Tm->PJ->Prop)(os:PM Oper)(t:Tm)(m:PJ):Prop :=
 ∀(i:Nat) (F:Fence) (j0:aI) (m0:PJ) (w0:OS) (ds:PM Deferred) (Q:Exit->Act->OS->Prop) (j:aI) (w:OS) (a:Act),jh F->MR E j0 m0 w0->ops.toList.drop i=os->Sim E j0 m0 w0 j m w->TR n j t a.tmps->a.defers=ds ->
  (∀t' m' j' w' a',K t' m'->Sim E j0 m0 w0 j' m' w'->TR n j' t' a'.tmps->a'.defers=ds->Q .normal a' w')->wpOpsIn F 0 E.P ops Q (List.range' i (ops.size-i)) a w
def eS.nil(h:K t m):eS E n ops K [] t m:=fun i F j0 m0 w0 ds Q j w a hF h0 hd s ht hds hQ=>by
 have hlen:ops.size<=i:=by
  have:=NS List.length hd;simp at this; omega
 rw[show ops.size-i=0 by omega]
 exact hQ t m j w a h s ht hds
def lh{os:PM Oper}{o:Oper}{i:Nat}(hd:ops.toList.drop i=o::os):ops[i]? = some o/\ops.toList.drop (i+1)=os/\List.range' i (ops.size-i)=i::List.range' (i+1) (ops.size-(i+1)):=by
 have hlt:i<ops.size:=by
  have:=NS List.length hd;simp at this; omega
 refine⟨by have:=NS (·[0]?) hd; simpa [NO] using this,by rw[<-On,hd]; rfl,?_⟩
 rw[show ops.size-i=(ops.size-(i+1))+1 by omega]; rfl
def eS.op(hE:EnvOk E){o:Oper}{os:PM Oper}(hw:aT ops o t=true)(h:iL E t m o.op fun v m'=>∃t',fQ n t o.dst v=some t'/\eS E n ops K os t' m'):eS E n ops K (o::os) t m:=fun i F j0 m0 w0 ds Q j w a hF h0 hd s ht hds hQ=>by
 obtain⟨ho,hd',hidx⟩:=lh hd;obtain⟨v,m',⟨k,he⟩,t',hp,hk⟩:=h;rw[hidx];simp only[wpOpsIn,ho,iW ht];rw[MG hw];refine tq (jU hE k) s.mr ht he hF ?_;rintro v' w' ⟨j',s',hv⟩;exact hk (i+1) F j0 m0 w0 ds Q j' w' _ hF h0 hd' (s.trans h0 s') ((ht.mono s'.le).put hv hp) (by cases hds':o.dst<;>simp[Act.put,hds]) hQ
def eS.not{o:Oper}{os:PM Oper}(hw:aT ops o t=false){t':Tm}(hp:fQ n t o.dst undef=some t')(h:eS E n ops K os t' m):eS E n ops K (o::os) t m:=fun i F j0 m0 w0 ds Q j w a hF h0 hd s ht hds hQ=>by
 obtain⟨ho,hd',hidx⟩:=lh hd;rw[hidx];simp only[wpOpsIn,ho,iW ht];rw[ME (by rw[hw]; exact NI)]
 exact⟨fun f _=>hF.fn f,h (i+1) F j0 m0 w0 ds Q j w _ hF h0 hd' s (ht.put (VR.undef j) hp) (by cases hds':o.dst<;>simp[Act.put,hds]) hQ⟩
def eS.Kz{o:Oper}{os:PM Oper}{c:Call}{fv:OP}{g:PU}{vs:PM ON}{R:ON->PJ->Prop}(hw:aT ops o t=true)(hop:o.op=.call c)(hc:c.callee=.value fv)(hf:au E t fv=some (.func (.func g) #[] #[]))(ha:bI E t c.args.toList=some vs)(h:W.lT E g vs m R)(hk:∀v m',R v m'->∃t',fQ n t o.dst v=some t'/\eS E n ops K os t' m'):eS E n ops K (o::os) t m:=fun i F j0 m0 w0 ds Q j w a hF h0 hd s ht hds hQ=>by
 obtain⟨ho,hd',hidx⟩:=lh hd;rw[hidx];simp only[wpOpsIn,ho,iW ht];rw[MG hw];have hfv:=aF s.mr ht hf;generalize hfe:a.eval fv=fv' at hfv;cases hfv with
 | func h1 h2 h3 h4 =>
  rename_i ys ds';have ey:ys=#[]:=Ol h1.symm;have ed:ds'=#[]:=Ol h3.symm;subst ey ed;have hl:LR j vs (c.args.toList.map a.eval):=ee s.mr ht ha;have hcs:=h j w _ s.mr hl;have harr:(c.args.toList.map a.eval).toArray=#[]++c.args.map a.eval++#[]:=by apply Nd.1; simp
  rw[harr] at hcs;have hexec:execOp a.eval o=(do let d <-resolve a.eval c o.type; invoke d.target d.args):=by simp only[execOp,hop]
  have hrun:(execOp a.eval o).run E.P w=(callFunc g (#[]++c.args.map a.eval++#[])).run E.P w:=by
   rw[hexec];simp only[resolve,hc,hfe,Deferred.ofValue,PR,PS,PQ,invoke]
  refine Does.wpIn hF (fun c' e=>by rw[hop] at e; cases e) (G:=fun v' w'=>∃v1 m1,R v1 m1/\fo E j m w v1 m1 v' w') ?_ ?_
  rcases hcs with⟨hr,hci⟩|⟨_,v',w',hr,hq⟩
  exact .inr (.inl ⟨_,_,hrun.trans hr,hci⟩)
  exact .inl ⟨v',w',.inl (hrun.trans hr),hq⟩
  rintro v' w' ⟨v1,m1,hR,j',s',hv⟩;obtain⟨t',hp,hk⟩:=hk v1 m1 hR;exact hk (i+1) F j0 m0 w0 ds Q j' w' _ hF h0 hd' (s.trans h0 s') ((ht.mono s'.le).put hv hp) (by cases hds':o.dst<;>simp[Act.put,hds]) hQ
def eS.pre(hE:EnvOk E){post:PM Oper}:∀{os:PM Oper} {t:Tm} {m:PJ},ir E n ops (fun t m=>eS E n ops K post t m) os t m->eS E n ops K (os++post) t m
 | [],t,m,h=>h
 | o::os,t,m,h=>by
  simp only[ir] at h
  split at h
  rename_i hw;obtain⟨v,m1,h1,t1,hp,h2⟩:=h;exact eS.op hE hw ⟨v,m1,h1,t1,hp,eS.pre hE h2⟩
  rename_i hw;obtain⟨t1,hp,h2⟩:=h;exact eS.not (Bool.eq_false_iff.2 hw) hp (eS.pre hE h2)
def eS.of(hE:EnvOk E){os:PM Oper}(h:ir E n ops K os t m):eS E n ops K os t m:=by
 have:∀(os:PM Oper) (t:Tm) (m:PJ),ir E n ops K os t m->ir E n ops (fun t m=>eS E n ops K [] t m) os t m:=by
  intro os
  induction os with
  | nil=>intro t m h; exact eS.nil h
  | cons o os ih =>
   intro t m h;simp only[ir] at h ⊢
   split at h
   rename_i hw;obtain⟨v,m1,h1,t1,hp,h2⟩:=h;rw[MG hw];exact⟨v,m1,h1,t1,hp,ih _ _ h2⟩
   rename_i hw;obtain⟨t1,hp,h2⟩:=h;rw[ME hw];exact⟨t1,hp,ih _ _ h2⟩
 have:=eS.pre hE (this os t m h);rwa[NX] at this
variable{fn:PU}{ro:PE Nat}{Q:PK->Tm->PJ->Prop}
def cM.region{id:Nat}(h:eS E n ops (Q .normal) ops.toList t m):cM E n fn ro (.region id ops false) Q t m:=fun j w a F N hm ht hro hd hN=>by
 refine wpIn_region ?_;have:=h 0 F j m w a.defers (fun e' a' w'=>∃e t' m',Q e t' m'/\jW E j m w N n e t' m' e' a' w') j w a hro.wide hm rfl (.refl hm) ht rfl fun t' m' j' w' a' hq s ht' hds=>⟨.normal,t',m',hq,rfl,j',s,ht',by rw[hds]; exact hd.B6 hm s⟩
 rwa[Nat.sub_zero,<-List.range_eq_range'] at this
def cM.cond{x:OP}{c:Bool}{a b:Code}(hx:au E t x=some (.bool c))(ht:c=true->cM E n fn ro a Q t m)(hf:c=false->cM E n fn ro b Q t m):cM E n fn ro (.cond x a b) Q t m:=fun j w a' F N hm ht' hro hd hN=>by
 have hv:=aF hm ht' hx;generalize hfe:a'.eval x=v at hv;cases hv;cases c with
 | true=>exact wpIn_cond_true hfe (ht rfl j w a' F N hm ht' hro hd hN)
 | false=>exact wpIn_cond_false hfe (hf rfl j w a' F N hm ht' hro hd hN)
namespace W
section
variable{m0:PJ}{fs:Fs}{ps:PM Pc}{os:PM Oper}{a b:Code}
def Vn(E:Env)(n:Nat)(ops:PO Oper)(K:Tm->PJ->Prop)(os:PM Oper)(m0:PJ)(fs:Fs)(ps:PM Pc):Prop:=∀t m,Fr t fs->Hp m0 m ps->eS E n ops K os t m
def Vn.of(hE:EnvOk E)(h:Wo false E n ops K os m0 fs ps):Vn E n ops K os m0 fs ps:=fun t m hf hm=>.of hE (jg (h t m hf hm))
def Vn.pre(hE:EnvOk E){post:PM Oper}(h:Wo false E n ops (fun t m=>eS E n ops K post t m) os m0 fs ps):Vn E n ops K (os++post) m0 fs ps:=fun t m hf hm=>.pre hE (jg (h t m hf hm))
def Wo.LS{dr:Bool}{K:Tm->PJ->Prop}{post:PM Oper}(h:Vn E n ops K post m0 fs ps):Wo false E n ops (fun t m=>eS E n ops K post t m) [] m0 fs ps:=fun t m hf hm=>h t m hf hm
def Vk.region{id:Nat}(h:Vn E n ops (Q .normal) ops.toList m0 fs ps):Vk E n fn ro (.region id ops false) Q m0 fs ps:=fun t m hf hm=>.region (h t m hf hm)
def Vk.BD(h:Vk E n fn ro a (j9 (cM E n fn ro b Q) Q) m0 fs ps):Vk E n fn ro (.seq a b) Q m0 fs ps:=fun t m hf hm=>.BD (h t m hf hm)
end
end W
end
end
end Go.Ab
namespace Go.Ab.W
open Go Go.Ab
attribute [local irreducible] Tm.at Trie.set Trie.get PJ.get PJ.set PJ.alloc PJ.ww PJ.kill
section
variable{P:OQ}{ty el:OO}{k:IntKind}
end
abbrev L4:=Int×Int×Int×Int×Int×Int×Int×Int×Int×Int×Int×Int
def J0:L4->PM Int
 |(a,b,c,d,e,f,g,h,i,j,k,l)=>[a,b,c,d,e,f,g,h,i,j,k,l]
def Gw{p q:L4}(h:J0 p=J0 q):p=q:=by
 obtain⟨a,b,c,d,e,f,g,i,j,k,l,m⟩:=p;obtain⟨a',b',c',d',e',f',g',i',j',k',l',m'⟩:=q;simp only[J0,List.cons.injEq,and_true] at h;obtain⟨h1,h2,h3,h4,h5,h6,h7,h8,h9,h10,h11,h12⟩:=h;subst h1 h2 h3 h4 h5 h6 h7 h8 h9 h10 h11 h12; rfl
instance:DecidableEq L4:=fun p q=>decidable_of_iff (J0 p=J0 q) ⟨Gw,NS J0⟩
variable{E:Env}{m0:PJ}{fs:Fs}{ps:PM Pc}{ty:OO}
end Go.Ab.W
namespace Go.Ab
open Go
open Go.ChangeMaps (setBlock)
section
variable{E:Env}{n:Nat}{fn:PU}{ro:PE Nat}
def cM.B3(hE:EnvOk E)(hmono:¬E.mono){B B' i1 i2 i3:Nat}{o1 o2 oN oX oE:Oper}{rest:PM Oper}{ops3:PO Oper}{X:Code}{d1 d2 e1 e2 f1:Tmp}{mt kt et:OO}
  (h1:o1.dst=some d1/\o1.guard=none) (h2:o2.op=.range mt (.tmp d1)/\o2.dst=some d2/\o2.guard=none) (hmt:E.P.underlying mt=some (.map kt et))
  (hN:oN.op=.next (.tmp d2) false/\oN.dst=some e1/\oN.guard=none) (hX:oX.op=.extract (.tmp e1) 0/\oX.dst=some e2/\oX.guard=none) (hOE:oE.op=.entry (.tmp d2)/\oE.dst=some f1/\oE.guard=none) (h3:ops3.toList=oE::rest)
  (hb:d1<n/\d2<n/\e1<n/\e2<n/\f1<n) (h6:e1≠d2) (h7:e2≠d2) (h8:f1≠d2)
  {Q:PK->Tm->PJ->Prop} {t:Tm} {m:PJ} {bm:Nat} {es:PM (ON×ON)} (hld:cD E t m o1.op=some (.map (some bm),m)) (hbm:m.get bm=some (.map es)) {lim:Nat} (hbl:bm<lim) (hlim:lim<=m.next)
  (Inv:PM Nat->Tm->PJ->Prop) (hExt:∀S t' m',Inv S t' m'->m'.get bm=some (.map es)/\lim<=m'.wl/\t'.at d2=ptr m.next 0)
  (hinit:Inv [] ((t.set d1 (.map (some bm))).set d2 (ptr m.next 0)) (lN m))
  (hstep:∀S i e t m,S.Nodup->(∀i∈S,i<es.length)->i∉S->es[i]? = some e->Inv S t m->ir E n ops3 (fun t' m'=>bp E n fn ro X (fun e' t'' m''=>e'=.normal/\Inv (S++[i]) t'' m'') t' m') rest (((t.set e1 (.tuple #[.bool true,e.1,e.2])).set e2 (.bool true)).set f1 (.tuple #[e.1,e.2])) m)
  (hend:∀S t' m',S.Perm (List.range es.length)->Inv S t' m'->Q .normal ((t'.set e1 (.tuple #[.bool false])).set e2 (.bool false)) (m'.ww (min m.wl m'.wl))) :
  cM E n fn ro (.seq (.region i1 #[o1,o2] false) (.block B (.loop (.seq (.region i2 #[oN,oX] false) (.seq (.cond (.tmp e2) .skip (.exit B)) (.block B' (.seq (.region i3 ops3 false) X))))))) Q t m:=fun j w a F N hm ht hro hmk hNw=>by
 refine wpIn_seq (wpIn_region ?_);have hlist:List.range (#[o1,o2]:PO Oper).size=[0,1]:=rfl;rw[hlist];have w0':Region.wanted o1 (yielded #[o1,o2] a.tmps)=true:=by simp[Region.wanted,h1.2]
 have g0:(#[o1,o2]:PO Oper)[0]? = some o1:=rfl;have g1:(#[o1,o2]:PO Oper)[1]? = some o2:=rfl;simp only[wpOpsIn,g0,g1,w0',if_true];obtain⟨j1,w1,v0,q0,s1,q1⟩:=El hm ht (o:=o1) hld;refine cH hro.wide (kI hld) q0 ?_;cases q1 with
 | map hj =>
 rename_i kb;obtain⟨oo,hh,hor⟩:=s1.mr.obj bm _ kb hbm hj;cases oo with
 | map ents clock =>
  have h0:=(ht.mono s1.le).put (t':=t.set d1 (.map (some bm))) (dst:=o1.dst) (VR.map hj) (by rw[h1.1,cy,MG hb.1])
  rw[h1.1] at h0 ⊢;have w1':Region.wanted o2 (yielded #[o1,o2] (a.put (some d1) (.map (some kb.c))).tmps)=true:=by simp[Region.wanted,h2.2.2]
  rw[MG w1'];have hsz:a.tmps.size=n:=ht.1;have h9:execOp (a.put (some d1) (.map (some kb.c))).eval o2=(do pure (.value (<-Instr.range mt (.map (some kb.c))))):=by
   simp only[execOp,h2.1];rw[eval_put (v:=.map (some kb.c)) (d:=d1) (a:=a) (hsz.symm▸hb.1)]
  have hd2':∀c,o2.op≠.defer c:=fun c e=>by rw[h2.1] at e; cases e
  refine cH hro.wide hd2' (by rw[h9]; exact jO.value (run_range_map w1 mt kt et kb.c ents clock hmt hh)) ?_
  have s2:=Ce s1.mr (.mapIter (some kb.c) clock #[] clock);have h4:(j1.set m.next ⟨w1.heap.size,none⟩) m.next=some ⟨w1.heap.size,none⟩:=aI.cj _ _ _
  have h5:=(h0.mono s2.le).put (t':=(t.set d1 (.map (some bm))).set d2 (ptr m.next 0)) (dst:=o2.dst) (v:=ptr m.next 0) (v':=.pointer (some ⟨w1.heap.size,0,none⟩)) (VR.ptr h4) (by rw[h2.2.1,cy,MG hb.2.1])
  rw[h2.2.1] at h5 ⊢;have m3:Marks N (w1.alloc (.mapIter (some kb.c) clock #[] clock)) a.defers:=(hmk.B6 hm s1).B6 (s1.mr.KD (m.next+1)) s2
  have hsize:w1.heap.size<(w1.alloc (.mapIter (some kb.c) clock #[] clock)).heap.size:=by rw[World.size_alloc]; omega
  have hcl:kb.c<w1.heap.size:=(MI.1 hh).1;have hit:KO (w1.alloc (.mapIter (some kb.c) clock #[] clock)) w1.heap.size kb.c ents clock [] (leftOf ents #[]).size :=
   ⟨clock,#[],clock,by show(w1.heap.push _)[w1.heap.size]? = _; simp,by show(w1.heap.push _)[kb.c]? = _; rw[Ot,OV]; exact hh,hor.2.1,MA _,MA _,fun i x hx=>by simp,rfl⟩
  refine wpIn_block (kF ?_);have hL:=DF (fn:=fn) (B:=B) (B':=B') (i2:=i2) (i3:=i3) (X:=X) hE hmono hN hX hOE h3 hb.2.2.1 hb.2.2.2.1 hb.2.2.2.2 h6 h7 h8 (s1.mr.KD (m.next+1)) (bm:=bm) (bi:=m.next) (es:=es) (lim:=lim) (by rw[PJ.get_ww]; exact hbm) hbl Inv hExt hstep (MA _) (kb:=kb) (ents:=ents) (clock:=clock) hor.2 a.defers N _ [] _ _ (lN m) _ _ (((a.put (some d1) (.map (some kb.c))).put (some d2) (.pointer (some ⟨w1.heap.size,0,none⟩)))) F (Nq _) List.nodup_nil (fun i h=>by cases h) hinit s2 h5 ((hro.mono s1.le).mono s2.le) m3 (by have:=s1.size; omega) h4 (s2.le _ _ hj) (hor.1.mono s2.le) hit
  intro bF k cs h10 h11 h12;obtain⟨e',a',w',⟨S,t',m',hS,hI,hq⟩,harr⟩:=hL bF k cs h10 h11 h12;obtain⟨rfl,jf,sf,tf,mf⟩:=hq;refine⟨_,a',w',?_,harr⟩
  show Exit.inBlock B _ (.exit B) a' w'
  simp only[Exit.inBlock,if_true];exact⟨.normal,_,_,hend S t' m' hS hI,rfl,jf,s1.trans hm (I7 sf),tf,mf⟩
 | _=>exact hor.elim
end
def cM.block{E:Env}{n:Nat}{fn:PU}{ro:PE Nat}{Q:PK->Tm->PJ->Prop}{t:Tm}{m:PJ}{id:Nat}{c:Code}(h:cM E n fn ro c (dR id Q) t m):cM E n fn ro (.block id c) Q t m:=fun j w a F N hm ht hro hd hN=>by
 refine wpIn_block (wpIn_mono (h j w a F N hm ht hro hd hN) ?_);rintro e' a' w' ⟨e,t',m',q,hc⟩;obtain⟨rfl,hc⟩:=hc;cases e with
 | normal=>exact⟨.normal,t',m',q,rfl,hc⟩
 | ret=>exact⟨.ret,t',m',q,rfl,hc⟩
 | exit k =>
  simp only[dR] at q
  show Exit.inBlock id _ (.exit k) a' w'
  simp only[Exit.inBlock]
  split at q
  rename_i e; rw[MG e]; exact⟨.normal,t',m',q,rfl,hc⟩
  rename_i e; rw[ME e]; exact⟨.exit k,t',m',q,rfl,hc⟩
structure FunN where
 run:PM ON->PJ->(ON->PJ->Bool)->Bool
def JU(E:Env)(ND:PU->PE FunN):Prop:=∀{g:PU} {S:FunN},ND g=some S->∀{args:PM ON} {m:PJ} {K:ON->PJ->Bool},S.run args m K=true->W.lT E g args m fun v m'=>K v m'=true
def pQ(ND:PU->PE FunN)(o:Op):PE (FunN×PM OP) :=
 match o with
 | .call c=>match c.callee with
  | .value (.func g)=>match ND g with
   | some S=>some (S,c.args.toList)
   | none=>none
  | _=>none
 | _=>none
def uE{ND:PU->PE FunN}{o:Op}{S:FunN}{ars:PM OP}(h:pQ ND o=some (S,ars)):∃c g,o=.call c/\c.callee=.value (.func g)/\ND g=some S/\c.args.toList=ars:=by
 unfold pQ at h
 split at h
 rename_i c
 split at h
 rename_i g hc
 split at h
 rename_i S' hS;cases h;exact⟨c,g,rfl,hc,hS,rfl⟩
 cases h
 cases h
 cases h
noncomputable def yT (E:Env) (n:Nat) (ops:PO Oper) (ND:PU->PE FunN):PM Oper->RegSem
 | []=>⟨fun _ t m K=>K t m⟩
 | o::os=>match o.guard with
  | none=>match pQ ND o.op with
   | some (S,ars)=>⟨fun H t m K=>(sS E ars).run t fun args=>S.run args m fun v m=>(jr n o.dst).run t v fun t=>(yT E n ops ND os).run H t m K⟩
   | none=>⟨fun H t m K=>(lP E o.op).run H t m fun v m=>(jr n o.dst).run t v fun t=>(yT E n ops ND os).run H t m K⟩
  | some _=>⟨fun H t m K=>(mu ops o).run t ((lP E o.op).run H t m fun v m=>(jr n o.dst).run t v fun t=>(yT E n ops ND os).run H t m K) ((jr n o.dst).run t undef fun t=>(yT E n ops ND os).run H t m K)⟩
def nh{E:Env}(hE:EnvOk E){H:Hand}(hH:zJ E H){ND:PU->PE FunN}(hN:JU E ND){n:Nat}{ops:PO Oper}{K:Tm->PJ->Bool}:∀{os:PM Oper} {t:Tm} {m:PJ},(yT E n ops ND os).run H t m K=true->eS E n ops (fun t m=>K t m=true) os t m
 | [],t,m,h=>.nil h
 | o::os,t,m,h=>by
  unfold yT at h
  split at h
  rename_i hg;have hw:aT ops o t=true:=by simp only[aT,hg]
  split at h
  rename_i S ars hc;obtain⟨c,g,h1,h2,h3,rfl⟩:=uE hc;obtain⟨args,h4,h5⟩:=kV h;refine .Kz hw h1 h2 rfl h4 (hN h3 h5) fun v m' hv=>?_;obtain⟨t',hp,h⟩:=eX hv;exact⟨t',hp,nh hE hH hN h⟩
  refine .op hE hw ((ji hH h).mono fun v m' h=>?_);obtain⟨t',hp,h⟩:=eX h;exact⟨t',hp,nh hE hH hN h⟩
  rcases iU h with⟨hw,h⟩|⟨hw,h⟩
  refine .op hE hw ((ji hH h).mono fun v m' h=>?_);obtain⟨t',hp,h⟩:=eX h;exact⟨t',hp,nh hE hH hN h⟩
  obtain⟨t',hp,h⟩:=eX h;exact .not hw hp (nh hE hH hN h)
structure RangeD where
 i1:Nat
 o1:Oper
 o2:Oper
 B:Nat
 i2:Nat
 oN:Oper
 oX:Oper
 B':Nat
 i3:Nat
 oE:Oper
 rest:PM Oper
 ops3:PO Oper
 X:Code
 d1:Tmp
 d2:Tmp
 e1:Tmp
 e2:Tmp
 f1:Tmp
 mt:OO
 kt:OO
 et:OO
def RangeD.code(d:RangeD):Code:=.seq (.region d.i1 #[d.o1,d.o2] false) (.block d.B (.loop (.seq (.region d.i2 #[d.oN,d.oX] false) (.seq (.cond (.tmp d.e2) .skip (.exit d.B)) (.block d.B' (.seq (.region d.i3 d.ops3 false) d.X))))))
structure RangeD.Ok(E:Env)(n:Nat)(d:RangeD):Prop where
 h1:d.o1.dst=some d.d1/\d.o1.guard=none
 h2:d.o2.op=.range d.mt (.tmp d.d1)/\d.o2.dst=some d.d2/\d.o2.guard=none
 hmt:E.P.underlying d.mt=some (.map d.kt d.et)
 hN:d.oN.op=.next (.tmp d.d2) false/\d.oN.dst=some d.e1/\d.oN.guard=none
 hX:d.oX.op=.extract (.tmp d.e1) 0/\d.oX.dst=some d.e2/\d.oX.guard=none
 hOE:d.oE.op=.entry (.tmp d.d2)/\d.oE.dst=some d.f1/\d.oE.guard=none
 h3:d.ops3.toList=d.oE::d.rest
 hb:d.d1<n/\d.d2<n/\d.e1<n/\d.e2<n/\d.f1<n
 hd:d.e1≠d.d2/\d.e2≠d.d2/\d.f1≠d.d2
def CK(o:Oper):PE (OO×Tmp×Tmp) :=
 match o.guard,o.dst,o.op with
 | none,some d,.range mt (.tmp x)=>some (mt,x,d)
 | _,_,_=>none
def yC{o:Oper}{mt:OO}{x d:Tmp}(h:CK o=some (mt,x,d)):o.op=.range mt (.tmp x)/\o.dst=some d/\o.guard=none:=by
 unfold CK at h
 split at h
 rename_i a b c; cases h; exact⟨c,b,a⟩
 cases h
def zH(o:Oper):PE (Tmp×Tmp) :=
 match o.guard,o.dst,o.op with
 | none,some d,.next (.tmp x) false=>some (x,d)
 | _,_,_=>none
def xT{o:Oper}{x d:Tmp}(h:zH o=some (x,d)):o.op=.next (.tmp x) false/\o.dst=some d/\o.guard=none:=by
 unfold zH at h
 split at h
 rename_i a b c; cases h; exact⟨c,b,a⟩
 cases h
def zh(o:Oper):PE (Tmp×Tmp) :=
 match o.guard,o.dst,o.op with
 | none,some d,.extract (.tmp x) 0=>some (x,d)
 | _,_,_=>none
def xV{o:Oper}{x d:Tmp}(h:zh o=some (x,d)):o.op=.extract (.tmp x) 0/\o.dst=some d/\o.guard=none:=by
 unfold zh at h
 split at h
 rename_i a b c; cases h; exact⟨c,b,a⟩
 cases h
def DK(o:Oper):PE (Tmp×Tmp) :=
 match o.guard,o.dst,o.op with
 | none,some d,.entry (.tmp x)=>some (x,d)
 | _,_,_=>none
def yv{o:Oper}{x d:Tmp}(h:DK o=some (x,d)):o.op=.entry (.tmp x)/\o.dst=some d/\o.guard=none:=by
 unfold DK at h
 split at h
 rename_i a b c; cases h; exact⟨c,b,a⟩
 cases h
def CZ(o:Oper):PE Tmp :=
 match o.guard,o.dst with
 | none,some d=>some d
 | _,_=>none
def yo{o:Oper}{d:Tmp}(h:CZ o=some d):o.dst=some d/\o.guard=none:=by
 unfold CZ at h
 split at h
 rename_i a b; cases h; exact⟨b,a⟩
 cases h
def mh(E:Env)(n:Nat)(i1:Nat)(a1:PO Oper)(B i2:Nat)(a2:PO Oper)(e2 B2 B' i3:Nat)(a3:PO Oper)(X:Code):PE RangeD :=
 match a1.toList,a2.toList,a3.toList with
 | [o1,o2],[oN,oX],oE::rest =>
  match CZ o1,CK o2,zH oN,zh oX,DK oE with
  | some d1,some (mt,d1',d2),some (d2',e1),some (e1',e2'),some (d2'',f1) =>
   match E.P.underlying mt with
   | some (.map kt et)=>if B2=B/\d1'=d1/\d2'=d2/\e1'=e1/\e2'=e2/\d2''=d2/\(d1<n/\d2<n/\e1<n/\e2<n/\f1<n)/\(e1≠d2/\e2≠d2/\f1≠d2) then some ⟨i1,o1,o2,B,i2,oN,oX,B',i3,oE,rest,a3,X,d1,d2,e1,e2,f1,mt,kt,et⟩ else none
   | _=>none
  | _,_,_,_,_=>none
 | _,_,_=>none
def pa{E:Env}{n i1 B i2 e2 B2 B' i3:Nat}{a1 a2 a3:PO Oper}{X:Code}{d:RangeD}(h:mh E n i1 a1 B i2 a2 e2 B2 B' i3 a3 X=some d) :
  .seq (.region i1 a1 false) (.block B (.loop (.seq (.region i2 a2 false) (.seq (.cond (.tmp e2) .skip (.exit B2)) (.block B' (.seq (.region i3 a3 false) X))))))=d.code/\d.Ok E n:=by
 unfold mh at h
 split at h
 rename_i o1 o2 oN oX oE rest q1 q2 q3
 split at h
 rename_i d1 mt d1' d2 d2' e1 e1' e2' d2'' f1 r1 r2 r3 r4 r5
 split at h
 rename_i kt et hu
 split at h
 rename_i hc;obtain⟨rfl,rfl,rfl,rfl,rfl,rfl,hb,hd⟩:=hc;cases h;refine⟨?_,yo r1,yC r2,hu,xT r3,xV r4,yv r5,q3,hb,hd⟩;have e1:a1=#[o1,o2]:=Nd.1 q1;have e2:a2=#[oN,oX]:=Nd.1 q2;rw[e1,e2]; rfl
 cases h
 cases h
 cases h
 cases h
def vv(E:Env)(n:Nat):Code->PE RangeD
 | .seq (.region i1 a1 false) (.block B (.loop (.seq (.region i2 a2 false) (.seq (.cond (.tmp e2) .skip (.exit B2)) (.block B' (.seq (.region i3 a3 false) X))))))=>mh E n i1 a1 B i2 a2 e2 B2 B' i3 a3 X
 | _=>none
def ub{E:Env}{n:Nat}{c:Code}{d:RangeD}(h:vv E n c=some d):c=d.code/\d.Ok E n:=by
 unfold vv at h
 split at h
 exact pa h
 cases h
structure SrcSem where
 run:Tm->PJ->(ON->Bool)->Bool
noncomputable def I0 (E:Env) (o:Op):SrcSem :=
 match o with
 | .move x=>⟨fun t _ K=>(cS E x).run t K⟩
 | .load ty a=>⟨fun t m K=>(cS E a).run t fun p=>(xj E.P ty).run p m K⟩
 | _=>⟨fun _ _ _=>false⟩
def Fv{E:Env}{o:Op}{t:Tm}{m:PJ}{K:ON->Bool}(h:(I0 E o).run t m K=true):∃v,cD E t m o=some (v,m)/\K v=true:=by
 unfold I0 at h
 split at h
 obtain⟨v,h1,h2⟩:=aS h;exact⟨v,by simp only[cD,h1,MB],h2⟩
 obtain⟨p,h1,h2⟩:=aS h;obtain⟨v,h3,h4⟩:=qI h2;exact⟨v,by simp only[cD,h1,h3,MB],h4⟩
 cases h
def sZ:ON->ON->Bool
 | .agg a,.agg b=>oI a.toList b.toList
 | .tuple a,.tuple b=>oI a.toList b.toList
 | .string a,.string b=>decide (a=b)
 | v,u=>tw v u
def mV:∀{v u:ON},sZ v u=true->v=u:=by
 intro v u h;unfold sZ at h
 split at h
 rw[Nd.1 (iZ h)]
 rw[Nd.1 (iZ h)]
 rw[of_decide_eq_true h]
 exact mG h
def qJ:PM ON->PM ON->Bool
 | [],[]=>true
 | v::vs,u::us=>sZ v u&&qJ vs us
 | _,_=>false
def oB:∀{v u:PM ON},qJ v u=true->v=u
 | [],[],_=>rfl
 | v::vs,u::us,h=>by
  simp only[qJ,My] at h;rw[mV h.1,oB h.2]
 | [],_::_,h=>by cases h
 | _::_,[],h=>by cases h
def z8:PM (ON×ON)->PM (ON×ON)->Bool
 | [],[]=>true
 | v::vs,u::us=>sZ v.1 u.1&&sZ v.2 u.2&&z8 vs us
 | _,_=>false
def xc:∀{v u:PM (ON×ON)},z8 v u=true->v=u
 | [],[],_=>rfl
 |(a,b)::vs,(c,d)::us,h=>by
  simp only[z8,My] at h;rw[show a=c from mV h.1.1,show b=d from mV h.1.2,xc h.2]
 | [],_::_,h=>by cases h
 | _::_,[],h=>by cases h
def tO(o:PE PL)(es:PM (ON×ON)):Bool :=
 match o with
 | some (.map es')=>z8 es' es
 | _=>false
def xM{o:PE PL}{es:PM (ON×ON)}(h:tO o es=true):o=some (.map es):=by
 unfold tO at h
 split at h
 rw[xc h]
 cases h
noncomputable def G1 (es:PM (ON×ON)) (i:Nat) (k:ON->ON->Bool):Bool:=Option.rec (motive:=fun _=>Bool) false (fun e=>Prod.rec (motive:=fun _=>Bool) (fun a b=>k a b) e) es[i]?
def BA{es:PM (ON×ON)}{i:Nat}{k:ON->ON->Bool}{e:ON×ON}(he:es[i]? = some e)(h:G1 es i k=true):k e.1 e.2=true:=by
 unfold G1 at h;rw[he] at h;exact h
noncomputable def Fi (l:PM Nat) (k:Nat->Bool):Bool:=List.rec (motive:=fun _=>Bool) true (fun i _ ih=>dE (k i) ih false) l
def sB{k:Nat->Bool}:∀{l:PM Nat},Fi l k=true->∀i∈l,k i=true
 | [],_,i,hi=>by cases hi
 | a::l,h,i,hi=>by
  have h':dE (k a) (Fi l k) false=true:=h;obtain⟨h1,h2⟩:=aW h';rcases M0.1 hi with rfl|hi
  exact h1
  exact sB h2 i hi
noncomputable def IL (l:PM Nat) (a b:Bool):Bool:=List.rec (motive:=fun _=>Bool) a (fun _ _ _=>b) l
noncomputable def goN (E:Env) (n:Nat) (fn:PU) (d:RangeD) (H:Hand) (bm bi lim wl:Nat) (es:PM (ON×ON)) (K:Tm->PJ->Bool):Nat->PM Nat->Tm->PJ->Bool
 | 0,_,_,_=>false
 | k+1,idx,t,m=>IL idx ((gK d.e1).run t (.tuple #[.bool false]) fun t=>(gK d.e2).run t (.bool false) fun t=>fM (m.ww (min wl m.wl)) fun m=>K t m)
  (Fi idx fun i=>G1 es i fun ke ve=>(gK d.e1).run t (.tuple #[.bool true,ke,ve]) fun t=>(gK d.e2).run t (.bool true) fun t=>(gK d.f1).run t (.tuple #[ke,ve]) fun t =>
   (xR E n d.ops3 d.rest).run H t m fun t m=>(il E n fn d.X).run H none t m fun e t m=>fe e (dE (tO (m.get bm) es) (dE (Nat.ble lim m.wl) ((DO d.d2).run t fun v=>dE (nY v (ptr bi 0)) (goN E n fn d H bm bi lim wl es K k (idx.filter fun j=>!Nat.beq j i) t m) false) false) false) (fun _=>false) false)
structure RngSem where
 run:Hand->Tm->PJ->(Tm->PJ->Bool)->Bool
noncomputable def yq (E:Env) (n:Nat) (fn:PU) (d:RangeD):RngSem :=
 match Nat.ble n 512 with
 | true=>⟨fun H t m K=>(I0 E d.o1.op).run t m fun v=>Cz v fun r=>Option.rec (motive:=fun _=>Bool) false (fun bm=>dE (Nat.blt bm m.next) (BB m bm fun es =>
   fM (lN m) fun m2=>(gK d.d1).run t (.map (some bm)) fun t=>(gK d.d2).run t (ptr m.next 0) fun t=>fN es.length fun N=>goN E n fn d H bm m.next (Nat.succ bm) m.wl es K (Nat.succ N) (List.range N) t m2) false) r⟩
 | false=>⟨fun _ _ _ _=>false⟩
def wP(N:Nat)(S:PM Nat)(i:Nat):(List.range N).filter (fun j=>!(S++[i]).contains j)=((List.range N).filter fun j=>!S.contains j).filter fun j=>!Nat.beq j i:=by
 rw[List.filter_filter];refine NS (fun p=>(List.range N).filter p) (funext fun j=>?_);rw[Bool.eq_iff_iff];simp only[Ng,My,List.contains_eq_mem,NW,NH,decide_eq_false_iff_not,not_or];have:(Nat.beq j i=false)↔¬j=i:=by
  rw[<-Bool.not_eq_true];exact not_congr ⟨Mz,fun e=>by rw[e]; exact Nat.beq_refl i⟩
 rw[this];exact And.comm
def By {E:Env} (hE:EnvOk E) (hmono:¬E.mono) {H:Hand} (hH:zJ E H) {n:Nat} {fn:PU} {d:RangeD} (hd:d.Ok E n) {t:Tm} {m:PJ} {K:Tm->PJ->Bool} (h:(yq E n fn d).run H t m K=true):cM E n fn none d.code (fun e t m=>e = .normal/\K t m=true) t m:=by
 unfold yq at h
 split at h
 ·rename_i hn;have hn:=MD hn;obtain⟨v,h1,h⟩:=Fv h;obtain⟨r,rfl,h⟩:=kY h;cases r with
  | none=>cases h
  | some bm =>
   obtain⟨hbm,h⟩:=aW h;obtain⟨es,h2,h⟩:=ld h;obtain⟨b1,b2,b3,b4,b5⟩:=hd.hb;have c1:d.d1<512:=MC b1 hn;have c2:d.d2<512:=MC b2 hn;have c3:d.e1<512:=MC b3 hn;have c4:d.e2<512:=MC b4 hn;have c5:d.f1<512:=MC b5 hn;rw[xE,fx _ c1,fx _ c2,cU] at h;have hbl:bm<m.next:=MD hbm
   refine cM.B3 hE hmono hd.h1 hd.h2 hd.hmt hd.hN hd.hX hd.hOE hd.h3 hd.hb hd.hd.1 hd.hd.2.1 hd.hd.2.2 h1 h2 (lim:=bm+1) (Nq _) hbl
    (fun S t' m'=>∃k,goN E n fn d H bm m.next (Nat.succ bm) m.wl es K k ((List.range es.length).filter fun j=>!S.contains j) t' m'=true/\m'.get bm=some (.map es)/\bm+1<=m'.wl/\t'.at d.d2=ptr m.next 0)
    (fun S t' m' hI=>by obtain⟨_,_,hI⟩:=hI; exact hI) ⟨es.length+1,?_,?_,?_,?_⟩ ?_ ?_
   have:(List.range es.length).filter (fun j=>!([]:PM Nat).contains j)=List.range es.length:=List.filter_eq_self.2 fun a _=>by simp
   rw[this]; exact h
   rw[ie,OV]; exact h2
   rw[AP]; omega
   rw[at_set,MG rfl]
   ·intro S i e t1 m1 x1 x2 x3 x4 hI;obtain⟨k,g1,g2,g3,g4⟩:=hI;cases k with
    | zero=>cases g1
    | succ k =>
     have hi:i<es.length:=(ML.1 x4).1;have hmem:i ∈(List.range es.length).filter fun j=>!S.contains j:=List.mem_filter.2 ⟨Oe.2 hi,by simp[x3]⟩
     have g1':(Fi ((List.range es.length).filter fun j=>!S.contains j) fun i=>G1 es i fun ke ve=>(gK d.e1).run t1 (.tuple #[.bool true,ke,ve]) fun t=>(gK d.e2).run t (.bool true) fun t=>(gK d.f1).run t (.tuple #[ke,ve]) fun t =>
   (xR E n d.ops3 d.rest).run H t m1 fun t m'=>(il E n fn d.X).run H none t m' fun e t m'=>fe e (dE (tO (m'.get bm) es) (dE (Nat.ble (Nat.succ bm) m'.wl) ((DO d.d2).run t fun v=>dE (nY v (ptr m.next 0)) (goN E n fn d H bm m.next (Nat.succ bm) m.wl es K k (((List.range es.length).filter fun j=>!S.contains j).filter fun j=>!Nat.beq j i) t m') false) false) false) (fun _=>false) false)=true:=by
         unfold goN at g1;cases hl:(List.range es.length).filter fun j=>!S.contains j with
         | nil=>rw[hl] at hmem; cases hmem
         | cons a l=>rw[hl] at g1; exact g1
     have g5:=BA x4 (sB g1' i hmem);rw[fx _ c3,fx _ c4,fx _ c5] at g5;have g6:=nj hH g5;have mono:∀{os:PM Oper} {t:Tm} {m:PJ} {K K':Tm->PJ->Prop},(∀t m,K t m->K' t m)->ir E n d.ops3 K os t m->ir E n d.ops3 K' os t m:=by
      intro os
      induction os with
      | nil=>intro t m K K' hk h; exact hk _ _ h
      | cons o os ih =>
       intro t m K K' hk h;simp only[ir] at h ⊢
       split at h
       rename_i hw;obtain⟨v,m1,a1,t1,hp,a2⟩:=h;rw[MG hw];exact⟨v,m1,a1,t1,hp,ih hk a2⟩
       rename_i hw;obtain⟨t1,hp,a2⟩:=h;rw[ME hw];exact⟨t1,hp,ih hk a2⟩
     refine mono (fun t2 m2 h2=>?_) g6;refine(kf hH d.X h2).mono fun e t3 m3 h3=>?_;rcases cF h3 with⟨rfl,h3⟩|⟨id,rfl,h3⟩|⟨rfl,h3⟩
     obtain⟨y1,h3⟩:=aW h3;obtain⟨y2,h3⟩:=aW h3;rw[tR _ c2] at h3;obtain⟨y3,h3⟩:=aW h3;refine⟨rfl,k,?_,xM y1,MD y2,nL y3⟩;rw[wP]; exact h3
     cases h3
     cases h3
   ·intro S t1 m1 hS hI;obtain⟨k,g1,_⟩:=hI;have hnil:(List.range es.length).filter (fun j=>!S.contains j)=[]:=List.filter_eq_nil_iff.2 fun a ha=>by
     have:=hS.mem_iff.2 ha;simp[this]
    rw[hnil] at g1;cases k with
    | zero=>cases g1
    | succ k =>
     have g1':((gK d.e1).run t1 (.tuple #[.bool false]) fun t=>(gK d.e2).run t (.bool false) fun t=>fM (m1.ww (min m.wl m1.wl)) fun m=>K t m)=true:=g1;rw[fx _ c3,fx _ c4,xE] at g1';exact⟨rfl,g1'⟩
 cases h
def LY(ND:PU->PE FunN)(l:PM Oper):Bool:=l.any fun o=>(pQ ND o.op).isSome
structure SemN where
 run:Hand->Tm->PJ->(PK->Tm->PJ->Bool)->Bool
noncomputable def iY (E:Env) (n:Nat) (fn:PU) (ND:PU->PE FunN):Code->SemN
 | .seq a b=>match vv E n a with
  | some d=>⟨fun H t m K=>(yq E n fn d).run H t m fun t m=>(iY E n fn ND b).run H t m K⟩
  | none=>⟨fun H t m K=>(iY E n fn ND a).run H t m fun e t m=>fe e ((iY E n fn ND b).run H t m K) (fun id=>K (.exit id) t m) (K .ret t m)⟩
 | .cond x a b=>⟨fun H t m K=>(cS E x).run t fun v=>o9 v (fun c=>dE c ((iY E n fn ND a).run H t m K) ((iY E n fn ND b).run H t m K)) false⟩
 | .block id a=>⟨fun H t m K=>(iY E n fn ND a).run H t m fun e t m=>fe e (K .normal t m) (fun id'=>dE (Nat.beq id' id) (K .normal t m) (K (.exit id') t m)) (K .ret t m)⟩
 | .region i ops draw=>match draw,LY ND ops.toList with
  | false,true=>⟨fun H t m K=>(yT E n ops ND ops.toList).run H t m fun t m=>K .normal t m⟩
  | _,_=>⟨fun H t m K=>(Hs E n ops draw).run H t m fun t m=>K .normal t m⟩
 | c=>⟨fun H t m K=>(il E n fn c).run H none t m K⟩
def D2{E:Env}(hE:EnvOk E)(hmono:¬E.mono){H:Hand}(hH:zJ E H){ND:PU->PE FunN}(hN:JU E ND){n:Nat}{fn:PU}:∀(c:Code) {t:Tm} {m:PJ} {K:PK->Tm->PJ->Bool},(iY E n fn ND c).run H t m K=true->cM E n fn none c (fun e t m=>K e t m=true) t m:=by
 intro c
 induction c with
 | seq a b iha ihb =>
  intro t m K h;unfold iY at h
  split at h
  rename_i d hd;obtain⟨rfl,hok⟩:=ub hd;refine .BD ((By hE hmono hH hok h).mono fun e t m h=>?_);obtain⟨rfl,h⟩:=h;exact ihb h
  refine .BD ((iha h).mono fun e t m h=>?_);rcases cF h with⟨rfl,h⟩|⟨id,rfl,h⟩|⟨rfl,h⟩
  exact ihb h
  exact h
  exact h
 | cond x a b iha ihb =>
  intro t m K h;unfold iY at h;obtain⟨v,h1,h⟩:=aS (x:=x) h;obtain⟨c,rfl,h⟩:=ik h;refine .cond h1 (fun hc=>?_) (fun hc=>?_)
  subst hc; exact iha h
  subst hc; exact ihb h
 | block id a ih =>
  intro t m K h;unfold iY at h;refine .block ((ih h).mono fun e t m h=>?_);rcases cF h with⟨rfl,h⟩|⟨id',rfl,h⟩|⟨rfl,h⟩
  exact h
  simp only[dR];rcases cx h with⟨h1,h⟩|⟨h1,h⟩
  rw[MG (Mz h1)]; exact h
  rw[ME (fun e=>by rw[e,Nat.beq_refl] at h1; cases h1)]; exact h
  exact h
 | region i ops draw =>
  intro t m K h;unfold iY at h
  split at h
  exact .region (nh hE hH hN h)
  exact .of hE (zT hH (fun t m h=>h) h)
 | _ =>
  intro t m K h;unfold iY at h;exact .of hE (kf hH _ h)
noncomputable def nr (E:Env) (H:Hand) (ND:PU->PE FunN) (f:PU):FunN :=
 match E.P.funcs[f]? with
 | some fn=>match fn.body,Nat.ble fn.ntmps 512 with
  | some c,true=>⟨fun args m K=>dE (Nat.ble args.length fn.ntmps) (ua args 0 .nil fun t=>(iY E fn.ntmps f ND c).run H t m fun e t m=>fe e ((yS E fn.results.toList).run t m fun vs=>Dn vs fun v=>K v m) (fun _=>false) ((yS E fn.results.toList).run t m fun vs=>Dn vs fun v=>K v m)) false⟩
  | _,_=>⟨fun _ _ _=>false⟩
 | none=>⟨fun _ _ _=>false⟩
def qd{E:Env}(hE:EnvOk E)(hmono:¬E.mono){H:Hand}(hH:zJ E H){ND:PU->PE FunN}(hN:JU E ND){f:PU}{args:PM ON}{m:PJ}{K:ON->PJ->Bool}(h:(nr E H ND f).run args m K=true):W.lT E f args m fun v m'=>K v m'=true:=by
 unfold nr at h
 split at h
 rename_i F hf
 split at h
 rename_i c hb hn;have g:=aW h; clear h; obtain⟨h1,h⟩:=g;have hle:=MD h1;have hn':=MD hn;rw[nI args 0 _ _ (by omega)] at h
 have hmax:max args.length F.ntmps=F.ntmps:=Nat.max_eq_right hle;refine W.xA hE hf hb rfl hmax ((D2 hE hmono hH hN c h).mono fun e t m h=>?_);rcases cF h with⟨rfl,h⟩|⟨id,rfl,h⟩|⟨rfl,h⟩
 obtain⟨vs,h2,h⟩:=k9 h;rw[pq] at h;rw[BN,h2,sP]; exact h
 cases h
 obtain⟨vs,h2,h⟩:=k9 h;rw[pq] at h;rw[CX,h2,sP]; exact h
 cases h
 cases h
section
variable{E:Env}{j j1:aI}{m m1:PJ}{w w1:OS}
def Sim.same(h:MR E j m w)(hold:∀c,c<w.heap.size->w1.heap[c]? = w.heap[c]?)(hsize:w.heap.size<=w1.heap.size)(hcalm:ib E w w1):Sim E j m w j m w1 where
 ext:=.refl m
 le:=.refl j
 new:=fun b k h h'=>by simp[h'] at h
 mr:=⟨fun b k hb=>⟨(h.lt b k hb).1,MC (h.lt b k hb).2 hsize⟩,fun b o k ho hb=>by
  obtain⟨o',h1,h2⟩:=h.obj b o k ho hb;exact⟨o',(hold k.c (h.lt b k hb).2).trans h1,h2⟩,h.inj,h.glob⟩
 size:=hsize
 full:=fun b h h' _=>MX h (by omega)
 away:=fun _ _ _=>rfl
 fresh:=fun b k h h'=>by simp[h'] at h
 frame:=fun c hc _=>hold c hc
 calm:=hcalm
def ym(hE:EnvOk E){pr:PU->PE Prim}(h:∀f p,pr f=some p->E.cR f=some p\/∀args m v m',p.run args m=some (v,m')->∀(j:aI) (w:OS) (args':PM ON),MR E j m w->LR j args args'->dL E.P (E.cR f).isSome f args'.toArray w (fo E j m w v m')):EnvOk { E with cR:=pr}:=by
 refine⟨hE.call,hE.mixed,fun f p hp args m v m' hrun j w args' hm hl=>?_⟩;have hp':({ E with cR:=pr}:Env).cR f=some p:=hp;have hm0:MR E j m w:=MR.env (E:={ E with cR:=pr}) (E':=E) rfl hm;have key:∀v' w',fo E j m w v m' v' w'->fo { E with cR:=pr} j m w v m' v' w':=fun v' w' ⟨j',s,hv⟩=>⟨j',Sim.env (E:=E) rfl (fun e=>e) s,hv⟩;rcases h f p hp with h1|h1
 exact cq (fun _=>by rw[hp']; rfl) (hE.cR f p h1 args m v m' hrun j w args' hm0 hl) key
 exact cq (fun _=>by rw[hp']; rfl) (h1 args m v m' hrun j w args' hm0 hl) key
end
section
variable{E:Env}{j:aI}{m:PJ}{w:OS}
def kh(j:aI)(g:Nat):aI:=fun x=>if x<g then j x else none
def wX(n:Nat)(gs:Nat->PE (PM ON))(b:Nat):(BG n gs).get b=(gs b).map fun cs=>.cells cs .ro:=by
 simp[PJ.get,BG,Heap.get_nil]
def MR.Lb{gs:Nat->PE (PM ON)}(h:MR E j m w)(hgs:∀x c,x<E.glob->gs x=some c->m.get x=some (.cells c .ro))(hgp:∀x c,gs x=some c->c.all aM=true):MR E (kh j E.glob) (BG E.glob gs) w:=by
 have cases1:∀x k,kh j E.glob x=some k->x<E.glob/\j x=some k:=by
  intro x k hx;unfold kh at hx
  split at hx
  rename_i hlt; exact⟨hlt,hx⟩
  cases hx
 refine⟨fun x k hx=>?_,fun x o k ho hx=>?_,fun x x' k k' hx hx' hl hl' hc=>?_,fun gl hgl=>?_⟩
 obtain⟨hlt,hj⟩:=cases1 x k hx;exact⟨hlt,(h.lt x k hj).2⟩
 ·rw[wX] at ho;obtain⟨hlt,hj⟩:=cases1 x k hx;cases hg:gs x with
  | none=>rw[hg] at ho; cases ho
  | some c =>
   rw[hg] at ho; cases ho;have hgx:=hgs x c hlt hg;obtain⟨o',h1,h2⟩:=h.obj x _ k hgx hj;refine⟨o',h1,?_⟩;cases o' with
   | cells c' ty fz =>
    refine⟨h2.1,fun i v hi=>?_⟩;obtain⟨v',h3,h4⟩:=h2.2 i v hi;have hpv:=MK.1 (hgp x c hg) v (M5 hi);have:=eA hpv h4;subst this;exact⟨_,h3,.aM hpv⟩
   | _=>exact h2.elim
 ·have live:∀y,y<E.glob->((BG E.glob gs).get y).isSome=true->(m.get y).isSome=true:=by
   intro y hy hl;rw[wX] at hl;cases hg:gs y with
   | none=>rw[hg] at hl; cases hl
   | some c=>rw[hgs y c hy hg]; rfl
  obtain⟨hlt,hj⟩:=cases1 x k hx;obtain⟨hlt',hj'⟩:=cases1 x' k' hx';exact h.inj x x' k k' hj hj' (live x hlt hl) (live x' hlt' hl') hc
 unfold kh;rw[MG hgl];exact h.glob gl hgl
def tN(hE:EnvOk E){f:PU}{gs:Nat->PE (PM ON)}(hgp:∀x c,gs x=some c->c.all aM=true){fuel:Nat}{v:ON}{m0:PJ}
  (hrun:run E fuel (.call f [] (BG E.glob gs))=some (.val v m0)) (hwl:E.glob<=m0.wl) (hpv:bu v=true) {args':PM ON} (h:MR E j m w) (hgs:∀x c,x<E.glob->gs x=some c->m.get x=some (.cells c .ro)) (hl:LR j [] args') :
  dL E.P (E.cR f).isSome f args'.toArray w (fo E j m w v m):=by
 have hm0:=h.Lb hgs hgp;have hl0:LR (kh j E.glob) [] args':=by
  rw[LR.dc hl]; exact .nil _
 obtain⟨_,_,e,hs⟩:=jU hE fuel _ _ hrun;cases e;refine cq (fun x=>x) (hs _ w args' hm0 hl0) ?_;intro v' w' ⟨j',s,hv'⟩;have hold:∀c,c<w.heap.size->w'.heap[c]? = w.heap[c]?:=fun c hc=>s.frame c hc fun x k hx _ _=>by
  have:x<E.glob:=(hm0.lt x k hx).1;omega
 exact⟨j,.same h hold s.size s.calm,VR.kX hpv hv'⟩
end
attribute [local irreducible] PJ.get PJ.set PJ.alloc PJ.ww PJ.kill
section
variable{E:Env}{j j1:aI}{m m1:PJ}{w w1:OS}
def Sim.Kf{js:aI}{ms:PJ}(h:MR E j m w)(hs:MR E js ms w)(s:Sim E js { ms with wl:=ms.next} w j1 m1 w1)(g:Grown ms m1){T:Bz}{a:Nat->Nat}{tg:Nat->Tag}(hT:T.ok)
  (ha:∀i,i<T.length->ms.next<=a i/\a i<m1.next) (hinj:∀i k,i<T.length->k<T.length->a i=a k->i=k) (ho:∀i x,T[i]? = some x->m1.get (a i)=some (.cells (x.1.map (TV.inst T a)) (tg i))/\(tg i=.own\/tg i=.more x.2)) :
  ∃j2,Sim E j m w j2 (m.fU (T.bT fun i=>m.next+i)) w1/\∀x:TV,x.ok T.length=true->∀v',VR j1 (x.inst T a) v'->VR j2 (x.inst T fun i=>m.next+i) v':=by
 have hol:(T.bT fun i=>m.next+i).length=T.length:=by unfold Bz.bT; rw[MS]
 have hjn:∀b,ms.next<=b->js b=none:=fun b hb=>by
  cases e:js b with
  | none=>rfl
  | some k=>exact MX (hs.lt b k e).1 (by omega)
 have hold:=s.old hs g;have hk:∀i x,T[i]? = some x->∃k,j1 (a i)=some k:=fun i x hi=>by
  have hlt:=(ML.1 hi).1;exact s.full (a i) (ha i hlt).1 (ha i hlt).2 (by rw[(ho i x hi).1]; rfl)
 have hfresh:∀i k,i<T.length->j1 (a i)=some k->w.heap.size<=k.c:=fun i k hi hk=>by
  rcases s.fresh (a i) k hk (hjn _ (ha i hi).1) with hf|⟨b0,k0,a1,_,_,a4⟩
  exact hf
  have:=(hs.lt b0 k0 a1).1; have:=g.wl; omega
 have hcell:∀i x k,T[i]? = some x->j1 (a i)=some k->∃c ty fz,w1.heap[k.c]? = some (.cells c ty fz)/\nm k (tg i) x.1.length c fz/\∀(q:Nat) (z:TV),x.1[q]? = some z->∃v',c[q]? = some v'/\VR j1 (z.inst T a) v':=fun i x k hi hk=>by
  obtain⟨o',g1,g2⟩:=s.mr.obj (a i) _ k (ho i x hi).1 hk;cases o' with
  | cells c ty fz =>
   refine⟨c,ty,fz,g1,by have:=g2.1; rwa[MS] at this,fun q z hq=>?_⟩
   exact g2.2 q (z.inst T a) (by rw[MP,hq]; rfl)
  | _=>exact g2.elim
 have key:∀j2:aI,(∀i x,T[i]? = some x->∀k,j1 (a i)=some k->j2 (m.next+i)=some (kH k x.2 x.1.length))->∀x:TV,x.ok T.length=true->∀v',VR j1 (x.inst T a) v'->VR j2 (x.inst T fun i=>m.next+i) v':=fun j2 hj2 x hx v' hv=>by
  let cf:Nat->PO ON ×(Nat×Nat):=fun i=>match j1 (a i) with
   | some k=>match w1.heap[k.c]? with
    | some (.cells c _ fz)=>(c,fz)
    | _=>(#[],(0,0))
   | none=>(#[],(0,0))
  refine TV.move hT (tg:=tg) (cf:=cf) (fun i y hi=>?_) hx hv;obtain⟨k,hk⟩:=hk i y hi;obtain⟨c,ty,fz,h1,h2,_⟩:=hcell i y k hi hk;have ecf:cf i=(c,fz):=by show(match j1 (a i) with|some k=>_|none=>_)=_; rw[hk]; dsimp only; rw[h1]
  exact⟨k,hk,hj2 i y hi k hk,(ho i y hi).2,by rw[ecf]; exact h2⟩
 have e1:∀i x,T[i]? = some x->∀k,j1 (a i)=some k->(fun b=>if m.next<=b then match T[b-m.next]?,j1 (a (b-m.next)) with|some x,some k=>some (kH k x.2 x.1.length)|_,_=>none else j b) (m.next+i)=some (kH k x.2 x.1.length):=fun i x hi k hk=>by
  dsimp only
  rw[OW,Nat.add_sub_cancel_left,hi,hk]
 have e2:∀b,b<m.next->(fun b=>if m.next<=b then match T[b-m.next]?,j1 (a (b-m.next)) with|some x,some k=>some (kH k x.2 x.1.length)|_,_=>none else j b) b=j b:=fun b hb=>by
  dsimp only
  rw[OV]
 have e3:∀b k,(fun b=>if m.next<=b then match T[b-m.next]?,j1 (a (b-m.next)) with|some x,some k=>some (kH k x.2 x.1.length)|_,_=>none else j b) b=some k->(b<m.next/\j b=some k)\/∃i x k1,T[i]? = some x/\b=m.next+i/\j1 (a i)=some k1/\k=kH k1 x.2 x.1.length:=fun b k hb=>by
  by_cases c:m.next<=b
  ·dsimp only at hb
   rw[MG c] at hb;cases hx:T[b-m.next]? with
   | none=>rw[hx] at hb; cases hb
   | some x =>
    cases hk:j1 (a (b-m.next)) with
    | none=>rw[hx,hk] at hb; cases hb
    | some k1 =>
     rw[hx,hk] at hb;exact .inr ⟨b-m.next,x,k1,hx,by omega,hk,(MH hb).symm⟩
  dsimp only at hb
  rw[ME c] at hb;exact .inl ⟨(h.lt b k hb).1,hb⟩
 generalize(fun b=>if m.next<=b then match T[b-m.next]?,j1 (a (b-m.next)) with|some x,some k=>some (kH k x.2 x.1.length)|_,_=>none else j b)=j2 at e1 e2 e3
 refine⟨j2,?_,key j2 e1⟩;have hle:j.le j2:=fun b k hb=>by rw[e2 b (h.lt b k hb).1]; exact hb
 have hget:∀i,i<T.length->(m.fU (T.bT fun i=>m.next+i)).get (m.next+i)=(T.bT fun i=>m.next+i)[i]?:=fun i hi=>th _ m i (by omega)
 have ha2:MR E j m w1:=⟨fun b k e=>⟨(h.lt b k e).1,MC (h.lt b k e).2 s.size⟩,fun b o k ho e=>by
  obtain⟨o',h1,h2⟩:=h.obj b o k ho e;exact⟨o',(hold _ (h.lt b k e).2).trans h1,h2⟩,h.inj,h.glob⟩
 have hlt:∀{i x},T[i]? = some x->i<T.length:=fun hi=>(ML.1 hi).1;have hlive:∀{i x},T[i]? = some x->(m1.get (a i)).isSome=true:=fun hi=>by rw[(ho _ _ hi).1]; rfl
 refine⟨⟨by rw[gB]; omega,by rw[td]; exact MA _,fun b hb _=>dm _ _ (.inl hb),fun b hb hn=>(dm _ _ (.inl hb)).trans hn⟩,hle,fun b k e e'=>?_,⟨fun b k e=>?_,fun b o k ho' e=>?_,fun b b' k k' e e' hl hl' hc=>?_,fun gl hgl=>?_⟩,s.size,fun b hb1 hb2 _=>?_,fun b hb _=>?_,fun b k e e'=>?_,fun c hc _=>hold c hc,s.calm⟩
 rcases e3 b k e with⟨_,c⟩|⟨i,_,_,_,rfl,_⟩
 rw[e'] at c; cases c
 omega
 rcases e3 b k e with⟨c1,c2⟩|⟨i,x,k1,hi,rfl,c2,rfl⟩
 exact⟨by rw[gB]; omega,(ha2.lt b k c2).2⟩
 exact⟨by rw[gB,hol]; have:=hlt hi; omega,by rw[kB]; exact(s.mr.lt _ k1 c2).2⟩
 rcases e3 b k e with⟨c1,c2⟩|⟨i,x,k1,hi,rfl,c2,rfl⟩
 rw[dm _ _ (.inl c1)] at ho';obtain⟨o',h1,h2⟩:=ha2.obj b o k ho' c2;exact⟨o',h1,h2.mono hle⟩
 rw[hget i (hlt hi)] at ho';unfold Bz.bT at ho';rw[MP,hi,MB] at ho';cases ho';obtain⟨c,ty,fz,g1,g2,g3⟩:=hcell i x k1 hi c2;obtain⟨o1,o2,o3,o4⟩:=hT x (M5 hi);refine⟨.cells c ty fz,by rw[kB]; exact g1,?_,fun q v hq=>?_⟩
 rw[MS];rw[o2] at g2 ⊢;exact CG (ho i x hi).2 o1 o3 g2
 rw[MP] at hq;obtain⟨z,hz,rfl⟩:=NY.1 hq;obtain⟨v',h3,h4⟩:=g3 q z hz;exact⟨v',h3,key j2 e1 z (MK.1 o4 z (M5 hz)) v' h4⟩
 have old:∀{b k},b<m.next->j b=some k->(m.get b).isSome=true->∀i x,T[i]? = some x->∀k1,j1 (a i)=some k1->k.c≠k1.c:=fun{b k} hb e hl i x hi k1 hk1 hc=>by
  have:=(h.lt b k e).2;have:=hfresh i k1 (hlt hi) hk1;omega
 rcases e3 b k e with⟨c1,c2⟩|⟨i,x,k1,hi,rfl,c2,rfl⟩<;>rcases e3 b' k' e' with⟨d1,d2⟩|⟨i',x',k1',hi',rfl,d2,rfl⟩
 rw[dm _ _ (.inl c1)] at hl;rw[dm _ _ (.inl d1)] at hl';exact h.inj b b' k k' c2 d2 hl hl' hc
 rw[dm _ _ (.inl c1)] at hl;rw[kB] at hc;exact MX hc (old c1 c2 hl i' x' hi' k1' d2)
 rw[dm _ _ (.inl d1)] at hl';rw[kB] at hc;exact MX hc.symm (old d1 d2 hl' i x hi k1 c2)
 rw[kB,kB] at hc;have:=s.mr.inj (a i) (a i') k1 k1' c2 d2 (hlive hi) (hlive hi') hc;rw[hinj i i' (hlt hi) (hlt hi') this]
 have:=h.glob gl hgl;rw[e2 gl (h.lt gl _ this).1]; exact this
 rw[gB,hol] at hb2;have hi:=MF (show b-m.next<T.length by omega)
 obtain⟨k,hk⟩:=hk _ _ hi;have:=e1 _ _ hi k hk;exact⟨_,by rw[show b=m.next+(b-m.next) by omega]; exact this⟩
 rw[dm _ _ (.inl hb)]
 rcases e3 b k e with⟨_,c⟩|⟨i,x,k1,hi,rfl,c,rfl⟩
 rw[e'] at c; cases c
 rw[kB]; exact .inl (hfresh i k1 (hlt hi) c)
end
inductive SV where
 | v (x:ON)
 | s (b n:Nat)
inductive AV where
 | one (x:SV)
 | agg (xs:PM SV)
def SV.val(f:Nat->Nat):SV->ON
 | .v x=>x
 | .s b n=>.slice (some ⟨f b,0,none⟩) n n
def SV.ok(N:Nat):SV->Bool
 | .v x=>bu x
 | .s b _=>Nat.blt b N
def AV.val(f:Nat->Nat):AV->ON
 | .one x=>x.val f
 | .agg xs=>.agg (xs.map (SV.val f)).toArray
def AV.ok(N:Nat):AV->Bool
 | .one x=>x.ok N
 | .agg xs=>xs.all (SV.ok N)
abbrev Bk:=PM SV×Tag
def mi(g:Nat)(gs:Nat->PE (PM ON))(A:PM Bk):PJ:=⟨g+A.length,g+A.length,.nil,fun b=>if b<g then(gs b).map fun cs=>.cells cs .ro else(A[b-g]?).map fun x=>.cells (x.1.map (SV.val fun b=>b)) x.2⟩
def zL(g:Nat)(gs:Nat->PE (PM ON))(A:PM Bk)(b:Nat):(mi g gs A).get b=if b<g then(gs b).map fun cs=>.cells cs .ro else(A[b-g]?).map fun x=>.cells (x.1.map (SV.val fun b=>b)) x.2:=by
 simp[PJ.get,mi,Heap.get_nil]
def eD(g:Nat)(l:PM Nat)(b:Nat):Nat:=if b<g then b else l.getD (b-g) 0
def rD(g N:Nat)(l:PM Nat)(j:aI):aI:=fun b=>if b<N then j (eD g l b) else none
def SV.VR{j:aI}{g N:Nat}{l:PM Nat}{x:SV}(hx:x.ok N=true){v':ON}(h:VR j (x.val (eD g l)) v'):VR (rD g N l j) (x.val fun b=>b) v':=by
 cases x with
 | v x=>exact VR.kX hx h
 | s b n =>
  have hb:b<N:=MD hx;have e:∀k,j (eD g l b)=some k->rD g N l j b=some k:=fun k hk=>by unfold rD; rw[MG hb]; exact hk
  have h:Go.Ab.VR j (.slice (some ⟨eD g l b,0,none⟩) n n) v':=h
  show Go.Ab.VR _ (.slice (some ⟨b,0,none⟩) n n) v'
  cases h with
  | slice hj hm=>exact .slice (e _ hj) hm
  | sliceM hj hm h1 h2 hl hc=>exact .sliceM (e _ hj) hm h1 h2 hl hc
structure SmallIn(m:PJ)(g:Nat)(gs:Nat->PE (PM ON))(A:PM Bk)(l:PM Nat):Prop where
 len:l.length=A.length
 glob:∀x c,x<g->gs x=some c->m.get x=some (.cells c .ro)/\c.all aM=true
 at_:∀i (h:i<A.length),m.get (l.getD i 0)=some (.cells (A[i].1.map (SV.val (eD g l))) A[i].2)
 low:∀i,i<l.length->g<=l.getD i 0
 nd:∀i k,i<l.length->k<l.length->l.getD i 0=l.getD k 0->i=k
 ok:A.all (fun x=>x.1.all (SV.ok (g+A.length)))=true
def MR.FC{E:Env}{j:aI}{m:PJ}{w:OS}{gs:Nat->PE (PM ON)}{A:PM Bk}{l:PM Nat}(h:MR E j m w)(hs:SmallIn m E.glob gs A l):MR E (rD E.glob (E.glob+A.length) l j) (mi E.glob gs A) w:=by
 have hj:∀x k,rD E.glob (E.glob+A.length) l j x=some k->x<E.glob+A.length/\j (eD E.glob l x)=some k:=fun x k hx=>by
  unfold rD at hx
  split at hx
  rename_i hlt; exact⟨hlt,hx⟩
  cases hx
 have hobj:∀x o,(mi E.glob gs A).get x=some o->x<E.glob+A.length->(x<E.glob/\m.get (eD E.glob l x)=some o/\∃c,o=.cells c .ro/\c.all aM=true)\/∃y:Bk,y∈A/\o=.cells (y.1.map (SV.val fun b=>b)) y.2/\m.get (eD E.glob l x)=some (.cells (y.1.map (SV.val (eD E.glob l))) y.2):=fun x o ho hx=>by
  rw[zL] at ho
  split at ho
  ·rename_i hlt;cases hg:gs x with
   | none=>rw[hg] at ho; cases ho
   | some c =>
    rw[hg] at ho; cases ho;have e:eD E.glob l x=x:=by unfold eD; rw[MG hlt]
    rw[e];exact .inl ⟨hlt,(hs.glob x c hlt hg).1,c,rfl,(hs.glob x c hlt hg).2⟩
  rename_i hlt;have hi:x-E.glob<A.length:=by omega
  have h1:=hs.at_ (x-E.glob) hi;rw[MF hi] at ho;cases ho;have e:eD E.glob l x=l.getD (x-E.glob) 0:=by unfold eD; rw[ME hlt]
  rw[e];exact .inr ⟨_,NP hi,rfl,h1⟩
 have hlive:∀x,x<E.glob+A.length->((mi E.glob gs A).get x).isSome=true->(m.get (eD E.glob l x)).isSome=true:=fun x hx hl=>by
  cases e1:(mi E.glob gs A).get x with
  | none=>rw[e1] at hl; cases hl
  | some o =>
   rcases hobj x o e1 hx with⟨_,h1,_⟩|⟨y,_,_,h1⟩
   rw[h1]; rfl
   rw[h1]; rfl
 refine⟨fun x k hx=>?_,fun x o k ho hx=>?_,fun x x' k k' hx hx' hl hl' hc=>?_,fun gl hgl=>?_⟩
 obtain⟨hlt,hj⟩:=hj x k hx;exact⟨hlt,(h.lt _ k hj).2⟩
 ·obtain⟨hlt,hj⟩:=hj x k hx;rcases hobj x o ho hlt with⟨_,h1,cs,rfl,h2⟩|⟨y,hy,rfl,h1⟩
  ·obtain⟨o',h3,h4⟩:=h.obj _ _ k h1 hj;refine⟨o',h3,?_⟩;cases o' with
   | cells c' ty fz =>
    refine⟨h4.1,fun i v hi=>?_⟩;obtain⟨v',h5,h6⟩:=h4.2 i v hi;have hpv:=MK.1 h2 v (M5 hi);have:=eA hpv h6;subst this;exact⟨_,h5,.aM hpv⟩
   | _=>exact h4.elim
  ·obtain⟨o',h3,h4⟩:=h.obj _ _ k h1 hj;refine⟨o',h3,?_⟩;have hok:=MK.1 hs.ok y hy;cases o' with
   | cells c' ty fz =>
    refine⟨by have:=h4.1; rwa[MS] at this ⊢,fun i v hi=>?_⟩
    rw[MP] at hi;obtain⟨z,hz,rfl⟩:=NY.1 hi;obtain⟨v',h5,h6⟩:=h4.2 i (z.val (eD E.glob l)) (by rw[MP,hz]; rfl)
    exact⟨v',h5,SV.VR (MK.1 hok z (M5 hz)) h6⟩
   | _=>exact h4.elim
 obtain⟨hlt,hj1⟩:=hj x k hx;obtain⟨hlt',hj2⟩:=hj x' k' hx';have e:=h.inj _ _ k k' hj1 hj2 (hlive x hlt hl) (hlive x' hlt' hl') hc;unfold eD at e;have hlen:=hs.len
 split at e
 split at e
 exact e
 rename_i a b; have:=hs.low (x'-E.glob) (by omega); omega
 split at e
 rename_i a b; have:=hs.low (x-E.glob) (by omega); omega
 rename_i a b;have:=hs.nd _ _ (by omega) (by omega) e
 omega
 show rD E.glob (E.glob+A.length) l j gl=_
 unfold rD eD;rw[OW,MG hgl]
 exact h.glob gl hgl
def SV.LR{j:aI}{g N:Nat}{l:PM Nat}:∀{xs:PM SV} {ys:PM ON},xs.all (SV.ok N)=true->LR j (xs.map (SV.val (eD g l))) ys->Go.Ab.LR (rD g N l j) (xs.map (SV.val fun b=>b)) ys
 | [],ys,_,h=>by rw[Go.Ab.LR.dc h]; exact .nil _
 | x::xs,ys,hx,h=>by
  obtain⟨y,ys',rfl,h1,h2⟩:=Go.Ab.LR.cons_inv h;simp only[NF,My] at hx;exact .cons (SV.VR hx.1 h1) (SV.LR hx.2 h2)
def AV.LR{j:aI}{g N:Nat}{l:PM Nat}:∀{xs:PM AV} {ys:PM ON},xs.all (AV.ok N)=true->LR j (xs.map (AV.val (eD g l))) ys->Go.Ab.LR (rD g N l j) (xs.map (AV.val fun b=>b)) ys
 | [],ys,_,h=>by rw[Go.Ab.LR.dc h]; exact .nil _
 | x::xs,ys,hx,h=>by
  obtain⟨y,ys',rfl,h1,h2⟩:=Go.Ab.LR.cons_inv h;simp only[NF,My] at hx;refine .cons ?_ (AV.LR hx.2 h2);cases x with
  | one x=>exact SV.VR hx.1 h1
  | agg xs =>
   have h1:Go.Ab.VR j (.agg (xs.map (SV.val (eD g l))).toArray) y:=h1;cases h1 with
   | agg a b =>
    rename_i zs;have:=SV.LR (j:=j) (g:=g) (N:=N) (l:=l) (xs:=xs) (ys:=zs.toList) hx.1 (by
     have:=Go.Ab.LR.eK a b
     simpa using this)
    refine Go.Ab.VR.yl ?_
    simpa using this
structure Case where
 A:PM Bk
 args:PM AV
 V:PM TV
 T:Bz
def Case.small(c:Case)(g:Nat)(gs:Nat->PE (PM ON)):PJ:=mi g gs c.A
def Case.Out(c:Case)(ms:PJ)(v1:ON)(m1:PJ):Prop:=Grown ms m1/\∃(a:Nat->Nat) (tg:Nat->Tag),v1=.tuple (c.V.map (TV.inst c.T a)).toArray /\
  (∀i,i<c.T.length->ms.next<=a i/\a i<m1.next)/\(∀i k,i<c.T.length->k<c.T.length->a i=a k->i=k)/\∀i x,c.T[i]? = some x->m1.get (a i)=some (.cells (x.1.map (TV.inst c.T a)) (tg i))/\(tg i=.own\/tg i=.more x.2)
def vk:ON->PM Nat
 | .slice (some a) _ _=>[a.block]
 | _=>[]
def Iy:ON->PM Nat
 | .agg xs=>xs.toList.flatMap vk
 | .tuple xs=>xs.toList.flatMap vk
 | v=>vk v
def cellsOf(m:PJ)(b:Nat):PM ON :=
 match m.get b with
 | some (.cells cs _)=>cs
 | _=>[]
def pJ(m:PJ)(v:ON):PM Nat:=(Iy v).flatMap fun b=>b::(cellsOf m b).flatMap vk
def KU:PM Nat->Bool
 | []=>true
 | x::xs=>!xs.contains x&&KU xs
def yg:∀{l:PM Nat},KU l=true->∀i k,i<l.length->k<l.length->l.getD i 0=l.getD k 0->i=k
 | [],_,i,k,hi,_,_=>by simp at hi
 | x::xs,h,i,k,hi,hk,e=>by
  simp only[KU,My,Ng,List.contains_eq_mem,decide_eq_false_iff_not] at h;have hx:∀q,q<xs.length->xs.getD q 0∈xs:=fun q hq=>by
   rw[Nz,MF hq]; exact NP hq
  cases i with
  | zero =>
   cases k with
   | zero=>rfl
   | succ k =>
    have e:x=xs.getD k 0:=e;exact MX (e▸hx k (by simpa using hk)) h.1
  | succ i =>
   cases k with
   | zero =>
    have e:xs.getD i 0=x:=e;exact MX (e▸hx i (by simpa using hi)) h.1
   | succ k=>exact NS (· + 1) (yg h.2 i k (by simpa using hi) (by simpa using hk) e)
def vy(o:PE PL)(cs:PM ON)(t:Tag):Bool :=
 match o with
 | some (.cells cs' t')=>oI cs' cs&&decide (t'=t)
 | _=>false
def tJ{o:PE PL}{cs:PM ON}{t:Tag}(h:vy o cs t=true):o=some (.cells cs t):=by
 unfold vy at h
 split at h
 simp only[My,MW] at h;rw[iZ h.1,h.2]
 cases h
def AO(m:PJ)(g:Nat)(f:Nat->Nat):PM Bk->PM Nat->Bool
 | [],[]=>true
 | o::os,b::bs=>vy (m.get b) (o.1.map (SV.val f)) o.2 &&(Nat.ble g b&&AO m g f os bs)
 | _,_=>false
def q7{m:PJ}{g:Nat}{f:Nat->Nat}:∀{A:PM Bk} {l:PM Nat},AO m g f A l=true->l.length=A.length/\∀i (h:i<A.length),m.get (l.getD i 0)=some (.cells (A[i].1.map (SV.val f)) A[i].2)/\g<=l.getD i 0
 | [],[],_=>⟨rfl,fun i h=>by simp at h⟩
 | o::os,b::bs,h=>by
  simp only[AO,My] at h;obtain⟨h1,h3,h4⟩:=h;obtain⟨h5,h6⟩:=q7 h4;refine⟨by simp[h5],fun i hi=>?_⟩
  cases i with
  | zero=>exact⟨tJ h1,MD h3⟩
  | succ i=>exact h6 i (by simpa using hi)
 | [],_::_,h=>by cases h
 | _::_,[],h=>by cases h
def Case.fits(c:Case)(g:Nat)(tabB:PJ->Bool)(args:PM ON)(m:PJ):Bool :=
 (fun l=>qJ args (c.args.map (AV.val (eD g l))) &&(AO m g (eD g l) c.A l &&(KU l&&tabB m))) (args.flatMap (pJ m))
def Case.value(c:Case)(a:Nat->Nat):ON:=.tuple (c.V.map (TV.inst c.T a)).toArray
def Case.run(c:Case)(g:Nat)(tabB:PJ->Bool)(args:PM ON)(m:PJ):PE (ON×PJ) :=
 if c.fits g tabB args m then some (c.value fun i=>m.next+i,m.fU (c.T.bT fun i=>m.next+i)) else none
def Case.Df{E:Env}{c:Case}{f:PU}{gs:Nat->PE (PM ON)}{tabB:PJ->Bool}(ht:∀m,tabB m=true->∀x cs,x<E.glob->gs x=some cs->m.get x=some (.cells cs .ro)/\cs.all aM=true)(hT:c.T.ok)(hV:c.V.all (TV.ok c.T.length)=true)(hA:c.args.all (AV.ok (E.glob+c.A.length))=true)
  (hA2:c.A.all (fun x=>x.1.all (SV.ok (E.glob+c.A.length)))=true) (h:W.lT E f (c.args.map (AV.val fun b=>b)) (c.small E.glob gs) (c.Out (c.small E.glob gs))) {args:PM ON} {m m':PJ} {v:ON} (hr:c.run E.glob tabB args m=some (v,m')) (pr:Bool) {j:aI} {w:OS} {args':PM ON} (hm:MR E j m w) (hl:LR j args args'):dL E.P pr f args'.toArray w (fo E j m w v m'):=by
 unfold Case.run at hr
 split at hr
 ·rename_i hf;cases hr;unfold Case.fits at hf;simp only[My] at hf;obtain⟨h1,h2,h3,h4⟩:=hf;have h1:=oB h1;obtain⟨h5,h6⟩:=q7 h2;generalize args.flatMap (pJ m)=l at h1 h2 h3 h5 h6;subst h1;have hs:=hm.FC (gs:=gs) (A:=c.A) (l:=l) ⟨h5,ht m h4,fun i hi=>(h6 i hi).1,fun i hi=>(h6 i (by omega)).2,yg h3,hA2⟩
  have hl':=AV.LR (g:=E.glob) (N:=E.glob+c.A.length) (l:=l) hA hl;have e:c.small E.glob gs ={ c.small E.glob gs with wl:=(c.small E.glob gs).next}:=rfl
  refine cq (fun h=>by cases h) (h _ w args' hs hl') ?_
  rintro v' w' ⟨v1,m1,⟨hg,a,tg,rfl,g1,g2,g3⟩,j',s,hv⟩;obtain⟨j2,s2,hmv⟩:=Sim.Kf hm hs (by rw[<-Case.small,<-e]; exact s) hg hT g1 g2 g3
  refine⟨j2,s2,?_⟩;cases hv with
  | tuple e1 e2 =>
   rename_i ys;refine .tuple (by rw[<-e1]; simp) fun i hi hi2=>?_
   simp only[List.size_toArray,MS] at hi;have hx:=MK.1 hV c.V[i] (NP hi);have h5:=e2 i (by simpa using hi) hi2
   simp only[List.getElem_toArray,List.getElem_map] at h5 ⊢;exact hmv _ hx _ h5
 cases hr
def K6(t:Tag)(sz:Nat):Bool :=
 match t with
 | .own=>true
 | .more k=>Nat.beq k sz
 | .ro=>false
def yE(o:PE PL)(cs:PM ON)(sz:Nat):Bool :=
 match o with
 | some (.cells cs' t)=>oI cs' cs&&K6 t sz
 | _=>false
def xG{o:PE PL}{cs:PM ON}{sz:Nat}(h:yE o cs sz=true):∃t,o=some (.cells cs t)/\(t=.own\/t=.more sz):=by
 unfold yE at h
 split at h
 rename_i cs' t;simp only[My] at h;rw[iZ h.1];refine⟨t,rfl,?_⟩;have h2:=h.2;unfold K6 at h2
 split at h2
 exact .inl rfl
 rw[Mz h2]; exact .inr rfl
 cases h2
 cases h
def FH(c:Case)(a:Nat->Nat)(lo:Nat)(m1:PJ):PM (PM TV×Nat)->PM Nat->Bool
 | [],[]=>true
 | x::xs,b::bs=>yE (m1.get b) (x.1.map (TV.inst c.T a)) x.2 &&(Nat.ble lo b &&(Nat.blt b m1.next&&FH c a lo m1 xs bs))
 | _,_=>false
def sw{c:Case}{a:Nat->Nat}{lo:Nat}{m1:PJ}:∀{T:PM (PM TV×Nat)} {l:PM Nat},FH c a lo m1 T l=true->l.length=T.length/\∀i x,T[i]? = some x->(∃t,m1.get (l.getD i 0)=some (.cells (x.1.map (TV.inst c.T a)) t)/\(t=.own\/t=.more x.2))/\lo<=l.getD i 0/\l.getD i 0<m1.next
 | [],[],_=>⟨rfl,fun i x h=>by simp at h⟩
 | y::xs,b::bs,h=>by
  simp only[FH,My] at h;obtain⟨h1,h2,h3,h4⟩:=h;obtain⟨h5,h6⟩:=sw h4;refine⟨by simp[h5],fun i x hi=>?_⟩
  cases i with
  | zero =>
   simp only[MM,Option.some.injEq] at hi;subst hi;exact⟨xG h1,MD h2,MD h3⟩
  | succ i=>exact h6 i x (by simpa using hi)
 | [],_::_,h=>by cases h
 | _::_,[],h=>by cases h
def DP:ON->ON->Bool
 | .tuple a,.tuple b=>qJ a.toList b.toList
 | v,u=>sZ v u
def C2:∀{v u:ON},DP v u=true->v=u:=by
 intro v u h;unfold DP at h
 split at h
 rw[Nd.1 (oB h)]
 exact mV h
def Case.D0(c:Case)(ms:PJ)(v:ON)(m1:PJ):Bool :=
 (fun l=>DP v (c.value fun i=>l.getD i 0) &&(FH c (fun i=>l.getD i 0) ms.next m1 c.T l &&(KU l &&(Nat.ble ms.next m1.wl &&(Nat.ble ms.next m1.next &&(List.range ms.next).all fun b=>A3 (m1.get b) (ms.get b)))))) (pJ m1 v)
def Case.ta{c:Case}{ms:PJ}{v:ON}{m1:PJ}(h:c.D0 ms v m1=true):c.Out ms v m1:=by
 unfold Case.D0 at h;simp only[My] at h;obtain⟨h1,h2,h3,h4,h5,h6⟩:=h;obtain⟨h7,h8⟩:=sw h2;generalize pJ m1 v=l at h1 h2 h3 h7 h8;refine⟨⟨MD h5,fun b hb=>xO (MK.1 h6 b (Oe.2 hb)),MD h4⟩,fun i=>l.getD i 0,fun i=>match m1.get (l.getD i 0) with
  | some (.cells _ t)=>t
  | _=>.own,C2 h1,fun i hi=>?_,fun i k hi hk e=>yg h3 i k (by omega) (by omega) e,fun i x hi=>?_⟩
 have hi':=MF hi;exact(h8 i _ hi').2
 obtain⟨⟨t,g1,g2⟩,_⟩:=h8 i x hi
 dsimp only
 rw[g1];exact⟨rfl,g2⟩
end Go.Ab
section
section
open Go Go.Ab Go.Ab.W
def PD:Nat->Nat->PM Nat
 | _,0=>[]
 | a,n+1=>a::PD (a+1) n
end
namespace Go.Proofs.YtpkadoocdgdcfaaGreatDoor
open Go Go.Ab
set_option maxRecDepth 100000
def iv(x:Int):ON:=.int .i64 x
def tv(x:Int):TV:=.v (.int .i64 x)
def sv(x:Int):SV:=.v (.int .i64 x)
def dN:PM TV:=([1,0,0,0,0,0,0,0,3,0,0,0,0,0,0,0]:PM Int).map fun x=>.v (.int .u64 x)
def ef(tag:Tag)(p:PM Int):Case where
 A:=[([0,1,1,2,2,3].map sv,.own),([1,1,1,1].map sv,.own),(p.map sv,tag)]
 args:=[.agg [.v (iv 4),.s 1 3],.agg [.s 2 4,.v (iv 1),.v (iv 3),.v (iv 2)],.one (.s 3 4)]
 V:=[.s 0,.s 4,.v (iv 0)]
 T:=[([.s 1,.s 2,.s 3],1),([0,0,0,1].map tv,1),([0,0,1,1].map tv,1),([0,1,1,1].map tv,1),(dN++dN++dN,16)]
noncomputable def LA:Hand:=hand lL j8 1000
noncomputable def JD (f:PU):PE FunN:=if f=137 then some (nr lL LA (fun _=>none) 137) else none
def HI:zJ lL LA:=mO (oC none none none) 1000
def zq:¬lL.mono:=fun h=>h
def HD:JU lL JD:=by
 intro g S hS args m K h;unfold JD at hS
 split at hS
 rename_i e;subst e;cases hS;exact qd mQ zq HI (fun h=>by cases h) h
 cases hS
abbrev Lh:Case:=ef .own [0,0,1,1]
abbrev Kv:Case:=ef (.more 1) [0,0,0,1]
abbrev KY:Case:=ef (.more 1) [0,0,1,1]
abbrev KK:Case:=ef (.more 1) [0,1,1,1]
noncomputable def Di (S:FunN) (c:Case):Bool:=S.run (c.args.map (AV.val fun b=>b)) (c.small 1 fj) fun v m=>c.D0 (c.small 1 fj) v m
noncomputable def qA (c:Case):Bool:=Di (nr lL LA JD 66) c
noncomputable def kS (f:PU) (c:Case):Bool:=Di (nr lL LA (fun _=>none) f) c
def HL(n d:Int):PM TV:=([n,0,0,0,0,0,0,0,d,0,0,0,0,0,0,0]:PM Int).map fun x=>.v (.int .u64 x)
def yL(n d:Int):PM SV:=([n,0,0,0,0,0,0,0,d,0,0,0,0,0,0,0]:PM Int).map fun x=>.v (.int .u64 x)
def JT(n:Int):PM SV:=([n,0,0,0,0,0,0,0]:PM Int).map fun x=>.v (.int .u64 x)
def Mv(n:Int):ON:=.agg #[.int .u64 n,.int .u64 0,.int .u64 0,.int .u64 0,.int .u64 0,.int .u64 0,.int .u64 0,.int .u64 0]
def Mt(n d:Int):ON:=.agg #[.int .u64 n,.int .u64 0,.int .u64 0,.int .u64 0,.int .u64 0,.int .u64 0,.int .u64 0,.int .u64 0,.int .u64 d,.int .u64 0,.int .u64 0,.int .u64 0,.int .u64 0,.int .u64 0,.int .u64 0,.int .u64 0]
def dh(n d:Int):Case:=⟨[],[.one (sv n),.one (sv d)],[.v (Mt n d),tv 0],[]⟩
def nM:Case where
 A:=[([0,1,1,2,2,3].map sv,.own),([1,1,1,1].map sv,.own),([0,0,1,1].map sv,.own)]
 args:=[.agg [.v (iv 4),.s 1 3],.agg [.s 2 4,.v (iv 1),.v (iv 3),.v (iv 2)],.one (.s 3 4)]
 V:=[.s 0,.s 4,tv 0]
 T:=[([.s 1,.s 2,.s 3],1),([0,0,0,1].map tv,1),([0,0,1,1].map tv,1),([0,1,1,1].map tv,1),([.s 5,.s 6,.s 7],1),(dN++dN++dN,16),(dN++dN++dN,16),(dN++dN++dN,16)]
def fS(p:PM Int)(k n:Int):Case:=⟨[([0,1,0,3,1,2,2,3].map sv,.own),(p.map sv,.own)],[.agg [.v (iv 4),.s 1 4],.one (.s 2 4),.one (sv k)],[.v (Mv n),tv 0],[]⟩
def kA:PM Bk:=[([.s 2 2,.s 3 2],.own),(yL 1 2++yL 1 2,.more 16),(yL 1 4++yL 3 4,.more 16)]
def lW:Case:=⟨kA++[(JT 1++JT 1,.more 8)],[.one (.s 1 2),.one (.s 4 2)],[.s 0,tv 0],[([.s 1,.s 2],1),(HL 3 4++HL 1 4,16),(HL 1 4++HL 3 4,16)]⟩
def ku:Case:=⟨[([.s 2 3,.s 3 3,.s 4 3],.own),(yL 1 1++yL 0 1++yL 0 1,.more 16),(yL 1 2++yL 0 1++yL 1 2,.more 16),(yL 0 1++yL 1 1++yL 0 1,.more 16)],[.one (.s 1 3)],[.s 0,tv 0],[([0,1,1].map tv,1)]⟩
def dC(a b:Int)(r:Bool):Case:=⟨kA++[(JT a++JT b,.more 8)],[.one (.s 1 2),.one (.s 4 2)],[.v (.bool r),tv 0],[]⟩
def qT:Case:=⟨[(JT 1++JT 2,.more 8)],[.one (.s 1 2)],[.s 0,tv 0],[(HL 1 3++HL 2 3,16)]⟩
def sd(a b c d k p q r s:Int):Case:=⟨kA++[(yL a b++yL c d,.more 16)],[.one (.s 1 2),.one (.s 4 2),.one (sv k)],[.s 0,tv 0],[(HL p q++HL r s,16)]⟩
abbrev zr:Case:=sd 1 1 0 1 1 1 2 1 2
abbrev yY:Case:=sd 1 3 2 3 5 1 3 2 3
set_option maxHeartbeats 0 in
def w9:qA Lh=true:=by decide +kernel
set_option maxHeartbeats 0 in
def xC:qA Kv=true:=by decide +kernel
set_option maxHeartbeats 0 in
def vY:qA KY=true:=by decide +kernel
set_option maxHeartbeats 0 in
def xX:qA KK=true:=by decide +kernel
end Go.Proofs.YtpkadoocdgdcfaaGreatDoor
end
namespace Go.Proofs.YtpkadoocdgdcfaaGreatDoor
open Go Go.Ab
set_option maxRecDepth 100000
attribute [local irreducible] nr Case.run Case.fits
def KB{c:Case}(h:qA c=true):W.lT lL 66 (c.args.map (AV.val fun b=>b)) (c.small 1 fj) (c.Out (c.small 1 fj)):=by
 unfold qA at h;have h1:=qd mQ zq HI HD (f:=66) (args:=c.args.map (AV.val fun b=>b)) (m:=c.small 1 fj) (K:=fun v m=>c.D0 (c.small 1 fj) v m) h;intro j w args' hm hl;refine cq (fun h=>h) (h1 j w args' hm hl) ?_;rintro v' w' ⟨v1,m1,hq,hv⟩;exact⟨v1,m1,Case.ta hq,hv⟩
def sx:PM ON->PM Int->Bool
 | [],[]=>true
 | .int .u8 n::vs,k::ks=>n==k&&sx vs ks
 | _,_=>false
def rq:∀{vs:PM ON} {ks:PM Int},sx vs ks=true->vs=ks.map (.int .u8)
 | [],[],_=>rfl
 | [],_::_,h=>by cases h
 | v::vs,[],h=>by simp[sx] at h
 | v::vs,k::ks,h=>by
  unfold sx at h
  split at h
  rename_i e _; cases e
  rename_i n vs' k' ks' e1 e2;cases e1; cases e2;simp only[My,beq_iff_eq] at h;rw[h.1,rq h.2]; rfl
  cases h
def gI(m:PJ):Bool :=
 match m.get 0 with
 | some (.cells cs .ro)=>sx cs jx
 | _=>false
def zf{m:PJ}(h:gI m=true):m.get 0=some (.cells (jx.map (.int .u8)) .ro):=by
 unfold gI at h
 split at h
 rename_i cs hg; rw[hg,rq h]
 cases h
def oJ:∀x c,fj x=some c->c.all aM=true:=by
 intro x c h;unfold fj at h
 split at h
 cases h;rw[List.all_map];exact MK.2 fun x _=>rfl
 cases h
def p8{m:PJ}(h:gI m=true):∀x cs,x<1->fj x=some cs->m.get x=some (.cells cs .ro)/\cs.all aM=true:=fun x cs hx he=>by
 refine⟨?_,oJ x cs he⟩;have:x=0:=by omega
 subst this;simp only[fj,if_true,Option.some.injEq] at he;rw[<-he]; exact zf h
def uZ(args:PM ON)(m:PJ):PE (ON×PJ) :=
 (Lh.run 1 gI args m).or ((Kv.run 1 gI args m).or ((KY.run 1 gI args m).or (KK.run 1 gI args m)))
def Cj(tag:Tag)(p:PM Int):(ef tag p).T.ok:=by
 intro x hx;have h:∀x ∈(ef .own [0,0,1,1]).T,0<x.2/\x.1.length=x.1.length/x.2*x.2/\x.1.length/x.2<=9223372036854775807/\x.1.all (TV.ok (ef .own [0,0,1,1]).T.length)=true:=by
  intro y hy;have:y=([.s 1,.s 2,.s 3],1)\/y=([0,0,0,1].map tv,1)\/y=([0,0,1,1].map tv,1)\/y=([0,1,1,1].map tv,1)\/y=(dN++dN++dN,16):=by simpa [ef] using hy
  rcases this with rfl|rfl|rfl|rfl|rfl<;>decide
 exact h x hx
def xp{args:PM ON}{m m':PJ}{v:ON}(h:uZ args m=some (v,m'))(pr:Bool){j:aI}{w:OS}{args':PM ON}(hm:MR lL j m w)(hl:LR j args args'):dL Tryz.prog pr 66 args'.toArray w (fo lL j m w v m'):=by
 have key:∀(tag:Tag) (p:PM Int),((ef tag p).A.all fun x=>x.1.all (SV.ok 4))=true->qA (ef tag p)=true->(ef tag p).run 1 gI args m=some (v,m')->dL Tryz.prog pr 66 args'.toArray w (fo lL j m w v m'):=fun tag p h0 h1 h2 =>
  Case.Df (E:=lL) (gs:=fj) (tabB:=gI) (fun m ht=>p8 ht) (Cj tag p) (by show([.s 0,.s 4,.v (iv 0)]:PM TV).all (TV.ok 5)=true; decide) (by show([.agg [.v (iv 4),.s 1 3],.agg [.s 2 4,.v (iv 1),.v (iv 3),.v (iv 2)],.one (.s 3 4)]:PM AV).all (AV.ok 4)=true; decide) h0 (KB h1) h2 pr hm hl
 unfold uZ at h;simp only[Option.or_eq_some_iff] at h;rcases h with h|⟨_,h|⟨_,h|⟨_,h⟩⟩⟩
 exact key _ _ (by decide) w9 h
 exact key _ _ (by decide) xC h
 exact key _ _ (by decide) vY h
 exact key _ _ (by decide) xX h
end Go.Proofs.YtpkadoocdgdcfaaGreatDoor
namespace Go.Ab
open Go
end Go.Ab
namespace Go.Proofs.YtpkadoocdgdcfaaGreatDoor
open Go Go.Ab Go.Ab.W
variable{p q pz:PE Prim}
def B0(_:Nat)(x y c:Nat):PE (Nat×Nat):=gd (decide (c<=1)) (some ((x+y+c)%18446744073709551616,(x+y+c)/18446744073709551616))
def GH(_:Nat)(x y c:Nat):PE (Nat×Nat):=gd (decide (c<=1)) (some ((x+18446744073709551616-y-c)%18446744073709551616,if x<y+c then 1 else 0))
def tu{V:Nat->Nat->Nat->ON}{x y c:Nat}(hc:c<=1)(m:PJ):dD V [.int .u64 ((x:Nat):Int),.int .u64 ((y:Nat):Int),.int .u64 ((c:Nat):Int)] m=some (V x y c,m):=by
 show(if Nat.ble c 1 then some (V x y c,m) else none)=_
 rw[M6 hc]; rfl
def tH(n:Nat)(x y c:Nat)(r:Nat×Nat)(hF:B0 n x y c=some r)(m:PJ) :
  aD (dt p q pz) 234 [.int .u64 ((x:Nat):Int),.int .u64 ((y:Nat):Int),.int .u64 ((c:Nat):Int)] m (fun v m'=>∃_:PN,v=.tuple #[.int .u64 ((r.1:Nat):Int),.int .u64 ((r.2:Nat):Int)]/\Hp m m' []):=by
 obtain⟨hc,hF⟩:=ak hF;have hr:=MH hF;subst hr;exact aD.cR (p:=⟨dD uU⟩) rfl (tu (of_decide_eq_true hc) m) ⟨(),rfl,.start m⟩
def AA(n:Nat)(x y c:Nat)(r:Nat×Nat)(hF:GH n x y c=some r)(m:PJ) :
  aD (dt p q pz) 251 [.int .u64 ((x:Nat):Int),.int .u64 ((y:Nat):Int),.int .u64 ((c:Nat):Int)] m (fun v m'=>∃_:PN,v=.tuple #[.int .u64 ((r.1:Nat):Int),.int .u64 ((r.2:Nat):Int)]/\Hp m m' []):=by
 obtain⟨hc,hF⟩:=ak hF;have hr:=MH hF;subst hr;exact aD.cR (p:=⟨dD rX⟩) rfl (tu (of_decide_eq_true hc) m) ⟨(),by
  show rX x y c=_
  unfold rX
  split<;>rfl,.start m⟩
end Go.Proofs.YtpkadoocdgdcfaaGreatDoor
namespace Go.Proofs.YtpkadoocdgdcfaaGreatDoor
open Go Go.Ab
set_option maxRecDepth 10000
variable{p q pz:PE Prim}
end Go.Proofs.YtpkadoocdgdcfaaGreatDoor
namespace Go.Ab.W
open Go Go.Ab
section
variable{α β:Type}{r:Rep β}
variable{m0 m m':PJ}{J rest I:PM Pc}{kE:α->ON}
end
section
variable{α β:Type}{r:Rep β}{E:Env}{n:Nat}{m0:PJ}{fs:Fs}{J rest:PM Pc}{fn:PU}{ro:PE Nat}{Q:PK->Tm->PJ->Prop}{kE:α->ON}
end
section
variable{α β:Type}{r:Rep β}{E:Env}{n:Nat}{m0:PJ}{fs:Fs}{J rest:PM Pc}{fn:PU}{ro:PE Nat}{Q:PK->Tm->PJ->Prop}{kE:α->ON}
end
def wR.LW{α:Type}{m0:PJ}{ps:PM Pc}{r:Rep α}{z:α}{g:r.G}{S:OM}(h:Lf m0 ps r z g S)(k:Nat):wR m0 ps r (List.replicate k z) (List.replicate k (r.V z g)) S:=by
 have:=wR.rep h k;rwa[List.map_id'] at this
end Go.Ab.W
namespace Go.Proofs.YtpkadoocdgdcfaaGreatDoor
open Go Go.Ab Go.Ab.W
set_option maxRecDepth 10000
set_option maxHeartbeats 4000000
attribute [local irreducible] Tm.at Trie.set Trie.get PJ.get PJ.set PJ.alloc PJ.ww PJ.kill
variable{p q pz:PE Prim}
def Ki{P:OQ}{ty e l c l' c':Nat}(hu:P.underlying ty=some (.slice e)):bz .eql ty P (.slice none l c) (.slice none l' c')=some (.bool true):=by
 simp only[bz,Op.maxDepth,jn,hu,MB,Option.isNone_none]
def Kq{P:OQ}{ty e l c l' c':Nat}{A:Addr}(hu:P.underlying ty=some (.slice e)):bz .eql ty P (.slice (some A) l c) (.slice none l' c')=some (.bool false):=by
 simp only[bz,Op.maxDepth,jn,hu,MB]
def Rd.F7{m:PJ}{cap w n:Nat}{es:OK}(h:Rd m none cap w n es):n=0:=by
 rcases h.2.2 with⟨_,h⟩|⟨_,_,h,_⟩|⟨_,_,h,_⟩
 exact h
 cases h
 cases h
def Gl(m:PJ):Prop:=m.get 0=some (.cells (jx.map (.int .u8)) .ro)/\0<m.next
def Gl.ext{m m':PJ}(h:Gl m)(e:Ext m m'):Gl m':=⟨by rw[e.same 0 h.2]; exact h.1,MC h.2 e.next⟩
def Jw:(dt p q pz).P.underlying 72=some (.slice 68):=by kernel_rfl
def Ip:SlT (dt p q pz).P 72 68 16:=SlT.of (by kernel_rfl)
def L3:bU (dt p q pz).P 68=some (.agg #[.int .u64 0,.int .u64 0,.int .u64 0,.int .u64 0,.int .u64 0,.int .u64 0,.int .u64 0,.int .u64 0,.int .u64 0,.int .u64 0,.int .u64 0,.int .u64 0,.int .u64 0,.int .u64 0,.int .u64 0,.int .u64 0]):=by kernel_rfl
def Fq(n:Nat)(es:OK)(a:OL)(c:Nat)(hl:lim n=true)(hw:∀e∈es,e.length=16)(ho:fE es)(m:PJ)(h:Rd m a c 16 n es):aD (dt p q pz) 55 [.slice a n c] m (fun v m'=>∃x:OL,v=.slice x n n/\Hp m m' [.sl x 16 n es]):=by
 cases a with
 | none =>
  have h0:=Rd.F7 h;subst h0;have:es=[]:=NL.1 h.1;subst this;refine aw (m0:=m) (ps:=[]) (N:=8) (rs:=[.tmp 2]) rfl Tryz.func55 rfl rfl rfl (Pf m) ?_;refine OZ ?_;refine OY ?_;refine OX (ai rfl) rfl ?_;refine O0 ?_;refine O1 ?_;refine OZ ?_;refine OZ ?_;refine OY ?_;refine OX (ab rfl) rfl ?_;refine OX (al rfl rfl (Ki Jw)) rfl ?_;refine O0 ?_;refine O1 ?_;refine Pa rfl rfl ?_;refine OZ ?_;refine OY ?_;refine OX (ai rfl) rfl ?_;refine O0 ?_;refine O1 ?_;refine O6 ?_;refine Pm ?_;exact O7 (.tmp rfl .nil) fun m' hm=>⟨none,rfl,(ah.nil 16 rfl) m' hm⟩
 | some A =>
  refine aw (m0:=m) (ps:=[.rd (some A) c 16 n es]) (N:=8) (rs:=[.tmp 2]) rfl Tryz.func55 rfl rfl rfl ((Pf m).dF dg h) ?_;refine OZ ?_;refine OY ?_;refine OX (ai rfl) rfl ?_;refine O0 ?_;refine O1 ?_;refine OZ ?_;refine OZ ?_;refine OY ?_;refine OX (ab rfl) rfl ?_;refine OX (al rfl rfl (Kq Jw)) rfl ?_;refine O0 ?_;refine O1 ?_;refine Pb rfl rfl ?_;refine O4 ?_;refine O1 ?_;refine OZ ?_;refine OY ?_;refine O2 (jZ (es:=[]) Ip rfl (j5 Ip L3 rfl rfl) rfl rfl) gn rfl fun b=>?_;refine OX (ab rfl) rfl ?_;refine PC (ah.close (k:=0) rfl) ?_;refine O2 (Lj (k:=0) (k2:=1) (n:=0) (es:=[]) (es2:=es) Ip ⟨_,Jw⟩ rfl rfl rfl (.rd _ _ _ _ _) hw ho (by rw[Nu]; exact hl)) gn rfl fun a2=>?_
  refine OX (ai rfl) rfl ?_;refine O0 ?_;refine O1 ?_;refine O6 ?_;exact O7 (.tmp rfl .nil) fun m' hm=>⟨a2,by show Value.slice a2 (0+n) (0+n)=_; rw[Nu],by
   have:=(ah.ae [0] rfl rfl) m' hm;rwa[Nu] at this⟩
def Lr(_:Nat)(l:PM (Nat×Nat×Nat×Nat×Nat×Nat×Nat×Nat×Nat×Nat×Nat×Nat×Nat×Nat×Nat×Nat)):PE (PM (Nat×Nat×Nat×Nat×Nat×Nat×Nat×Nat×Nat×Nat×Nat×Nat×Nat×Nat×Nat×Nat)):=gd (lim l.length) (some l)
def JA(n:Nat)(l:PM (Nat×Nat×Nat×Nat×Nat×Nat×Nat×Nat×Nat×Nat×Nat×Nat×Nat×Nat×Nat×Nat))(a:OL)(c:Nat)(r:PM (Nat×Nat×Nat×Nat×Nat×Nat×Nat×Nat×Nat×Nat×Nat×Nat×Nat×Nat×Nat×Nat))(hF:Lr n l=some r)(m:PJ)(h:Rd m a c 16 l.length (l.map (eP (eN .u64) (eP (eN .u64) (eP (eN .u64) (eP (eN .u64) (eP (eN .u64) (eP (eN .u64) (eP (eN .u64) (eP (eN .u64) (eP (eN .u64) (eP (eN .u64) (eP (eN .u64) (eP (eN .u64) (eP (eN .u64) (eP (eN .u64) (eP (eN .u64) (eN .u64)))))))))))))))))):aD (dt p q pz) 55 [.slice a l.length c] m (fun v m'=>∃x:OL×Nat,v=.slice x.1 x.2 x.2/\Hp m m' [.sl x.1 16 x.2 (r.map (eP (eN .u64) (eP (eN .u64) (eP (eN .u64) (eP (eN .u64) (eP (eN .u64) (eP (eN .u64) (eP (eN .u64) (eP (eN .u64) (eP (eN .u64) (eP (eN .u64) (eP (eN .u64) (eP (eN .u64) (eP (eN .u64) (eP (eN .u64) (eP (eN .u64) (eN .u64)))))))))))))))))]):=by
 obtain⟨hl,hF⟩:=ak hF;cases hF;exact(Fq l.length (l.map (eP (eN .u64) (eP (eN .u64) (eP (eN .u64) (eP (eN .u64) (eP (eN .u64) (eP (eN .u64) (eP (eN .u64) (eP (eN .u64) (eP (eN .u64) (eP (eN .u64) (eP (eN .u64) (eP (eN .u64) (eP (eN .u64) (eP (eN .u64) (eP (eN .u64) (eN .u64))))))))))))))))) a c hl ((fq (dZ .u64) (fq (dZ .u64) (fq (dZ .u64) (fq (dZ .u64) (fq (dZ .u64) (fq (dZ .u64) (fq (dZ .u64) (fq (dZ .u64) (fq (dZ .u64) (fq (dZ .u64) (fq (dZ .u64) (fq (dZ .u64) (fq (dZ .u64) (fq (dZ .u64) (fq (dZ .u64) (dZ .u64)))))))))))))))).px l) ((fq (dZ .u64) (fq (dZ .u64) (fq (dZ .u64) (fq (dZ .u64) (fq (dZ .u64) (fq (dZ .u64) (fq (dZ .u64) (fq (dZ .u64) (fq (dZ .u64) (fq (dZ .u64) (fq (dZ .u64) (fq (dZ .u64) (fq (dZ .u64) (fq (dZ .u64) (fq (dZ .u64) (dZ .u64)))))))))))))))).fE l) m h).mono fun v m' ⟨x,h1,h2⟩=>⟨(x,l.length),h1,h2⟩
def LP(_:Nat):PE Bool:=some true
end Go.Proofs.YtpkadoocdgdcfaaGreatDoor
namespace Go.Ab.W
open Go Go.Ab
attribute [local irreducible] Tm.at Trie.set Trie.get PJ.get PJ.set PJ.alloc PJ.ww PJ.kill
section
variable{E:Env}{n:Nat}{m0:PJ}{fs:Fs}{ps:PM Pc}{ty:OO}{ops:PO Oper}{K:Tm->PJ->Prop}{os:PM Oper}
end
end Go.Ab.W
namespace Go.Ab
open Go
attribute [local irreducible] Tm.at Trie.set Trie.get PJ.get PJ.set PJ.alloc PJ.ww PJ.kill
def yA(ns:PM Int):ByteArray:=ns.foldl (fun r n=>r.push (UInt8.ofNat n.toNat)) ByteArray.empty
section
variable{E:Env}{n:Nat}{ops:PO Oper}{K:Tm->PJ->Prop}{t:Tm}{m:PJ}
def De{j:aI}{w:OS}(h:MR E j m w){s d e:OO}(hs:E.P.underlying s=some (.slice e))(he:E.P.underlying e=some (.int .u8))(hd:E.P.underlying d=some .string){a:OL}{len cap:Nat}{ns:PM Int}(hc:cd 1 (.slice a len cap) len m=some (ns.map (Value.int .u8))){x':ON}(hx:VR j (.slice a len cap) x') :
  (convert s d x').run E.P w=.ok (.string (yA ns)) w:=by
 obtain⟨new',h1,h2⟩:=vz h hc hx;have hnew:new'=ns.map (Value.int .u8):=LR.AT (by rw[List.all_map]; exact MK.2 fun _ _=>rfl) h2
 subst hnew;have h3:=h1 w rfl;have key:∀(a':Addr) (cap':Nat),x'=.slice (some a') len cap'->(convert s d x').run E.P w=.ok (.string (yA ns)) w:=fun a' cap' e'=>by
  subst e';rw[run_convert_bytes_string w s d e (some a') len cap' hs he hd];refine run_bytesToString w a' len cap' ns ?_;have:(Builtin.firstCells 1 len (.slice (some a') len cap')).run E.P w=(loadCells a' (len*1)).run E.P w:=rfl;rw[this,Nat.mul_one] at h3;exact h3
 cases hx with
 | snil l c =>
  rw[run_convert_bytes_string w s d e none len cap hs he hd];have hz:ns=[]:=by
   simp only[cd] at hc
   split at hc
   ·cases ns with
    | nil=>rfl
    | cons a l=>cases hc
   cases hc
  subst hz
  rfl
 | slice _ _=>exact key _ _ rfl
 | sliceM _ _ _ _ _ _=>exact key _ _ rfl
 | gA=>exact key _ _ rfl
 | dry=>exact key _ _ rfl
def eS.str{o:Oper}{os:PM Oper}{s d e:OO}{x:OP}{a:OL}{len cap:Nat}{ns:PM Int}(hw:aT ops o t=true)(hop:o.op=.convert s d x)(hs:E.P.underlying s=some (.slice e))(he:E.P.underlying e=some (.int .u8))(hd:E.P.underlying d=some .string)(hx:au E t x=some (.slice a len cap))(hc:cd 1 (.slice a len cap) len m=some (ns.map (Value.int .u8)))
  (hk:∃t',fQ n t o.dst (.string (yA ns))=some t'/\eS E n ops K os t' m):eS E n ops K (o::os) t m:=fun i F j0 m0 w0 ds Q j w a' hF h0 hd' s' ht hds hQ=>by
 obtain⟨ho,hd2,hidx⟩:=lh hd';obtain⟨t',hp,hk⟩:=hk;rw[hidx];simp only[wpOpsIn,ho,iW ht];rw[MG hw];have hrun:=De s'.mr hs he hd hc (aF s'.mr ht hx);have hex:execOp a'.eval o=(do pure (.value (<-convert s d (a'.eval x)))):=by simp only[execOp,hop]
 refine cH hF (fun c e=>by rw[hop] at e; cases e) (v:=.string (yA ns)) (w':=w) (by rw[hex]; exact jO.value hrun) ?_
 exact hk (i+1) F j0 m0 w0 ds Q j w _ hF h0 hd2 s' (ht.put (.string _) hp) (by cases hds':o.dst<;>simp[Act.put,hds]) hQ
namespace W
section
variable{m0:PJ}{fs:Fs}{ps:PM Pc}{os:PM Oper}
def Vn.str{s d e q:OO}{x:OP}{a:OL}{len cap:Nat}{ns:PM Int}{ty:OO}{p:String}{af:PO Edge}(hs:E.P.underlying s=some (.slice e))(he:E.P.underlying e=some (.int .u8))(hd:E.P.underlying d=some .string)(hx:ev E fs x=some (.slice a len cap))(hc:∀m,Hp m0 m ps->cd 1 (.slice a len cap) len m=some (ns.map (Value.int .u8)))(hq:Nat.blt q n=true)
  (k:Vn E n ops K os m0 ((q,.string (yA ns))::fs) ps):Vn E n ops K (⟨some q,.convert s d x,ty,p,af,none⟩::os) m0 fs ps:=fun t m hfr hm=>by
 have hq':q<n:=by rwa[N1] at hq
 refine eS.str rfl rfl hs he hd (hfr.ev hx) (hc m hm) ⟨_,by rw[cy,MG hq'],k _ m hfr.set hm⟩
end
end W
end
end Go.Ab
namespace Go.Ab.W
open Go Go.Ab
section
variable{E:Env}{n:Nat}{m0:PJ}{fs:Fs}{ps:PM Pc}{x:OP}{v:ON}{ty:OO}
end
class TyC (P:OQ) (ty:OO) (ag:outParam Bool) (sz:outParam Nat):Prop where
 t:TyI P ty ag sz
class FaC (P:OQ) (ty:OO) (f:Nat) (off:outParam Nat):Prop where
 t:∀b o:Nat,aR P ty (ptr b o) f=some (ptr b (o+off))
class SlC (P:OQ) (ty:OO) (el:outParam OO) (w:outParam Nat):Prop where
 t:SlT P ty el w
class ArC (P:OQ) (ty:OO) (el:outParam OO) (len w:outParam Nat):Prop where
 t:ArT P ty el len w
class UsC (P:OQ) (ty:OO) (el:outParam OO):Prop where
 t:P.underlying ty=some (.slice el)
section
variable{E:Env}{n:Nat}{m0:PJ}{fs:Fs}{ps ps':PM Pc}{ops:PO Oper}{os:PM Oper}{K:Tm->PJ->Prop}{dr:Bool}
variable{ty:OO}{p:String}{af:PO Edge}{d:PE Nat}{o:Op}{g:PE (Nat×Bool)}{v:ON}
end
section
variable{k:IntKind}{P:OQ}{ty:OO}
end
section
variable{E:Env}{n:Nat}{m0:PJ}{fs:Fs}{ps ps':PM Pc}{ops:PO Oper}{os:PM Oper}{K:Tm->PJ->Prop}{dr:Bool}
variable{ty ty' oty:OO}{p:String}{af:PO Edge}{d:Nat}{dd:PE Nat}{o:Op}{a b r v:ON}{x y c:OP}
def LG(ps:PM Pc)(q q':Pc)(ps':PM Pc):Prop:=∃k,pk ps k=some q/\du ps k q'=ps'
end
structure Bx(Q:Prop):Prop where
 v:Q
section
variable{E:Env}{n:Nat}{m0:PJ}{fs:Fs}{ps:PM Pc}{fn:PU}{ro:PE Nat}{c:Code}{Q:PK->Tm->PJ->Prop}
def Wl(E:Env)(n:Nat)(fn:PU)(ro:PE Nat)(c:Code)(Q:PK->Tm->PJ->Prop)(m0:PJ)(fs:Fs)(ps:PM Pc):Prop:=∀t m,Fr t fs->Hp m0 m ps->sG E n fn ro c Q t m
end
section
variable{E:Env}{n:Nat}{m0:PJ}{fs fs':Fs}{ps ps':PM Pc}{ops:PO Oper}{os:PM Oper}{K:Tm->PJ->Prop}{dr:Bool}{fn:PU}{ro:PE Nat}{c:Code}{Q:PK->Tm->PJ->Prop}
variable{ty oty:OO}{p:String}{af:PO Edge}{d:Nat}{g:PE (Nat×Bool)}{x:OP}{v:ON}
def ap{ρ:Type}{δ:ρ->Type}(X:(r:ρ)->δ r->En)(r:ρ):δ r->En:=X r
def lo{σ ρ γ:Type}{δ:ρ->Type}{body:σ->PE (σ⊕ρ)}{X:(r:ρ)->δ r->En}{N:Nat}{s:σ}{r:ρ}(h:cT body N s=some r)(g:γ)(ks:PM Nat)(I:σ->γ->En)
  (hb:∀s g r,body s=some r->Wk E n fn ro c (match r with|.inl s'=>uh m0 (I s')|.inr r=>uh m0 (X r)) m0 (I s g).fs (I s g).ps)
  (hs:sub fs (I s g).fs:=by repeat first|exact sn|refine sc rfl ?_) (hd:nQ ks=true:=by rfl) (hp:ae ps ks=some (I s g).ps:=by rfl)
  (hn:∀s g,(I s g).e=.normal:=by exact fun _ _=>rfl) (hx:∀r g,(X r g).e≠.normal:=by intro r d; first |(intro e; cases e; done) |(rcases r with r|r<;>first |(intro e; cases e; done) |(rcases r with r|r<;>first |(intro e; cases e; done) |(rcases r with r|r<;>intro e<;>cases e)))):Wk E n fn ro (.loop c) (uh m0 (ap X r)) m0 fs ps:=.cG hs (ah.ae ks hd hp) (Ph body I X hb hn hx N s r h g)
variable{m:PJ}{a:OL}{cap w l:Nat}{es:OK}
variable{α:Type}{V:α->ON}{N:α->PM Pc}{R:α->Pc}{f:OP}{q:PU}{ars:PO OP}{ts:PO OO}{args:PM ON}{prs:PM (Nat×Nat)}{ss:PM Nk}
def wc(hg:vQ ops fs g true)(hc:∀m,Hp m0 m ps->aD E q args m (fun v m'=>∃x,v=V x/\Hp m m' (N x)))(k:∀x,Wo dr E n ops K os m0 ((d,V x)::fs) (N x++ps))(hf:ev E fs f=some (.func (.func q) #[] #[]):=by rfl)(ha:nv E fs ars.toList=some args:=by rfl)(ho:∀x,vi (N x)=true:=by exact fun _=>rfl)(hd:Nat.blt d n=true:=by rfl):Wo dr E n ops K (⟨some d,.call ⟨.value f,ars,ts⟩,ty,p,af,g⟩::os) m0 fs ps:=O2 (bO hf ha hc ho) hg hd k
def nc(hg:vQ ops fs g true)(hc:∀m,Hp m0 m ps->aD E q args m (fun v m'=>∃x,v=V x/\Hp m m' (N x)))(k:∀x,Wn E n ops prs K os (.call::ss) m0 ((d,V x)::fs) (N x++ps))(hf:ev E fs f=some (.func (.func q) #[] #[]):=by rfl)(ha:nv E fs ars.toList=some args:=by rfl)(ho:∀x,vi (N x)=true:=by exact fun _=>rfl)(hd:Nat.blt d n=true:=by rfl):Wn E n ops prs K (⟨some d,.call ⟨.value f,ars,ts⟩,ty,p,af,g⟩::os) ss m0 fs ps:=Pt (q8 hf ha hc ho) hg hd k
end
end Go.Ab.W
namespace Go.Proofs.YtpkadoocdgdcfaaGreatDoor
open Go Go.Ab Go.Ab.W
set_option maxRecDepth 100000
namespace Nm
attribute [local irreducible] Wo Wk At Wn Od Ox bw bz
attribute [local irreducible] Tm.at Trie.set Trie.get PJ.get PJ.set PJ.alloc PJ.ww PJ.kill
variable{p q pz:PE Prim}
def oQ(n:Nat)(l1:PM (Int)):(PM (Nat)×Int)->PE ((PM (Nat)×Int) ⊕(PM (Nat))):=fun(l20,v21) =>
br (decide (v21<(l1.length:Int))) (
gd (cP v21 l1.length) (
ob (l1[v21.toNat]?) fun x39 =>
gd (cP v21 ((l1.length:Int).toNat)) (
ob (l20[v21.toNat]?) fun x42 =>
some (.inl ((l20.set v21.toNat (ui .u8 x39)),OT (v21+1)))))) (
some (.inr l20))
def FF(n:Nat)(l1:PM (Int)):PE (PM (Nat)×Nat) :=
gd (decide (0<=(l1.length:Int))) (gd (lim ((l1.length:Int).toNat)) (
ob (
cT (oQ n l1) n ((List.replicate (l1.length:Int).toNat (0:Nat)),0)) fun l34 =>
some (l34,(l1.length:Int).toNat)))
def Mf:(dt p q pz).P.underlying 39=some (.slice 3):=by kernel_rfl
def z5:bU (dt p q pz).P 5=some (.int .u8 ((0:Nat):Int)):=by kernel_rfl
def Mr:SlT (dt p q pz).P 39 3 1:=SlT.of (by kernel_rfl)
def tl:TyI (dt p q pz).P 3 false 1:=⟨by kernel_rfl,by kernel_rfl,by kernel_rfl⟩
def u3:(dt p q pz).P.underlying 3=some (.int .i64):=by kernel_rfl
def u5:(dt p q pz).P.underlying 5=some (.int .u8):=by kernel_rfl
def Lw:SlT (dt p q pz).P 26 5 1:=SlT.of (by kernel_rfl)
def Ly:TyI (dt p q pz).P 5 false 1:=⟨by kernel_rfl,by kernel_rfl,by kernel_rfl⟩
def Hk(hE:EnvOk (dt p q pz))(n:Nat)(l1:PM (Int))(a2:OL)(c3:Nat)(r:PM (Nat)×Nat)(hF:FF n l1=some r)(m:PJ)(h4:Rd m a2 c3 1 l1.length (l1.map (eI .i64))){R:ON->PJ->Prop}(kN:∀g:OL,Vk (dt p q pz) 24 70 none (LH 3 (vP Tryz.f70)) (mM (dt p q pz) [.tmp 2] R) m ((fun(r:PM (Nat)×Nat) (g:OL)=>match r,g with |(l47,n49),a48=>([(3,.slice a48 n49 n49)]:Fs)) r g) ((fun(r:PM (Nat)×Nat) (g:OL)=>match r,g with |(l47,n49),a48=>([.sl a48 1 n49 (l47.map (eN .u8))]:PM Pc)) r g)) :
  Vk (dt p q pz) 24 70 none (vP Tryz.f70) (mM (dt p q pz) [.tmp 2] R) m (wT [.slice a2 l1.length c3] 0 []) [.rd a2 c3 1 l1.length (l1.map (eI .i64))]:=by
 unfold FF at hF;refine Vk.seq hE ?_;refine OY ?_;refine OX (ai rfl) rfl ?_;refine O0 ?_;refine At.LD ?_;refine Vk.seq hE ?_;refine OY ?_;refine OX (ab rfl) rfl ?_;refine OX (bB (k:=0) Mf rfl rfl (.inl rfl)) rfl ?_;obtain⟨h5,hF⟩:=ak hF;obtain⟨h6,hF⟩:=ak hF;refine O2 (lR (f:=eN .u8) (z0:=(0:Nat)) Lw rfl h5 h6 z5 rfl rfl) gn rfl fun b7=>?_;refine OX (ai rfl) rfl ?_;refine O0 ?_;refine At.LD ?_;refine Vk.seq hE ?_;refine OZ ?_;refine OY ?_;refine OX (ab rfl) rfl ?_;refine OX (bB (k:=1) Mf rfl rfl (.inl rfl)) rfl ?_;refine OX (ab rfl) rfl ?_;refine O0 ?_;refine O1 ?_;refine O5 ?_;obtain⟨l34,h45,hF⟩:=aa hF;refine Pd (G:=(fun(r:PM (Nat)) (g:PN)=>match r,g with|l34,_=>⟨(.exit 0),[(3,.slice (some ⟨b7,0,none⟩) ((l1.length:Int).toNat) ((l1.length:Int).toNat))],[.arr b7 1 ((l1.length:Int).toNat) (l34.map (eN .u8)) .own]⟩) l34) ?_ ?_
 refine Ps (fs':=[(3,.slice (some ⟨b7,0,none⟩) ((l1.length:Int).toNat) ((l1.length:Int).toNat)),(9,.slice a2 l1.length c3),(10,.int .i64 (l1.length:Int)),(11,.int .i64 0)]) (ps':=[.arr b7 1 ((l1.length:Int).toNat) ((List.replicate (l1.length:Int).toNat (0:Nat)).map (eN .u8)) .own,.rd a2 c3 1 l1.length (l1.map (eI .i64))]) (sc rfl (sc rfl (sc rfl (sc rfl sn)))) (ah.ae [0,1] rfl rfl) ?_;refine Ph (σ:=PM (Nat)×Int) (ρ:=PM (Nat)) (γ:=PN) (δ:=fun _=>PN) _ (fun(s:PM (Nat)×Int) (g:PN)=>match s,g with |(l20,v21),_=>⟨.normal,[(3,.slice (some ⟨b7,0,none⟩) ((l1.length:Int).toNat) ((l1.length:Int).toNat)),(9,.slice a2 l1.length c3),(10,.int .i64 (l1.length:Int)),(11,.int .i64 v21)],[.arr b7 1 ((l1.length:Int).toNat) (l20.map (eN .u8)) .own,.rd a2 c3 1 l1.length (l1.map (eI .i64))]⟩) (fun(r:PM (Nat)) (g:PN)=>match r,g with|l34,_=>⟨(.exit 0),[(3,.slice (some ⟨b7,0,none⟩) ((l1.length:Int).toNat) ((l1.length:Int).toNat))],[.arr b7 1 ((l1.length:Int).toNat) (l34.map (eN .u8)) .own]⟩) ?_ (fun _ _=>rfl) (fun r d=>by intro e; cases e) _ _ _ h45 ()
 clear hF h45;rintro⟨l20,v21⟩ ⟨⟩ r hF;unfold oQ at hF;refine OZ ?_;refine OY ?_;refine OX (al rfl rfl (aO _ _ _)) rfl ?_;refine O0 ?_;refine O1 ?_;refine OZ ?_;rcases aj hF with⟨h35,hF⟩|⟨h35,hF⟩
 refine Pa rfl h35 ?_;refine O4 ?_;refine O1 ?_;refine OZ ?_;refine O5 ?_;refine OZ ?_;refine OY ?_;refine OX (ab rfl) rfl ?_;obtain⟨h36,hF⟩:=ak hF;replace h36:=aq h36;refine Pu (k:=1) rfl (aX h36) ?_;rintro b37 o38 rfl;refine O8 (bV Mr rfl rfl h36) gn rfl ?_;obtain⟨x39,h40,hF⟩:=aa hF;refine OX (cg (k:=0) tl rfl rfl (aU h40) rfl rfl) rfl ?_;refine OX (ai rfl) rfl ?_;refine OX (ai rfl) rfl ?_;refine O0 ?_;refine O1 ?_;refine OY ?_;refine OX (ab rfl) rfl ?_;refine OX (ab rfl) rfl ?_;refine OX (ab rfl) rfl ?_;refine OX (oG rfl (BI (by rw[u3]; rfl) u5 rfl)) rfl ?_
 obtain⟨h41,hF⟩:=ak hF;replace h41:=aq h41;refine O8 (cZ Lw rfl rfl h41) gn rfl ?_;obtain⟨x42,h43,hF⟩:=aa hF;refine Pe (eW (k:=1) (x1:=x42) (x2:=ui .u8 x39) Ly rfl rfl rfl h43 rfl) ?_;refine O0 ?_;refine Pn ?_;refine O1 ?_;refine OY ?_;refine OX (al rfl rfl (aG _ _ _)) rfl ?_;refine OX (ab rfl) rfl ?_;refine O0 ?_;cases hF;exact O3 () rfl (sc rfl (sc rfl (sc rfl (sc rfl sn)))) (ah.ae [1,2] rfl rfl)
 refine Pb rfl h35 ?_;refine Pg ?_;refine Pq ?_;cases hF;exact O3 () rfl (sc rfl sn) (ah.ae [0] rfl rfl)
 clear h45;rintro⟨⟩;refine Pr ?_;refine At.LD ?_;cases hF;exact Vk.cG (sc rfl sn) (ah.trans (ah.close (k:=0) rfl) (ah.ae [0] rfl rfl)) (kN (some ⟨b7,0,none⟩))
end Nm
def K2(l1:PM Int)(n0:Nat)(hl:l1.length<9223372036854775807):∀k i m,i+k=l1.length->k<m->cT (Nm.oQ n0 l1) m ((l1.take i).map (ui .u8)++List.replicate k 0,(i:Int))=some (l1.map (ui .u8))
 | 0,i,m,h,hm=>by
  obtain⟨m,rfl⟩:∃k,m=k+1:=⟨m-1,by omega⟩
  have hi:i=l1.length:=by omega
  subst hi;rw[List.take_length,List.replicate_zero,NX];have e1:Nm.oQ n0 l1 (l1.map (ui .u8),(l1.length:Int))=some (.inr (l1.map (ui .u8))):=by
   unfold Nm.oQ
   dsimp only
   rw[Nv (show ¬(l1.length:Int)<(l1.length:Int) by omega)]; rfl
  simp only[cT,e1]
 | k+1,i,m,h,hm=>by
  obtain⟨m,rfl⟩:∃k,m=k+1:=⟨m-1,by omega⟩
  have hi:i<l1.length:=by omega
  have ih:=K2 l1 n0 hl k (i+1) m (by omega) (by omega)
  have e1:Nm.oQ n0 l1 ((l1.take i).map (ui .u8)++List.replicate (k+1) 0,(i:Int))=some (.inl ((l1.take (i+1)).map (ui .u8)++List.replicate k 0,((i+1:Nat):Int))):=by
   unfold Nm.oQ;have b1:cP (i:Int) l1.length=true:=by simp[cP]; omega
   have b2:cP (i:Int) ((l1.length:Int).toNat)=true:=by simp[cP]; omega
   have b3:((l1.take i).map (ui .u8)++List.replicate (k+1) 0)[i]? = some 0:=by
    rw[M1 (by simp; omega)]
    simp[show min i l1.length=i by omega]
   have b4:((l1.take i).map (ui .u8)++List.replicate (k+1) 0).set i (ui .u8 l1[i])=(l1.take (i+1)).map (ui .u8)++List.replicate k 0:=by
    rw[List.set_append_right _ _ (by simp; omega)]
    rw[Ob hi,List.map_append,List.append_assoc];simp[show min i l1.length=i by omega,NQ]
   have b5:OT ((i:Int)+1)=((i+1:Nat):Int):=by
    rw[show OT ((i:Int)+1)=(i:Int)+1 from wrap_i64 _ (by omega) (by omega)]; omega
   dsimp only
   rw[M4 (show(i:Int)<(l1.length:Int) by omega)]
   simp only[br,gd,ob,Mx,b1,b2,b3,MF hi,b4,b5]
  simp only[cT,e1];exact ih
def Fc(l1:PM Int)(hl:lim l1.length=true)(hl2:l1.length<9223372036854775807)(n:Nat)(hn:l1.length<n):Nm.FF n l1=some (l1.map (ui .u8),l1.length):=by
 have h:=K2 l1 n hl2 l1.length 0 n (by omega) hn
 rw[List.take_zero,List.map_nil,N5] at h;unfold Nm.FF;simp only[gd,ob,Mx,hl,Nt,decide_true,if_true];have h':cT (Nm.oQ n l1) n (List.replicate l1.length 0,0)=some (l1.map (ui .u8)):=h;rw[h']
open Go.Ab.W
def bytesOf(l:PM Int):PM Int:=l.map fun x=>((ui .u8 x:Nat):Int)
def rr:∀l:PM Int,((l.map (ui .u8)).map (eN .u8)).flatten=(bytesOf l).map (Value.int .u8)
 | []=>rfl
 | a::l=>by
  have h:=rr l;simp only[OF,No,bytesOf] at h ⊢;rw[h]; rfl
def D7{m:PJ}{l:PM Int}{A:OL}{R:ON->PJ->Prop}(hR:∀m1,Hp m m1 []->R (.string (yA (bytesOf l))) m1):Vk lL 24 70 none (LH 3 (vP Tryz.f70)) (mM lL [.tmp 2] R) m ([(3,.slice A l.length l.length)]:Fs) ([.sl A 1 l.length ((l.map (ui .u8)).map (eN .u8))]:PM Pc):=by
 refine Vk.BD (Vk.region ?_);refine Vn.pre (os:=[_]) mQ (OX (ab rfl) rfl (Wo.LS (dr:=false) ?_));refine Vn.str (e:=5) (ns:=bytesOf l) (by kernel_rfl) (by kernel_rfl) (by kernel_rfl) rfl (fun m1 hm=>?_) rfl ?_
 have h:=hm.get (k:=0) rfl;rw[<-rr];rcases h with⟨h1,h2,rfl,_⟩|⟨b,tg,rfl,h1⟩
 have:l=[]:=NC h1;subst this; rfl
 exact h1.rd.cells
 refine Vn.of mQ (OX (ai rfl) rfl ?_);refine O0 (Q:=fun _=>_) ?_
 show Vk lL 24 70 none _ _ m _ _
 refine Vk.of mQ (O6 ?_);exact O7 (.tmp rfl .nil) fun m1 hm=>hR m1 ((ah.ae [] rfl rfl) m1 hm)
def CE:Tag->Bool
 | .more k=>Nat.beq k 1
 | _=>true
def uD:PM ON->PE (PM Int)
 | []=>some []
 | .int .i64 x::vs=>(uD vs).map (x::·)
 | _=>none
def oT:∀{vs:PM ON} {l:PM Int},uD vs=some l->vs=l.map (.int .i64)
 | [],l,h=>by cases h; rfl
 | v::vs,l,h=>by
  unfold uD at h
  split at h
  rename_i e; cases e
  rename_i x vs' e;cases e;obtain⟨l',h1,rfl⟩:=NY.1 h;rw[oT h1]; rfl
  cases h
def uL(args:PM ON)(m:PJ):PE (ON×PJ) :=
 match args with
 | [.slice (some ⟨b,o,none⟩) n c]=>match m.get b with
  | some (.cells cs tag)=>if Nat.ble n c &&(Nat.blt b m.next &&(CE tag &&(lim n&&Nat.ble (o+n) cs.length))) then(uD ((cs.drop o).take n)).map fun l=>(.string (yA (bytesOf l)),m) else none
  | _=>none
 | _=>none
def xP{args:PM ON}{m m':PJ}{v:ON}(h:uL args m=some (v,m'))(pr:Bool){j:aI}{w:OS}{args':PM ON}(hm:MR lL j m w)(hl:LR j args args'):dL Tryz.prog pr 70 args'.toArray w (fo lL j m w v m'):=by
 unfold uL at h
 split at h
 rename_i b o n c
 split at h
 rename_i cs tag hg
 split at h
 rename_i hc;obtain⟨l,h1,h2⟩:=NY.1 h;cases h2;simp only[My] at hc;obtain⟨c1,c2,c3,c4,c5⟩:=hc;have c5:=MD c5;have c2:b<m.next:=MD c2
 have hi:=oT h1;have hlen:l.length=n:=by
  have:=NS List.length hi;rw[NK,List.length_drop,MS] at this; omega
 subst hlen;have hr:∀x,Rd { m with wl:=x} (some ⟨b,o,none⟩) c 1 l.length (l.map (eI .i64)):=fun x=>by
  refine⟨by rw[MS],MD c1,.inr (.inr ⟨b,o,rfl,c2,cs,tag,hg,fun sz e=>?_,fun i e he=>?_⟩)⟩
  subst e;exact Mz c3
  rw[MP] at he;obtain⟨y,hy,rfl⟩:=NY.1 he;have hil:=(ML.1 hy).1;refine⟨?_,rfl⟩;have h3:((cs.drop o).take l.length)[i]? = some (.int .i64 y):=by rw[hi,MP,hy]; rfl
  rw[Oj,MG hil,NO] at h3;rw[Nat.mul_one];have h4:o+i<cs.length:=by omega
  rw[List.drop_eq_getElem_cons h4,List.take_succ_cons,List.take_zero];rw[MF h4] at h3;rw[MH h3]; rfl
 have hlm:l.length<9223372036854775807:=by
  have:l.length<=1073741824:=MD c4;omega
 refine yi (m:=m) (EW (E:=lL) (c:=vP Tryz.f70) (m0:={ m with wl:=m.next}) (N:=24) (rs:=[.tmp 2]) (ps:=[.rd (some ⟨b,o,none⟩) c 1 l.length (l.map (eI .i64))]) mQ Tryz.func70 rfl rfl rfl ((Pf _).dF dg (hr _)) ?_) pr hm hl
 refine Nm.Hk mQ (l.length+1) l _ c _ (Fc l c4 hlm _ (Nq _)) _ (hr _) fun g=>?_;refine D7 fun m1 hm1=>?_;have hn0:({ m with wl:=m.next}:PJ).next=m.next:=rfl
 exact⟨⟨hm1.ext.next,fun b hb=>hm1.ext.same b hb,by have:=hm1.ext.wl; rw[hn0] at this; exact MU (Nat.le_of_eq (Nat.min_self _).symm) this⟩,.inl ⟨rfl,rfl,rfl⟩⟩
 cases h
 cases h
 cases h
end Go.Proofs.YtpkadoocdgdcfaaGreatDoor
namespace Go.Proofs.YtpkadoocdgdcfaaGreatDoor
open Go Go.Ab
set_option maxRecDepth 100000
noncomputable abbrev EP:Env:=dt (some ⟨uZ⟩) none (some ⟨uL⟩)
def uP{a b c a' b' c':PE Prim}{j:aI}{m:PJ}{w:OS}{v:ON}{m':PJ}{v':ON}{w':OS}(h:fo (dt a b c) j m w v m' v' w'):fo (dt a' b' c') j m w v m' v' w':=by
 obtain⟨j',s,hv⟩:=h;exact⟨j',Sim.env (E:=dt a b c) (E':=dt a' b' c') rfl (fun e=>e) s,hv⟩
def GP:EnvOk EP:=ru
 (fun c h args m v m' hr j w args' hm hl=>by cases h; exact cq (fun h=>h) (xp hr true (MR.env (E:=EP) (E':=lL) rfl hm) hl) fun _ _=>uP)
 (fun c h=>by cases h)
 (fun c h args m v m' hr j w args' hm hl=>by cases h; exact cq (fun h=>h) (xP hr true (MR.env (E:=EP) (E':=lL) rfl hm) hl) fun _ _=>uP)
noncomputable def LI:Hand:=hand EP j8 1000
set_option maxHeartbeats 0 in
def G3:Di (nr EP LI (fun _=>none) 14) nM=true:=by decide +kernel
set_option maxHeartbeats 0 in
def Ck:kS 18 (fS [0,0,1,1] 2 1)=true:=by decide +kernel
set_option maxHeartbeats 0 in
def E3:kS 18 (fS [0,0,0,0] 1 4)=true:=by decide +kernel
set_option maxHeartbeats 0 in
def CL:kS 31 lW=true:=by decide +kernel
set_option maxHeartbeats 0 in
def Bn:kS 22 ku=true:=by decide +kernel
set_option maxHeartbeats 0 in
def I9:kS 75 (dh 1 3)=true:=by decide +kernel
set_option maxHeartbeats 0 in
def JO:kS 75 (dh 1 2)=true:=by decide +kernel
set_option maxHeartbeats 0 in
def Jg:kS 75 (dh 1 4)=true:=by decide +kernel
set_option maxHeartbeats 0 in
def I5:kS 75 (dh 3 4)=true:=by decide +kernel
set_option maxHeartbeats 0 in
def IC:kS 75 (dh 1 1)=true:=by decide +kernel
set_option maxHeartbeats 0 in
def Ja:kS 75 (dh 0 1)=true:=by decide +kernel
set_option maxHeartbeats 0 in
def JM:kS 75 (dh 2 3)=true:=by decide +kernel
set_option maxHeartbeats 0 in
def KS:kS 29 (dC 1 2 true)=true:=by decide +kernel
set_option maxHeartbeats 0 in
def J5:kS 29 (dC 1 1 false)=true:=by decide +kernel
set_option maxHeartbeats 0 in
def IP:kS 33 qT=true:=by decide +kernel
set_option maxHeartbeats 0 in
def Gk:kS 38 zr=true:=by decide +kernel
set_option maxHeartbeats 0 in
def Hl:kS 38 yY=true:=by decide +kernel
end Go.Proofs.YtpkadoocdgdcfaaGreatDoor
namespace Go.Proofs.YtpkadoocdgdcfaaGreatDoor
open Go Go.Ab
set_option maxRecDepth 100000
attribute [local irreducible] nr Case.run Case.fits
def K7{E:Env}(hE:EnvOk E)(hmono:¬E.mono){F:PU->PE PSem}(hF:IM E F){ND:PU->PE FunN}(hN:JU E ND){n:Nat}{f:PU}{c:Case}(h:Di (nr E (hand E F n) ND f) c=true):W.lT E f (c.args.map (AV.val fun b=>b)) (c.small 1 fj) (c.Out (c.small 1 fj)):=by
 unfold Di at h;have h1:=qd hE hmono (mO hF n) hN (f:=f) (args:=c.args.map (AV.val fun b=>b)) (m:=c.small 1 fj) (K:=fun v m=>c.D0 (c.small 1 fj) v m) h;intro j w args' hm hl;refine cq (fun h=>h) (h1 j w args' hm hl) ?_;rintro v' w' ⟨v1,m1,hq,hv⟩;exact⟨v1,m1,Case.ta hq,hv⟩
def AR(c:Case):Bool:=c.V.all (TV.ok c.T.length) &&(c.args.all (AV.ok (1+c.A.length)) &&(c.A.all (fun x=>x.1.all (SV.ok (1+c.A.length)))&&c.T.all fun x=>Nat.blt 0 x.2 &&(Nat.beq x.1.length (x.1.length/x.2*x.2) &&(Nat.ble (x.1.length/x.2) 9223372036854775807&&x.1.all (TV.ok c.T.length)))))
structure CaseOk(f:PU)(c:Case):Prop where
 call:∀{args:PM ON} {m m':PJ} {v:ON},c.run 1 gI args m=some (v,m')->∀(pr:Bool) {j:aI} {w:OS} {args':PM ON},MR lL j m w->LR j args args'->dL Tryz.prog pr f args'.toArray w (fo lL j m w v m')
def EO{p q r:PE Prim}{f:PU}{c:Case}(hg:AR c=true)(h:W.lT (dt p q r) f (c.args.map (AV.val fun b=>b)) (c.small 1 fj) (c.Out (c.small 1 fj))):CaseOk f c:=⟨fun hr pr _ _ _ hm hl=>by
 unfold AR at hg;simp only[My] at hg;obtain⟨h1,h2,h3,h4⟩:=hg;refine cq (fun h=>h) (Case.Df (E:=dt p q r) (gs:=fj) (tabB:=gI) (fun m ht=>p8 ht) (fun x hx=>?_) h1 h2 h3 h hr pr (MR.env (E:=lL) (E':=dt p q r) rfl hm) hl) fun _ _=>uP;have h5:=MK.1 h4 x hx;simp only[My] at h5;exact⟨MD h5.1,Mz h5.2.1,MD h5.2.2.1,h5.2.2.2⟩⟩
def Az{E:Env}:JU E fun _=>none:=fun h=>by cases h
def gG{f:PU}{c:Case}(hg:AR c=true)(h:kS f c=true):CaseOk f c:=EO (p:=none) (q:=none) (r:=none) hg (K7 mQ zq (oC _ _ _) Az h)
def iI:PM (PU×Case):=[(14,nM),(18,fS [0,0,1,1] 2 1),(18,fS [0,0,0,0] 1 4),(31,lW),(22,ku),(29,dC 1 2 true),(29,dC 1 1 false),(33,qT),(38,zr),(38,yY),(75,dh 1 3),(75,dh 1 2),(75,dh 1 4),(75,dh 3 4),(75,dh 1 1),(75,dh 0 1),(75,dh 2 3)]
def vI:iI.all (fun x=>AR x.2)=true:=by decide +kernel
def p4:∀x∈iI,CaseOk x.1 x.2:=by
 intro x hx;have hg:=MK.1 vI x hx;simp only[iI,M0,List.not_mem_nil,or_false] at hx;rcases hx with rfl|rfl|rfl|rfl|rfl|rfl|rfl|rfl|rfl|rfl|rfl|rfl|rfl|rfl|rfl|rfl|rfl
 exact EO hg (K7 GP (fun h=>h) (oC _ _ _) Az G3)
 exact gG hg Ck
 exact gG hg E3
 exact gG hg CL
 exact gG hg Bn
 exact gG hg KS
 exact gG hg J5
 exact gG hg IP
 exact gG hg Gk
 exact gG hg Hl
 exact gG hg I9
 exact gG hg JO
 exact gG hg Jg
 exact gG hg I5
 exact gG hg IC
 exact gG hg Ja
 exact gG hg JM
def uq(args:PM ON)(m:PJ):PM Case->PE (ON×PJ)
 | []=>none
 | c::cs=>(c.run 1 gI args m).or (uq args m cs)
def sT{f:PU}{args:PM ON}{m m':PJ}{v:ON}:∀{cs:PM Case},(∀c∈cs,CaseOk f c)->uq args m cs=some (v,m')->∃c,CaseOk f c/\c.run 1 gI args m=some (v,m')
 | [],_,h=>by cases h
 | c::cs,hc,h=>by
  unfold uq at h;simp only[Option.or_eq_some_iff] at h;rcases h with h|⟨_,h⟩
  exact⟨c,hc c (Oi ..),h⟩
  exact sT (fun c h=>hc c (List.mem_cons_of_mem _ h)) h
def xa:PM Case:=[nM]
def JV:PM Case:=[fS [0,0,1,1] 2 1,fS [0,0,0,0] 1 4]
def vR:PM Case:=[lW]
def vX:PM Case:=[ku]
def Fa:PM Case:=[dC 1 2 true,dC 1 1 false]
def Hu:PM Case:=[qT]
def HS:PM Case:=[zr,yY]
def wW:PM Case:=[dh 1 3,dh 1 2,dh 1 4,dh 3 4,dh 1 1,dh 0 1,dh 2 3]
def mE(f:PU):PM Case :=
 if f=75 then wW else if f=14 then xa else if f=18 then JV else if f=31 then vR else if f=22 then vX else if f=29 then Fa else if f=33 then Hu else if f=38 then HS else[]
def yM(f:PU):∀c∈mE f,CaseOk f c:=by
 have key:∀(g:PU) (l:PM Case),(∀c∈l,(g,c)∈iI)->∀c∈l,CaseOk g c:=fun g l h c hc=>p4 (g,c) (h c hc);have sub:∀c,∀{g:PU},(c∈mE g)->(g,c)∈iI:=by
  intro c g h;unfold mE at h
  repeat' split at h
  all_goals first
   |(rename_i e; subst e; simp only[wW,xa,JV,vR,vX,Fa,Hu,HS,M0,List.not_mem_nil,or_false] at h; simp only[iI,M0,OA]; rcases h with rfl|rfl|rfl|rfl|rfl|rfl|rfl<;>simp)
   |(rename_i e; subst e; simp only[wW,xa,JV,vR,vX,Fa,Hu,HS,M0,List.not_mem_nil,or_false] at h; simp only[iI,M0,OA]; rcases h with rfl|rfl<;>simp)
   |(rename_i e; subst e; simp only[wW,xa,JV,vR,vX,Fa,Hu,HS,M0,List.not_mem_nil,or_false] at h; simp only[iI,M0,OA]; subst h; simp)
   | cases h
 exact fun c hc=>p4 (f,c) (sub c hc)
noncomputable def EC (f:PU):PE Prim:=if(mE f).isEmpty then lL.cR f else some ⟨fun args m=>uq args m (mE f)⟩
noncomputable def wv:Env:={ lL with cR:=EC}
def Fe:EnvOk wv:=ym (E:=lL) mQ (pr:=EC) fun f p hp=>by
 unfold EC at hp
 split at hp
 exact .inl hp
 cases hp;refine .inr fun args m v m' h j w args' hm hl=>?_;obtain⟨c,h1,h2⟩:=sT (yM f) h;exact h1.call h2 _ hm hl
def yB:IM wv j8:=by
 intro f S hS;unfold j8 at hS
 split at hS
 rename_i e; cases hS; subst e;exact⟨⟨dD uU⟩,rfl,fun h=>kZ Ar h⟩
 split at hS
 rename_i e; cases hS; subst e;exact⟨⟨dD rX⟩,rfl,fun h=>kZ AS h⟩
 cases hS
end Go.Proofs.YtpkadoocdgdcfaaGreatDoor
namespace Go.Proofs.YtpkadoocdgdcfaaGreatDoor
open Go Go.Ab
set_option maxRecDepth 100000
set_option maxHeartbeats 0 in
def zu:(hand wv j8 1000).call 11 [] Ml (KA 1)=true:=by decide +kernel
end Go.Proofs.YtpkadoocdgdcfaaGreatDoor
namespace Go.Proofs.YtpkadoocdgdcfaaGreatDoor
open Go Go.Ab Go.Ab.W
def BO:∃fuel m',run wv fuel (.call 11 [] Ml)=some (.val (.bool true) m')/\1<=m'.wl:=xq (E:=wv) (F:=j8) (n:=1000) (g:=1) yB zu
def jj(args:PM ON)(m:PJ):PE (ON×PJ) :=
 match args with
 | []=>if gI m then some (.bool true,m) else none
 | _=>none
def ue{args:PM ON}{m m':PJ}{v:ON}(h:jj args m=some (v,m')){j:aI}{w:OS}{args':PM ON}(hm:MR lL j m w)(hl:LR j args args') :
  dL Tryz.prog true 11 args'.toArray w (fo lL j m w v m'):=by
 unfold jj at h
 split at h
 split at h
 rename_i ht;cases h;obtain⟨fuel,m0,h1,h2⟩:=BO;refine cq (fun _=>rfl) (tN (E:=wv) (gs:=fj) Fe oJ h1 h2 rfl (MR.env (E:=lL) (E':=wv) rfl hm) (fun x c hx hg=>(p8 ht x c hx hg).1) hl) fun _ _ ⟨j',s,hv⟩=>⟨j',Sim.env (E:=wv) (E':=lL) rfl (fun e=>e) s,hv⟩
 cases h
 cases h
noncomputable abbrev aE:Env:=dt none (some ⟨jj⟩) none
def FY:EnvOk aE:=ru (fun c h=>by cases h)
 (fun c h args m v m' hr j w args' hm hl=>by cases h; exact cq (fun h=>h) (ue hr (MR.env (E:=aE) (E':=lL) rfl hm) hl) fun _ _=>uP)
 (fun c h=>by cases h)
def Js(n:Nat)(r:Bool)(hF:LP n=some r)(m:PJ)(hG:Gl m):aD aE 11 [] m (fun v m'=>∃x:PN,v=.bool r/\Hp m m' []):=by
 cases hF;refine aD.cR (p:=⟨jj⟩) rfl (v:=.bool true) (m':=m) ?_ ⟨(),rfl,Pf m⟩;have ht:gI m=true:=by
  unfold gI;rw[hG.1];exact(by decide +kernel:sx (jx.map (.int .u8)) jx=true)
 show jj [] m=_
 simp only[jj,ht,if_true]
end Go.Proofs.YtpkadoocdgdcfaaGreatDoor
namespace Go.Proofs.YtpkadoocdgdcfaaGreatDoor
set_option maxRecDepth 100000
open Go Go.ChangeShapes Go.WideShapes Go.ChangeAt Go.WideMaps Go.WideElems Go.RowKit Go.Ab Go.Ab.W
def LZ:EH Tryz.prog 5 61=some [.int .u8,.sl 5]:=by kernel_rfl
def LN:EH Tryz.prog 5 5=some [.int .u8]:=by kernel_rfl
def Md:Tryz.prog.underlying 5=some (.int .u8):=by kernel_rfl
section
variable{H:Type}{enc:OO×ON->H}{W:OS}{sp:Nat->Bool}{held:Bool}{v:ON}{d:DataW H}{p:PM MemPlace}{base:Nat}
theorem L8:∀(n:Nat) (cs:PM ON) (x:DataW H×PM MemPlace),DataW.trod enc Tryz.prog W 0 sp held n 5 cs=some x->∃p:Nat,cs=eN .u8 p/\p<256:=by
 intro n cs x h;obtain⟨v1,cs,rfl,h1,h⟩:=nT (wi 5 5 _ LN n _ x h);obtain rfl:=wH h;obtain⟨a,rfl,ha⟩:=yV h1;exact⟨a,rfl,ha⟩
theorem Lp(hok:Value.okWide Tryz.prog W .any base 61 v)(hs:0<W.heap.size)(h:DataW.Trod enc Tryz.prog W 0 sp held 61 v d p):∃(x1:Nat) (l:PM Nat) (a:OL) (c:Nat),
  VR (ek W) (.agg #[.int .u8 ((x1:Nat):Int),.slice a l.length c]) v/\x1<256/\(∀q∈l,q<256)/\l.length<=maxLen/\Rd (eG W) a c 1 l.length (l.map (eN .u8)):=by
 obtain⟨cs,rfl,_⟩:=okWide_struct (t:=61) (fs:=Tryz.prog.underlying 61 |>.elim #[] fun u=>match u with|.struct fs=>fs|_=>#[]) (by kernel_rfl) hok
 obtain⟨n,h⟩:=h;obtain⟨v1,r,hr,h1,h⟩:=nT (yd LZ h);obtain⟨v2,r,rfl,h2,h⟩:=nT h;obtain rfl:=wH h;obtain⟨x1,rfl,g1⟩:=yV h1;obtain⟨a,c,l,e1,e2,e3,e4⟩:=IN (f:=eN .u8) (w:=1) (by kernel_rfl) (by omega) hs (fun q=>rfl) L8 h2
 refine⟨x1,l,a,c,?_,g1,e3,e4,e2⟩;refine Jv (l:=[.int .u8 ((x1:Nat):Int),.slice a l.length c]) ?_;rw[hr];exact .cons (.int _ _) (.cons e1 (.nil _))
theorem KH(hok:Value.okWide Tryz.prog W .any base 5 v)(h:DataW.Trod enc Tryz.prog W 0 sp held 5 v d p):∃n:Nat,v=.int .u8 ((n:Nat):Int)/\n<256:=by
 obtain⟨k,rfl⟩:=okWide_int Md hok;obtain⟨n,h⟩:=h;obtain⟨m,e,_,hw⟩:=DataW.trod_int Md h;exact yV (enc:=enc) (P:=Tryz.prog) (W:=W) (base:=0) (sp:=sp) (held:=held) ⟨m,by cases e; rfl,hw⟩
end
def Ku:laidOutB Tryz.prog=true:=by kernel_rfl
def FW:mapsRowed Tryz.prog=true:=by kernel_rfl
def Hf:sizedB Tryz.prog=true:=by kernel_rfl
def Jq{W:OS}(h:laidMetH Tryz.prog qc W):Gl (eG W)/\0<W.heap.size:=by
 rw[MakeChecks.laidMetH_plain _ _ _ (by kernel_rfl)] at h
 obtain⟨ps,hL,_⟩:=h;have ht:(Tryz.prog.globals[0]?).map (·.type)=some 354:=by kernel_rfl
 obtain⟨c,ty,fz,h1,h2⟩:=BT (L:=jx) (k:=.u8) (N:=64) (t:=354) (e:=5) LL ht (by kernel_rfl) (by kernel_rfl) (by kernel_rfl) (by kernel_rfl) rfl hL
 have hs:0<W.heap.size:=(MI.1 h1).1;refine⟨⟨?_,hs⟩,hs⟩;rw[np h1,h2,List.map_map]
 congr 2
def BQ{H:Type}{enc:OO×ON->H}{f:PU}{fn:Func}{s:ChangeSpec}{W:OS}{args:PO ON}{ds:PM (DataW H)}{before:PM MemPlace}{tb:OO}{fresh handsOn:Bool}{absArgs:PM ON}(hpr:aE.cR f=none)
  (hvars:s.vars=[]) (hres:fn.resultTypes.toList=[tb]) (hrs:fn.resultTypes.size=1) (htb:Tryz.prog.underlying tb=some .bool) (hpt:∀t∈fn.params.toList,t<Tryz.prog.types.size) (hfn:s.fn H ds ={ results:=[.lit (.bool true)],args:=ds,vars:=[]})
  (hW:DataW.Whole enc Tryz.prog fn.params.toList s.vars false W args.toList ds [] before) (hs:0<W.heap.size)
  (hl:LR (ek W) absArgs args.toList) (hc:aD aE f absArgs (eG W) (fun v m'=>∃x:PN,v=.bool true/\Hp (eG W) m' [])) :
  Calls Tryz.prog f args W fun e W'=>∃v,e=.returned v/\s.post enc Tryz.prog fn false fresh handsOn false W args v W':=by
 obtain⟨v,m',⟨fuel,hrun⟩,_,rfl,hm'⟩:=hc;have hm:MR aE (ek W) (eG W) W:=Ij hs;have hcall:=callsIn_wide.1 (ug FY hrun hpr hm hl);refine hcall.mono fun e W' ⟨v',he,j',sm,hv⟩=>?_;have hv':v'=.bool true:=eA rfl hv;subst hv';have hwl:(eG W).next<=m'.wl:=by
  have h1:=hm'.ext.wl;have h2:min (eG W).wl (eG W).next=(eG W).next:=Nat.min_self _
  omega
 exact⟨_,he,CC Ku FW Hf hvars hres hrs htb hpt hfn hW sm.calm (sm.grown hm hwl)⟩
end Go.Proofs.YtpkadoocdgdcfaaGreatDoor
namespace Go.Proofs.YtpkadoocdgdcfaaGreatDoor
open Go Go.Ab Go.Ab.W
def gr:PM Nat:=[0,1,2,2,3,3,3,3,4,4,4,4,4,4,4,4,5,5,5,5,5,5,5,5,5,5,5,5,5,5,5,5,6,6,6,6,6,6,6,6,6,6,6,6,6,6,6,6,6,6,6,6,6,6,6,6,6,6,6,6,6,6,6,6,7,7,7,7,7,7,7,7,7,7,7,7,7,7,7,7,7,7,7,7,7,7,7,7,7,7,7,7,7,7,7,7,7,7,7,7,7,7,7,7,7,7,7,7,7,7,7,7,7,7,7,7,7,7,7,7,7,7,7,7,7,7,7,7,8,8,8,8,8,8,8,8,8,8,8,8,8,8,8,8,8,8,8,8,8,8,8,8,8,8,8,8,8,8,8,8,8,8,8,8,8,8,8,8,8,8,8,8,8,8,8,8,8,8,8,8,8,8,8,8,8,8,8,8,8,8,8,8,8,8,8,8,8,8,8,8,8,8,8,8,8,8,8,8,8,8,8,8,8,8,8,8,8,8,8,8,8,8,8,8,8,8,8,8,8,8,8,8,8,8,8,8,8,8,8,8,8,8,8,8,8,8,8,8,8,8,8,8,8,8,8,8]
def EF(n:Nat)(l1:PM (Int)):Int->PE (Int⊕Int):=fun v7 =>
ob (
br (decide (0<v7)) (
gd (cP (OT (v7-1)) l1.length) (
ob (l1[(OT (v7-1)).toNat]?) fun x69 =>
some (decide (x69=0)))) (
some false)) fun v64 =>
br (v64) (
some (.inl (OT (v7-1)))) (
some (.inr v7))
def BZ(n:Nat)(l1:PM (Int)):PE (PM Int) :=
ob (
cT (EF n l1) n (l1.length:Int)) fun v41 =>
gd (okB 0 v41 l1.length) (
some ((l1.drop OU).take ((v41:Int).toNat-OU)))
def u6(n:Nat)(x1:Bool)(l2:PM (Int)):PE (Bool×PM Int) :=
ob (BZ n l2) fun l9 =>
br (x1) (
some (decide (0<(l9.length:Int)),l9)) (
some (false,l9))
def J2(n:Nat)(x1:Int):PE (Bool×PM Int) :=
ob (
br (decide (x1<0)) (
some (Gb .u64 (ui .u64 x1))) (
some (ui .u64 x1))) fun v4 =>
ob (u6 n (decide (x1<0)) ([OT ((v4%4294967296:Nat):Int),OT ((uw .u64 (v4/4294967296):Nat):Int)])) fun(r10,l11) =>
some (r10,l11)
def Dq(n:Nat)(l1:PM (Int)):(Int×PM (Int)×Int)->PE ((Int×PM (Int)×Int) ⊕(Int×PM (Int))):=fun(v24,l25,v27) =>
br (decide (v27<(l1.length:Int))) (
gd (cP v27 l1.length) (
ob (l1[v27.toNat]?) fun x52 =>
ob (some (Int.tmod (OT ((OT (2*x52))+v24)) 4294967296)) fun y54 =>
gd (lim (l25++[y54]).length) (
ob (some (OT (Oh (OT ((OT (2*x52))+v24)) 4294967296))) fun y59 =>
some (.inl (y59,(l25++[y54]),OT (v27+1)))))) (
some (.inr (v24,l25)))
def Ie(n:Nat)(l1:PM (Int))(x6:Int):PE (PM Int) :=
ob (
cT (Dq n l1) n (x6,([]:PM (Int)),0)) fun(v45,l46) =>
gd (lim (l46++[v45]).length) (
ob (BZ n (l46++[v45])) fun l67 =>
some l67)
def Ev(n:Nat)(l1:PM (Int))(l5:PM (Int)):Int->PE (Int⊕Int⊕PN):=fun v11 =>
br (decide (0<=v11)) (
gd (cP v11 l1.length) (
ob (l1[v11.toNat]?) fun x32 =>
gd (cP v11 l5.length) (
ob (l5[v11.toNat]?) fun x37 =>
br (!decide (x32=x37)) (
gd (cP v11 l1.length) (
gd (cP v11 l5.length) (
some (.inr (.inl (OT (x32-x37))))))) (
some (.inl (OT (v11-1))))))) (
some (.inr (.inr ())))
def Dh(n:Nat)(l1:PM (Int))(l5:PM (Int)):PE Int :=
br (!decide ((l1.length:Int)=(l5.length:Int))) (
some (OT ((l1.length:Int)-(l5.length:Int)))) (
ob (α:=(Int)⊕PN) (
cT (Ev n l1 l5) n (OT ((l1.length:Int)-1))) fun r43=>match r43 with
| .inl v27 =>
some v27
| .inr _ =>
some 0)
def CR(n:Nat)(l1:PM (Int))(l6:PM (Int)):(PM (Int)×Int×Int)->PE ((PM (Int)×Int×Int) ⊕(PM (Int))):=fun(l2,v2,v0) =>
br (decide (v0<(l1.length:Int))) (
gd (cP v0 l1.length) (
ob (l1[v0.toNat]?) fun x3 =>
ob (
br (decide (v0<(l6.length:Int))) (
gd (cP v0 l6.length) (
ob (l6[v0.toNat]?) fun x4 =>
some (OT ((OT (x3-v2))-x4)))) (
some (OT (x3-v2)))) fun v1 =>
ob (
br (decide (v1<0)) (
some (1,OT (v1+4294967296))) (
some (0,v1))) fun(v4,v3) =>
gd (lim (l2++[v3]).length) (
some (.inl ((l2++[v3]),v4,OT (v0+1)))))) (
some (.inr l2))
def BM(n:Nat)(l1:PM (Int))(l6:PM (Int)):PE (PM Int) :=
ob (
cT (CR n l1 l6) n (([]:PM (Int)),0,0)) fun l2 =>
ob (BZ n l2) fun l3 =>
some l3
def Cs(n:Nat)(v0:Int)(l3:PM (Int))(l6:PM (Int))(y2:Int):(PM (Int)×PM (Int)×Int)->PE ((PM (Int)×PM (Int)×Int) ⊕(PM (Int)×PM (Int))):=fun(l1,l4,v1) =>
br (decide (0<=v1)) (
ob (
gd (cP v0 l3.length) (
ob (l3[v0.toNat]?) fun x3 =>
ob (Ie n l4 (Int.tmod (GC .i64 x3 v1.toNat) 2)) fun l2 =>
ob (Dh n l2 l6) fun r0 =>
br (decide (0<=r0)) (
ob (BM n l2 l6) fun l5 =>
gd (cP v0 y2.toNat) (
ob (l1[v0.toNat]?) fun x4 =>
gd (cP v0 y2.toNat) (
some ((l1.set v0.toNat (OT (x4+(Fz .i64 1 v1.toNat)))),l5)))) (
some (l1,l2)))) fun(l7,l8) =>
some (.inl (l7,l8,OT (v1-1)))) (
some (.inr (l1,l4)))
def Cy(n:Nat)(l3:PM (Int))(l6:PM (Int))(y2:Int):(PM (Int)×PM (Int)×Int)->PE ((PM (Int)×PM (Int)×Int) ⊕(PM (Int)×PM (Int))):=fun(l1,l2,v0) =>
br (decide (0<=v0)) (
ob (
cT (Cs n v0 l3 l6 y2) n (l1,l2,31)) fun(l4,l5) =>
some (.inl (l4,l5,OT (v0-1)))) (
some (.inr (l1,l2)))
def Gv(n:Nat)(l1:PM (Int))(l6:PM (Int)):PE (PM Int×PM Int) :=
br (decide ((l1.length:Int)<=OT ((l6.length:Int)-1))) (
gd (lim (([]:PM (Int))++l1).length) (
some ([],(([]:PM (Int))++l1)))) (
ob (some (OT ((l1.length:Int)-(OT ((l6.length:Int)-1))))) fun y2 =>
gd (decide (0<=y2)) (gd (lim y2.toNat) (
ob (some (OT ((l1.length:Int)-(OT ((l6.length:Int)-1))))) fun y3 =>
gd (okB y3 (l1.length:Int) l1.length) (
gd (lim (([]:PM (Int))++((l1.drop (y3:Int).toNat).take (((l1.length:Int):Int).toNat-(y3:Int).toNat))).length) (
ob (
cT (Cy n l1 l6 y2) n ((List.replicate y2.toNat (0:Int)),(([]:PM (Int))++((l1.drop (y3:Int).toNat).take (((l1.length:Int):Int).toNat-(y3:Int).toNat))),OT ((y2.toNat:Int)-1))) fun(l2,l3) =>
ob (BZ n l2) fun l4 =>
some (l4,l3))))))
def CO(n:Nat):(PM (Int)×PM (Int))->PE ((PM (Int)×PM (Int)) ⊕(PM (Int))):=fun(l26,l29) =>
br (decide (0<(l29.length:Int))) (
ob (Gv n l26 l29) fun(l53,l57) =>
some (.inl (l29,l57))) (
some (.inr l26))
def Ix(n:Nat)(x1:Bool)(l2:PM (Int))(x7:Bool)(l8:PM (Int)):PE (Bool×PM Int) :=
ob (
cT (CO n) n (l2,l8)) fun l48 =>
some (false,l48)
def FG(n:Nat)(x1:Bool)(l2:PM (Int)):PE (Bool×PM Int) :=
ob (u6 n (!x1) l2) fun(r10,l11) =>
some (r10,l11)
def EI(n:Nat)(l1:PM (Int))(l2:PM (Int)):(PM (Int)×Int×Int)->PE ((PM (Int)×Int×Int) ⊕(PM (Int))):=fun(l3,v1,v0) =>
ob (
br (decide (v0<(l1.length:Int))) (
some true) (
br (decide (v0<(l2.length:Int))) (
some true) (
some (decide (0<v1))))) fun v4 =>
br (v4) (
ob (
br (decide (v0<(l1.length:Int))) (
gd (cP v0 l1.length) (
ob (l1[v0.toNat]?) fun x3 =>
some (OT (v1+x3)))) (
some v1)) fun v3 =>
ob (
br (decide (v0<(l2.length:Int))) (
gd (cP v0 l2.length) (
ob (l2[v0.toNat]?) fun x4 =>
some (OT (v3+x4)))) (
some v3)) fun v2 =>
gd (lim (l3++[Int.tmod v2 4294967296]).length) (
some (.inl ((l3++[Int.tmod v2 4294967296]),OT (Oh v2 4294967296),OT (v0+1))))) (
some (.inr l3))
def Jm(n:Nat)(l1:PM (Int))(l2:PM (Int)):PE (PM Int) :=
ob (
cT (EI n l1 l2) n (([]:PM (Int)),0,0)) fun l3 =>
some l3
def EB(n:Nat)(x1:Bool)(l2:PM (Int))(x7:Bool)(l8:PM (Int)):PE (Bool×PM Int) :=
br ((x1==x7)) (
ob (Jm n l2 l8) fun l18 =>
ob (u6 n x1 l18) fun(r22,l23) =>
some (r22,l23)) (
ob (Dh n l2 l8) fun r28 =>
br (decide (0<=r28)) (
ob (BM n l2 l8) fun l31 =>
ob (u6 n x1 l31) fun(r36,l37) =>
some (r36,l37)) (
ob (BM n l8 l2) fun l42 =>
ob (u6 n x7 l42) fun(r47,l48) =>
some (r47,l48)))
def Jo(n:Nat)(x1:Bool)(l2:PM (Int))(x7:Bool)(l8:PM (Int)):PE (Bool×PM Int) :=
ob (FG n x7 l8) fun(r17,l18) =>
ob (EB n x1 l2 r17 l18) fun(r23,l24) =>
some (r23,l24)
def F1(n:Nat)(x1:Bool)(l5:PM (Int))(x3:Bool)(l2:PM (Int)):PE (Bool×PM Int×Bool×PM Int) :=
ob (Gv n l5 l2) fun(l7,l8) =>
ob (u6 n (!(x1==x3)) l7) fun(r0,l1) =>
ob (u6 n x1 l8) fun(r1,l3) =>
ob (
br (r1) (
ob (EB n r1 l3 false l2) fun(r3,l4) =>
br (x3) (
ob (J2 n 1) fun(r4,l9) =>
ob (EB n r0 l1 r4 l9) fun(r5,l10) =>
some (r5,l10,r3,l4)) (
ob (J2 n 1) fun(r6,l11) =>
ob (Jo n r0 l1 r6 l11) fun(r7,l12) =>
some (r7,l12,r3,l4))) (
some (r0,l1,r1,l3))) fun(v0,l13,v1,l14) =>
some (v0,l13,v1,l14)
def Jn(n:Nat)(x1:Bool)(l2:PM (Int))(x7:Bool)(l8:PM (Int)):PE (Bool×PM Int×Bool×PM Int) :=
ob (Ix n x1 l2 x7 l8) fun(r17,l18) =>
ob (
br (x7) (
ob (FG n r17 l18) fun(r36,l37) =>
some (r36,l37)) (
some (r17,l18))) fun(v30,l31) =>
ob (F1 n x1 l2 v30 l31) fun(r44,l45,r49,l50) =>
ob (F1 n x7 l8 v30 l31) fun(r57,l58,r62,l63) =>
some (r44,l45,r57,l58)
def Jf(n:Nat)(x1:Int)(x2:Int):PE (Bool×PM Int×Bool×PM Int) :=
ob (J2 n x1) fun(r5,l6) =>
ob (J2 n x2) fun(r11,l12) =>
ob (Jn n r5 l6 r11 l12) fun(r17,l18,r22,l23) =>
some (r17,l18,r22,l23)
def HO(n:Nat)(l1:PM (Int)):(PM (Nat)×Int)->PE ((PM (Nat)×Int) ⊕(PM (Nat))):=fun(l2,v0) =>
br (decide (v0<(l1.length:Int))) (
gd (cP (OT (Oh v0 2)) 8) (
ob (l2[(OT (Oh v0 2)).toNat]?) fun x3 =>
gd (cP v0 l1.length) (
ob (l1[v0.toNat]?) fun x4 =>
gd (decide (0<=OT (32*(Int.tmod v0 2)))) (
ob (some (eF .u64 (ui .u64 x4) (OT (32*(Int.tmod v0 2))).toNat)) fun y2 =>
gd (cP (OT (Oh v0 2)) 8) (
some (.inl ((l2.set ((OT (Oh v0 2)).toNat) (uw .u64 (x3+y2))),OT (v0+1)))))))) (
some (.inr l2))
def LC(n:Nat)(x1:Bool)(l1:PM (Int)):PE (Nat×Nat×Nat×Nat×Nat×Nat×Nat×Nat×Int) :=
gd (decide ((0:Int)<=16)) (gd (lim ((16:Int).toNat)) (
gd (cP 15 ((16:Int).toNat)) (
ob ((List.replicate (16:Int).toNat (0:Int))[(15:Int).toNat]?) fun x11 =>
ob (Dh n l1 ((List.replicate (16:Int).toNat (0:Int)).set ((15:Int).toNat) 2147483648)) fun r0 =>
ob (
br (decide (0<r0)) (
some true) (
br (decide (r0=0)) (
some (!x1)) (
some false))) fun v0 =>
br (v0) (
some (0,0,0,0,0,0,0,0,6)) (
ob (
br (x1) (
gd (decide ((0:Int)<=17)) (gd (lim ((17:Int).toNat)) (
gd (cP 16 ((17:Int).toNat)) (
ob ((List.replicate (17:Int).toNat (0:Int))[(16:Int).toNat]?) fun x12 =>
ob (BM n ((List.replicate (17:Int).toNat (0:Int)).set ((16:Int).toNat) 1) l1) fun l2 =>
some l2)))) (
some l1)) fun l3 =>
ob (
cT (HO n l3) n (([0,0,0,0,0,0,0,0]:PM (Nat)),0)) fun l4 =>
ob (Jc l4) fun(x3,x4,x5,x6,x7,x8,x9,x10) =>
some (x3,x4,x5,x6,x7,x8,x9,x10,0)))))
def Ir(n:Nat)(x1:Bool)(l2:PM (Int))(x6:Bool)(l7:PM (Int)):PE (Nat×Nat×Nat×Nat×Nat×Nat×Nat×Nat×Nat×Nat×Nat×Nat×Nat×Nat×Nat×Nat×Int) :=
ob (LC n x1 l2) fun(r14,r15,r16,r17,r18,r19,r20,r21,r22) =>
ob (LC n x6 l7) fun(r25,r26,r27,r28,r29,r30,r31,r32,r33) =>
ob (
br (!decide (r22=0)) (
some true) (
some (!decide (r33=0)))) fun v42 =>
br (v42) (
some (0,0,0,0,0,0,0,0,0,0,0,0,0,0,0,0,6)) (
some (r14,r15,r16,r17,r18,r19,r20,r21,r25,r26,r27,r28,r29,r30,r31,r32,0))
def K8(n:Nat)(x1:Int)(x2:Int):PE (Nat×Nat×Nat×Nat×Nat×Nat×Nat×Nat×Nat×Nat×Nat×Nat×Nat×Nat×Nat×Nat×Int) :=
br (decide (x2=0)) (
some (0,0,0,0,0,0,0,0,0,0,0,0,0,0,0,0,7)) (
ob (Jf n x1 x2) fun(r6,l7,r11,l12) =>
ob (Ir n r6 l7 r11 l12) fun(r17,r18,r19,r20,r21,r22,r23,r24,r25,r26,r27,r28,r29,r30,r31,r32,r33) =>
some (r17,r18,r19,r20,r21,r22,r23,r24,r25,r26,r27,r28,r29,r30,r31,r32,r33))
def tj(n:Nat)(v1:Int)(v2:Int)(l1:PM (Nat)):(PM (Int)×Int×Int)->PE ((PM (Int)×Int×Int) ⊕(PM (Int)×Int)):=fun(l2,v4,v0) =>
br (decide (v0<v1)) (
ob (
br (decide (OT ((OT (v1*v2))+v0)<(l1.length:Int))) (
gd (cP (OT ((OT (v1*v2))+v0)) l1.length) (
ob (l1[(OT ((OT (v1*v2))+v0)).toNat]?) fun x3 =>
some (OT ((x3%6:Nat):Int)))) (
some 0)) fun v3 =>
gd (lim (l2++[v3]).length) (
some (.inl ((l2++[v3]),OT (v4+v3),OT (v0+1))))) (
some (.inr (l2,v4)))
def si(n:Nat)(v1:Int)(l2:PM (Int))(l3:PM (Int))(v2:Int):(PM (Nat×Nat×Nat×Nat×Nat×Nat×Nat×Nat×Nat×Nat×Nat×Nat×Nat×Nat×Nat×Nat)×Int)->PE ((PM (Nat×Nat×Nat×Nat×Nat×Nat×Nat×Nat×Nat×Nat×Nat×Nat×Nat×Nat×Nat×Nat)×Int) ⊕(PM (Nat×Nat×Nat×Nat×Nat×Nat×Nat×Nat×Nat×Nat×Nat×Nat×Nat×Nat×Nat×Nat))):=fun(l1,v0) =>
br (decide (v0<v1)) (
gd (cP v0 l2.length) (
ob (l3[v0.toNat]?) fun x3 =>
ob (K8 n x3 v2) fun(r0,r1,r3,r4,r5,r6,r7,r8,r9,r10,r11,r12,r13,r14,r15,r16,r17) =>
gd (lim (l1++[(r0,r1,r3,r4,r5,r6,r7,r8,r9,r10,r11,r12,r13,r14,r15,r16)]).length) (
some (.inl ((l1++[(r0,r1,r3,r4,r5,r6,r7,r8,r9,r10,r11,r12,r13,r14,r15,r16)]),OT (v0+1)))))) (
some (.inr l1))
def tx(n:Nat)(l4:PM (Nat)):(Int×PM (PM (Nat×Nat×Nat×Nat×Nat×Nat×Nat×Nat×Nat×Nat×Nat×Nat×Nat×Nat×Nat×Nat))×Int)->PE ((Int×PM (PM (Nat×Nat×Nat×Nat×Nat×Nat×Nat×Nat×Nat×Nat×Nat×Nat×Nat×Nat×Nat×Nat))×Int) ⊕(PM (PM (Nat×Nat×Nat×Nat×Nat×Nat×Nat×Nat×Nat×Nat×Nat×Nat×Nat×Nat×Nat×Nat)))):=fun(v1,l2,v0) =>
br (decide (v0<v1)) (
ob (
cT (tj n v1 v0 l4) n (([]:PM (Int)),0,0)) fun(l1,v2) =>
ob (
br (decide (v2=0)) (
gd (cP v0 l1.length) (
ob (l1[v0.toNat]?) fun x3 =>
some ((l1.set v0.toNat 1),1))) (
some (l1,v2))) fun(l5,v3) =>
ob (
cT (si n v1 l1 l5 v3) n (([]:PM (Nat×Nat×Nat×Nat×Nat×Nat×Nat×Nat×Nat×Nat×Nat×Nat×Nat×Nat×Nat×Nat)),0)) fun l3 =>
gd (lim (l2++([l3]:PM (PM (Nat×Nat×Nat×Nat×Nat×Nat×Nat×Nat×Nat×Nat×Nat×Nat×Nat×Nat×Nat×Nat)))).length) (
some (.inl (v1,(l2++([l3]:PM (PM (Nat×Nat×Nat×Nat×Nat×Nat×Nat×Nat×Nat×Nat×Nat×Nat×Nat×Nat×Nat×Nat)))),OT (v0+1))))) (
some (.inr l2))
def K3(n:Nat)(x1:Nat)(l1:PM (Nat)):PE (PM (PM (Nat×Nat×Nat×Nat×Nat×Nat×Nat×Nat×Nat×Nat×Nat×Nat×Nat×Nat×Nat×Nat))) :=
ob (
cT (tx n l1) n (OT (1+(OT ((x1%4:Nat):Int))),([]:PM (PM (Nat×Nat×Nat×Nat×Nat×Nat×Nat×Nat×Nat×Nat×Nat×Nat×Nat×Nat×Nat×Nat))),0)) fun l2 =>
some l2
def HW(n:Nat):(PM (Nat)×Int)->PE ((PM (Nat)×Int) ⊕(PM (Nat))):=fun(l40,v41) =>
br (decide (v41<8)) (
gd (cP v41 8) (
ob (l40[v41.toNat]?) fun x52 =>
some (.inl ((l40.set v41.toNat 18446744073709551615),OT (v41+1))))) (
some (.inr l40))
def KV(n:Nat)(x1:Int):PE (Nat×Nat×Nat×Nat×Nat×Nat×Nat×Nat) :=
ob (
br (decide (x1<0)) (
ob (
cT (HW n) n (([ui .u64 x1,0,0,0,0,0,0,0]:PM (Nat)),1)) fun l49 =>
some l49) (
some ([ui .u64 x1,0,0,0,0,0,0,0]:PM (Nat)))) fun l30 =>
ob (Jc l30) fun(x59,x60,x61,x62,x63,x64,x65,x66) =>
some (x59,x60,x61,x62,x63,x64,x65,x66)
def Cm(n:Nat):(PM (Nat)×PM (Nat)×Nat×Int)->PE ((PM (Nat)×PM (Nat)×Nat×Int) ⊕(PM (Nat)×Nat)):=fun(l36,l37,v38,v39) =>
br (decide (v39<8)) (
gd (cP v39 8) (
ob (l36[v39.toNat]?) fun x60 =>
gd (cP v39 8) (
ob (l37[v39.toNat]?) fun x63 =>
ob (GH n x60 x63 v38) fun(r66,r67) =>
gd (cP v39 8) (
some (.inl ((l36.set v39.toNat r66),l37,r67,OT (v39+1))))))) (
some (.inr (l36,v38)))
def Hr(n:Nat)(x1:Nat)(x2:Nat)(x3:Nat)(x4:Nat)(x5:Nat)(x6:Nat)(x7:Nat)(x8:Nat)(x9:Nat)(x10:Nat)(x11:Nat)(x12:Nat)(x13:Nat)(x14:Nat)(x15:Nat)(x16:Nat):PE (Nat×Nat×Nat×Nat×Nat×Nat×Nat×Nat×Nat) :=
ob (
cT (Cm n) n (([x1,x2,x3,x4,x5,x6,x7,x8]:PM (Nat)),([x9,x10,x11,x12,x13,x14,x15,x16]:PM (Nat)),0,0)) fun(l56,v57) =>
ob (Jc l56) fun(x72,x73,x74,x75,x76,x77,x78,x79) =>
some (x72,x73,x74,x75,x76,x77,x78,x79,v57)
def Ca(n:Nat)(x1:Nat)(x2:Nat)(x3:Nat)(x4:Nat)(x5:Nat)(x6:Nat)(x7:Nat)(x8:Nat):PE (Bool×Nat×Nat×Nat×Nat×Nat×Nat×Nat×Nat) :=
ob (
br (decide (di .u64 x8 63=1)) (
ob (Hr n 0 0 0 0 0 0 0 0 x1 x2 x3 x4 x5 x6 x7 x8) fun(r34,r35,r36,r37,r38,r39,r40,r41,r42) =>
some (decide (di .u64 x8 63=1),r34,r35,r36,r37,r38,r39,r40,r41)) (
some (decide (di .u64 x8 63=1),x1,x2,x3,x4,x5,x6,x7,x8))) fun(v23,v24,v25,v26,v27,v28,v29,v30,v31) =>
some (v23,v24,v25,v26,v27,v28,v29,v30,v31)
def fb(n:Nat)(l2:PM (Nat)):Int->PE (Int⊕Int):=fun v9 =>
ob (
br (decide (0<v9)) (
gd (cP (OT (v9-1)) l2.length) (
ob (l2[(OT (v9-1)).toNat]?) fun x71 =>
some (decide (x71=0)))) (
some false)) fun v66 =>
br (v66) (
some (.inl (OT (v9-1)))) (
some (.inr v9))
def j4(n:Nat)(x1:Bool)(l2:PM (Nat)):PE (Bool×PM Nat) :=
ob (
cT (fb n l2) n (l2.length:Int)) fun v43 =>
br (x1) (
gd (okB 0 v43 l2.length) (
some (decide (0<v43),((l2.drop OU).take ((v43:Int).toNat-OU))))) (
gd (okB 0 v43 l2.length) (
some (false,((l2.drop OU).take ((v43:Int).toNat-OU)))))
def DZ(n:Nat)(x1:Nat)(x2:Nat)(x3:Nat)(x4:Nat)(x5:Nat)(x6:Nat)(x7:Nat)(x8:Nat):PE (Bool×PM Nat) :=
ob (Ca n x1 x2 x3 x4 x5 x6 x7 x8) fun(r12,r13,r14,r15,r16,r17,r18,r19,r20) =>
gd (lim (([]:PM (Nat))++[r13,r14,r15,r16,r17,r18,r19,r20]).length) (
ob (j4 n r12 (([]:PM (Nat))++[r13,r14,r15,r16,r17,r18,r19,r20])) fun(r26,l27) =>
some (r26,l27))
def Fk(n:Nat)(x1:Int):PE (Bool×PM Nat) :=
ob (KV n x1) fun(r4,r5,r6,r7,r8,r9,r10,r11) =>
ob (DZ n r4 r5 r6 r7 r8 r9 r10 r11) fun(r13,l14) =>
some (r13,l14)
def vT(n:Nat)(x1:Nat)(x2:Nat)(x3:Nat)(x4:Nat)(x5:Nat)(x6:Nat)(x7:Nat)(x8:Nat)(x9:Nat)(x10:Nat)(x11:Nat)(x12:Nat)(x13:Nat)(x14:Nat)(x15:Nat)(x16:Nat):PE (Bool×PM Nat×Bool×PM Nat) :=
ob (DZ n x1 x2 x3 x4 x5 x6 x7 x8) fun(r20,l21) =>
ob (DZ n x9 x10 x11 x12 x13 x14 x15 x16) fun(r26,l27) =>
some (r20,l21,r26,l27)
def yc(n:Nat)(x1:Bool)(l2:PM (Nat)):PE Int :=
br (x1) (
some (-1)) (
br (decide ((l2.length:Int)=0)) (
some 0) (
some 1))
def Dy(n:Nat)(x1:Nat):PE Int :=
ob (
br (decide (4294967296<=x1)) (
some (di .u64 x1 32,32)) (
some (x1,0))) fun(v3,v4) =>
ob (
br (decide (65536<=v3)) (
some (di .u64 v3 16,OT (v4+16))) (
some (v3,v4))) fun(v9,v10) =>
ob (
br (decide (256<=v9)) (
some (di .u64 v9 8,OT (v10+8))) (
some (v9,v10))) fun(v15,v16) =>
gd (cP ((uw .u8 v15:Nat):Int) 256) (
ob (gr[((uw .u8 v15:Nat):Int).toNat]?) fun y22 =>
some (OT (v16+(OT ((y22:Nat):Int)))))
def yP(n:Nat)(x1:Nat):PE Int :=
ob (Dy n x1) fun r3 =>
some (OT (64-r3))
def qS(n:Nat):(Nat×Nat×Nat×Nat×Nat×Nat×Nat×Nat)->PE ((Nat×Nat×Nat×Nat×Nat×Nat×Nat×Nat) ⊕(Nat×Nat×Nat×Nat×Nat×Nat×Nat)):=fun(v20,v21,v22,v23,v24,v25,v26,v27) =>
ob (
br (decide (4294967296<=v26)) (
some true) (
some (decide (uw .u64 ((uw .u64 (4294967296*v27))+v24)<uw .u64 (v26*v23))))) fun v63 =>
br (v63) (
br (decide (4294967296<=uw .u64 (v27+v22))) (
some (.inr (v20,v21,v22,v23,v24,v25,gN .u64 v26 1))) (
some (.inl (v20,v21,v22,v23,v24,v25,gN .u64 v26 1,uw .u64 (v27+v22))))) (
some (.inr (v20,v21,v22,v23,v24,v25,v26)))
def fL(n:Nat)(v3:Nat)(v4:Nat)(v2:Nat):(Nat×Nat)->PE ((Nat×Nat)⊕Nat):=fun(v1,v0) =>
ob (
br (decide (4294967296<=v0)) (
some true) (
some (decide (uw .u64 ((uw .u64 (4294967296*v1))+v3)<uw .u64 (v0*v4))))) fun v5 =>
br (v5) (
br (decide (4294967296<=uw .u64 (v1+v2))) (
some (.inr (gN .u64 v0 1))) (
some (.inl (uw .u64 (v1+v2),gN .u64 v0 1)))) (
some (.inr v0))
def CF(n:Nat)(x1:Nat)(x2:Nat)(x3:Nat):PE (Nat×Nat) :=
br (decide (x3=0)) (
none) (
br (decide (x3<=x1)) (
none) (
br (decide (x1=0)) (
gd (decide (0<x3)) (
gd (decide (0<x3)) (
some (uw .u64 (x2/x3),x2%x3)))) (
ob (yP n x3) fun r0 =>
ob (some (uw .u64 (uw .u64 (eF .u64 x1 (ui .u64 r0)) ||| uw .u64 (di .u64 x2 (gN .u64 64 (ui .u64 r0)))))) fun y2 =>
gd (decide (0<di .u64 (eF .u64 x3 (ui .u64 r0)) 32)) (
ob (some (uw .u64 ((uw .u64 (y2/(di .u64 (eF .u64 x3 (ui .u64 r0)) 32)))*(di .u64 (eF .u64 x3 (ui .u64 r0)) 32)))) fun y4 =>
ob (
cT (qS n) n (eF .u64 x3 (ui .u64 r0),ui .u64 r0,di .u64 (eF .u64 x3 (ui .u64 r0)) 32,uw .u64 (uw .u64 (eF .u64 x3 (ui .u64 r0)) &&& uw .u64 4294967295),di .u64 (eF .u64 x2 (ui .u64 r0)) 32,uw .u64 (uw .u64 (eF .u64 x2 (ui .u64 r0)) &&& uw .u64 4294967295),uw .u64 (y2/(di .u64 (eF .u64 x3 (ui .u64 r0)) 32)),gN .u64 y2 y4)) fun(v1,v5,v0,v6,v7,v2,v3) =>
ob (some (gN .u64 (uw .u64 ((uw .u64 (y2*4294967296))+v7)) (uw .u64 (v3*v1)))) fun y3 =>
gd (decide (0<v0)) (
ob (
cT (fL n v2 v6 v0) n (gN .u64 y3 (uw .u64 ((uw .u64 (y3/v0))*v0)),uw .u64 (y3/v0))) fun v4 =>
ob (some (gN .u64 (uw .u64 ((uw .u64 (y3*4294967296))+v2)) (uw .u64 (v4*v1)))) fun y5 =>
some (uw .u64 ((uw .u64 (v3*4294967296))+v4),di .u64 y5 v5))))))
def Bh(n:Nat)(l1:PM (Nat)):PE Int :=
br (decide ((l1.length:Int)=0)) (
some 0) (
gd (cP (OT ((l1.length:Int)-1)) l1.length) (
ob (l1[(OT ((l1.length:Int)-1)).toNat]?) fun x9 =>
ob (yP n x9) fun r12 =>
some (OT ((OT (64*(l1.length:Int)))-r12))))
def oc(n:Nat)(l2:PM (Nat))(x3:Int):(PM (Nat)×Nat×Int)->PE ((PM (Nat)×Nat×Int) ⊕(PM (Nat)×Nat)):=fun(l1,n2,v0) =>
br (decide (v0<(l2.length:Int))) (
ob (
gd (cP v0 l2.length) (
ob (l2[v0.toNat]?) fun x4 =>
gd (cP (OT (v0+(OT (Oh x3 64)))) n2) (
ob (l1[(OT (v0+(OT (Oh x3 64)))).toNat]?) fun x5 =>
gd (decide (0<=Int.tmod x3 64)) (
ob (some (uw .u64 (uw .u64 x5 ||| uw .u64 (eF .u64 x4 (Int.tmod x3 64).toNat)))) fun y2 =>
gd (cP (OT (v0+(OT (Oh x3 64)))) n2) (
br (decide (0<Int.tmod x3 64)) (
ob (some (OT ((OT (v0+(OT (Oh x3 64))))+1))) fun y3 =>
gd (decide (0<=OT (64-(Int.tmod x3 64)))) (
gd (cP y3 n2) (
ob ((l1.set ((OT (v0+(OT (Oh x3 64)))).toNat) y2)[y3.toNat]?) fun x6 =>
some ((l1.set ((OT (v0+(OT (Oh x3 64)))).toNat) y2).set y3.toNat (di .u64 x4 (OT (64-(Int.tmod x3 64))).toNat))))) (
some (l1.set ((OT (v0+(OT (Oh x3 64)))).toNat) y2))))))) fun l3 =>
some (.inl (l3,n2,OT (v0+1)))) (
some (.inr (l1,n2)))
def Cb(n:Nat)(l1:PM (Nat))(x3:Int):PE (PM Nat) :=
ob (some (OT ((l1.length:Int)+(OT (Oh x3 64))))) fun y2 =>
gd (decide (0<=OT (y2+1))) (gd (lim ((OT (y2+1)).toNat)) (
ob (
cT (oc n l1 x3) n ((List.replicate (OT (y2+1)).toNat (0:Nat)),(OT (y2+1)).toNat,0)) fun(l2,n2) =>
ob (j4 n false l2) fun(r0,l3) =>
some l3))
def kJ(n:Nat)(l1:PM (Nat))(l5:PM (Nat)):Int->PE (Int⊕Int⊕PN):=fun v11 =>
br (decide (0<=v11)) (
gd (cP v11 l1.length) (
ob (l1[v11.toNat]?) fun x33 =>
gd (cP v11 l5.length) (
ob (l5[v11.toNat]?) fun x38 =>
br (decide (x33<x38)) (
some (.inr (.inl (-1)))) (
gd (cP v11 l1.length) (
gd (cP v11 l5.length) (
br (decide (x38<x33)) (
some (.inr (.inl 1))) (
some (.inl (OT (v11-1)))))))))) (
some (.inr (.inr ())))
def BU(n:Nat)(l1:PM (Nat))(l5:PM (Nat)):PE Int :=
br (!decide ((l1.length:Int)=(l5.length:Int))) (
some (OT ((l1.length:Int)-(l5.length:Int)))) (
ob (α:=(Int)⊕PN) (
cT (kJ n l1 l5) n (OT ((l1.length:Int)-1))) fun r45=>match r45 with
| .inl v28 =>
some v28
| .inr _ =>
some 0)
def ov(n:Nat)(l1:PM (Nat))(l2:PM (Nat)):(PM (Nat)×Nat×Int)->PE ((PM (Nat)×Nat×Int) ⊕(PM (Nat))):=fun(l3,v1,v0) =>
br (decide (v0<(l1.length:Int))) (
gd (cP v0 l1.length) (
ob (l1[v0.toNat]?) fun x3 =>
ob (
br (decide (v0<(l2.length:Int))) (
gd (cP v0 l2.length) (
ob (l2[v0.toNat]?) fun x4 =>
some x4)) (
some 0)) fun v2 =>
ob (GH n x3 v2 v1) fun(r0,r1) =>
gd (cP v0 ((l1.length:Int).toNat)) (
ob (l3[v0.toNat]?) fun x5 =>
some (.inl ((l3.set v0.toNat r0),r1,OT (v0+1)))))) (
some (.inr l3))
def Bl(n:Nat)(l1:PM (Nat))(l2:PM (Nat)):PE (PM Nat) :=
gd (decide (0<=(l1.length:Int))) (gd (lim ((l1.length:Int).toNat)) (
ob (
cT (ov n l1 l2) n ((List.replicate (l1.length:Int).toNat (0:Nat)),0,0)) fun l3 =>
some l3))
def nV(n:Nat)(l1:PM (Nat))(l6:PM (Nat)):(PM (Nat)×Nat×Int)->PE ((PM (Nat)×Nat×Int) ⊕(PM (Nat)×Nat)):=fun(l37,v38,v39) =>
br (decide (0<=v39)) (
gd (cP v39 l1.length) (
ob (l1[v39.toNat]?) fun x67 =>
gd (cP 0 l6.length) (
ob (l6[OU]?) fun x72 =>
ob (CF n v38 x67 x72) fun(r75,r76) =>
gd (cP v39 ((l1.length:Int).toNat)) (
ob (l37[v39.toNat]?) fun x78 =>
some (.inl ((l37.set v39.toNat r75),r76,OT (v39-1))))))) (
some (.inr (l37,v38)))
def iR(n:Nat)(l6:PM (Nat))(l3:PM (Nat)):(PM (Nat)×PM (Nat)×Int)->PE ((PM (Nat)×PM (Nat)×Int) ⊕(PM (Nat)×PM (Nat))):=fun(l1,l2,v0) =>
br (decide (0<=v0)) (
ob (
ob (Cb n l6 v0) fun l4 =>
ob (BU n l2 l4) fun r0 =>
br (decide (0<=r0)) (
ob (Bl n l2 l4) fun l5 =>
ob (j4 n false l5) fun(r1,l7) =>
gd (cP (OT (Oh v0 64)) ((l3.length:Int).toNat)) (
ob (l1[(OT (Oh v0 64)).toNat]?) fun x3 =>
gd (decide (0<=Int.tmod v0 64)) (
ob (some (uw .u64 (uw .u64 x3 ||| uw .u64 (eF .u64 1 (Int.tmod v0 64).toNat)))) fun y2 =>
gd (cP (OT (Oh v0 64)) ((l3.length:Int).toNat)) (
some ((l1.set ((OT (Oh v0 64)).toNat) y2),l7))))) (
some (l1,l2))) fun(l8,l9) =>
some (.inl (l8,l9,OT (v0-1)))) (
some (.inr (l1,l2)))
def w8(n:Nat)(l1:PM (Nat))(l6:PM (Nat)):PE (PM Nat×PM Nat) :=
gd (decide (0<=(l1.length:Int))) (gd (lim ((l1.length:Int).toNat)) (
br (decide ((l6.length:Int)=1)) (
ob (
cT (nV n l1 l6) n ((List.replicate (l1.length:Int).toNat (0:Nat)),0,OT ((l1.length:Int)-1))) fun(l2,v0) =>
ob (j4 n false ([v0])) fun(r3,l3) =>
some (l2,l3)) (
ob (Bh n l1) fun r0 =>
ob (Bh n l6) fun r1 =>
ob (
cT (iR n l6 l1) n ((List.replicate (l1.length:Int).toNat (0:Nat)),l1,OT (r0-r1))) fun(l4,l5) =>
some (l4,l5))))
def pS(n:Nat):(PM (Nat)×PM (Nat))->PE ((PM (Nat)×PM (Nat)) ⊕(PM (Nat))):=fun(l26,l29) =>
br (decide (0<(l29.length:Int))) (
ob (w8 n l26 l29) fun(l53,l57) =>
some (.inl (l29,l57))) (
some (.inr l26))
def Bj(n:Nat)(x1:Bool)(l2:PM (Nat))(x7:Bool)(l8:PM (Nat)):PE (Bool×PM Nat) :=
ob (
cT (pS n) n (l2,l8)) fun l48 =>
some (false,l48)
def yX(n:Nat)(x1:Bool)(l2:PM (Nat)):PE (Bool×PM Nat) :=
ob (j4 n (!x1) l2) fun(r10,l11) =>
some (r10,l11)
def lX(n:Nat)(l1:PM (Nat))(l2:PM (Nat)):(PM (Nat)×Nat×Nat×Int)->PE ((PM (Nat)×Nat×Nat×Int) ⊕(PM (Nat)×Nat×Nat)):=fun(l3,n2,v1,v0) =>
br (decide (v0<(l1.length:Int))) (
gd (cP v0 l1.length) (
ob (l1[v0.toNat]?) fun x3 =>
ob (
br (decide (v0<(l2.length:Int))) (
gd (cP v0 l2.length) (
ob (l2[v0.toNat]?) fun x4 =>
some x4)) (
some 0)) fun v2 =>
ob (B0 n x3 v2 v1) fun(r0,r1) =>
gd (cP v0 n2) (
ob (l3[v0.toNat]?) fun x5 =>
some (.inl ((l3.set v0.toNat r0),n2,r1,OT (v0+1)))))) (
some (.inr (l3,n2,v1)))
def DW(n:Nat)(l2:PM (Nat))(l3:PM (Nat)):PE (PM Nat) :=
ob (
br (decide ((l2.length:Int)<(l3.length:Int))) (
some (l3,l2)) (
some (l2,l3))) fun(l1,l5) =>
gd (decide (0<=OT ((l1.length:Int)+1))) (gd (lim ((OT ((l1.length:Int)+1)).toNat)) (
ob (
cT (lX n l1 l5) n ((List.replicate (OT ((l1.length:Int)+1)).toNat (0:Nat)),(OT ((l1.length:Int)+1)).toNat,0,0)) fun(l4,n2,v0) =>
gd (cP (l1.length:Int) n2) (
ob (l4[(l1.length:Int).toNat]?) fun x3 =>
some (l4.set ((l1.length:Int).toNat) v0))))
def uz(n:Nat)(x1:Bool)(l2:PM (Nat))(x7:Bool)(l8:PM (Nat)):PE (Bool×PM Nat) :=
br ((x1==x7)) (
ob (DW n l2 l8) fun l18 =>
ob (j4 n x1 l18) fun(r22,l23) =>
some (r22,l23)) (
ob (
ob (BU n l2 l8) fun r39 =>
br (decide (r39<0)) (
some (x7,l8,x1,l2)) (
some (x1,l2,x7,l8))) fun(v30,l31,v34,l35) =>
ob (Bl n l31 l35) fun l44 =>
ob (j4 n v30 l44) fun(r48,l49) =>
some (r48,l49))
def DX(n:Nat)(x1:Bool)(l2:PM (Nat))(x7:Bool)(l8:PM (Nat)):PE (Bool×PM Nat) :=
ob (yX n x7 l8) fun(r17,l18) =>
ob (uz n x1 l2 r17 l18) fun(r23,l24) =>
some (r23,l24)
def zF(n:Nat)(x1:Bool)(l2:PM (Nat))(x6:Bool)(l7:PM (Nat)):PE Int :=
ob (DX n x1 l2 x6 l7) fun(r14,l15) =>
ob (yc n r14 l15) fun r20 =>
some r20
def vn(n:Nat)(x1:Nat)(x2:Nat)(x3:Nat)(x4:Nat)(x5:Nat)(x6:Nat)(x7:Nat)(x8:Nat)(x9:Nat)(x10:Nat)(x11:Nat)(x12:Nat)(x13:Nat)(x14:Nat)(x15:Nat)(x16:Nat):PE Int :=
ob (Fk n 1) fun(r19,l20) =>
ob (vT n x1 x2 x3 x4 x5 x6 x7 x8 x9 x10 x11 x12 x13 x14 x15 x16) fun(r26,l27,r31,l32) =>
ob (
ob (yc n r31 l32) fun r76 =>
br (decide (r76<=0)) (
some true) (
ob (Bj n r26 l27 r31 l32) fun(r79,l80) =>
ob (zF n r79 l80 r19 l20) fun r85 =>
some (!decide (r85=0)))) fun v74 =>
br (v74) (
some 20) (
some 0)
def wo(n:Nat)(x1:Nat)(x2:Nat)(x3:Nat)(x4:Nat)(x5:Nat)(x6:Nat)(x7:Nat)(x8:Nat)(x9:Nat)(x10:Nat)(x11:Nat)(x12:Nat)(x13:Nat)(x14:Nat)(x15:Nat)(x16:Nat):PE Bool :=
ob (vn n x1 x2 x3 x4 x5 x6 x7 x8 x9 x10 x11 x12 x13 x14 x15 x16) fun r19 =>
br (!decide (r19=0)) (
some true) (
ob (vT n x1 x2 x3 x4 x5 x6 x7 x8 x9 x10 x11 x12 x13 x14 x15 x16) fun(r22,l23,r27,l28) =>
ob (yc n r22 l23) fun r33 =>
some (decide (r33<0)))
def C9(n:Nat)(x1:Bool)(l2:PM (Nat)):PE (Bool×PM Nat×Bool×PM Nat) :=
ob (Fk n 1) fun(r10,l11) =>
some (x1,l2,r10,l11)
def rY(n:Nat)(x1:Int):PE (Bool×PM Nat×Bool×PM Nat) :=
ob (Fk n x1) fun(r4,l5) =>
ob (C9 n r4 l5) fun(r10,l11,r15,l16) =>
some (r10,l11,r15,l16)
def CH(n:Nat)(x1:Nat)(x2:Nat):PE (Nat×Nat) :=
ob (some (uw .u64 ((uw .u64 (uw .u64 x1 &&& uw .u64 4294967295))*(uw .u64 (uw .u64 x2 &&& uw .u64 4294967295))))) fun y3 =>
ob (some (uw .u64 ((di .u64 x1 32)*(uw .u64 (uw .u64 x2 &&& uw .u64 4294967295))))) fun y5 =>
ob (some (uw .u64 (uw .u64 (uw .u64 (y5+(di .u64 y3 32))) &&& uw .u64 4294967295))) fun y7 =>
ob (some (uw .u64 ((uw .u64 (uw .u64 x1 &&& uw .u64 4294967295))*(di .u64 x2 32)))) fun y9 =>
ob (some (uw .u64 ((uw .u64 ((di .u64 x1 32)*(di .u64 x2 32)))+(di .u64 (uw .u64 (y5+(di .u64 y3 32))) 32)))) fun y11 =>
some (uw .u64 (y11+(di .u64 (uw .u64 (y7+y9)) 32)),uw .u64 (x1*x2))
def oq(n:Nat)(l1:PM (Nat))(x3:Nat)(v1:Int)(n2:Nat):(PM (Nat)×Nat×Int)->PE ((PM (Nat)×Nat×Int) ⊕(PM (Nat)×Nat)):=fun(l2,v2,v0) =>
br (decide (v0<(l1.length:Int))) (
gd (cP v0 l1.length) (
ob (l1[v0.toNat]?) fun x4 =>
ob (CH n x3 x4) fun(r0,r1) =>
gd (cP (OT (v1+v0)) n2) (
ob (l2[(OT (v1+v0)).toNat]?) fun x5 =>
ob (B0 n x5 r1 0) fun(r3,r4) =>
ob (B0 n r3 v2 0) fun(r5,r6) =>
gd (cP (OT (v1+v0)) n2) (
some (.inl ((l2.set ((OT (v1+v0)).toNat) r5),uw .u64 ((uw .u64 (r0+r4))+r6),OT (v0+1))))))) (
some (.inr (l2,v2)))
def ot(n:Nat)(l2:PM (Nat))(l1:PM (Nat)):(PM (Nat)×Nat×Int)->PE ((PM (Nat)×Nat×Int) ⊕(PM (Nat)×Nat)):=fun(l3,n2,v0) =>
br (decide (v0<(l2.length:Int))) (
gd (cP v0 l2.length) (
ob (l2[v0.toNat]?) fun x3 =>
ob (
cT (oq n l1 x3 v0 n2) n (l3,0,0)) fun(l4,v1) =>
gd (cP (OT (v0+(l1.length:Int))) n2) (
ob (l4[(OT (v0+(l1.length:Int))).toNat]?) fun x4 =>
some (.inl ((l4.set ((OT (v0+(l1.length:Int))).toNat) v1),n2,OT (v0+1)))))) (
some (.inr (l3,n2)))
def CS(n:Nat)(l1:PM (Nat))(l2:PM (Nat)):PE (PM Nat) :=
gd (decide (0<=OT ((l1.length:Int)+(l2.length:Int)))) (gd (lim ((OT ((l1.length:Int)+(l2.length:Int))).toNat)) (
ob (
cT (ot n l1 l2) n ((List.replicate (OT ((l1.length:Int)+(l2.length:Int))).toNat (0:Nat)),(OT ((l1.length:Int)+(l2.length:Int))).toNat,0)) fun(l3,n2) =>
some l3))
def B7(n:Nat)(x1:Bool)(l2:PM (Nat))(x7:Bool)(l8:PM (Nat)):PE (Bool×PM Nat) :=
ob (CS n l2 l8) fun l17 =>
ob (j4 n (!(x1==x7)) l17) fun(r21,l22) =>
some (r21,l22)
def Bd(n:Nat)(x1:Bool)(l2:PM (Nat))(x7:Bool)(l8:PM (Nat)):PE (Bool×PM Nat×Bool×PM Nat) :=
ob (w8 n l2 l8) fun(l18,l22) =>
ob (j4 n (!(x1==x7)) l18) fun(r27,l28) =>
ob (j4 n x1 l22) fun(r33,l34) =>
ob (
br (r33) (
ob (uz n r33 l34 false l8) fun(r65,l66) =>
ob (uz n r27 l28 (!x7) ([1])) fun(r73,l74) =>
some (r73,l74,r65,l66)) (
some (r27,l28,r33,l34))) fun(v54,l55,v58,l59) =>
some (v54,l55,v58,l59)
def zG(n:Nat)(x1:Bool)(l2:PM (Nat))(x7:Bool)(l8:PM (Nat)):PE (Bool×PM Nat×Bool×PM Nat) :=
ob (Bj n x1 l2 x7 l8) fun(r17,l18) =>
ob (Bd n x1 l2 r17 l18) fun(r24,l25,r29,l30) =>
ob (Bd n x7 l8 r17 l18) fun(r37,l38,r42,l43) =>
ob (
br (r37) (
ob (yX n r24 l25) fun(r72,l73) =>
ob (yX n r37 l38) fun(r78,l79) =>
some (r72,l73,r78,l79)) (
some (r24,l25,r37,l38))) fun(v62,l63,v66,l67) =>
some (v62,l63,v66,l67)
def rJ(n:Nat)(x1:Bool)(l2:PM (Nat))(x7:Bool)(l8:PM (Nat))(x13:Bool)(l14:PM (Nat))(x19:Bool)(l20:PM (Nat)):PE (Bool×PM Nat×Bool×PM Nat) :=
ob (B7 n x1 l2 x19 l20) fun(r29,l30) =>
ob (B7 n x13 l14 x7 l8) fun(r35,l36) =>
ob (uz n r29 l30 r35 l36) fun(r41,l42) =>
ob (B7 n x7 l8 x19 l20) fun(r47,l48) =>
ob (zG n r41 l42 r47 l48) fun(r53,l54,r58,l59) =>
some (r53,l54,r58,l59)
def DJ(n:Nat)(x1:Bool)(l2:PM (Nat))(x6:Bool)(l7:PM (Nat))(x11:Bool)(l12:PM (Nat))(x16:Bool)(l17:PM (Nat)):PE Int :=
ob (B7 n x1 l2 x16 l17) fun(r24,l25) =>
ob (B7 n x11 l12 x6 l7) fun(r30,l31) =>
ob (zF n r24 l25 r30 l31) fun r36 =>
some r36
def kO(n:Nat)(l1:PM (Nat×Nat×Nat×Nat×Nat×Nat×Nat×Nat×Nat×Nat×Nat×Nat×Nat×Nat×Nat×Nat)):Int->PE (Int⊕Int⊕PN):=fun v0 =>
br (decide (v0<(l1.length:Int))) (
gd (cP v0 l1.length) (
ob (l1[v0.toNat]?) fun(x3,x4,x5,x6,x7,x8,x9,x10,x11,x12,x13,x14,x15,x16,x17,x18) =>
ob (wo n x3 x4 x5 x6 x7 x8 x9 x10 x11 x12 x13 x14 x15 x16 x17 x18) fun r0 =>
br (r0) (
some (.inr (.inl v0))) (
some (.inl (OT (v0+1)))))) (
some (.inr (.inr ())))
def iN(n:Nat)(l1:PM (Nat×Nat×Nat×Nat×Nat×Nat×Nat×Nat×Nat×Nat×Nat×Nat×Nat×Nat×Nat×Nat)):(Bool×PM (Nat)×Bool×PM (Nat)×Int)->PE ((Bool×PM (Nat)×Bool×PM (Nat)×Int) ⊕(Bool×PM (Nat)×Bool×PM (Nat))):=fun(v1,l2,v2,l3,v0) =>
br (decide (v0<(l1.length:Int))) (
gd (cP v0 l1.length) (
ob (l1[v0.toNat]?) fun(x3,x4,x5,x6,x7,x8,x9,x10,x11,x12,x13,x14,x15,x16,x17,x18) =>
ob (vT n x3 x4 x5 x6 x7 x8 x9 x10 x11 x12 x13 x14 x15 x16 x17 x18) fun(r0,l4,r1,l5) =>
ob (rJ n v1 l2 v2 l3 r0 l4 r1 l5) fun(r3,l7,r4,l8) =>
some (.inl (r3,l7,r4,l8,OT (v0+1))))) (
some (.inr (v1,l2,v2,l3)))
def wJ(n:Nat)(l1:PM (Nat×Nat×Nat×Nat×Nat×Nat×Nat×Nat×Nat×Nat×Nat×Nat×Nat×Nat×Nat×Nat)):PE Bool :=
ob (
ob (α:=Int) (
ob (α:=(Int)⊕PN) (
cT (kO n l1) n 0) fun r0=>match r0 with
| .inl v0 =>
some v0
| .inr _ =>
some (-1)) fun v1 =>
some (decide (0<=v1))) fun v2 =>
br (v2) (
some false) (
ob (
ob (rY n 0) fun(r1,l2,r3,l3) =>
ob (
cT (iN n l1) n (r1,l2,r3,l3,0)) fun(v3,l4,v4,l5) =>
some (v3,l4,v4,l5)) fun(v5,l7,v6,l8) =>
ob (rY n 1) fun(r4,l9,r5,l10) =>
ob (DJ n v5 l7 v6 l8 r4 l9 r5 l10) fun r6 =>
some (decide (r6=0)))
def xB(n:Nat)(l1:PM (PM (Nat×Nat×Nat×Nat×Nat×Nat×Nat×Nat×Nat×Nat×Nat×Nat×Nat×Nat×Nat×Nat))):Int->PE (Int⊕PN⊕PN):=fun v21 =>
br (decide (v21<(l1.length:Int))) (
gd (cP v21 l1.length) (
ob (l1[v21.toNat]?) fun l79 =>
ob (
br (!decide ((l79.length:Int)=(l1.length:Int))) (
some true) (
ob (wJ n l79) fun r89 =>
some (!r89))) fun v86 =>
br (v86) (
some (.inr (.inl ()))) (
some (.inl (OT (v21+1)))))) (
some (.inr (.inr ())))
def H3(n:Nat)(l1:PM (PM (Nat×Nat×Nat×Nat×Nat×Nat×Nat×Nat×Nat×Nat×Nat×Nat×Nat×Nat×Nat×Nat))):PE Int :=
ob (
br (decide ((l1.length:Int)<1)) (
some true) (
some (decide (60<(l1.length:Int))))) fun v15 =>
br (v15) (
some 330) (
ob (α:=(PN)⊕PN) (
cT (xB n l1) n 0) fun r94=>match r94 with
| .inl _ =>
some 330
| .inr _ =>
some 0)
def C4(n:Nat):(PM (Nat)×PM (Nat)×Int)->PE ((PM (Nat)×PM (Nat)×Int)⊕Int⊕PN):=fun(l32,l33,v34) =>
br (decide (0<=v34)) (
gd (cP v34 8) (
ob (l32[v34.toNat]?) fun x52 =>
gd (cP v34 8) (
ob (l33[v34.toNat]?) fun x55 =>
br (!decide (x52=x55)) (
gd (cP v34 8) (
gd (cP v34 8) (
br (decide (x52<x55)) (
some (.inr (.inl (-1)))) (
some (.inr (.inl 1)))))) (
some (.inl (l32,l33,OT (v34-1))))))) (
some (.inr (.inr ())))
def Dl(n:Nat)(x1:Nat)(x2:Nat)(x3:Nat)(x4:Nat)(x5:Nat)(x6:Nat)(x7:Nat)(x8:Nat)(x9:Nat)(x10:Nat)(x11:Nat)(x12:Nat)(x13:Nat)(x14:Nat)(x15:Nat)(x16:Nat):PE Int :=
ob (α:=(Int)⊕PN) (
cT (C4 n) n (([x1,x2,x3,x4,x5,x6,x7,x8]:PM (Nat)),([x9,x10,x11,x12,x13,x14,x15,x16]:PM (Nat)),7)) fun r62=>match r62 with
| .inl v49 =>
some v49
| .inr _ =>
some 0
def FL(n:Nat)(x1:Bool)(x2:Nat)(x3:Nat)(x4:Nat)(x5:Nat)(x6:Nat)(x7:Nat)(x8:Nat)(x9:Nat):PE (Nat×Nat×Nat×Nat×Nat×Nat×Nat×Nat×Int) :=
ob (Dl n x2 x3 x4 x5 x6 x7 x8 x9 0 0 0 0 0 0 0 9223372036854775808) fun r24 =>
ob (
br (decide (0<r24)) (
some true) (
br (decide (r24=0)) (
some (!x1)) (
some false))) fun v27 =>
br (v27) (
some (0,0,0,0,0,0,0,0,6)) (
ob (
br (x1) (
ob (Hr n 0 0 0 0 0 0 0 0 x2 x3 x4 x5 x6 x7 x8 x9) fun(r54,r55,r56,r57,r58,r59,r60,r61,r62) =>
some (r54,r55,r56,r57,r58,r59,r60,r61)) (
some (x2,x3,x4,x5,x6,x7,x8,x9))) fun(v44,v45,v46,v47,v48,v49,v50,v51) =>
some (v44,v45,v46,v47,v48,v49,v50,v51,0))
def JZ(n:Nat)(x1:Bool)(l2:PM (Nat)):PE (Nat×Nat×Nat×Nat×Nat×Nat×Nat×Nat×Int) :=
br (decide (8<(l2.length:Int))) (
some (0,0,0,0,0,0,0,0,6)) (
gd (decide ((l2:PM (Nat)).length<=8)) (
ob (Jc ((l2:PM (Nat))++([0,0,0,0,0,0,0,0]:PM (Nat)).drop (l2:PM (Nat)).length)) fun(x12,x13,x14,x15,x16,x17,x18,x19) =>
ob (FL n x1 x12 x13 x14 x15 x16 x17 x18 x19) fun(r21,r22,r23,r24,r25,r26,r27,r28,r29) =>
some (r21,r22,r23,r24,r25,r26,r27,r28,r29)))
def wg(n:Nat)(x1:Bool)(l2:PM (Nat))(x6:Bool)(l7:PM (Nat)):PE (Nat×Nat×Nat×Nat×Nat×Nat×Nat×Nat×Nat×Nat×Nat×Nat×Nat×Nat×Nat×Nat×Int) :=
ob (JZ n x1 l2) fun(r14,r15,r16,r17,r18,r19,r20,r21,r22) =>
ob (JZ n x6 l7) fun(r25,r26,r27,r28,r29,r30,r31,r32,r33) =>
ob (
br (!decide (r22=0)) (
some true) (
some (!decide (r33=0)))) fun v42 =>
br (v42) (
some (0,0,0,0,0,0,0,0,0,0,0,0,0,0,0,0,6)) (
some (r14,r15,r16,r17,r18,r19,r20,r21,r25,r26,r27,r28,r29,r30,r31,r32,0))
def IV(n:Nat)(x1:Nat)(x2:Nat)(x3:Nat)(x4:Nat)(x5:Nat)(x6:Nat)(x7:Nat)(x8:Nat)(x9:Nat)(x10:Nat)(x11:Nat)(x12:Nat)(x13:Nat)(x14:Nat)(x15:Nat)(x16:Nat):PE (Nat×Nat×Nat×Nat×Nat×Nat×Nat×Nat×Nat×Nat×Nat×Nat×Nat×Nat×Nat×Nat×Int) :=
br ((decide (x9=0)&&decide (x10=0)&&decide (x11=0)&&decide (x12=0)&&decide (x13=0)&&decide (x14=0)&&decide (x15=0)&&decide (x16=0))) (
some (0,0,0,0,0,0,0,0,0,0,0,0,0,0,0,0,7)) (
ob (DZ n x1 x2 x3 x4 x5 x6 x7 x8) fun(r22,l23) =>
ob (DZ n x9 x10 x11 x12 x13 x14 x15 x16) fun(r28,l29) =>
ob (zG n r22 l23 r28 l29) fun(r34,l35,r39,l40) =>
ob (wg n r34 l35 r39 l40) fun(r45,r46,r47,r48,r49,r50,r51,r52,r53,r54,r55,r56,r57,r58,r59,r60,r61) =>
some (r45,r46,r47,r48,r49,r50,r51,r52,r53,r54,r55,r56,r57,r58,r59,r60,r61))
def LF(n:Nat)(x1:Int)(x2:Int):PE (Nat×Nat×Nat×Nat×Nat×Nat×Nat×Nat×Nat×Nat×Nat×Nat×Nat×Nat×Nat×Nat×Int) :=
ob (KV n x1) fun(r5,r6,r7,r8,r9,r10,r11,r12) =>
ob (KV n x2) fun(r14,r15,r16,r17,r18,r19,r20,r21) =>
ob (IV n r5 r6 r7 r8 r9 r10 r11 r12 r14 r15 r16 r17 r18 r19 r20 r21) fun(r23,r24,r25,r26,r27,r28,r29,r30,r31,r32,r33,r34,r35,r36,r37,r38,r39) =>
some (r23,r24,r25,r26,r27,r28,r29,r30,r31,r32,r33,r34,r35,r36,r37,r38,r39)
def FP(n:Nat)(x1:Int)(x2:Int):PE (Nat×Nat×Nat×Nat×Nat×Nat×Nat×Nat×Nat×Nat×Nat×Nat×Nat×Nat×Nat×Nat) :=
ob (LF n x1 x2) fun(r5,r6,r7,r8,r9,r10,r11,r12,r13,r14,r15,r16,r17,r18,r19,r20,r21) =>
some (r5,r6,r7,r8,r9,r10,r11,r12,r13,r14,r15,r16,r17,r18,r19,r20)
def BF(n:Nat)(x1:Bool)(l2:PM (Nat))(x7:Bool)(l8:PM (Nat))(x13:Bool)(l14:PM (Nat))(x19:Bool)(l20:PM (Nat)):PE (Bool×PM Nat×Bool×PM Nat) :=
ob (B7 n x1 l2 x13 l14) fun(r29,l30) =>
ob (B7 n x7 l8 x19 l20) fun(r35,l36) =>
ob (zG n r29 l30 r35 l36) fun(r41,l42,r46,l47) =>
some (r41,l42,r46,l47)
def oA(n:Nat)(l1:PM (Bool×PM Nat×Bool×PM Nat)):(PM (Nat×Nat×Nat×Nat×Nat×Nat×Nat×Nat×Nat×Nat×Nat×Nat×Nat×Nat×Nat×Nat)×Int)->PE ((PM (Nat×Nat×Nat×Nat×Nat×Nat×Nat×Nat×Nat×Nat×Nat×Nat×Nat×Nat×Nat×Nat)×Int) ⊕(Int ⊕(PM (Nat×Nat×Nat×Nat×Nat×Nat×Nat×Nat×Nat×Nat×Nat×Nat×Nat×Nat×Nat×Nat)))):=fun(l2,v0) =>
br (decide (v0<(l1.length:Int))) (
gd (cP v0 l1.length) (
ob (l1[v0.toNat]?) fun(x3,l3,x4,l4) =>
ob (wg n x3 l3 x4 l4) fun(r0,r1,r3,r4,r5,r6,r7,r8,r9,r10,r11,r12,r13,r14,r15,r16,r17) =>
br (!decide (r17=0)) (
some (.inr (.inl r17))) (
gd (lim (l2++[(r0,r1,r3,r4,r5,r6,r7,r8,r9,r10,r11,r12,r13,r14,r15,r16)]).length) (
some (.inl ((l2++[(r0,r1,r3,r4,r5,r6,r7,r8,r9,r10,r11,r12,r13,r14,r15,r16)]),OT (v0+1))))))) (
some (.inr (.inr l2)))
def ES(n:Nat)(l1:PM (Bool×PM Nat×Bool×PM Nat)):PE (PM (Nat×Nat×Nat×Nat×Nat×Nat×Nat×Nat×Nat×Nat×Nat×Nat×Nat×Nat×Nat×Nat)×Int) :=
ob (α:=(Int) ⊕(PM (Nat×Nat×Nat×Nat×Nat×Nat×Nat×Nat×Nat×Nat×Nat×Nat×Nat×Nat×Nat×Nat))) (
cT (oA n l1) n (([]:PM (Nat×Nat×Nat×Nat×Nat×Nat×Nat×Nat×Nat×Nat×Nat×Nat×Nat×Nat×Nat×Nat)),0)) fun r0=>match r0 with
| .inl v0 =>
some ([],v0)
| .inr l2 =>
some (l2,0)
def Ha(n:Nat)(x1:Nat)(x2:Nat)(x3:Nat)(x4:Nat)(x5:Nat)(x6:Nat)(x7:Nat)(x8:Nat)(x9:Nat)(x10:Nat)(x11:Nat)(x12:Nat)(x13:Nat)(x14:Nat)(x15:Nat)(x16:Nat):PE Bool :=
ob (vn n x1 x2 x3 x4 x5 x6 x7 x8 x9 x10 x11 x12 x13 x14 x15 x16) fun r19 =>
some (!decide (r19=0))
def yb(n:Nat)(l1:PM (Nat×Nat×Nat×Nat×Nat×Nat×Nat×Nat×Nat×Nat×Nat×Nat×Nat×Nat×Nat×Nat)):Int->PE (Int⊕Int⊕PN):=fun v0 =>
br (decide (v0<(l1.length:Int))) (
gd (cP v0 l1.length) (
ob (l1[v0.toNat]?) fun(x3,x4,x5,x6,x7,x8,x9,x10,x11,x12,x13,x14,x15,x16,x17,x18) =>
ob (Ha n x3 x4 x5 x6 x7 x8 x9 x10 x11 x12 x13 x14 x15 x16 x17 x18) fun r0 =>
br (r0) (
some (.inr (.inl v0))) (
some (.inl (OT (v0+1)))))) (
some (.inr (.inr ())))
def sQ(n:Nat)(l1:PM (Nat×Nat×Nat×Nat×Nat×Nat×Nat×Nat×Nat×Nat×Nat×Nat×Nat×Nat×Nat×Nat)):(PM (Bool×PM Nat×Bool×PM Nat)×Int)->PE ((PM (Bool×PM Nat×Bool×PM Nat)×Int) ⊕(PM (Bool×PM Nat×Bool×PM Nat))):=fun(l2,v0) =>
br (decide (v0<(l1.length:Int))) (
gd (cP v0 l1.length) (
ob (l1[v0.toNat]?) fun(x3,x4,x5,x6,x7,x8,x9,x10,x11,x12,x13,x14,x15,x16,x17,x18) =>
ob (vT n x3 x4 x5 x6 x7 x8 x9 x10 x11 x12 x13 x14 x15 x16 x17 x18) fun(r0,l3,r1,l4) =>
gd (lim (l2++([(r0,l3,r1,l4)]:PM (Bool×PM Nat×Bool×PM Nat))).length) (
some (.inl ((l2++([(r0,l3,r1,l4)]:PM (Bool×PM Nat×Bool×PM Nat))),OT (v0+1)))))) (
some (.inr l2))
def qP(n:Nat)(n2:Nat)(l7:PM (Bool×PM Nat×Bool×PM Nat))(l1:PM (PM (Nat×Nat×Nat×Nat×Nat×Nat×Nat×Nat×Nat×Nat×Nat×Nat×Nat×Nat×Nat×Nat)))(v0:Int):(PM (Bool×PM Nat×Bool×PM Nat)×Int)->PE ((PM (Bool×PM Nat×Bool×PM Nat)×Int) ⊕(PM (Bool×PM Nat×Bool×PM Nat))):=fun(l2,v1) =>
br (decide (v1<(n2:Int))) (
ob (
gd (cP v1 n2) (
ob (l7[v1.toNat]?) fun(x3,l3,x4,l8) =>
gd (cP v1 l1.length) (
ob (l1[v1.toNat]?) fun l4 =>
gd (cP v0 l4.length) (
ob (l4[v0.toNat]?) fun(x5,x6,x7,x8,x9,x10,x11,x12,x13,x14,x15,x16,x17,x18,x19,x20) =>
ob (vT n x5 x6 x7 x8 x9 x10 x11 x12 x13 x14 x15 x16 x17 x18 x19 x20) fun(r0,l5,r1,l9) =>
ob (
ob (yc n r0 l5) fun r3 =>
br (!decide (r3=0)) (
ob (yc n x3 l3) fun r4 =>
some (!decide (r4=0))) (
some false)) fun v2 =>
br (v2) (
gd (cP v0 ((l1.length:Int).toNat)) (
ob (l2[v0.toNat]?) fun(x21,l10,x22,l11) =>
ob (BF n x3 l3 x4 l8 r0 l5 r1 l9) fun(r5,l12,r6,l13) =>
ob (rJ n x21 l10 x22 l11 r5 l12 r6 l13) fun(r7,l14,r8,l15) =>
gd (cP v0 ((l1.length:Int).toNat)) (
some (l2.set v0.toNat (r7,l14,r8,l15))))) (
some l2))))) fun l16 =>
some (.inl (l16,OT (v1+1)))) (
some (.inr l2))
def tB(n:Nat)(l1:PM (PM (Nat×Nat×Nat×Nat×Nat×Nat×Nat×Nat×Nat×Nat×Nat×Nat×Nat×Nat×Nat×Nat)))(n2:Nat)(l3:PM (Bool×PM Nat×Bool×PM Nat)):(PM (Bool×PM Nat×Bool×PM Nat)×Int)->PE ((PM (Bool×PM Nat×Bool×PM Nat)×Int) ⊕(PM (Bool×PM Nat×Bool×PM Nat))):=fun(l2,v0) =>
br (decide (v0<(l1.length:Int))) (
ob (rY n 0) fun(r0,l4,r1,l5) =>
gd (cP v0 ((l1.length:Int).toNat)) (
ob (l2[v0.toNat]?) fun(x3,l8,x4,l9) =>
ob (
cT (qP n n2 l3 l1 v0) n ((l2.set v0.toNat (r0,l4,r1,l5)),0)) fun l7 =>
some (.inl (l7,OT (v0+1))))) (
some (.inr l2))
def tF(n:Nat)(x3:Int)(l1:PM (PM (Nat×Nat×Nat×Nat×Nat×Nat×Nat×Nat×Nat×Nat×Nat×Nat×Nat×Nat×Nat×Nat))):(Nat×PM (Bool×PM Nat×Bool×PM Nat)×Int)->PE ((Nat×PM (Bool×PM Nat×Bool×PM Nat)×Int) ⊕(Nat×PM (Bool×PM Nat×Bool×PM Nat))):=fun(n2,l2,v0) =>
br (decide (v0<x3)) (
gd (decide (0<=(l1.length:Int))) (gd (lim ((l1.length:Int).toNat)) (
ob (
cT (tB n l1 n2 l2) n ((List.replicate (l1.length:Int).toNat ((false,[],false,[]):Bool×PM Nat×Bool×PM Nat)),0)) fun l3 =>
some (.inl ((l1.length:Int).toNat,l3,OT (v0+1)))))) (
some (.inr (n2,l2)))
def Gt(n:Nat)(l2:PM (PM (Nat×Nat×Nat×Nat×Nat×Nat×Nat×Nat×Nat×Nat×Nat×Nat×Nat×Nat×Nat×Nat)))(l1:PM (Nat×Nat×Nat×Nat×Nat×Nat×Nat×Nat×Nat×Nat×Nat×Nat×Nat×Nat×Nat×Nat))(x3:Int):PE (PM (Nat×Nat×Nat×Nat×Nat×Nat×Nat×Nat×Nat×Nat×Nat×Nat×Nat×Nat×Nat×Nat)×Int) :=
ob (H3 n l2) fun r0 =>
br (!decide (r0=0)) (
some ([],r0)) (
ob (
ob (α:=Int) (
ob (α:=(Int)⊕PN) (
cT (yb n l1) n 0) fun r1=>match r1 with
| .inl v0 =>
some v0
| .inr _ =>
some (-1)) fun v1 =>
some (decide (0<=v1))) fun v2 =>
br (v2) (
some ([],20)) (
ob (
br (!decide ((l1.length:Int)=(l2.length:Int))) (
some true) (
ob (wJ n l1) fun r3 =>
br (!r3) (
some true) (
br (decide (x3<0)) (
some true) (
some (decide (30<x3)))))) fun v3 =>
br (v3) (
some ([],2)) (
ob (
cT (sQ n l1) n (([]:PM (Bool×PM Nat×Bool×PM Nat)),0)) fun l3 =>
ob (
cT (tF n x3 l2) n (l3.length,l3,0)) fun(n2,l4) =>
ob (ES n l4) fun(l5,r4) =>
some (l5,r4))))
def wa(n:Nat)(l1:PM (Nat×Nat×Nat×Nat×Nat×Nat×Nat×Nat×Nat×Nat×Nat×Nat×Nat×Nat×Nat×Nat))(l5:PM (Nat×Nat×Nat×Nat×Nat×Nat×Nat×Nat×Nat×Nat×Nat×Nat×Nat×Nat×Nat×Nat)):Int->PE (Int⊕PN⊕PN):=fun v11 =>
br (decide (v11<(l1.length:Int))) (
gd (cP v11 l1.length) (
ob (l1[v11.toNat]?) fun(x59,x60,x61,x62,x63,x64,x65,x66,x67,x68,x69,x70,x71,x72,x73,x74) =>
gd (cP v11 l5.length) (
ob (l5[v11.toNat]?) fun(x79,x80,x81,x82,x83,x84,x85,x86,x87,x88,x89,x90,x91,x92,x93,x94) =>
br (!(decide (x59=x79)&&decide (x60=x80)&&decide (x61=x81)&&decide (x62=x82)&&decide (x63=x83)&&decide (x64=x84)&&decide (x65=x85)&&decide (x66=x86)&&decide (x67=x87)&&decide (x68=x88)&&decide (x69=x89)&&decide (x70=x90)&&decide (x71=x91)&&decide (x72=x92)&&decide (x73=x93)&&decide (x74=x94))) (
some (.inr (.inl ()))) (
some (.inl (OT (v11+1))))))) (
some (.inr (.inr ())))
def Ju(n:Nat)(l1:PM (Nat×Nat×Nat×Nat×Nat×Nat×Nat×Nat×Nat×Nat×Nat×Nat×Nat×Nat×Nat×Nat))(l5:PM (Nat×Nat×Nat×Nat×Nat×Nat×Nat×Nat×Nat×Nat×Nat×Nat×Nat×Nat×Nat×Nat)):PE Bool :=
br (!decide ((l1.length:Int)=(l5.length:Int))) (
some false) (
ob (α:=(PN)⊕PN) (
cT (wa n l1 l5) n 0) fun r98=>match r98 with
| .inl _ =>
some false
| .inr _ =>
some true)
def GX(n:Nat)(x1:Nat)(x2:Nat)(x3:Nat)(x4:Nat)(x5:Nat)(x6:Nat)(x7:Nat)(x8:Nat)(x9:Nat)(x10:Nat)(x11:Nat)(x12:Nat)(x13:Nat)(x14:Nat)(x15:Nat)(x16:Nat):PE Bool :=
ob (vn n x1 x2 x3 x4 x5 x6 x7 x8 x9 x10 x11 x12 x13 x14 x15 x16) fun r19 =>
some (decide (r19=0))
def ra(n:Nat)(l1:PM (Nat×Nat×Nat×Nat×Nat×Nat×Nat×Nat×Nat×Nat×Nat×Nat×Nat×Nat×Nat×Nat)):Int->PE (Int⊕PN⊕PN):=fun v0 =>
br (decide (v0<(l1.length:Int))) (
gd (cP v0 l1.length) (
ob (l1[v0.toNat]?) fun(x3,x4,x5,x6,x7,x8,x9,x10,x11,x12,x13,x14,x15,x16,x17,x18) =>
ob (GX n x3 x4 x5 x6 x7 x8 x9 x10 x11 x12 x13 x14 x15 x16 x17 x18) fun r0 =>
br (!r0) (
some (.inr (.inl ()))) (
some (.inl (OT (v0+1)))))) (
some (.inr (.inr ())))
def xy(n:Nat)(l1:PM (Nat×Nat×Nat×Nat×Nat×Nat×Nat×Nat×Nat×Nat×Nat×Nat×Nat×Nat×Nat×Nat)):PE Bool :=
ob (
ob (α:=(PN)⊕PN) (
cT (ra n l1) n 0) fun r0=>match r0 with
| .inl _ =>
some false
| .inr _ =>
some true) fun v0 =>
some v0
def tD(n:Nat)(l1:PM (Nat×Nat×Nat×Nat×Nat×Nat×Nat×Nat×Nat×Nat×Nat×Nat×Nat×Nat×Nat×Nat)):(Bool×PM (Nat)×Bool×PM (Nat)×Int)->PE ((Bool×PM (Nat)×Bool×PM (Nat)×Int) ⊕(Bool×PM (Nat)×Bool×PM (Nat))):=fun(v1,l2,v2,l3,v0) =>
br (decide (v0<(l1.length:Int))) (
gd (cP v0 l1.length) (
ob (l1[v0.toNat]?) fun(x3,x4,x5,x6,x7,x8,x9,x10,x11,x12,x13,x14,x15,x16,x17,x18) =>
ob (vT n x3 x4 x5 x6 x7 x8 x9 x10 x11 x12 x13 x14 x15 x16 x17 x18) fun(r0,l4,r1,l5) =>
ob (rJ n v1 l2 v2 l3 r0 l4 r1 l5) fun(r3,l7,r4,l8) =>
some (.inl (r3,l7,r4,l8,OT (v0+1))))) (
some (.inr (v1,l2,v2,l3)))
def K1(n:Nat)(l1:PM (Nat×Nat×Nat×Nat×Nat×Nat×Nat×Nat×Nat×Nat×Nat×Nat×Nat×Nat×Nat×Nat)):PE (Nat×Nat×Nat×Nat×Nat×Nat×Nat×Nat×Nat×Nat×Nat×Nat×Nat×Nat×Nat×Nat×Int) :=
br (decide (400<(l1.length:Int))) (
some (0,0,0,0,0,0,0,0,0,0,0,0,0,0,0,0,3)) (
ob (xy n l1) fun r0 =>
br (!r0) (
some (0,0,0,0,0,0,0,0,0,0,0,0,0,0,0,0,20)) (
ob (rY n 0) fun(r1,l2,r3,l3) =>
ob (
cT (tD n l1) n (r1,l2,r3,l3,0)) fun(v0,l4,v1,l5) =>
ob (wg n v0 l4 v1 l5) fun(r4,r5,r6,r7,r8,r9,r10,r11,r12,r13,r14,r15,r16,r17,r18,r19,r20) =>
some (r4,r5,r6,r7,r8,r9,r10,r11,r12,r13,r14,r15,r16,r17,r18,r19,r20)))
def BC(n:Nat)(x1:Bool)(l2:PM (Nat))(x6:Bool)(l7:PM (Nat))(x11:Int):PE (Nat×Nat×Nat×Nat×Nat×Nat×Nat×Nat×Nat×Nat×Nat×Nat×Nat×Nat×Nat×Nat×Int) :=
br (!decide (x11=0)) (
some (0,0,0,0,0,0,0,0,0,0,0,0,0,0,0,0,x11)) (
ob (wg n x1 l2 x6 l7) fun(r16,r17,r18,r19,r20,r21,r22,r23,r24,r25,r26,r27,r28,r29,r30,r31,r32) =>
some (r16,r17,r18,r19,r20,r21,r22,r23,r24,r25,r26,r27,r28,r29,r30,r31,r32))
def J3(n:Nat)(x1:Nat)(x2:Nat)(x3:Nat)(x4:Nat)(x5:Nat)(x6:Nat)(x7:Nat)(x8:Nat)(x9:Nat)(x10:Nat)(x11:Nat)(x12:Nat)(x13:Nat)(x14:Nat)(x15:Nat)(x16:Nat)(x17:Nat)(x18:Nat)(x19:Nat)(x20:Nat)(x21:Nat)(x22:Nat)(x23:Nat)(x24:Nat)(x25:Nat)(x26:Nat)(x27:Nat)(x28:Nat)(x29:Nat)(x30:Nat)(x31:Nat)(x32:Nat):PE (Nat×Nat×Nat×Nat×Nat×Nat×Nat×Nat×Nat×Nat×Nat×Nat×Nat×Nat×Nat×Nat×Int) :=
ob (α:=Bool×PM (Nat)×Bool×PM (Nat)×Int) (
ob (xy n ([(x1,x2,x3,x4,x5,x6,x7,x8,x9,x10,x11,x12,x13,x14,x15,x16),(x17,x18,x19,x20,x21,x22,x23,x24,x25,x26,x27,x28,x29,x30,x31,x32)])) fun r0 =>
br (!r0) (
some (false,([]:PM (Nat)),false,([]:PM (Nat)),20)) (
ob (vT n x1 x2 x3 x4 x5 x6 x7 x8 x9 x10 x11 x12 x13 x14 x15 x16) fun(r1,l1,r3,l2) =>
ob (vT n x17 x18 x19 x20 x21 x22 x23 x24 x25 x26 x27 x28 x29 x30 x31 x32) fun(r4,l3,r5,l4) =>
ob (BF n r1 l1 r3 l2 r4 l3 r5 l4) fun(r6,l5,r7,l7) =>
some (r6,l5,r7,l7,0))) fun(v0,l8,v1,l9,v2) =>
ob (BC n v0 l8 v1 l9 v2) fun(r8,r9,r10,r11,r12,r13,r14,r15,r16,r17,r18,r19,r20,r21,r22,r23,r24) =>
some (r8,r9,r10,r11,r12,r13,r14,r15,r16,r17,r18,r19,r20,r21,r22,r23,r24)
def JY(n:Nat)(x1:Nat)(x2:Nat)(x3:Nat)(x4:Nat)(x5:Nat)(x6:Nat)(x7:Nat)(x8:Nat)(x9:Nat)(x10:Nat)(x11:Nat)(x12:Nat)(x13:Nat)(x14:Nat)(x15:Nat)(x16:Nat)(x17:Nat)(x18:Nat)(x19:Nat)(x20:Nat)(x21:Nat)(x22:Nat)(x23:Nat)(x24:Nat)(x25:Nat)(x26:Nat)(x27:Nat)(x28:Nat)(x29:Nat)(x30:Nat)(x31:Nat)(x32:Nat):PE (Nat×Nat×Nat×Nat×Nat×Nat×Nat×Nat×Nat×Nat×Nat×Nat×Nat×Nat×Nat×Nat×Int) :=
ob (α:=Bool×PM (Nat)×Bool×PM (Nat)×Int) (
ob (xy n ([(x1,x2,x3,x4,x5,x6,x7,x8,x9,x10,x11,x12,x13,x14,x15,x16),(x17,x18,x19,x20,x21,x22,x23,x24,x25,x26,x27,x28,x29,x30,x31,x32)])) fun r0 =>
br (!r0) (
some (false,([]:PM (Nat)),false,([]:PM (Nat)),20)) (
ob (vT n x1 x2 x3 x4 x5 x6 x7 x8 x9 x10 x11 x12 x13 x14 x15 x16) fun(r1,l1,r3,l2) =>
ob (vT n x17 x18 x19 x20 x21 x22 x23 x24 x25 x26 x27 x28 x29 x30 x31 x32) fun(r4,l3,r5,l4) =>
ob (rJ n r1 l1 r3 l2 r4 l3 r5 l4) fun(r6,l5,r7,l7) =>
some (r6,l5,r7,l7,0))) fun(v0,l8,v1,l9,v2) =>
ob (BC n v0 l8 v1 l9 v2) fun(r8,r9,r10,r11,r12,r13,r14,r15,r16,r17,r18,r19,r20,r21,r22,r23,r24) =>
some (r8,r9,r10,r11,r12,r13,r14,r15,r16,r17,r18,r19,r20,r21,r22,r23,r24)
def sq(n:Nat)(l2:PM (PM (Nat×Nat×Nat×Nat×Nat×Nat×Nat×Nat×Nat×Nat×Nat×Nat×Nat×Nat×Nat×Nat))):(PM (Nat×Nat×Nat×Nat×Nat×Nat×Nat×Nat×Nat×Nat×Nat×Nat×Nat×Nat×Nat×Nat)×Int)->PE ((PM (Nat×Nat×Nat×Nat×Nat×Nat×Nat×Nat×Nat×Nat×Nat×Nat×Nat×Nat×Nat×Nat)×Int) ⊕(PM (Nat×Nat×Nat×Nat×Nat×Nat×Nat×Nat×Nat×Nat×Nat×Nat×Nat×Nat×Nat×Nat))):=fun(l1,v0) =>
br (decide (v0<((l2.length:Int).toNat:Int))) (
ob (FP n 0 1) fun(r0,r1,r3,r4,r5,r6,r7,r8,r9,r10,r11,r12,r13,r14,r15,r16) =>
gd (cP v0 ((l2.length:Int).toNat)) (
ob (l1[v0.toNat]?) fun(x3,x4,x5,x6,x7,x8,x9,x10,x11,x12,x13,x14,x15,x16,x17,x18) =>
some (.inl ((l1.set v0.toNat (r0,r1,r3,r4,r5,r6,r7,r8,r9,r10,r11,r12,r13,r14,r15,r16)),OT (v0+1))))) (
some (.inr l1))
def sI(n:Nat)(l2:PM (Nat×Nat×Nat×Nat×Nat×Nat×Nat×Nat×Nat×Nat×Nat×Nat×Nat×Nat×Nat×Nat)):(PM (Nat×Nat×Nat×Nat×Nat×Nat×Nat×Nat×Nat×Nat×Nat×Nat×Nat×Nat×Nat×Nat)×Int)->PE ((PM (Nat×Nat×Nat×Nat×Nat×Nat×Nat×Nat×Nat×Nat×Nat×Nat×Nat×Nat×Nat×Nat)×Int) ⊕(PM (Nat×Nat×Nat×Nat×Nat×Nat×Nat×Nat×Nat×Nat×Nat×Nat×Nat×Nat×Nat×Nat))):=fun(l1,v0) =>
br (decide (v0<(l2.length:Int))) (
ob (FP n 0 1) fun(r0,r1,r3,r4,r5,r6,r7,r8,r9,r10,r11,r12,r13,r14,r15,r16) =>
gd (cP v0 l2.length) (
ob (l1[v0.toNat]?) fun(x3,x4,x5,x6,x7,x8,x9,x10,x11,x12,x13,x14,x15,x16,x17,x18) =>
some (.inl ((l1.set v0.toNat (r0,r1,r3,r4,r5,r6,r7,r8,r9,r10,r11,r12,r13,r14,r15,r16)),OT (v0+1))))) (
some (.inr l1))
def sy(n:Nat)(l1:PM (Nat×Nat×Nat×Nat×Nat×Nat×Nat×Nat×Nat×Nat×Nat×Nat×Nat×Nat×Nat×Nat))(v1:Int)(l3:PM (Nat×Nat×Nat×Nat×Nat×Nat×Nat×Nat×Nat×Nat×Nat×Nat×Nat×Nat×Nat×Nat))(l4:PM (Nat×Nat×Nat×Nat×Nat×Nat×Nat×Nat×Nat×Nat×Nat×Nat×Nat×Nat×Nat×Nat)):(PM (Nat×Nat×Nat×Nat×Nat×Nat×Nat×Nat×Nat×Nat×Nat×Nat×Nat×Nat×Nat×Nat)×Int)->PE ((PM (Nat×Nat×Nat×Nat×Nat×Nat×Nat×Nat×Nat×Nat×Nat×Nat×Nat×Nat×Nat×Nat)×Int) ⊕(PN ⊕(PM (Nat×Nat×Nat×Nat×Nat×Nat×Nat×Nat×Nat×Nat×Nat×Nat×Nat×Nat×Nat×Nat)))):=fun(l2,v0) =>
br (decide (v0<(l1.length:Int))) (
gd (cP v1 l3.length) (
ob (l3[v1.toNat]?) fun(x3,x4,x5,x6,x7,x8,x9,x10,x11,x12,x13,x14,x15,x16,x17,x18) =>
gd (cP v0 l4.length) (
ob (l4[v0.toNat]?) fun(x19,x20,x21,x22,x23,x24,x25,x26,x27,x28,x29,x30,x31,x32,x33,x34) =>
ob (J3 n x3 x4 x5 x6 x7 x8 x9 x10 x11 x12 x13 x14 x15 x16 x17 x18 x19 x20 x21 x22 x23 x24 x25 x26 x27 x28 x29 x30 x31 x32 x33 x34) fun(r0,r1,r3,r4,r5,r6,r7,r8,r9,r10,r11,r12,r13,r14,r15,r16,r17) =>
gd (cP v0 l1.length) (
ob (l2[v0.toNat]?) fun(x35,x36,x37,x38,x39,x40,x41,x42,x43,x44,x45,x46,x47,x48,x49,x50) =>
ob (JY n x35 x36 x37 x38 x39 x40 x41 x42 x43 x44 x45 x46 x47 x48 x49 x50 r0 r1 r3 r4 r5 r6 r7 r8 r9 r10 r11 r12 r13 r14 r15 r16) fun(r18,r19,r20,r21,r22,r23,r24,r25,r26,r27,r28,r29,r30,r31,r32,r33,r34) =>
ob (
br (!decide (r17=0)) (
some true) (
some (!decide (r34=0)))) fun v2 =>
br (v2) (
some (.inr (.inl ()))) (
gd (cP v0 l1.length) (
some (.inl ((l2.set v0.toNat (r18,r19,r20,r21,r22,r23,r24,r25,r26,r27,r28,r29,r30,r31,r32,r33)),OT (v0+1))))))))) (
some (.inr (.inr l2)))
def sN(n:Nat)(l2:PM (PM (Nat×Nat×Nat×Nat×Nat×Nat×Nat×Nat×Nat×Nat×Nat×Nat×Nat×Nat×Nat×Nat)))(x3:Nat)(l7:PM (Nat×Nat×Nat×Nat×Nat×Nat×Nat×Nat×Nat×Nat×Nat×Nat×Nat×Nat×Nat×Nat)):(PM (Nat×Nat×Nat×Nat×Nat×Nat×Nat×Nat×Nat×Nat×Nat×Nat×Nat×Nat×Nat×Nat)×Nat×Int)->PE ((PM (Nat×Nat×Nat×Nat×Nat×Nat×Nat×Nat×Nat×Nat×Nat×Nat×Nat×Nat×Nat×Nat)×Nat×Int) ⊕(PN ⊕(PM (Nat×Nat×Nat×Nat×Nat×Nat×Nat×Nat×Nat×Nat×Nat×Nat×Nat×Nat×Nat×Nat)×Nat))):=fun(l1,n2,v0) =>
br (decide (v0<(l2.length:Int))) (
ob (Lr n l1) fun l3 =>
ob (
cT (sI n l3) n (l3,0)) fun l4 =>
ob (FP n 1 1) fun(r0,r1,r3,r4,r5,r6,r7,r8,r9,r10,r11,r12,r13,r14,r15,r16) =>
gd (cP v0 l3.length) (
ob (l4[v0.toNat]?) fun(x4,x5,x6,x7,x8,x9,x10,x11,x12,x13,x14,x15,x16,x17,x18,x19) =>
ob (Gt n l2 (l4.set v0.toNat (r0,r1,r3,r4,r5,r6,r7,r8,r9,r10,r11,r12,r13,r14,r15,r16)) (OT ((x3%4:Nat):Int))) fun(l5,r17) =>
ob (
br (!decide (r17=0)) (
some true) (
some (!decide ((l5.length:Int)=(l2.length:Int))))) fun v1 =>
br (v1) (
some (.inr (.inl ()))) (
ob (α:=(PN) ⊕(PM (Nat×Nat×Nat×Nat×Nat×Nat×Nat×Nat×Nat×Nat×Nat×Nat×Nat×Nat×Nat×Nat))) (
cT (sy n l1 v0 l7 l5) n (l1,0)) fun r18=>match r18 with
| .inl _ =>
some (.inr (.inl ()))
| .inr l8 =>
some (.inl (l8,l1.length,OT (v0+1)))))) (
some (.inr (.inr (l1,n2))))
def Lz(n:Nat)(x1:Nat)(l5:PM (Nat))(x3:Nat)(x4:Nat):PE Bool :=
ob (LP n) fun r0 =>
br (!r0) (
some false) (
ob (K3 n x1 l5) fun l1 =>
gd (cP (OT ((l1.length:Int)-1)) l1.length) (
ob (l1[(OT ((l1.length:Int)-1)).toNat]?) fun l2 =>
ob (Gt n l1 l2 (OT ((x3%4:Nat):Int))) fun(l3,r1) =>
br (!decide (r1=0)) (
some false) (
ob (Gt n l1 l3 (OT ((x4%4:Nat):Int))) fun(l7,r3) =>
ob (some (OT ((OT ((x3%4:Nat):Int))+(OT ((x4%4:Nat):Int))))) fun y2 =>
ob (Gt n l1 l2 y2) fun(l4,r4) =>
ob (K1 n l4) fun(r5,r6,r7,r8,r9,r10,r11,r12,r13,r14,r15,r16,r17,r18,r19,r20,r21) =>
ob (
br (!decide (r3=0)) (
some true) (
br (!decide (r4=0)) (
some true) (
br (!decide (r21=0)) (
some true) (
ob (Ju n l7 l4) fun r22 =>
br (!r22) (
some true) (
ob (FP n 1 1) fun(r23,r24,r25,r26,r27,r28,r29,r30,r31,r32,r33,r34,r35,r36,r37,r38) =>
some (!(decide (r5=r23)&&decide (r6=r24)&&decide (r7=r25)&&decide (r8=r26)&&decide (r9=r27)&&decide (r10=r28)&&decide (r11=r29)&&decide (r12=r30)&&decide (r13=r31)&&decide (r14=r32)&&decide (r15=r33)&&decide (r16=r34)&&decide (r17=r35)&&decide (r18=r36)&&decide (r19=r37)&&decide (r20=r38)))))))) fun v0 =>
br (v0) (
some false) (
gd (decide (0<=(l1.length:Int))) (gd (lim ((l1.length:Int).toNat)) (
ob (
cT (sq n l1) n ((List.replicate (l1.length:Int).toNat ((0,0,0,0,0,0,0,0,0,0,0,0,0,0,0,0):Nat×Nat×Nat×Nat×Nat×Nat×Nat×Nat×Nat×Nat×Nat×Nat×Nat×Nat×Nat×Nat)),0)) fun l8 =>
ob (α:=(PN) ⊕(PM (Nat×Nat×Nat×Nat×Nat×Nat×Nat×Nat×Nat×Nat×Nat×Nat×Nat×Nat×Nat×Nat)×Nat)) (
cT (sN n l1 x3 l2) n (l8,(l1.length:Int).toNat,0)) fun r39=>match r39 with
| .inl _ =>
some false
| .inr (l9,n2) =>
ob (Ju n l9 l3) fun r40 =>
some r40))))))
end Go.Proofs.YtpkadoocdgdcfaaGreatDoor
namespace Go.Ab.W
open Go Go.Ab
section
variable{P:OQ}{ty:OO}
end
section
variable{E:Env}{m0:PJ}{fs:Fs}{ps:PM Pc}{x:OP}{ty:OO}
def Kr{elem:OO}{w:Nat}{i:Int}{z:ON}{es:OK}(ht:SlT E.P ty elem w)(hx:ev E fs x=some (.int .i64 i))(hi:decide (0<=i)=true)(hl:lim i.toNat=true)(hz:bU E.P elem=some z)(hp:z.cells.toList.all aM=true)(he:List.replicate i.toNat z.cells.toList=es) :
  Ox E m0 fs ps (.makeSlice ty x x) (fun b=>.slice (some ⟨b,0,none⟩) i.toNat i.toNat) (fun b=>.arr b w i.toNat es .own::ps):=by
 have:=KG (m0:=m0) (ps:=ps) ht hx (Of (of_decide_eq_true hi)).symm hl hz hp;rw[he] at this;exact this
end
set_option maxRecDepth 10000
attribute [local irreducible] Tm.at Trie.set Trie.get PJ.get PJ.set PJ.alloc PJ.ww
section
variable{E:Env}{n:Nat}{m0:PJ}{fs:Fs}{ps:PM Pc}{x y z:OP}{v:ON}{ty ty2:OO}
end
end Go.Ab.W
