/- A part of the proof. -/
import Derived.Test.YtpkadoocdgdcfaaGreatDoorKt3
import Derived.Maps.RangeRun
import Derived.Laws.BytesString
set_option linter.all false
abbrev XN:=Nat×Nat×Nat×Nat×Nat×Nat×Nat×Nat×Nat×Nat×Nat×Nat×Nat×Nat×Nat×Nat
abbrev XO:=Nat×Nat×Nat×Nat×Nat×Nat×Nat×Nat
abbrev XP:=Bool×XB Nat×Bool×XB Nat
namespace Go.Ab.W
open Go Go.Ab
attribute [local irreducible] Tm.at Trie.set Trie.get Xq.get Xq.set Xq.alloc Xq.ww Xq.kill
def P6(m:Xq)(S:WI)(qs:XB Pc):Prop:=(∀p∈qs,p.ok 0 m/\p.bound=true/\(∀b,p.any b->p.ow b)/\∀b,p.ow b->S b)/\qs.Pairwise Pc.apart
def P6.st{m m':Xq}{S:WI}{qs:XB Pc}(h:P6 m S qs)(hn:m.next<=m'.next)(hg:∀b,S b->b<m.next->m'.get b=m.get b):P6 m' S qs :=
 ⟨fun p hp=>⟨Pc.iA (h.1 p hp).1 hn fun b hb hlt=>hg b ((h.1 p hp).2.2.2 b ((h.1 p hp).2.2.1 b hb)) hlt,(h.1 p hp).2⟩,h.2⟩
def Pc.Ra{lo:Nat}{m:Xq}{p:Pc}(h:p.ok 0 m)(hl:∀b,p.ow b->lo<=b):p.ok lo m:=by
 cases p with
 | obj b o=>exact⟨hl b (.inl ⟨rfl,rfl⟩),h.2⟩
 | arr b w n es tg=>exact⟨hl b (.inl ⟨rfl,rfl⟩),h.2⟩
 | sl a w n es =>
  rcases h with h|⟨b,tg,rfl,h⟩
  exact .inl h
  exact .inr ⟨b,tg,rfl,hl b (.inl ⟨rfl,rfl⟩),h.2⟩
 | rd a cap w n es=>exact h
 | ro b o w n es=>exact h
 | gen g=>exact⟨h.1,fun _ b hb=>hl b (.inr hb)⟩
section
variable{m0 m:Xq}{ps qs:XB Pc}
def Hp.perm{ps':XB Pc}(h:Hp m0 m ps)(hp:ps.Perm ps'):Hp m0 m ps' :=
 ⟨h.ext,fun p hm=>h.ok p (hp.mem_iff.2 hm),hp.pairwise h.apart fun h=>Pc.gm h⟩
def Hp.QR{g:GPc}(h:Hp m0 m (.gen g::ps))(hf:g.fr=false)(hB:P6 m g.ow qs):Hp m0 m (qs++ps):=by
 have h0:=h.ok _ (Vg ..);have ha:=Uz.1 h.apart;refine⟨h.ext,fun p hp=>?_,VZ.2 ⟨hB.2,ha.2,fun p hp q hq=>⟨fun b h1 h2=>?_,fun b h1 h2=>?_⟩⟩⟩
 rcases UT.1 hp with hp|hp
 exact Pc.Ra (hB.1 p hp).1 fun b hb=>h0.2 hf b ((hB.1 p hp).2.2.2 b hb)
 exact h.ok p (UM _ hp)
 exact(ha.1 q hq).1 b (.inr ((hB.1 p hp).2.2.2 b h1)) h2
 exact(ha.1 q hq).2 b h1 (.inr (.inl ((hB.1 p hp).2.2.2 b ((hB.1 p hp).2.2.1 b h2))))
def Hp.Nh(h:Hp m0 m (qs++ps))(ho:∀p∈qs,p.bound=true/\∀b,p.any b->p.ow b):P6 m (kM qs) qs :=
 ⟨fun p hp=>⟨Pc.Jm (h.ok p (VD _ hp)) (VF _),(ho p hp).1,(ho p hp).2,fun b hb=>⟨p,hp,hb⟩⟩,(VZ.1 h.apart).1⟩
def Hp.Ts{g:GPc}(h:Hp m0 m (qs++ps))(ho:∀p∈qs,p.bound=true/\∀b,p.any b->p.ow b)(hP:g.P m)(hw:∀b,g.ow b->kM qs b)(hr:∀b,¬g.rd b):Hp m0 m (.gen g::ps):=by
 obtain⟨h1,h2,h3⟩:=VZ.1 h.apart;have hany:∀b,Pc.any (.gen g) b->kM qs b:=fun b hb=>hb.elim (fun h=>by cases h) fun hb=>hb.elim (hw b) fun hb=>Uy hb (hr b)
 refine⟨h.ext,fun p hp=>?_,Uz.2 ⟨fun q hq=>⟨fun b a c=>?_,fun b a c=>?_⟩,h2⟩⟩
 rcases UC.1 hp with rfl|hp
 refine⟨hP,fun _ b hb=>?_⟩;obtain⟨p,hp,hb⟩:=hw b hb;exact Pc.E2 (h.ok p (VD _ hp)) (ho p hp).1 hb
 exact h.ok p (List.mem_append_right _ hp)
 obtain⟨p,hp,hb⟩:=hany b (Pc.iG a);exact(h3 p hp q hq).1 b hb c
 obtain⟨p,hp,hb⟩:=hany b c;exact(h3 p hp q hq).2 b a (Pc.iG hb)
end
structure Orp{α:Type}(r:Rep α) where
 G:Type
 V:α->G->XB WJ
 N:α->G->XB Pc
 len:∀x g,(V x g).length=r.w
 one:∀x g,(V x g).all lD=true
 own:∀x g,∀p∈N x g,p.bound=true/\∀b,p.any b->p.ow b
 RX:∀{m:Xq} {x:α} {g:G} {S:WI},(∀p∈N x g,p.ok 0 m)->(∀p∈N x g,∀b,p.any b->S b)->∃g',V x g=r.V x g'/\r.A m S x g'
section
variable{α β:Type}{r:Rep α}{r2:Rep β}
def iJ(o:Orp r):XB α->WG->XB Pc->Prop
 | [],[],qs=>qs=[]
 | x::L,e::es,qs=>∃g qs',e=o.V x g/\qs=o.N x g++qs'/\iJ o L es qs'
 | _,_,_=>False
def iJ.append{o:Orp r}:∀{L L':XB α} {es es':WG} {qs qs':XB Pc},iJ o L es qs->iJ o L' es' qs'->iJ o (L++L') (es++es') (qs++qs')
 | [],_,[],_,_,_,h,h'=>by cases h; exact h'
 | x::L,L',e::es,es',_,qs',h,h'=>by
  obtain⟨g,q1,h1,rfl,h3⟩:=h;exact⟨g,q1++qs',h1,by rw[Vq],h3.append h'⟩
 | [],_,_::_,_,_,_,h,_=>h.elim
 | _::_,_,[],_,_,_,h,_=>h.elim
def iJ.split{o:Orp r}:∀{L:XB α} {es:WG} {qs:XB Pc} (j:Nat),iJ o L es qs->∃q1 q2,qs=q1++q2/\iJ o (L.take j) (es.take j) q1/\iJ o (L.drop j) (es.drop j) q2
 | [],[],_,j,h=>by cases h; exact⟨[],[],rfl,by simp[iJ],by simp[iJ]⟩
 | x::L,e::es,_,0,h=>⟨[],_,rfl,rfl,h⟩
 | x::L,e::es,_,j+1,h=>by
  obtain⟨g,q1,h1,rfl,h3⟩:=h;obtain⟨p1,p2,rfl,h4,h5⟩:=iJ.split j h3;exact⟨o.N x g++p1,p2,by rw[Vq],⟨g,p1,h1,rfl,h4⟩,h5⟩
 | [],_::_,_,_,h=>h.elim
 | _::_,[],_,_,h=>h.elim
def iJ.own{o:Orp r}:∀{L:XB α} {es:WG} {qs:XB Pc},iJ o L es qs->∀p∈qs,p.bound=true/\∀b,p.any b->p.ow b
 | [],[],_,h=>by cases h; exact fun p hp=>by cases hp
 | x::L,e::es,_,h=>by
  obtain⟨g,q1,h1,rfl,h3⟩:=h;intro p hp;rcases UT.1 hp with hp|hp
  exact o.own x g p hp
  exact h3.own p hp
 | [],_::_,_,h=>h.elim
 | _::_,[],_,h=>h.elim
def iJ.RX{o:Orp r}{m:Xq}{S:WI}:∀{L:XB α} {es:WG} {qs:XB Pc},iJ o L es qs->(∀p∈qs,p.ok 0 m)->(∀p∈qs,∀b,p.any b->S b)->gi r m S L es
 | [],[],_,h,_,_=>.nil
 | x::L,e::es,_,h,h1,h2=>by
  obtain⟨g,q1,rfl,rfl,h5⟩:=h;obtain⟨g',e1,e2⟩:=o.RX (fun p hp=>h1 p (VD _ hp)) fun p hp=>h2 p (VD _ hp);rw[e1];exact .cons e2 (h5.RX (fun p hp=>h1 p (List.mem_append_right _ hp)) fun p hp=>h2 p (List.mem_append_right _ hp))
 | [],_::_,_,h,_,_=>h.elim
 | _::_,[],_,h,_,_=>h.elim
def iJ.len{o:Orp r}:∀{L:XB α} {es:WG} {qs:XB Pc},iJ o L es qs->es.length=L.length
 | [],[],_,_=>rfl
 | _::_,_::_,_,h=>by obtain⟨_,_,_,_,h⟩:=h; simp[h.len]
 | [],_::_,_,h=>h.elim
 | _::_,[],_,h=>h.elim
def iJ.cells{o:Orp r}:∀{L:XB α} {es:WG} {qs:XB Pc},iJ o L es qs->∀e∈es,e.length=r.w/\e.all lD=true
 | [],[],_,_=>fun e he=>by cases he
 | x::L,e::es,_,h=>by
  obtain⟨g,_,rfl,_,h⟩:=h;intro e' he;rcases UC.1 he with rfl|he
  exact⟨o.len x g,o.one x g⟩
  exact h.cells e' he
 | [],_::_,_,h=>h.elim
 | _::_,[],_,h=>h.elim
def iz(o:Orp r)(S:WI)(L:XB α)(es:WG):GPc where
 ow b:=S b
 rd _:=False
 P m:=(∃qs,iJ o L es qs/\P6 m S qs)/\∀b,S b->b<m.next
 st _ _ h hn hg:=by
  obtain⟨⟨qs,h1,h2⟩,h3⟩:=h;exact⟨⟨qs,h1,h2.st hn fun b hb hlt=>hg b (.inl hb) hlt⟩,fun b hb=>Uc (h3 b hb) hn⟩
 lt _ b h hb:=hb.elim (h.2 b) fun h=>h.elim
def Pn{a:WH}{w n:Nat}{es:WG}{b:Nat}(h:Pc.any (.sl a w n es) b):Pc.ow (.sl a w n es) b:=h.elim (fun h=>.inl ⟨rfl,h⟩) fun h=>h.elim
def oS(f:α->XB WJ)(w:Nat):Orp (rS f w) where
 G:=WH
 V l a:=[.slice a l.length l.length]
 N l a:=[.sl a w l.length (l.map f)]
 len _ _:=rfl
 one _ _:=rfl
 own _ _ p hp:=by rw[UI.1 hp]; exact⟨rfl,fun b hb=>Pn hb⟩
 RX {m x g S} h h':=by
  have h1:=h _ (UI.2 rfl);exact⟨(g,x.length),rfl,Pc.PG (p:=.sl g w x.length (x.map f)) h1 (.sl ..),fun b hb=>h' _ (UI.2 rfl) b (.inl hb)⟩
end
section
variable{α:Type}{r:Rep α}{o:Orp r}{E:Env}{n:Nat}{m0 m:Xq}{fs:Fs}{ps:XB Pc}
def Hp.PD{x:α}{g:o.G}(h:Hp m0 m (o.N x g++ps)):Hp m0 m (.gen (iz o (kM (o.N x g)) [x] [o.V x g])::ps) :=
 h.Ts (o.own x g) ⟨⟨_,⟨g,[],rfl,(Vc _).symm,rfl⟩,h.Nh (o.own x g)⟩,fun b ⟨p,hp,hb⟩=>Pc.gv (h.ok p (VD _ hp)) (Pc.iG hb)⟩ (fun _ h=>h) fun _ h=>h
def Hp.I7(h:Hp m0 m ps):Hp m0 m (.gen (iz o (fun _=>False) [] [])::ps) :=
 h.MZ (Ua _) h.ext (fun _ _=>rfl) ⟨⟨⟨[],rfl,fun p hp=>(by cases hp),.nil⟩,fun _ h=>h.elim⟩,fun _ _ h=>h.elim⟩ fun b hb=>hb.elim (fun h=>by cases h) fun h=>h.elim (fun h=>h.elim) fun h=>h.elim
def Hp.Dk{S:WI}{L:XB α}{es:WG}(h:Hp m0 m (.gen (iz o S L es)::ps)):∃qs,iJ o L es qs/\Hp m0 m (qs++ps):=by
 obtain⟨⟨qs,h1,h2⟩,_⟩:=(h.ok _ (Vg ..)).1;exact⟨qs,h1,h.QR rfl h2⟩
def Hp.yz{L:XB α}{es:WG}{qs:XB Pc}(h:Hp m0 m (qs++ps))(ho:iJ o L es qs):Hp m0 m (.gen (iz o (kM qs) L es)::ps) :=
 h.Ts ho.own ⟨⟨qs,ho,h.Nh ho.own⟩,fun b ⟨p,hp,hb⟩=>Pc.gv (h.ok p (VD _ hp)) (Pc.iG hb)⟩ (fun _ h=>h) fun _ h=>h
def Hp.Rf{S S':WI}{L L':XB α}{es es':WG}(h:Hp m0 m (.gen (iz o S L es)::.gen (iz o S' L' es')::ps)):∃S'',Hp m0 m (.gen (iz o S'' (L++L') (es++es'))::ps):=by
 obtain⟨q1,h1,h2⟩:=h.Dk;obtain⟨q2,h3,h4⟩:=(h2.perm (ps':=.gen (iz o S' L' es')::(q1++ps)) List.perm_middle).Dk;have h5:Hp m0 m ((q1++q2)++ps):=h4.perm (by rw[<-Vq]; exact List.Perm.append_right _ List.perm_append_comm)
 exact⟨_,h5.yz (h1.append h3)⟩
def Hp.Mc{S:WI}{L:XB α}{es:WG}{j:Nat}{x:α}(h:Hp m0 m (.gen (iz o S L es)::ps))(hl:L[j]? = some x):∃g S1 S2,es[j]? = some (o.V x g)/\Hp m0 m (o.N x g++(.gen (iz o S1 (L.take j) (es.take j))::.gen (iz o S2 (L.drop (j+1)) (es.drop (j+1)))::ps)):=by
 obtain⟨qs,h1,h2⟩:=h.Dk;obtain⟨q1,q2,rfl,h3,h4⟩:=h1.split j;have hj:j<L.length:=(Uq.1 hl).1;have hje:j<es.length:=by rw[h1.len]; exact hj
 have hd:L.drop j=x::L.drop (j+1):=by
  rw[VJ hj];rw[T6 hj] at hl;rw[Ug hl]
 rw[hd,VJ hje] at h4;obtain⟨g,q3,e1,rfl,h5⟩:=h4;have p1:Hp m0 m (q1++(q3++(o.N x g++ps))):=h2.perm (by
  rw[Vq,Vq];refine List.Perm.append_left _ ?_;rw[<-Vq,<-Vq];exact List.Perm.append_right _ List.perm_append_comm)
 have p2:=p1.yz h3;have p3:Hp m0 m (q3++(.gen (iz o (kM q1) (L.take j) (es.take j))::(o.N x g++ps))):=p2.perm List.perm_middle.symm;have p4:=p3.yz h5;refine⟨g,_,_,by rw[T6 hje,e1],p4.perm (ps':=o.N x g++(.gen (iz o (kM q1) (L.take j) (es.take j))::.gen (iz o (kM q3) (L.drop (j+1)) (es.drop (j+1)))::ps)) ?_⟩
 exact(List.Perm.swap _ _ _).trans ((List.Perm.cons _ List.perm_middle.symm).trans List.perm_middle.symm)
def nu{γ:Type}{l:XB γ}{j:Nat}(y:γ)(h:j<l.length):l.set j y=l.take j++y::l.drop (j+1):=by
 rw[List.set_eq_take_append_cons_drop,Ui h]
def Hp.tQ{S:WI}{L:XB α}{es:WG}(h:Hp m0 m (.gen (iz o S L es)::ps)):Hp m0 m (.gen (eh r S L es)::ps):=by
 have h0:=h.ok _ (Vg ..);have ha:=Uz.1 h.apart;obtain⟨⟨qs,h1,h2⟩,h3⟩:=h0.1;refine⟨h.ext,fun p hp=>?_,Uz.2 ⟨fun q hq=>⟨fun b a _=>(fI a).elim,fun b a c=>(ha.1 q hq).2 b a (.inr (.inl (sA c)))⟩,ha.2⟩⟩;rcases UC.1 hp with rfl|hp
 exact⟨⟨h1.RX (fun p hp=>(h2.1 p hp).1) fun p hp b hb=>(h2.1 p hp).2.2.2 b ((h2.1 p hp).2.2.1 b hb),h3⟩,fun _ b hb=>hb.elim⟩
 exact h.ok p (UM _ hp)
def JC{S:WI}{L:XB α}{es:WG}{q:Nat}(h:Hp m0 m ps)(hq:pk ps q=some (.gen (iz o S L es))):es.length=L.length:=by
 obtain⟨⟨qs,h1,_⟩,_⟩:=(h.get hq).1;exact h1.len
end
section
variable{α:Type}{E:Env}{n:Nat}{m0 m:Xq}{fs:Fs}{ps:XB Pc}{r:Rep α}{x:WM}{ty elem:WK}
def lg.rep{z:α}{g:r.G}{S:WI}(h:Lf m0 ps r z g S)(k:Nat):lg m0 ps r (List.replicate k z) ((List.replicate k (r.V z g)).map fun e=>e) S:=fun m hm=>by
 refine⟨?_,(h m hm).2⟩;rw[List.map_id'];refine⟨by simp,fun i y hi=>?_⟩
 obtain⟨hi1,hi2⟩:=Uq.1 hi;rw[List.length_replicate] at hi1;rw[List.getElem_replicate] at hi2;subst hi2;exact⟨g,by rw[Vu,Ui hi1],(h m hm).1⟩
end
end Go.Ab.W
namespace Go.Ab
open Go
open Go.ChangeMaps (setBlock)
section
variable{E:Env}{n:Nat}{fn:XI}{ro:XA Nat}
def db(E:Env)(n:Nat)(fn:XI)(ro:XA Nat)(c:Code)(Q:Xr->Tm->Xq->Prop)(t:Tm)(m:Xq):Prop :=
 ∀(j:aL) (w:WO) (a:Act) (F:Fence) (N:Nat),MR E j m w->TR n j t a.tmps->kl j ro F->Marks N w a.defers->N<=w.heap.size ->
  c.wpIn F 0 E.P (fun e' a' w'=>∃e t' m',Q e t' m'/\k8 E j m w N n e t' m' e' a' w') a w
variable{Q Q':Xr->Tm->Xq->Prop}{t:Tm}{m:Xq}{c x y:Code}
def db.of(hE:EnvOk E)(h:bD E n fn ro c Q t m):db E n fn ro c Q t m:=fun j w a F N hm ht hro hd hN=>by
 obtain⟨e,t',m',⟨k,hk⟩,q⟩:=h;obtain⟨e0,t0,m0,hr,H⟩:=km hE k _ _ hk;cases hr;exact wpIn_mono (H j w a F N hm ht hro hd hN) fun e' a' w' hq=>⟨e,t',m',q,hq⟩
def db.mono(h:db E n fn ro c Q t m)(hq:∀e t m,Q e t m->Q' e t m):db E n fn ro c Q' t m:=fun j w a F N hm ht hro hd hN =>
 wpIn_mono (h j w a F N hm ht hro hd hN) fun e' a' w' ⟨e,t',m',q,hc⟩=>⟨e,t',m',hq _ _ _ q,hc⟩
def db.Gx(h:db E n fn ro x (mg (db E n fn ro y Q) Q) t m):db E n fn ro (.seq x y) Q t m:=fun j w a F N hm ht hro hd hN=>by
 refine wpIn_seq (wpIn_mono (h j w a F N hm ht hro hd hN) ?_);rintro e' a' w' ⟨e,t',m',q,hc⟩;obtain⟨rfl,j',s,ht',hd'⟩:=hc;cases e with
 | normal=>exact wpIn_mono (q j' w' a' F N s.mr ht' (hro.mono s.le) hd' (Ub hN s.size)) fun _ _ _ ⟨e2,t2,m2,q2,c2⟩=>⟨e2,t2,m2,q2,c2.from hm s⟩
 | exit id=>exact⟨.exit id,t',m',q,rfl,j',s,ht',hd'⟩
 | ret=>exact⟨.ret,t',m',q,rfl,j',s,ht',hd'⟩
def db.seq(hE:EnvOk E)(h:bD E n fn ro x (mg (db E n fn ro y Q) Q) t m):db E n fn ro (.seq x y) Q t m:=.Gx (.of hE h)
def G2{j:aL}{m:Xq}{w:WO}(h:MR E j m w){r:Nat}(hr:∀b k,j b=some k->(m.get b).isSome=true->k.c≠r){w1:WO}(hw:w1=w\/w1=w.drew)(hE:¬E.mono){o o':Obj}(ho:w.heap[r]? = some o):MR E j m (setBlock w1 r o')/\w.heap.size=(setBlock w1 r o').heap.size/\(∀c,c≠r->(setBlock w1 r o').heap[c]? = w.heap[c]?)/\iN E w (setBlock w1 r o'):=by
 have hh:w1.heap=w.heap:=by rcases hw with rfl|rfl<;>rfl
 have hs:w.heap.size=(setBlock w1 r o').heap.size:=by simp[setBlock,hh]
 have hg:∀c,c≠r->(setBlock w1 r o').heap[c]? = w.heap[c]?:=fun c hc=>by
  show(w1.heap.setIfInBounds r o')[c]? = _
  rw[hh,VL (Ne.symm hc)]
 refine⟨⟨fun b k e=>⟨(h.lt b k e).1,hs ▸(h.lt b k e).2⟩,fun b o k hgt e=>?_,h.inj,h.glob⟩,hs,hg,?_⟩
 obtain⟨o1,h1,h2⟩:=h.obj b o k hgt e;exact⟨o1,by rw[hg _ (hr b k e (by rw[hgt]; rfl))]; exact h1,h2⟩
 rcases hw with rfl|rfl<;>exact⟨rfl,rfl,rfl,fun e=>Uy e hE⟩
def Ap{j:aL}{m:Xq}{w:WO}(h:MR E j m w){r:Nat}{a:XA Nat}{b0:Nat}{s:XD Nat}{d:Nat}(hr:w.heap[r]? = some (.mapIter a b0 s d)):∀b k,j b=some k->(m.get b).isSome=true->k.c≠r:=by
 intro b k hb hl he;cases hg:m.get b with
 | none=>rw[hg] at hl; cases hl
 | some o =>
  obtain⟨o',h1,h2⟩:=h.obj b o k hg hb;rw[he,hr] at h1;cases h1;cases o<;>exact h2.elim
def vh{w:WO}{N:Nat}{ds:XB Deferred}(hm:Marks N w ds){r:Nat}{w':WO}{a:XA Nat}{b0:Nat}{s:XD Nat}{d:Nat}(hr:w.heap[r]? = some (.mapIter a b0 s d))(hg:∀c,c≠r->w'.heap[c]? = w.heap[c]?):Marks N w' ds:=by
 obtain⟨rs,h1,h2,h3⟩:=hm;refine⟨rs,h1,h2,fun x hx=>⟨(h3 x hx).1,?_⟩⟩;rw[hg x fun e=>by subst e; have:=(h3 _ hx).2; rw[hr] at this; cases this]
 exact(h3 x hx).2
end
def Qp(w:WO)(r c:Nat)(ents:XD MapEntry)(clock:Nat)(S:XB Nat)(cnt:Nat):Prop :=
 ∃since seen c0,w.heap[r]? = some (.mapIter (some c) since seen c0)/\w.heap[c]? = some (.map ents clock)/\(∀x∈ents.toList,x.born<since)/\since<=c0/\since<=clock/\(∀i x,ents[i]? = some x->(seen.contains x.born=true↔i∈S))/\(leftOf ents seen).size=cnt
def tp:∀(n:Nat) (S:XB Nat),S.Nodup->(∀i∈S,i<n)->(∀i,i<n->i∈S)->S.Perm (List.range n)
 | 0,S,_,h2,_=>by
  cases S with
  | nil=>exact List.Perm.refl _
  | cons a l=>exact Uy (h2 a (by simp)) (by omega)
 | n+1,S,h1,h2,h3=>by
  have hm:n∈S:=h3 n (by omega)
  have hp:=List.perm_cons_erase hm;have ih:=tp n (S.erase n) (h1.erase n) (fun i hi=>by
   have h4:=h2 i (List.mem_of_mem_erase hi);have h5:i≠n:=fun e=>by subst e; exact(List.Nodup.not_mem_erase h1) hi
   omega) fun i hi=>(List.mem_erase_of_ne (by omega)).2 (h3 i (by omega))
  rw[List.range_succ];exact hp.trans ((List.Perm.cons n ih).trans (List.perm_append_singleton n (List.range n)).symm)
section
variable{E:Env}{n:Nat}{fn:XI}{ro:XA Nat}
def eval_put{a:Act}{d:Tmp}{v:WJ}(h:d<a.tmps.size):(a.put (some d) v).eval (.tmp d)=v:=by
 simp[Act.put,Act.eval,h]
def IT(hE:EnvOk E)(hmono:¬E.mono){B B' i2 i3:Nat}{oN oX oE:Oper}{rest:XB Oper}{ops3:XD Oper}{X:Code}{d2 e1 e2 f1:Tmp}
  (hN:oN.op=.next (.tmp d2) false/\oN.dst=some e1/\oN.guard=none) (hX:oX.op=.extract (.tmp e1) 0/\oX.dst=some e2/\oX.guard=none) (hOE:oE.op=.entry (.tmp d2)/\oE.dst=some f1/\oE.guard=none) (h3:ops3.toList=oE::rest)
  (h7:e1<n) (h8:e2<n) (h15:f1<n) (h16:e1≠d2) (h17:e2≠d2) (_hd3:f1≠d2)
  {mb:Xq} {w0:WO} {j0:aL} (h18:MR E j0 mb w0) {bm bi:Nat} {es:XB (WJ×WJ)} {lim:Nat} (hbm:mb.get bm=some (.map es)) (hbl:bm<lim)
  (Inv:XB Nat->Tm->Xq->Prop) (hExt:∀S t m,Inv S t m->m.get bm=some (.map es)/\lim<=m.wl/\t.at d2=ptr bi 0)
  (hstep:∀S i e t m,S.Nodup->(∀i∈S,i<es.length)->i∉S->es[i]? = some e->Inv S t m->ji E n ops3 (fun t' m'=>bD E n fn ro X (fun e' t'' m''=>e'=.normal/\Inv (S++[i]) t'' m'') t' m') rest (((t.set e1 (.tuple #[.bool true,e.1,e.2])).set e2 (.bool true)).set f1 (.tuple #[e.1,e.2])) m)
  {r:Nat} (h33:w0.heap.size<=r) {kb:Blk} {ents:XD MapEntry} {clock:Nat} (hinc:Ki ents clock) (a0:XB Deferred) (N:Nat) :
  ∀(K:Nat) (S:XB Nat) (cnt:Nat) (t:Tm) (m:Xq) (j:aL) (w:WO) (a:Act) (F:Fence),cnt<K->S.Nodup->(∀i∈S,i<es.length)->Inv S t m->Sim E j0 mb w0 j m w->TR n j t a.tmps->kl j ro F->Marks N w a.defers->N<=w.heap.size ->
   j bi=some ⟨r,none⟩->j bm=some kb->ER j es ents.toList->Qp w r kb.c ents clock S cnt ->
   ou F 0 E.P (.seq (.region i2 #[oN,oX] false) (.seq (.cond (.tmp e2) .skip (.exit B)) (.block B' (.seq (.region i3 ops3 false) X))))
    (fun e' a' w'=>∃S t' m',S.Perm (List.range es.length)/\Inv S t' m'/\k8 E j0 mb w0 N n (.exit B) ((t'.set e1 (.tuple #[.bool false])).set e2 (.bool false)) m' e' a' w') a w:=by
 intro K
 induction K with
 | zero=>intro S cnt t m j w a F hc; exact Uy hc (by omega)
 | succ K ih =>
  intro S cnt t m j w a F hc hnd hSl hinv s ht hro hmk hNw hjr hjm her hit;have hlen:es.length=ents.size:=by have:=her.len; simpa using this
  obtain⟨hg,hwl,htd⟩:=hExt S t m hinv;obtain⟨since,seen,c0,i1,i2',i3',i5,i4,i0,i6⟩:=hit;refine kF (wpIn_seq (wpIn_region ?_));have hiter:a.eval (.tmp d2)=.pointer (some ⟨r,0,none⟩):=by
   have hv:=ht.2 d2;rw[htd] at hv
   show a.tmps.getD d2 undef=_
   generalize hx:a.tmps.getD d2 undef=x at hv;cases hv with
   | ptr hj=>rw[hjr] at hj; cases hj; rfl
  have hsz:a.tmps.size=n:=ht.1;have hlist:List.range (#[oN,oX]:XD Oper).size=[0,1]:=rfl;rw[hlist];have w0':Region.wanted oN (yielded #[oN,oX] a.tmps)=true:=by simp[Region.wanted,hN.2.2]
  have g0:(#[oN,oX]:XD Oper)[0]? = some oN:=rfl;have g1:(#[oN,oX]:XD Oper)[1]? = some oX:=rfl;simp only[wpOpsIn,g0,g1,w0',if_true];have hexN:execOp a.eval oN=(do pure (.value (<-Instr.next (.pointer (some ⟨r,0,none⟩)) false oN.type))):=by simp only[execOp,hN.1,hiter]
  have hdN:∀c,oN.op≠.defer c:=fun c e=>by rw[hN.1] at e; cases e
  have hdX:∀c,oX.op≠.defer c:=fun c e=>by rw[hX.1] at e; cases e
  have hbmj:bm<m.next:=(s.mr.lt bm kb hjm).1
  rcases run_next_at (P:=E.P) w oN.type r kb.c since c0 seen ents clock i1 i2' i3' i5 with⟨q0,hrun⟩|⟨x,hx,w1,h12,hrun⟩
  ·
   refine dc hro.wide hdN (by rw[hexN]; exact kg.value hrun) ?_
   have h5:TR n j (t.set e1 (.tuple #[.bool false])) (a.put oN.dst (.tuple #[.bool false])).tmps:=ht.put (t':=t.set e1 (.tuple #[.bool false])) (.tuple' (LR.cons (.bool false) (.nil j))) (by rw[hN.2.1,cK,Ui h7])
   rw[hN.2.1] at h5 ⊢;have w1':Region.wanted oX (yielded #[oN,oX] (a.put (some e1) (.tuple #[.bool false])).tmps)=true:=by simp[Region.wanted,hX.2.2]
   rw[Ui w1'];have hexX:execOp (a.put (some e1) (.tuple #[.bool false])).eval oX=(do pure (.value (<-Instr.extract (.tuple #[.bool false]) 0))):=by
    simp only[execOp,hX.1];rw[eval_put (v:=.tuple #[.bool false]) (d:=e1) (a:=a) (hsz.symm▸h7)]
   refine dc hro.wide hdX (v:=.bool false) (w':=w) (by rw[hexX]; exact kg.value rfl) ?_
   have h0:=h5.put (t':=(t.set e1 (.tuple #[.bool false])).set e2 (.bool false)) (dst:=oX.dst) (.bool false) (by rw[hX.2.1,cK,Ui h8])
   rw[hX.2.1] at h0 ⊢;refine wpIn_seq (wpIn_cond_false (eval_put (by simp only[Act.put,Array.size_setIfInBounds]; exact hsz.symm▸h8)) (wpIn_exit ?_))
   refine⟨S,t,m,tp _ S hnd hSl fun i hi=>?_,hinv,rfl,j,s,h0,hmk⟩;have hi':i<ents.size:=by omega
   refine(i0 i _ (Array.getElem?_eq_getElem hi')).1 ?_;cases hcs:seen.contains (ents[i]'hi').born with
   | true=>rfl
   | false =>
    have:(ents[i]'hi') ∈(leftOf ents seen).toList:=by
     unfold leftOf;simp[hcs];exact fun h=>by simp_all
    rw[V7 q0] at this;simp at this
  
  obtain⟨hxm,hxs⟩:=mem_left hx;obtain⟨i,hi⟩:=List.mem_iff_getElem?.1 hxm;have hi':ents[i]? = some x:=by simpa using hi
  have hiS:i∉S:=fun h=>by rw[(i0 i x hi').2 h] at hxs; cases hxs
  have hil:i<es.length:=by rw[hlen]; exact(Ut.1 hi').1
  obtain⟨y,hy,hky,hvy⟩:=her.get (T6 hil);rw[hi] at hy;cases hy;have hne:∀b k,j b=some k->(m.get b).isSome=true->k.c≠r:=Ap s.mr i1;have hcr:kb.c≠r:=hne bm kb hjm (by rw[hg]; rfl)
  obtain⟨p2,p1,p0,p3⟩:=G2 s.mr hne h12 hmono (o':=.mapIter (some kb.c) since (seen.push x.born) clock) i1;have s1:Sim E j0 mb w0 j m (setBlock w1 r (.mapIter (some kb.c) since (seen.push x.born) clock)) :=
   { ext:=s.ext,le:=s.le,new:=s.new,mr:=p2,size:=by rw[<-p1]; exact s.size,full:=s.full,away:=s.away,fresh:=s.fresh,frame:=fun c hc H=>by rw[p0 c (by omega)]; exact s.frame c hc H,calm:=s.calm.trans p3}
  have m3:=vh hmk i1 p0;refine dc hro.wide hdN (by rw[hexN]; exact kg.value hrun) ?_
  generalize h19:setBlock w1 r (.mapIter (some kb.c) since (seen.push x.born) clock)=w2 at s1 m3 p1 p0;have h9:w2.heap[r]? = some (.mapIter (some kb.c) since (seen.push x.born) clock):=by
   rw[<-h19];have hh:w1.heap=w.heap:=by rcases h12 with rfl|rfl<;>rfl
   have hrl:=(Ut.1 i1).1;simp[setBlock,hh,hrl]
  have h10:w2.heap[kb.c]? = some (.map ents clock):=by rw[p0 _ hcr]; exact i2'
  have hvT:VR j (.tuple #[.bool true,(es[i]'hil).1,(es[i]'hil).2]) (.tuple #[.bool true,x.key,x.val]):=.tuple' (LR.cons (.bool true) (LR.cons hky (LR.cons hvy (.nil j))));have h5:=ht.put (t':=t.set e1 (.tuple #[.bool true,(es[i]'hil).1,(es[i]'hil).2])) (dst:=oN.dst) hvT (by rw[hN.2.1,cK,Ui h7])
  rw[hN.2.1] at h5 ⊢;have w1':Region.wanted oX (yielded #[oN,oX] (a.put (some e1) (.tuple #[.bool true,x.key,x.val])).tmps)=true:=by simp[Region.wanted,hX.2.2]
  rw[Ui w1'];have hexX:execOp (a.put (some e1) (.tuple #[.bool true,x.key,x.val])).eval oX=(do pure (.value (<-Instr.extract (.tuple #[.bool true,x.key,x.val]) 0))):=by
   simp only[execOp,hX.1];rw[eval_put (v:=.tuple #[.bool true,x.key,x.val]) (d:=e1) (a:=a) (hsz.symm▸h7)]
  refine dc hro.wide hdX (v:=.bool true) (w':=w2) (by rw[hexX]; exact kg.value rfl) ?_
  have h0:=h5.put (t':=(t.set e1 (.tuple #[.bool true,(es[i]'hil).1,(es[i]'hil).2])).set e2 (.bool true)) (dst:=oX.dst) (.bool true) (by rw[hX.2.1,cK,Ui h8])
  rw[hX.2.1] at h0 ⊢;generalize h11:(a.put (some e1) (.tuple #[.bool true,x.key,x.val])).put (some e2) (.bool true)=a1 at h0;have hdef2:a1.defers=a.defers:=by rw[<-h11]; rfl
  have h20:a1.eval (.tmp e2)=.bool true:=by rw[<-h11]; exact eval_put (by simp only[Act.put,Array.size_setIfInBounds]; exact hsz.symm▸h8)
  have h21:a1.eval (.tmp d2)=.pointer (some ⟨r,0,none⟩):=by
   rw[<-h11]
   show(((a.tmps.setIfInBounds e1 _).setIfInBounds e2 _).getD d2 undef)=_
   have h6:a.tmps.getD d2 undef=.pointer (some ⟨r,0,none⟩):=hiter;simp only[Array.getD_eq_getD_getElem?] at h6 ⊢;rw[VL h17,VL h16];exact h6
  refine wpIn_seq (wpIn_cond_true h20 (wpIn_skip ?_));refine wpIn_block (wpIn_seq (wpIn_region ?_));have h22:List.range ops3.size=0::List.range' 1 (ops3.size-1):=by
   have:ops3.size=rest.length+1:=by have:=VB List.length h3; simpa using this
   rw[this,List.range_eq_range']
   rfl
  rw[h22];have g2:ops3[0]? = some oE:=by have:=VB (·[0]?) h3; simpa using this
  have w2':Region.wanted oE (yielded ops3 a1.tmps)=true:=by simp[Region.wanted,hOE.2.2]
  simp only[wpOpsIn,g2,w2',if_true];have hdE:∀c,oE.op≠.defer c:=fun c e=>by rw[hOE.1] at e; cases e
  have hexE:execOp a1.eval oE=(do pure (.value (<-Instr.entry (.pointer (some ⟨r,0,none⟩))))):=by simp only[execOp,hOE.1,h21]
  refine dc hro.wide hdE (by rw[hexE]; exact kg.value (run_entry_at w2 r kb.c since seen ents clock x h9 h10 hxm hinc.2)) ?_
  have hvE:VR j (.tuple #[(es[i]'hil).1,(es[i]'hil).2]) (.tuple #[x.key,x.val]):=.tuple' (LR.cons hky (LR.cons hvy (.nil j)));have h13:=h0.put (t':=((t.set e1 (.tuple #[.bool true,(es[i]'hil).1,(es[i]'hil).2])).set e2 (.bool true)).set f1 (.tuple #[(es[i]'hil).1,(es[i]'hil).2])) (dst:=oE.dst) hvE (by rw[hOE.2.1,cK,Ui h15])
  rw[hOE.2.1] at h13 ⊢;have hdef3:(a1.put (some f1) (.tuple #[x.key,x.val])).defers=a.defers:=by rw[<-hdef2]; rfl
  have hst:=hstep S i _ t m hnd hSl hiS (T6 hil) hinv;obtain⟨k0,t0,m5,h23,hX4⟩:=mJ hst;have hrun3:=kr (ops:=ops3) (n:=n) (tf:=t0) (mf:=m5) (F:=F) (km hE k0) hro.wide (Q:=Exit.then (fun a' w'=>X.wpIn F 0 E.P (Exit.inBlock B' (Exit.then (fun a' w'=>ou F 0 E.P (.seq (.region i2 #[oN,oX] false) (.seq (.cond (.tmp e2) .skip (.exit B)) (.block B' (.seq (.region i3 ops3 false) X)))) (fun e' a' w'=>∃S t' m',S.Perm (List.range es.length)/\Inv S t' m'/\k8 E j0 mb w0 N n (.exit B) ((t'.set e1 (.tuple #[.bool false])).set e2 (.bool false)) m' e' a' w') a' w')
    (fun e' a' w'=>∃S t' m',S.Perm (List.range es.length)/\Inv S t' m'/\k8 E j0 mb w0 N n (.exit B) ((t'.set e1 (.tuple #[.bool false])).set e2 (.bool false)) m' e' a' w'))) a' w')
    (Exit.inBlock B' (Exit.then (fun a' w'=>ou F 0 E.P (.seq (.region i2 #[oN,oX] false) (.seq (.cond (.tmp e2) .skip (.exit B)) (.block B' (.seq (.region i3 ops3 false) X)))) (fun e' a' w'=>∃S t' m',S.Perm (List.range es.length)/\Inv S t' m'/\k8 E j0 mb w0 N n (.exit B) ((t'.set e1 (.tuple #[.bool false])).set e2 (.bool false)) m' e' a' w') a' w')
    (fun e' a' w'=>∃S t' m',S.Perm (List.range es.length)/\Inv S t' m'/\k8 E j0 mb w0 N n (.exit B) ((t'.set e1 (.tuple #[.bool false])).set e2 (.bool false)) m' e' a' w')))) s1.mr a.defers ?_ rest 1 _ m j w2 (a1.put (some f1) (.tuple #[x.key,x.val])) (by rw[h3]; rfl) h23 (.refl s1.mr) h13 hdef3
  exact hrun3
  
  intro j3 w4 a2 s3 h24 h25;obtain⟨e0,t1,m4,⟨k1,h26⟩,h27,hinv5⟩:=hX4;subst h27;obtain⟨e3,t2,m8,h28,H6⟩:=km hE k1 _ _ h26;cases h28;have m6:Marks N w4 a2.defers:=by rw[h25]; exact m3.GX s1.mr s3
  refine wpIn_mono (H6 j3 w4 a2 F N s3.mr h24 (hro.mono s3.le) m6 (by have:=s3.size; omega)) ?_
  rintro e4 a3 w3 ⟨rfl,j2,s4,h29,m7⟩;have s2:Sim E j m w2 j2 m4 w3:=s3.trans s1.mr s4;have hk5':=hExt _ _ _ hinv5;have h30:∀b k,j b=some k->(m.get b).isSome=true->k.c≠r:=Ap s1.mr h9;have h31:w3.heap[r]? = w2.heap[r]?:=s2.frame r (Ut.1 h9).1 fun b k hb hl he=>Uy he (h30 b k hb hl);have h32:w3.heap[kb.c]? = w2.heap[kb.c]?:=s2.frame kb.c (Ut.1 h10).1 fun b k hb hl he=>by
   have:=s1.mr.inj b bm k kb hb hjm hl (by rw[hg]; rfl) he
   omega
  refine ih (S++[i]) _ t1 m4 j2 w3 a3 F ?_ ?_ ?_ hinv5 (s1.trans h18 s2) h29 ((hro.mono s3.le).mono s4.le) m7 (by have:=s2.size; omega) (s2.le _ _ hjr) (s2.le _ _ hjm) (her.mono s2.le)
   ⟨since,seen.push x.born,clock,by rw[h31]; exact h9,by rw[h32]; exact h10,i3',i4,i4,fun i' x' hx'=>?_,rfl⟩
  have:=left_shrinks ents seen x hx;omega
  exact List.nodup_append.2 ⟨hnd,by simp,fun p hp q hq=>by rw[UI] at hq; subst hq; exact fun e=>hiS (e▸hp)⟩
  intro p hp;rcases UT.1 hp with hp|hp
  exact hSl p hp
  rw[UI.1 hp]; exact hil
  have hcp:(seen.push x.born).contains x'.born=true↔(seen.contains x'.born=true\/x'.born=x.born):=by simp[Array.mem_push]
  rw[hcp,i0 i' x' hx',UT,UI];refine or_congr Iff.rfl ⟨fun e=>?_,fun e=>?_⟩
  have h14:(ents.toList.map (·.born))[i']? = some x'.born:=by rw[UN]; simp[hx']
  have h6:(ents.toList.map (·.born))[i]? = some x.born:=by rw[UN]; simp[hi']
  have hl':i'<(ents.toList.map (·.born)).length:=(Uq.1 h14).1;exact(List.getElem_inj (h₀:=hl') (h₁:=(Uq.1 h6).1) hinc.2).1 (by
   rw[(Uq.1 h14).2,(Uq.1 h6).2,e])
  subst e; rw[hi'] at hx'; cases hx'; rfl
def MR.RD{j:aL}{m:Xq}{w:WO}(h:MR E j m w)(x:Nat):MR E j (m.ww x) w :=
 ⟨fun b k e=>by rw[Xq.next_ww]; exact h.lt b k e,fun b o k ho=>by rw[Xq.get_ww] at ho; exact h.obj b o k ho,fun b b' k k' e e'=>by rw[Xq.get_ww,Xq.get_ww]; exact h.inj b b' k k' e e',h.glob⟩
def OF{j j':aL}{m m':Xq}{w w':WO}{x:Nat}(s:Sim E j (m.ww x) w j' m' w'):Sim E j m w j' (m'.ww (min m.wl m'.wl)) w' where
 ext:=⟨by have:=s.ext.next; rwa[Xq.next_ww] at this ⊢,by rw[Xq.wl_ww]; omega,fun b hb hl=>by
  rw[Xq.wl_ww] at hl;have:=s.ext.same b (by rw[Xq.next_ww]; exact hb) (by omega)
  rwa[Xq.get_ww] at this ⊢,fun b hb hn=>by
  have:=s.ext.dead b (by rw[Xq.next_ww]; exact hb) (by rw[Xq.get_ww]; exact hn)
  rwa[Xq.get_ww]⟩
 le:=s.le
 new:=fun b k h h'=>by have:=s.new b k h h'; rwa[Xq.next_ww] at this
 mr:=s.mr.RD _
 size:=s.size
 full:=fun b h h' hl=>by
  rw[Xq.next_ww] at h';rw[Xq.get_ww] at hl;exact s.full b (by rw[Xq.next_ww]; exact h) h' hl
 away:=fun b hb hn=>by
  have:=s.away b (by rw[Xq.next_ww]; exact hb) hn
  rwa[Xq.get_ww] at this ⊢
 fresh:=fun b k h h'=>by
  rcases s.fresh b k h h' with hf|⟨b0,k0,a1,a2,a3,a4⟩
  exact .inl hf
  rw[Xq.get_ww] at a2;exact .inr ⟨b0,k0,a1,a2,a3,by rw[Xq.wl_ww]; omega⟩
 frame:=fun c hc H=>s.frame c hc fun b k hb hl he=>by
  rw[Xq.get_ww] at hl;have:=H b k hb hl he;rw[Xq.wl_ww] at this; omega
 calm:=s.calm
def nE(m:Xq):Xq:=((m.alloc (.cells [] .own)).kill m.next).ww (m.next+1)
def pW(m:Xq):(nE m).next=m.next+1:=by unfold nE; rw[Xq.next_ww,Xq.next_kill,Xq.next_alloc]
def ET(m:Xq):(nE m).wl=m.next+1:=by unfold nE; rw[Xq.wl_ww]
def iL(m:Xq)(b:Nat):(nE m).get b=if b=m.next then none else m.get b:=by
 unfold nE;rw[Xq.get_ww,Xq.fP,Xq.bq]
 split<;>rfl
def Ju{j:aL}{m:Xq}{w:WO}(h:MR E j m w)(o:Obj):Sim E j (m.ww (m.next+1)) w (j.set m.next ⟨w.heap.size,none⟩) (nE m) (w.alloc o):=by
 have hn:j m.next=none:=h.mS
 have hget:∀c,c<w.heap.size->(w.alloc o).heap[c]? = w.heap[c]?:=fun c hc=>by
  show(w.heap.push o)[c]? = w.heap[c]?
  rw[Wi,WU]
 refine⟨⟨by rw[Xq.next_ww,pW]; omega,by rw[Xq.wl_ww,ET]; omega,fun b hb _=>?_,fun b hb hd=>?_⟩,aL.oz _ hn,fun b k e e'=>?_,⟨fun b k e=>?_,fun b a k ha e=>?_,fun b b' k k' e e' hl hl' hc=>?_,fun g hg=>?_⟩,by rw[World.size_alloc]; omega,fun b hb hb' hl=>?_,fun b hb hj=>?_,fun b k e e'=>?_,fun c hc _=>hget c hc,⟨rfl,rfl,rfl,fun _=>Ua _⟩⟩
 rw[Xq.next_ww] at hb;rw[iL,WU,Xq.get_ww]
 rw[Xq.next_ww] at hb;rw[Xq.get_ww] at hd;rw[iL,WU,hd]
 by_cases hb:b=m.next
 rw[hb,Xq.next_ww]; exact Ua _
 rw[aL.bW _ _ hb,e'] at e; cases e
 rw[pW,World.size_alloc]
 by_cases hb:b=m.next
 subst hb; rw[aL.cm] at e; cases e;exact⟨Vp _,Vp _⟩
 rw[aL.bW _ _ hb] at e;exact⟨Nat.lt_succ_of_lt (h.lt b k e).1,Nat.lt_succ_of_lt (h.lt b k e).2⟩
 rw[iL] at ha
 split at ha
 cases ha
 rename_i hb;rw[aL.bW _ _ hb] at e;obtain⟨o',h1,h2⟩:=h.obj b a k ha e;exact⟨o',by rw[hget _ (h.lt b k e).2]; exact h1,h2.mono (aL.oz _ hn)⟩
 rw[iL] at hl hl'
 split at hl
 cases hl
 rename_i hb
 split at hl'
 cases hl'
 rename_i hb';rw[aL.bW _ _ hb] at e;rw[aL.bW _ _ hb'] at e';exact h.inj b b' k k' e e' hl hl' hc
 have h1:=h.glob g hg;have hlt:=(h.lt g _ h1).1;rw[aL.bW _ _ (by omega)]; exact h1
 rw[Xq.next_ww] at hb;rw[pW] at hb';rw[iL,WV] at hl
 cases hl
 rw[Xq.next_ww] at hb;rw[iL,WU,Xq.get_ww]
 by_cases hb:b=m.next
 subst hb; rw[aL.cm] at e; cases e;exact .inl (Ua _)
 rw[aL.bW _ _ hb,e'] at e; cases e
end
end Go.Ab
namespace Go.Ab.W
open Go Go.Ab
attribute [local irreducible] Tm.at Trie.set Trie.get Xq.get Xq.set Xq.alloc Xq.ww Xq.kill
def xT(F:Func):Code:=match F.body with
 | some c=>c
 | none=>.skip
def Sl:Nat->Code->Code
 | k+1,.seq _ b=>Sl k b
 | _,c=>c
section
variable{E:Env}{n:Nat}{m0:Xq}{fs fs':Fs}{ps ps':XB Pc}{fn:XI}{ro:XA Nat}{Q:Xr->Tm->Xq->Prop}{a b c:Code}
def Vk(E:Env)(n:Nat)(fn:XI)(ro:XA Nat)(c:Code)(Q:Xr->Tm->Xq->Prop)(m0:Xq)(fs:Fs)(ps:XB Pc):Prop:=∀t m,Fr t fs->Hp m0 m ps->db E n fn ro c Q t m
def Vk.seq(hE:EnvOk E)(h:Wk E n fn ro a (mg (db E n fn ro b Q) Q) m0 fs ps):Vk E n fn ro (.seq a b) Q m0 fs ps:=fun t m hf hm=>.seq hE (h t m hf hm)
def Vk.of(hE:EnvOk E)(h:Wk E n fn ro c Q m0 fs ps):Vk E n fn ro c Q m0 fs ps:=fun t m hf hm=>.of hE (h t m hf hm)
def At.Sp(h:Vk E n fn ro b Q m0 fs ps):At (mg (db E n fn ro b Q) Q) .normal m0 fs ps:=h
def Vk.Jd(hs:sub fs fs')(h:ai m0 ps ps')(k:Vk E n fn ro c Q m0 fs' ps'):Vk E n fn ro c Q m0 fs ps:=fun t m hf hm=>k t m (hf.sub hs) (h m hm)
def nC(E:Env)(f:XI)(args:XB WJ)(m:Xq)(R:WJ->Xq->Prop):Prop:=∀(j:aL) (w:WO) (args':XB WJ),MR E j m w->LR j args args'->dT E.P false f args'.toArray w (fun v' w'=>∃v1 m1,R v1 m1/\fH E j m w v1 m1 v' w')
def Bu(hE:EnvOk E){f:XI}{F:Func}{args:XB WJ}{rs:XB ResultVar}{N:Nat}{R:WJ->Xq->Prop}{m:Xq}(hf:E.P.funcs[f]? = some F)(hb:F.body=some c)(hrs:F.results.toList=rs)(hN:max args.length F.ntmps=N)
  (h:db E N f none c (lB E rs R) (Trie.ofList args 0 .nil) m):nC E f args m R:=fun j w args' hm hl=>by
 subst hrs hN;refine .inl ⟨hE.call f F c hf hb _ w,?_⟩;refine callsIn_of_wp_marks hf hb trivial ?_;refine wpIn_mono (h j w { tmps:=args'.toArray++Wx (F.ntmps-args'.toArray.size) undef,defers:=[]} Fence.wide w.heap.size hm (TR.enter hl F.ntmps) rfl (Marks.nil _ _) (Ua _)) ?_;rintro e' a' w' ⟨e,t',m',hq,rfl,j',s,ht,rs,hnd,hds,hrs⟩;have key:∀{vs:XB WJ},bZ E t' m' F.results.toList=some vs->R (fw vs) m'->LeavesInM Fence.wide 0 E.P F a'.tmps (fun e w'=>∃v,e=.returned v/\∃v1 m1,R v1 m1/\fH E j m w v1 m1 v w') a'.defers .returning w':=by
  intro vs hvs hR;rw[hds];refine kC (fun w'' s'=>?_) rs w' s hnd hrs;obtain⟨v',hv1,hv2⟩:=qQ s'.mr ht hvs;exact⟨v',hv1,v',rfl,fw vs,m',hR,j',s',hv2⟩
 cases e with
 | exit id=>exact hq.elim
 | normal =>
  simp only[lB] at hq;unfold zn at hq
  split at hq
  rename_i vs hv; exact key hv hq
  exact hq.elim
 | ret =>
  simp only[lB] at hq;unfold zn at hq
  split at hq
  rename_i vs hv; exact key hv hq
  exact hq.elim
def Hm(hE:EnvOk E){f:XI}{F:Func}{args:XB WJ}{rs:XB ResultVar}{N:Nat}{R:WJ->Xq->Prop}{m:Xq}(hf:E.P.funcs[f]? = some F)(hb:F.body=some c)(hrs:F.results.toList=rs)(hN:max args.length F.ntmps=N)(hm:Hp m0 m ps)
  (h:Vk E N f none c (lB E rs R) m0 (wG args 0 []) ps):nC E f args m R:=Bu hE hf hb hrs hN (h _ m (Fr.args args 0 [] _ (Fr.nil _)) hm)
def Dq{f:XI}{args:XB WJ}{m:Xq}{v:WJ}{m':Xq}(h:nC E f args { m with wl:=m.next} fun v1 m1=>Grown m m1 /\
  ((bG v=true/\v1=v/\m'=m)\/∃R b1 cs tag,R6 R/\v1=R b1/\v=R m.next/\m.next<=b1/\b1<m1.next/\m1.get b1=some (.cells cs tag)/\cs.all aM=true/\m'=m.alloc (.cells cs tag))) (pr:Bool) {j:aL} {w:WO} {args':XB WJ} (hm:MR E j m w) (hl:LR j args args'):dT E.P pr f args'.toArray w (fH E j m w v m'):=by
 refine cy (fun h=>by cases h) (h j w args' (MR.vC hm) hl) ?_
 rintro v' w' ⟨v1,m1,⟨hg,hc⟩,j',s,hv⟩;rcases hc with⟨hpv,rfl,rfl⟩|⟨R,b1,cs,tag,hR,rfl,rfl,hb,hb1,ho,hpl,rfl⟩
 exact⟨j,Sim.forget hm s hg,VR.mX hpv hv⟩
 obtain⟨k1,hk1⟩:=s.full b1 hb hb1 (by rw[ho]; rfl)
 exact⟨_,Sim.born hm s hg hb hk1 ho hpl,hR _ _ _ _ _ _ hk1 (aL.cm _ _ _) hv⟩
end
section
variable{α:Type}{r:Rep α}{o:Orp r}{E:Env}{n:Nat}{m0 m:Xq}{fs:Fs}{ps:XB Pc}{dr:Bool}{ops:XD Oper}{K:Tm->Xq->Prop}{os:XB Oper}{prs:XB (Nat×Nat)}{ss:XB Nk}{ty:WK}
def ai.I7:ai m0 ps (.gen (iz o (fun _=>False) [] [])::ps):=fun _ hm=>hm.I7
def Wo.PD{x:α}{g:o.G}{qs:XB Pc}(hq:o.N x g++ps=qs)(k:∀S,Wo dr E n ops K os m0 fs (.gen (iz o S [x] [o.V x g])::ps)):Wo dr E n ops K os m0 fs qs :=
 Wo.EX (N:=fun S=>.gen (iz o S [x] [o.V x g])::ps) (fun m hm=>⟨_,Hp.PD (by rw[hq]; exact hm)⟩) k
def O8{elem ty2:WK}{w c0 l l2:Nat}{a a1:WH}{S S':WI}{L L':XB α}{es es':WG}{ars:XD WM}{p0:Pc}(ht:SlT E.P ty elem w)(h0:∃e2,E.P.underlying ty2=some (.slice e2))(ha:jK E fs ars.toList=some [.slice a l l,.slice a1 l2 c0])(hr:IsRd p0 a1 c0 w l2 es')(hw:r.w=w)(hl:lim (L++L').length=true) :
  Ox E m0 fs (.gen (iz o S L es)::.gen (iz o S' L' es')::.sl a w l es::p0::ps) (.call ⟨.builtin .append,ars,#[ty,ty2]⟩) (fun y:WH ×(Nat->Prop)=>.slice y.1 (L++L').length (L++L').length)
   (fun y=>.gen (iz o y.2 (L++L') (es++es'))::.sl y.1 w (L++L').length (es++es')::p0::ps):=fun t m hf hm=>⟨fun b hb=>(by simp[aU] at hb),fun K hK=>by
 have e1:l=L.length:=by rw[Pc.Cu (hm.get (k:=2) rfl),JC hm (q:=0) rfl]
 have e2:l2=L'.length:=by rw[<-(hm.rd (k:=3) rfl hr).1,JC hm (q:=1) rfl]
 have e0:l+l2=(L++L').length:=by rw[e1,e2,Uf]
 obtain⟨⟨qs,h1,_⟩,_⟩:=(hm.get (k:=1) rfl).1;obtain⟨S'',h2⟩:=hm.Rf;obtain⟨a',m',h3,h4⟩:=mT (n:=l) (k:=1) ht h0 h2 rfl (h2.rd (k:=2) rfl hr) (fun e he=>by rw[<-hw]; exact(h1.cells e he).1) (fun e he=>(h1.cells e he).2) (by rw[e0]; exact hl)
 have:bw E.P .append #[ty,ty2] [.slice a l l,.slice a1 l2 c0] m=some (.slice a' (l+l2) (l+l2),m'):=h3;rw[Go.Ab.fG (hf.jK ha) this];rw[e0] at h4 ⊢;exact hK (a',S'') m' h4⟩
end
def sN{γ:Type}{l:XB γ}{j:Nat}{e:γ}(h:l[j]? = some e):l.set j e=l:=by
 apply Wg;intro i;rw[List.getElem?_set]
 split
 rename_i hij; subst hij;rw[Ui (Uq.1 h).1,h]
 rfl
def xn{γ:Type}{l:XB γ}{j:Nat}{e e':γ}(h:l[j]? = some e):(l.set j e')[j]? = some e':=by
 rw[List.getElem?_set,Ui rfl,Ui (Uq.1 h).1]
section
variable{α β:Type}{r:Rep α}{o:Orp r}{E:Env}{n:Nat}{m0 m:Xq}{fs:Fs}{ps qs:XB Pc}{dr:Bool}{ops:XD Oper}{K:Tm->Xq->Prop}{os:XB Oper}{prs:XB (Nat×Nat)}{ss:XB Nk}{ty:WK}{Q:Xr->Tm->Xq->Prop}
def ai.Fe{k b w l:Nat}{es es':WG}{tg:Tag}(hp:pk ps k=some (.arr b w l es tg))(h:es=es'):ai m0 ps (df ps k (.arr b w l es' tg)):=fun m hm=>by
 subst h; rw[Gy _ _ _ hp]; exact hm
def At.EX{e:Xr}{β:Type}{N:β->XB Pc}(h:∀m,Hp m0 m ps->∃y,Hp m0 m (N y))(k:∀y,At Q e m0 fs (N y)):At Q e m0 fs ps:=fun t m hf hm=>by
 obtain⟨y,hy⟩:=h m hm; exact k y t m hf hy
def Jx{S:WI}{L:XB α}{es:WG}{j:Nat}{x:α}(hl:L[j]? = some x):∀m,Hp m0 m (.gen (iz o S L es)::ps) ->
  ∃z:{ z:o.G ×(Nat->Prop) ×(Nat->Prop) // es[j]? = some (o.V x z.1)},Hp m0 m (o.N x z.1.1++(.gen (iz o z.1.2.1 (L.take j) (es.take j))::.gen (iz o z.1.2.2 (L.drop (j+1)) (es.drop (j+1)))::ps)):=fun m hm=>by
 obtain⟨g,S1,S2,he,h⟩:=hm.Mc hl;exact⟨⟨(g,S1,S2),he⟩,h⟩
def Wo.Hi{S:WI}{L:XB α}{es:WG}{j:Nat}{x:α}{N:o.G->(Nat->Prop)->(Nat->Prop)->XB Pc}(hl:L[j]? = some x)(hN:∀g S1 S2,N g S1 S2=o.N x g++(.gen (iz o S1 (L.take j) (es.take j))::.gen (iz o S2 (L.drop (j+1)) (es.drop (j+1)))::ps))(k:∀g S1 S2,es[j]? = some (o.V x g)->Wo dr E n ops K os m0 fs (N g S1 S2)) :
  Wo dr E n ops K os m0 fs (.gen (iz o S L es)::ps):=Wo.EX (Jx hl) fun z=>by rw[<-hN]; exact k _ _ _ z.2
def ai.Nj{S:WI}{L:XB α}{es:WG}:ai m0 (.gen (iz o S L es)::ps) (.gen (eh r S L es)::ps):=fun _ hm=>hm.tQ
def Hd{S1 S2 S:WI}{L:XB α}{es:WG}{j:Nat}{x y:α}{e:XB WJ}{g:r.G}(hl:L[j]? = some x)(he:es[j]? = some e)(hf:Lf m0 ps r y g S):∀m,Hp m0 m (.gen (iz o S1 (L.take j) (es.take j))::.gen (iz o S2 (L.drop (j+1)) (es.drop (j+1)))::ps)->∃R,Hp m0 m (.gen (eh r R (L.set j y) (es.set j (r.V y g)))::ps):=fun m hm=>by
 have h1:=hm.tQ;have h2:Hp m0 m (.gen (iz o S2 (L.drop (j+1)) (es.drop (j+1)))::.gen (eh r S1 (L.take j) (es.take j))::ps):=h1.perm (List.Perm.swap _ _ _);have h3:=h2.tQ;have h0:Hp m0 m ps:=by
  have:=h3.ok;exact⟨h3.ext,fun p hp=>h3.ok p (UM _ (UM _ hp)),(Uz.1 (Uz.1 h3.apart).2).2⟩
 obtain⟨a1,a2⟩:=hf m h0;have h4:lg m0 (.gen (eh r S2 (L.drop (j+1)) (es.drop (j+1)))::.gen (eh r S1 (L.take j) (es.take j))::ps) r [y] [r.V y g] (fun b=>S b\/False):=fun m' hm'=>by
  have h5:Hp m0 m' ps:=⟨hm'.ext,fun p hp=>hm'.ok p (UM _ (UM _ hp)),(Uz.1 (Uz.1 hm'.apart).2).2⟩;obtain⟨b1,b2⟩:=hf m' h5;refine⟨.cons (r.mono b1 fun _ h=>.inl h) .nil,fun b hb=>?_⟩;obtain⟨q,hq,h⟩:=b2 b (hb.elim id False.elim);exact⟨q,UM _ (UM _ hq),h⟩
 have h6:=ai.dp h4 m h3;have h7:=ai.Hs (m0:=m0) (q:=0) (q2:=1) rfl rfl m h6;have h8:=ai.Hs (m0:=m0) (q:=2) (q2:=0) rfl rfl m h7;have h9:Hp m0 m (.gen (eh r (fun b=>S1 b\/((S b\/False)\/S2 b)) (L.take j++([y]++L.drop (j+1))) (es.take j++([r.V y g]++es.drop (j+1))))::ps):=⟨h8.ext,fun p hp=>h8.ok p (UM _ (UM _ hp)),(Uz.1 (Uz.1 h8.apart).2).2⟩;refine⟨fun b=>S1 b\/((S b\/False)\/S2 b),?_⟩;rw[nu y (Uq.1 hl).1,nu (r.V y g) (Uq.1 he).1];exact h9
def At.IH{ex:Xr}{S1 S2 S:WI}{L:XB α}{es:WG}{j:Nat}{x y:α}{e:XB WJ}{g:r.G}(hl:L[j]? = some x)(he:es[j]? = some e){e2:XB WJ}(hf:Lf m0 ps r y g S)(hV:∀m,Hp m0 m ps->r.V y g=e2)(k:∀R,At Q ex m0 fs (.gen (eh r R (L.set j y) (es.set j e2))::ps)) :
  At Q ex m0 fs (.gen (iz o S1 (L.take j) (es.take j))::.gen (iz o S2 (L.drop (j+1)) (es.drop (j+1)))::ps):=At.EX (fun m hm=>by
 obtain⟨R,hR⟩:=Hd hl he hf m hm;have h0:Hp m0 m ps:=⟨hR.ext,fun p hp=>hR.ok p (UM _ hp),(Uz.1 hR.apart).2⟩;rw[hV m h0] at hR;exact⟨R,hR⟩) k
def Lf.sr{f:β->XB WJ}{a:WH}{k cap w l:Nat}{xs:XB β}(hp:pk ps k=some (.rd a cap w l (xs.map f))):Lf m0 ps (rS f w) xs (a,cap) (fun b=>cC a=some b):=fun m hm=>by
 have e:=qI hm hp;subst e;exact Lf.s hp m hm
end
end Go.Ab.W
namespace Go.Ab
section
open Go
namespace W
end W
end
section
open Go
attribute [local irreducible] Xq.get Xq.set Xq.alloc Xq.ww Xq.kill
def Xq.gr(m:Xq):XB Xs->Xq
 | []=>m
 | o::os=>(m.alloc o).gr os
def gS:∀(os:XB Xs) (m:Xq),(m.gr os).next=m.next+os.length
 | [],m=>rfl
 | o::os,m=>by rw[Xq.gr,gS os,Xq.next_alloc,UK]; omega
def wI:∀(os:XB Xs) (m:Xq),(m.gr os).wl=m.wl
 | [],m=>rfl
 | o::os,m=>by rw[Xq.gr,wI os,Xq.wl_alloc]
def dB:∀(os:XB Xs) (m:Xq) {b:Nat},(b<m.next\/m.next+os.length<=b)->(m.gr os).get b=m.get b
 | [],m,b,_=>rfl
 | o::os,m,b,h=>by
  rw[UK] at h;rw[Xq.gr,dB os (m.alloc o) (by rw[Xq.next_alloc]; omega),Xq.bq,WU]
def vT:∀(os:XB Xs) (m:Xq) (i:Nat),i<os.length->(m.gr os).get (m.next+i)=os[i]?
 | [],m,i,h=>by simp at h
 | o::os,m,0,h=>by rw[Xq.gr,dB os (m.alloc o) (by rw[Xq.next_alloc]; omega),Xq.bq,UZ,Ui rfl]; rfl
 | o::os,m,i+1,h=>by
  have:=vT os (m.alloc o) i (by simpa using h)
  rw[Xq.next_alloc,show m.next+1+i=m.next+(i+1) by omega] at this
  rw[Xq.gr,this]; rfl
inductive TV where
 | v (x:WJ)
 | s (i:Nat)
abbrev FA:=XB (XB TV×Nat)
def FA.n(T:FA)(i:Nat):Nat:=match T[i]? with
 | some x=>x.1.length/x.2
 | none=>0
def TV.inst(T:FA)(a:Nat->Nat):TV->WJ
 | .v x=>x
 | .s i=>.slice (some ⟨a i,0,none⟩) (T.n i) (T.n i)
def TV.ok(n:Nat):TV->Bool
 | .v x=>bG x
 | .s i=>Nat.blt i n
def FA.ok(T:FA):Prop:=∀x∈T,0<x.2/\x.1.length=x.1.length/x.2*x.2/\x.1.length/x.2<=9223372036854775807/\x.1.all (TV.ok T.length)=true
def FA.bX(T:FA)(a:Nat->Nat):XB Xs:=T.map fun x=>.cells (x.1.map (TV.inst T a)) (.more x.2)
def ml(k:Blk)(sz len:Nat):Blk:=match k.more with
 | none=>⟨k.c,some (sz,len,len)⟩
 | some _=>k
def mn(k:Blk)(sz len:Nat):(ml k sz len).c=k.c:=by unfold ml; split<;>rfl
def Jp{k:Blk}{sz n:Nat}{tag:Tag}(ht:tag=.own\/tag=.more sz)(hsz:0<sz)(hn:n<=9223372036854775807){c:XD WJ}{fz:Nat×Nat}(h:pB k tag (n*sz) c fz):pB (ml k sz (n*sz)) (.more sz) (n*sz) c fz:=by
 rcases ht with rfl|rfl
 obtain⟨t1,t2,rfl⟩:k.more=none/\c.size=n*sz/\fz=(0,0):=h;unfold ml;rw[t1];refine⟨by rw[t2],by rw[t2]; exact Ua _,rfl,hsz,?_⟩
 unfold oB;rw[t2,Uo]; exact Vb _ hn
 have:k.more=some (sz,n*sz,c.size):=h.1;unfold ml;rw[this]; exact h
section
variable{E:Env}{j j1:aL}{m m1:Xq}{w w1:WO}
def TV.move{T:FA}(hT:T.ok){j1 j2:aL}{a a2:Nat->Nat}{tg:Nat->Tag}{cf:Nat->XD WJ ×(Nat×Nat)}(hj:∀i x,T[i]? = some x->∃k,j1 (a i)=some k/\j2 (a2 i)=some (ml k x.2 x.1.length)/\(tg i=.own\/tg i=.more x.2)/\pB k (tg i) x.1.length (cf i).1 (cf i).2){x:TV}(hx:x.ok T.length=true){v':WJ}(h:VR j1 (x.inst T a) v'):VR j2 (x.inst T a2) v':=by
 cases x with
 | v x =>
  exact VR.mX hx h
 | s i =>
  have hi:i<T.length:=Ul hx;have e:=T6 hi;generalize T[i]=y at e;obtain⟨k,h1,h2,h3,h4⟩:=hj i y e;obtain⟨o1,o2,o3,o4⟩:=hT y (Ur e);have en:T.n i=y.1.length/y.2:=by unfold FA.n; rw[e]
  have h:VR j1 (.slice (some ⟨a i,0,none⟩) (T.n i) (T.n i)) v':=h
  show VR j2 (.slice (some ⟨a2 i,0,none⟩) (T.n i) (T.n i)) v'
  rw[en] at h ⊢;cases h with
  | slice e' hm =>
   rw[h1] at e'; cases e';have z:VR j2 (.slice (some ⟨a2 i,0,none⟩) (y.1.length/y.2) (y.1.length/y.2)) (.slice (some ⟨(ml k y.2 y.1.length).c,0,none⟩) (y.1.length/y.2) (y.1.length/y.2)) :=
    .sliceM h2 (by unfold ml; rw[hm]) (by rw[UZ]; exact o2.symm) (by rw[UZ]; exact o2.symm) (Ua _) (Ua _)
   rwa[mn] at z
  | sliceM e' hm a1 a2 hl hc =>
   rw[h1] at e'; cases e';have:ml k y.2 y.1.length=k:=by unfold ml; rw[hm]
   rw[this] at h2;exact .sliceM h2 hm a1 a2 hl hc
end
namespace W
end W
end
section
open Go
attribute [local irreducible] Tm.at Trie.set Trie.get Xq.get Xq.set Xq.alloc Xq.ww Xq.kill
section
variable{E:Env}{n:Nat}{ops:XD Oper}{K K':Tm->Xq->Prop}{t:Tm}{m:Xq}
def fg(E:Env)(n:Nat)(ops:XD Oper)(K:Tm->Xq->Prop)(os:XB Oper)(t:Tm)(m:Xq):Prop :=
 ∀(i:Nat) (F:Fence) (j0:aL) (m0:Xq) (w0:WO) (ds:XB Deferred) (Q:Exit->Act->WO->Prop) (j:aL) (w:WO) (a:Act),j6 F->MR E j0 m0 w0->ops.toList.drop i=os->Sim E j0 m0 w0 j m w->TR n j t a.tmps->a.defers=ds ->
  (∀t' m' j' w' a',K t' m'->Sim E j0 m0 w0 j' m' w'->TR n j' t' a'.tmps->a'.defers=ds->Q .normal a' w')->wpOpsIn F 0 E.P ops Q (List.range' i (ops.size-i)) a w
def fg.nil(h:K t m):fg E n ops K [] t m:=fun i F j0 m0 w0 ds Q j w a hF h0 hd s ht hds hQ=>by
 have hlen:ops.size<=i:=by
  have:=VB List.length hd;simp at this; omega
 rw[show ops.size-i=0 by omega]
 exact hQ t m j w a h s ht hds
def mV{os:XB Oper}{o:Oper}{i:Nat}(hd:ops.toList.drop i=o::os):ops[i]? = some o/\ops.toList.drop (i+1)=os/\List.range' i (ops.size-i)=i::List.range' (i+1) (ops.size-(i+1)):=by
 have hlt:i<ops.size:=by
  have:=VB List.length hd;simp at this; omega
 refine⟨by have:=VB (·[0]?) hd; simpa [Vr] using this,by rw[<-Wf,hd]; rfl,?_⟩
 rw[show ops.size-i=(ops.size-(i+1))+1 by omega]; rfl
def fg.op(hE:EnvOk E){o:Oper}{os:XB Oper}(hw:aX ops o t=true)(h:jm E t m o.op fun v m'=>∃t',gz n t o.dst v=some t'/\fg E n ops K os t' m'):fg E n ops K (o::os) t m:=fun i F j0 m0 w0 ds Q j w a hF h0 hd s ht hds hQ=>by
 obtain⟨ho,hd',hidx⟩:=mV hd;obtain⟨v,m',⟨k,he⟩,t',hp,hk⟩:=h;rw[hidx];simp only[wpOpsIn,ho,j5 ht];rw[Ui hw];refine wZ (km hE k) s.mr ht he hF ?_;rintro v' w' ⟨j',s',hv⟩;exact hk (i+1) F j0 m0 w0 ds Q j' w' _ hF h0 hd' (s.trans h0 s') ((ht.mono s'.le).put hv hp) (by cases hds':o.dst<;>simp[Act.put,hds]) hQ
def fg.not{o:Oper}{os:XB Oper}(hw:aX ops o t=false){t':Tm}(hp:gz n t o.dst undef=some t')(h:fg E n ops K os t' m):fg E n ops K (o::os) t m:=fun i F j0 m0 w0 ds Q j w a hF h0 hd s ht hds hQ=>by
 obtain⟨ho,hd',hidx⟩:=mV hd;rw[hidx];simp only[wpOpsIn,ho,j5 ht];rw[Uk (by rw[hw]; exact VE)]
 exact⟨fun f _=>hF.fn f,h (i+1) F j0 m0 w0 ds Q j w _ hF h0 hd' s (ht.put (VR.undef j) hp) (by cases hds':o.dst<;>simp[Act.put,hds]) hQ⟩
def fg.RS{o:Oper}{os:XB Oper}{c:Call}{fv:WM}{g:XI}{vs:XB WJ}{R:WJ->Xq->Prop}(hw:aX ops o t=true)(hop:o.op=.call c)(hc:c.callee=.value fv)(hf:aq E t fv=some (.func (.func g) #[] #[]))(ha:bu E t c.args.toList=some vs)(h:W.nC E g vs m R)(hk:∀v m',R v m'->∃t',gz n t o.dst v=some t'/\fg E n ops K os t' m'):fg E n ops K (o::os) t m:=fun i F j0 m0 w0 ds Q j w a hF h0 hd s ht hds hQ=>by
 obtain⟨ho,hd',hidx⟩:=mV hd;rw[hidx];simp only[wpOpsIn,ho,j5 ht];rw[Ui hw];have hfv:=aJ s.mr ht hf;generalize hfe:a.eval fv=fv' at hfv;cases hfv with
 | func h1 h2 h3 h4 =>
  rename_i ys ds';have ey:ys=#[]:=V7 h1.symm;have ed:ds'=#[]:=V7 h3.symm;subst ey ed;have hl:LR j vs (c.args.toList.map a.eval):=eF s.mr ht ha;have hcs:=h j w _ s.mr hl;have harr:(c.args.toList.map a.eval).toArray=#[]++c.args.map a.eval++#[]:=by apply U4.1; simp
  rw[harr] at hcs;have hexec:execOp a.eval o=(do let d <-resolve a.eval c o.type; invoke d.target d.args):=by simp only[execOp,hop]
  have hrun:(execOp a.eval o).run E.P w=(callFunc g (#[]++c.args.map a.eval++#[])).run E.P w:=by
   rw[hexec];simp only[resolve,hc,hfe,Deferred.ofValue,XF,XG,XE,invoke]
  refine Does.wpIn hF (fun c' e=>by rw[hop] at e; cases e) (G:=fun v' w'=>∃v1 m1,R v1 m1/\fH E j m w v1 m1 v' w') ?_ ?_
  rcases hcs with⟨hr,hci⟩|⟨_,v',w',hr,hq⟩
  exact .inr (.inl ⟨_,_,hrun.trans hr,hci⟩)
  exact .inl ⟨v',w',.inl (hrun.trans hr),hq⟩
  rintro v' w' ⟨v1,m1,hR,j',s',hv⟩;obtain⟨t',hp,hk⟩:=hk v1 m1 hR;exact hk (i+1) F j0 m0 w0 ds Q j' w' _ hF h0 hd' (s.trans h0 s') ((ht.mono s'.le).put hv hp) (by cases hds':o.dst<;>simp[Act.put,hds]) hQ
def fg.pre(hE:EnvOk E){post:XB Oper}:∀{os:XB Oper} {t:Tm} {m:Xq},ji E n ops (fun t m=>fg E n ops K post t m) os t m->fg E n ops K (os++post) t m
 | [],t,m,h=>h
 | o::os,t,m,h=>by
  simp only[ji] at h
  split at h
  rename_i hw;obtain⟨v,m1,h1,t1,hp,h2⟩:=h;exact fg.op hE hw ⟨v,m1,h1,t1,hp,fg.pre hE h2⟩
  rename_i hw;obtain⟨t1,hp,h2⟩:=h;exact fg.not (Bool.eq_false_iff.2 hw) hp (fg.pre hE h2)
def fg.of(hE:EnvOk E){os:XB Oper}(h:ji E n ops K os t m):fg E n ops K os t m:=by
 have:∀(os:XB Oper) (t:Tm) (m:Xq),ji E n ops K os t m->ji E n ops (fun t m=>fg E n ops K [] t m) os t m:=by
  intro os
  induction os with
  | nil=>intro t m h; exact fg.nil h
  | cons o os ih =>
   intro t m h;simp only[ji] at h ⊢
   split at h
   rename_i hw;obtain⟨v,m1,h1,t1,hp,h2⟩:=h;rw[Ui hw];exact⟨v,m1,h1,t1,hp,ih _ _ h2⟩
   rename_i hw;obtain⟨t1,hp,h2⟩:=h;rw[Uk hw];exact⟨t1,hp,ih _ _ h2⟩
 have:=fg.pre hE (this os t m h);rwa[Vc] at this
variable{fn:XI}{ro:XA Nat}{Q:Xr->Tm->Xq->Prop}
def db.region{id:Nat}(h:fg E n ops (Q .normal) ops.toList t m):db E n fn ro (.region id ops false) Q t m:=fun j w a F N hm ht hro hd hN=>by
 refine wpIn_region ?_;have:=h 0 F j m w a.defers (fun e' a' w'=>∃e t' m',Q e t' m'/\k8 E j m w N n e t' m' e' a' w') j w a hro.wide hm rfl (.refl hm) ht rfl fun t' m' j' w' a' hq s ht' hds=>⟨.normal,t',m',hq,rfl,j',s,ht',by rw[hds]; exact hd.GX hm s⟩
 rwa[V8,<-List.range_eq_range'] at this
def db.cond{x:WM}{c:Bool}{a b:Code}(hx:aq E t x=some (.bool c))(ht:c=true->db E n fn ro a Q t m)(hf:c=false->db E n fn ro b Q t m):db E n fn ro (.cond x a b) Q t m:=fun j w a' F N hm ht' hro hd hN=>by
 have hv:=aJ hm ht' hx;generalize hfe:a'.eval x=v at hv;cases hv;cases c with
 | true=>exact wpIn_cond_true hfe (ht rfl j w a' F N hm ht' hro hd hN)
 | false=>exact wpIn_cond_false hfe (hf rfl j w a' F N hm ht' hro hd hN)
namespace W
section
variable{m0:Xq}{fs:Fs}{ps:XB Pc}{os:XB Oper}{a b:Code}
def Vn(E:Env)(n:Nat)(ops:XD Oper)(K:Tm->Xq->Prop)(os:XB Oper)(m0:Xq)(fs:Fs)(ps:XB Pc):Prop:=∀t m,Fr t fs->Hp m0 m ps->fg E n ops K os t m
def Vn.of(hE:EnvOk E)(h:Wo false E n ops K os m0 fs ps):Vn E n ops K os m0 fs ps:=fun t m hf hm=>.of hE (jR (h t m hf hm))
def Vn.pre(hE:EnvOk E){post:XB Oper}(h:Wo false E n ops (fun t m=>fg E n ops K post t m) os m0 fs ps):Vn E n ops K (os++post) m0 fs ps:=fun t m hf hm=>.pre hE (jR (h t m hf hm))
def Wo.SB{dr:Bool}{K:Tm->Xq->Prop}{post:XB Oper}(h:Vn E n ops K post m0 fs ps):Wo false E n ops (fun t m=>fg E n ops K post t m) [] m0 fs ps:=fun t m hf hm=>h t m hf hm
def Vk.region{id:Nat}(h:Vn E n ops (Q .normal) ops.toList m0 fs ps):Vk E n fn ro (.region id ops false) Q m0 fs ps:=fun t m hf hm=>.region (h t m hf hm)
def Vk.Gx(h:Vk E n fn ro a (mg (db E n fn ro b Q) Q) m0 fs ps):Vk E n fn ro (.seq a b) Q m0 fs ps:=fun t m hf hm=>.Gx (h t m hf hm)
end
end W
end
end
end Go.Ab
namespace Go.Ab.W
open Go Go.Ab
attribute [local irreducible] Tm.at Trie.set Trie.get Xq.get Xq.set Xq.alloc Xq.ww Xq.kill
abbrev Sn:=Int×Int×Int×Int×Int×Int×Int×Int×Int×Int×Int×Int
def P5:Sn->XB Int
 |(a,b,c,d,e,f,g,h,i,j,k,l)=>[a,b,c,d,e,f,g,h,i,j,k,l]
def Lr{p q:Sn}(h:P5 p=P5 q):p=q:=by
 obtain⟨a,b,c,d,e,f,g,i,j,k,l,m⟩:=p;obtain⟨a',b',c',d',e',f',g',i',j',k',l',m'⟩:=q;simp only[P5,List.cons.injEq,and_true] at h;obtain⟨h1,h2,h3,h4,h5,h6,h7,h8,h9,h10,h11,h12⟩:=h;subst h1 h2 h3 h4 h5 h6 h7 h8 h9 h10 h11 h12; rfl
instance:DecidableEq Sn:=fun p q=>decidable_of_iff (P5 p=P5 q) ⟨Lr,VB P5⟩
variable{E:Env}{m0:Xq}{fs:Fs}{ps:XB Pc}{ty:WK}
end Go.Ab.W
namespace Go.Ab
open Go
open Go.ChangeMaps (setBlock)
section
variable{E:Env}{n:Nat}{fn:XI}{ro:XA Nat}
def db.GL(hE:EnvOk E)(hmono:¬E.mono){B B' i1 i2 i3:Nat}{o1 o2 oN oX oE:Oper}{rest:XB Oper}{ops3:XD Oper}{X:Code}{d1 d2 e1 e2 f1:Tmp}{mt kt et:WK}
  (h1:o1.dst=some d1/\o1.guard=none) (h2:o2.op=.range mt (.tmp d1)/\o2.dst=some d2/\o2.guard=none) (hmt:E.P.underlying mt=some (.map kt et))
  (hN:oN.op=.next (.tmp d2) false/\oN.dst=some e1/\oN.guard=none) (hX:oX.op=.extract (.tmp e1) 0/\oX.dst=some e2/\oX.guard=none) (hOE:oE.op=.entry (.tmp d2)/\oE.dst=some f1/\oE.guard=none) (h3:ops3.toList=oE::rest)
  (hb:d1<n/\d2<n/\e1<n/\e2<n/\f1<n) (h7:e1≠d2) (h8:e2≠d2) (h9:f1≠d2)
  {Q:Xr->Tm->Xq->Prop} {t:Tm} {m:Xq} {bm:Nat} {es:XB (WJ×WJ)} (hld:cQ E t m o1.op=some (.map (some bm),m)) (hbm:m.get bm=some (.map es)) {lim:Nat} (hbl:bm<lim) (hlim:lim<=m.next)
  (Inv:XB Nat->Tm->Xq->Prop) (hExt:∀S t' m',Inv S t' m'->m'.get bm=some (.map es)/\lim<=m'.wl/\t'.at d2=ptr m.next 0)
  (hinit:Inv [] ((t.set d1 (.map (some bm))).set d2 (ptr m.next 0)) (nE m))
  (hstep:∀S i e t m,S.Nodup->(∀i∈S,i<es.length)->i∉S->es[i]? = some e->Inv S t m->ji E n ops3 (fun t' m'=>bD E n fn ro X (fun e' t'' m''=>e'=.normal/\Inv (S++[i]) t'' m'') t' m') rest (((t.set e1 (.tuple #[.bool true,e.1,e.2])).set e2 (.bool true)).set f1 (.tuple #[e.1,e.2])) m)
  (hend:∀S t' m',S.Perm (List.range es.length)->Inv S t' m'->Q .normal ((t'.set e1 (.tuple #[.bool false])).set e2 (.bool false)) (m'.ww (min m.wl m'.wl))) :
  db E n fn ro (.seq (.region i1 #[o1,o2] false) (.block B (.loop (.seq (.region i2 #[oN,oX] false) (.seq (.cond (.tmp e2) .skip (.exit B)) (.block B' (.seq (.region i3 ops3 false) X))))))) Q t m:=fun j w a F N hm ht hro hmk hNw=>by
 refine wpIn_seq (wpIn_region ?_);have hlist:List.range (#[o1,o2]:XD Oper).size=[0,1]:=rfl;rw[hlist];have w0':Region.wanted o1 (yielded #[o1,o2] a.tmps)=true:=by simp[Region.wanted,h1.2]
 have g0:(#[o1,o2]:XD Oper)[0]? = some o1:=rfl;have g1:(#[o1,o2]:XD Oper)[1]? = some o2:=rfl;simp only[wpOpsIn,g0,g1,w0',if_true];obtain⟨j1,w1,v0,q0,s1,q1⟩:=Iu hm ht (o:=o1) hld;refine dc hro.wide (mu hld) q0 ?_;cases q1 with
 | map hj =>
 rename_i kb;obtain⟨oo,hh,hor⟩:=s1.mr.obj bm _ kb hbm hj;cases oo with
 | map ents clock =>
  have h0:=(ht.mono s1.le).put (t':=t.set d1 (.map (some bm))) (dst:=o1.dst) (VR.map hj) (by rw[h1.1,cK,Ui hb.1])
  rw[h1.1] at h0 ⊢;have w1':Region.wanted o2 (yielded #[o1,o2] (a.put (some d1) (.map (some kb.c))).tmps)=true:=by simp[Region.wanted,h2.2.2]
  rw[Ui w1'];have hsz:a.tmps.size=n:=ht.1;have h10:execOp (a.put (some d1) (.map (some kb.c))).eval o2=(do pure (.value (<-Instr.range mt (.map (some kb.c))))):=by
   simp only[execOp,h2.1];rw[eval_put (v:=.map (some kb.c)) (d:=d1) (a:=a) (hsz.symm▸hb.1)]
  have hd2':∀c,o2.op≠.defer c:=fun c e=>by rw[h2.1] at e; cases e
  refine dc hro.wide hd2' (by rw[h10]; exact kg.value (run_range_map w1 mt kt et kb.c ents clock hmt hh)) ?_
  have s2:=Ju s1.mr (.mapIter (some kb.c) clock #[] clock);have h5:(j1.set m.next ⟨w1.heap.size,none⟩) m.next=some ⟨w1.heap.size,none⟩:=aL.cm _ _ _
  have h6:=(h0.mono s2.le).put (t':=(t.set d1 (.map (some bm))).set d2 (ptr m.next 0)) (dst:=o2.dst) (v:=ptr m.next 0) (v':=.pointer (some ⟨w1.heap.size,0,none⟩)) (VR.ptr h5) (by rw[h2.2.1,cK,Ui hb.2.1])
  rw[h2.2.1] at h6 ⊢;have m3:Marks N (w1.alloc (.mapIter (some kb.c) clock #[] clock)) a.defers:=(hmk.GX hm s1).GX (s1.mr.RD (m.next+1)) s2
  have hsize:w1.heap.size<(w1.alloc (.mapIter (some kb.c) clock #[] clock)).heap.size:=by rw[World.size_alloc]; omega
  have hcl:kb.c<w1.heap.size:=(Ut.1 hh).1;have hit:Qp (w1.alloc (.mapIter (some kb.c) clock #[] clock)) w1.heap.size kb.c ents clock [] (leftOf ents #[]).size :=
   ⟨clock,#[],clock,by show(w1.heap.push _)[w1.heap.size]? = _; simp,by show(w1.heap.push _)[kb.c]? = _; rw[Wi,WU]; exact hh,hor.2.1,Ua _,Ua _,fun i x hx=>by simp,rfl⟩
  refine wpIn_block (lS ?_);have hL:=IT (fn:=fn) (B:=B) (B':=B') (i2:=i2) (i3:=i3) (X:=X) hE hmono hN hX hOE h3 hb.2.2.1 hb.2.2.2.1 hb.2.2.2.2 h7 h8 h9 (s1.mr.RD (m.next+1)) (bm:=bm) (bi:=m.next) (es:=es) (lim:=lim) (by rw[Xq.get_ww]; exact hbm) hbl Inv hExt hstep (Ua _) (kb:=kb) (ents:=ents) (clock:=clock) hor.2 a.defers N _ [] _ _ (nE m) _ _ (((a.put (some d1) (.map (some kb.c))).put (some d2) (.pointer (some ⟨w1.heap.size,0,none⟩)))) F (Vp _) List.nodup_nil (fun i h=>by cases h) hinit s2 h6 ((hro.mono s1.le).mono s2.le) m3 (by have:=s1.size; omega) h5 (s2.le _ _ hj) (hor.1.mono s2.le) hit
  intro bF k cs h11 h12 h13;obtain⟨e',a',w',⟨S,t',m',hS,hI,hq⟩,harr⟩:=hL bF k cs h11 h12 h13;obtain⟨rfl,jf,sf,tf,mf⟩:=hq;refine⟨_,a',w',?_,harr⟩
  show Exit.inBlock B _ (.exit B) a' w'
  simp only[Exit.inBlock,if_true];exact⟨.normal,_,_,hend S t' m' hS hI,rfl,jf,s1.trans hm (OF sf),tf,mf⟩
 | _=>exact hor.elim
end
def db.block{E:Env}{n:Nat}{fn:XI}{ro:XA Nat}{Q:Xr->Tm->Xq->Prop}{t:Tm}{m:Xq}{id:Nat}{c:Code}(h:db E n fn ro c (ee id Q) t m):db E n fn ro (.block id c) Q t m:=fun j w a F N hm ht hro hd hN=>by
 refine wpIn_block (wpIn_mono (h j w a F N hm ht hro hd hN) ?_);rintro e' a' w' ⟨e,t',m',q,hc⟩;obtain⟨rfl,hc⟩:=hc;cases e with
 | normal=>exact⟨.normal,t',m',q,rfl,hc⟩
 | ret=>exact⟨.ret,t',m',q,rfl,hc⟩
 | exit k =>
  simp only[ee] at q
  show Exit.inBlock id _ (.exit k) a' w'
  simp only[Exit.inBlock]
  split at q
  rename_i e; rw[Ui e]; exact⟨.normal,t',m',q,rfl,hc⟩
  rename_i e; rw[Uk e]; exact⟨.exit k,t',m',q,rfl,hc⟩
structure FunN where
 run:XB WJ->Xq->(WJ->Xq->Bool)->Bool
def Qb(E:Env)(ND:XI->XA FunN):Prop:=∀{g:XI} {S:FunN},ND g=some S->∀{args:XB WJ} {m:Xq} {K:WJ->Xq->Bool},S.run args m K=true->W.nC E g args m fun v m'=>K v m'=true
def sB(ND:XI->XA FunN)(o:Op):XA (FunN×XB WM) :=
 match o with
 | .call c=>match c.callee with
  | .value (.func g)=>match ND g with
   | some S=>some (S,c.args.toList)
   | none=>none
  | _=>none
 | _=>none
def xf{ND:XI->XA FunN}{o:Op}{S:FunN}{ars:XB WM}(h:sB ND o=some (S,ars)):∃c g,o=.call c/\c.callee=.value (.func g)/\ND g=some S/\c.args.toList=ars:=by
 unfold sB at h
 split at h
 rename_i c
 split at h
 rename_i g hc
 split at h
 rename_i S' hS;cases h;exact⟨c,g,rfl,hc,hS,rfl⟩
 cases h
 cases h
 cases h
noncomputable def BZ (E:Env) (n:Nat) (ops:XD Oper) (ND:XI->XA FunN):XB Oper->RegSem
 | []=>⟨fun _ t m K=>K t m⟩
 | o::os=>match o.guard with
  | none=>match sB ND o.op with
   | some (S,ars)=>⟨fun H t m K=>(vH E ars).run t fun args=>S.run args m fun v m=>(kJ n o.dst).run t v fun t=>(BZ E n ops ND os).run H t m K⟩
   | none=>⟨fun H t m K=>(np E o.op).run H t m fun v m=>(kJ n o.dst).run t v fun t=>(BZ E n ops ND os).run H t m K⟩
  | some _=>⟨fun H t m K=>(oG ops o).run t ((np E o.op).run H t m fun v m=>(kJ n o.dst).run t v fun t=>(BZ E n ops ND os).run H t m K) ((kJ n o.dst).run t undef fun t=>(BZ E n ops ND os).run H t m K)⟩
def pA{E:Env}(hE:EnvOk E){H:Hand}(hH:CK E H){ND:XI->XA FunN}(hN:Qb E ND){n:Nat}{ops:XD Oper}{K:Tm->Xq->Bool}:∀{os:XB Oper} {t:Tm} {m:Xq},(BZ E n ops ND os).run H t m K=true->fg E n ops (fun t m=>K t m=true) os t m
 | [],t,m,h=>.nil h
 | o::os,t,m,h=>by
  unfold BZ at h
  split at h
  rename_i hg;have hw:aX ops o t=true:=by simp only[aX,hg]
  split at h
  rename_i S ars hc;obtain⟨c,g,h1,h2,h3,rfl⟩:=xf hc;obtain⟨args,h4,h5⟩:=lX h;refine .RS hw h1 h2 rfl h4 (hN h3 h5) fun v m' hv=>?_;obtain⟨t',hp,h⟩:=fj hv;exact⟨t',hp,pA hE hH hN h⟩
  refine .op hE hw ((jU hH h).mono fun v m' h=>?_);obtain⟨t',hp,h⟩:=fj h;exact⟨t',hp,pA hE hH hN h⟩
  rcases jO h with⟨hw,h⟩|⟨hw,h⟩
  refine .op hE hw ((jU hH h).mono fun v m' h=>?_);obtain⟨t',hp,h⟩:=fj h;exact⟨t',hp,pA hE hH hN h⟩
  obtain⟨t',hp,h⟩:=fj h;exact .not hw hp (pA hE hH hN h)
structure RangeD where
 i1:Nat
 o1:Oper
 o2:Oper
 B:Nat
 i2:Nat
 oN:Oper
 oX:Oper
 B':Nat
 i3:Nat
 oE:Oper
 rest:XB Oper
 ops3:XD Oper
 X:Code
 d1:Tmp
 d2:Tmp
 e1:Tmp
 e2:Tmp
 f1:Tmp
 mt:WK
 kt:WK
 et:WK
def RangeD.code(d:RangeD):Code:=.seq (.region d.i1 #[d.o1,d.o2] false) (.block d.B (.loop (.seq (.region d.i2 #[d.oN,d.oX] false) (.seq (.cond (.tmp d.e2) .skip (.exit d.B)) (.block d.B' (.seq (.region d.i3 d.ops3 false) d.X))))))
structure RangeD.Ok(E:Env)(n:Nat)(d:RangeD):Prop where
 h1:d.o1.dst=some d.d1/\d.o1.guard=none
 h2:d.o2.op=.range d.mt (.tmp d.d1)/\d.o2.dst=some d.d2/\d.o2.guard=none
 hmt:E.P.underlying d.mt=some (.map d.kt d.et)
 hN:d.oN.op=.next (.tmp d.d2) false/\d.oN.dst=some d.e1/\d.oN.guard=none
 hX:d.oX.op=.extract (.tmp d.e1) 0/\d.oX.dst=some d.e2/\d.oX.guard=none
 hOE:d.oE.op=.entry (.tmp d.d2)/\d.oE.dst=some d.f1/\d.oE.guard=none
 h3:d.ops3.toList=d.oE::d.rest
 hb:d.d1<n/\d.d2<n/\d.e1<n/\d.e2<n/\d.f1<n
 hd:d.e1≠d.d2/\d.e2≠d.d2/\d.f1≠d.d2
def JW(o:Oper):XA (WK×Tmp×Tmp) :=
 match o.guard,o.dst,o.op with
 | none,some d,.range mt (.tmp x)=>some (mt,x,d)
 | _,_,_=>none
def BR{o:Oper}{mt:WK}{x d:Tmp}(h:JW o=some (mt,x,d)):o.op=.range mt (.tmp x)/\o.dst=some d/\o.guard=none:=by
 unfold JW at h
 split at h
 rename_i a b c; cases h; exact⟨c,b,a⟩
 cases h
def C4(o:Oper):XA (Tmp×Tmp) :=
 match o.guard,o.dst,o.op with
 | none,some d,.next (.tmp x) false=>some (x,d)
 | _,_,_=>none
def Bm{o:Oper}{x d:Tmp}(h:C4 o=some (x,d)):o.op=.next (.tmp x) false/\o.dst=some d/\o.guard=none:=by
 unfold C4 at h
 split at h
 rename_i a b c; cases h; exact⟨c,b,a⟩
 cases h
def Ck(o:Oper):XA (Tmp×Tmp) :=
 match o.guard,o.dst,o.op with
 | none,some d,.extract (.tmp x) 0=>some (x,d)
 | _,_,_=>none
def Bo{o:Oper}{x d:Tmp}(h:Ck o=some (x,d)):o.op=.extract (.tmp x) 0/\o.dst=some d/\o.guard=none:=by
 unfold Ck at h
 split at h
 rename_i a b c; cases h; exact⟨c,b,a⟩
 cases h
def JT(o:Oper):XA (Tmp×Tmp) :=
 match o.guard,o.dst,o.op with
 | none,some d,.entry (.tmp x)=>some (x,d)
 | _,_,_=>none
def BI{o:Oper}{x d:Tmp}(h:JT o=some (x,d)):o.op=.entry (.tmp x)/\o.dst=some d/\o.guard=none:=by
 unfold JT at h
 split at h
 rename_i a b c; cases h; exact⟨c,b,a⟩
 cases h
def Hj(o:Oper):XA Tmp :=
 match o.guard,o.dst with
 | none,some d=>some d
 | _,_=>none
def CH{o:Oper}{d:Tmp}(h:Hj o=some d):o.dst=some d/\o.guard=none:=by
 unfold Hj at h
 split at h
 rename_i a b; cases h; exact⟨b,a⟩
 cases h
def oh(E:Env)(n:Nat)(i1:Nat)(a1:XD Oper)(B i2:Nat)(a2:XD Oper)(e2 B2 B' i3:Nat)(a3:XD Oper)(X:Code):XA RangeD :=
 match a1.toList,a2.toList,a3.toList with
 | [o1,o2],[oN,oX],oE::rest =>
  match Hj o1,JW o2,C4 oN,Ck oX,JT oE with
  | some d1,some (mt,d1',d2),some (d2',e1),some (e1',e2'),some (d2'',f1) =>
   match E.P.underlying mt with
   | some (.map kt et)=>if B2=B/\d1'=d1/\d2'=d2/\e1'=e1/\e2'=e2/\d2''=d2/\(d1<n/\d2<n/\e1<n/\e2<n/\f1<n)/\(e1≠d2/\e2≠d2/\f1≠d2) then some ⟨i1,o1,o2,B,i2,oN,oX,B',i3,oE,rest,a3,X,d1,d2,e1,e2,f1,mt,kt,et⟩ else none
   | _=>none
  | _,_,_,_,_=>none
 | _,_,_=>none
def rv{E:Env}{n i1 B i2 e2 B2 B' i3:Nat}{a1 a2 a3:XD Oper}{X:Code}{d:RangeD}(h:oh E n i1 a1 B i2 a2 e2 B2 B' i3 a3 X=some d) :
  .seq (.region i1 a1 false) (.block B (.loop (.seq (.region i2 a2 false) (.seq (.cond (.tmp e2) .skip (.exit B2)) (.block B' (.seq (.region i3 a3 false) X))))))=d.code/\d.Ok E n:=by
 unfold oh at h
 split at h
 rename_i o1 o2 oN oX oE rest q1 q2 q3
 split at h
 rename_i d1 mt d1' d2 d2' e1 e1' e2' d2'' f1 r1 r2 r3 r4 r5
 split at h
 rename_i kt et hu
 split at h
 rename_i hc;obtain⟨rfl,rfl,rfl,rfl,rfl,rfl,hb,hd⟩:=hc;cases h;refine⟨?_,CH r1,BR r2,hu,Bm r3,Bo r4,BI r5,q3,hb,hd⟩;have e1:a1=#[o1,o2]:=U4.1 q1;have e2:a2=#[oN,oX]:=U4.1 q2;rw[e1,e2]; rfl
 cases h
 cases h
 cases h
 cases h
def xm(E:Env)(n:Nat):Code->XA RangeD
 | .seq (.region i1 a1 false) (.block B (.loop (.seq (.region i2 a2 false) (.seq (.cond (.tmp e2) .skip (.exit B2)) (.block B' (.seq (.region i3 a3 false) X))))))=>oh E n i1 a1 B i2 a2 e2 B2 B' i3 a3 X
 | _=>none
def zw{E:Env}{n:Nat}{c:Code}{d:RangeD}(h:xm E n c=some d):c=d.code/\d.Ok E n:=by
 unfold xm at h
 split at h
 exact rv h
 cases h
structure SrcSem where
 run:Tm->Xq->(WJ->Bool)->Bool
noncomputable def N5 (E:Env) (o:Op):SrcSem :=
 match o with
 | .move x=>⟨fun t _ K=>(dg E x).run t K⟩
 | .load ty a=>⟨fun t m K=>(dg E a).run t fun p=>(AH E.P ty).run p m K⟩
 | _=>⟨fun _ _ _=>false⟩
def LX{E:Env}{o:Op}{t:Tm}{m:Xq}{K:WJ->Bool}(h:(N5 E o).run t m K=true):∃v,cQ E t m o=some (v,m)/\K v=true:=by
 unfold N5 at h
 split at h
 obtain⟨v,h1,h2⟩:=aW h;exact⟨v,by simp only[cQ,h1,Uh],h2⟩
 obtain⟨p,h1,h2⟩:=aW h;obtain⟨v,h3,h4⟩:=tN h2;exact⟨v,by simp only[cQ,h1,h3,Uh],h4⟩
 cases h
def vB:WJ->WJ->Bool
 | .agg a,.agg b=>qV a.toList b.toList
 | .tuple a,.tuple b=>qV a.toList b.toList
 | .string a,.string b=>decide (a=b)
 | v,u=>wP v u
def oV:∀{v u:WJ},vB v u=true->v=u:=by
 intro v u h;unfold vB at h
 split at h
 rw[U4.1 (jL h)]
 rw[U4.1 (jL h)]
 rw[of_decide_eq_true h]
 exact pH h
def uC:XB WJ->XB WJ->Bool
 | [],[]=>true
 | v::vs,u::us=>vB v u&&uC vs us
 | _,_=>false
def p6:∀{v u:XB WJ},uC v u=true->v=u
 | [],[],_=>rfl
 | v::vs,u::us,h=>by
  simp only[uC,T7] at h;rw[oV h.1,p6 h.2]
 | [],_::_,h=>by cases h
 | _::_,[],h=>by cases h
def DT:XB (WJ×WJ)->XB (WJ×WJ)->Bool
 | [],[]=>true
 | v::vs,u::us=>vB v.1 u.1&&vB v.2 u.2&&DT vs us
 | _,_=>false
def Av:∀{v u:XB (WJ×WJ)},DT v u=true->v=u
 | [],[],_=>rfl
 |(a,b)::vs,(c,d)::us,h=>by
  simp only[DT,T7] at h;rw[show a=c from oV h.1.1,show b=d from oV h.1.2,Av h.2]
 | [],_::_,h=>by cases h
 | _::_,[],h=>by cases h
def zk(o:XA Xs)(es:XB (WJ×WJ)):Bool :=
 match o with
 | some (.map es')=>DT es' es
 | _=>false
def zS{o:XA Xs}{es:XB (WJ×WJ)}(h:zk o es=true):o=some (.map es):=by
 unfold zk at h
 split at h
 rw[Av h]
 cases h
noncomputable def KY (es:XB (WJ×WJ)) (i:Nat) (k:WJ->WJ->Bool):Bool:=Option.rec (motive:=fun _=>Bool) false (fun e=>Prod.rec (motive:=fun _=>Bool) (fun a b=>k a b) e) es[i]?
def FC{es:XB (WJ×WJ)}{i:Nat}{k:WJ->WJ->Bool}{e:WJ×WJ}(he:es[i]? = some e)(h:KY es i k=true):k e.1 e.2=true:=by
 unfold KY at h;rw[he] at h;exact h
noncomputable def KC (l:XB Nat) (k:Nat->Bool):Bool:=List.rec (motive:=fun _=>Bool) true (fun i _ ih=>dL (k i) ih false) l
def vQ{k:Nat->Bool}:∀{l:XB Nat},KC l k=true->∀i∈l,k i=true
 | [],_,i,hi=>by cases hi
 | a::l,h,i,hi=>by
  have h':dL (k a) (KC l k) false=true:=h;obtain⟨h1,h2⟩:=aY h';rcases UC.1 hi with rfl|hi
  exact h1
  exact vQ h2 i hi
noncomputable def N6 (l:XB Nat) (a b:Bool):Bool:=List.rec (motive:=fun _=>Bool) a (fun _ _ _=>b) l
noncomputable def goN (E:Env) (n:Nat) (fn:XI) (d:RangeD) (H:Hand) (bm bi lim wl:Nat) (es:XB (WJ×WJ)) (K:Tm->Xq->Bool):Nat->XB Nat->Tm->Xq->Bool
 | 0,_,_,_=>false
 | k+1,idx,t,m=>N6 idx ((ia d.e1).run t (.tuple #[.bool false]) fun t=>(ia d.e2).run t (.bool false) fun t=>fM (m.ww (min wl m.wl)) fun m=>K t m)
  (KC idx fun i=>KY es i fun ke ve=>(ia d.e1).run t (.tuple #[.bool true,ke,ve]) fun t=>(ia d.e2).run t (.bool true) fun t=>(ia d.f1).run t (.tuple #[ke,ve]) fun t =>
   (zI E n d.ops3 d.rest).run H t m fun t m=>(iU E n fn d.X).run H none t m fun e t m=>fq e (dL (zk (m.get bm) es) (dL (Nat.ble lim m.wl) ((Jy d.d2).run t fun v=>dL (qH v (ptr bi 0)) (goN E n fn d H bm bi lim wl es K k (idx.filter fun j=>!Nat.beq j i) t m) false) false) false) (fun _=>false) false)
structure RngSem where
 run:Hand->Tm->Xq->(Tm->Xq->Bool)->Bool
noncomputable def CL (E:Env) (n:Nat) (fn:XI) (d:RangeD):RngSem :=
 match Nat.ble n 512 with
 | true=>⟨fun H t m K=>(N5 E d.o1.op).run t m fun v=>JH v fun r=>Option.rec (motive:=fun _=>Bool) false (fun bm=>dL (Nat.blt bm m.next) (GB m bm fun es =>
   fM (nE m) fun m2=>(ia d.d1).run t (.map (some bm)) fun t=>(ia d.d2).run t (ptr m.next 0) fun t=>fN es.length fun N=>goN E n fn d H bm m.next (Nat.succ bm) m.wl es K (Nat.succ N) (List.range N) t m2) false) r⟩
 | false=>⟨fun _ _ _ _=>false⟩
def Bg(N:Nat)(S:XB Nat)(i:Nat):(List.range N).filter (fun j=>!(S++[i]).contains j)=((List.range N).filter fun j=>!S.contains j).filter fun j=>!Nat.beq j i:=by
 rw[List.filter_filter];refine VB (fun p=>(List.range N).filter p) (funext fun j=>?_);rw[Bool.eq_iff_iff];simp only[U7,T7,List.contains_eq_mem,UT,UI,decide_eq_false_iff_not,not_or];have:(Nat.beq j i=false)↔¬j=i:=by
  rw[<-Bool.not_eq_true];exact not_congr ⟨Ue,fun e=>by rw[e]; exact Nat.beq_refl i⟩
 rw[this];exact And.comm
def GR {E:Env} (hE:EnvOk E) (hmono:¬E.mono) {H:Hand} (hH:CK E H) {n:Nat} {fn:XI} {d:RangeD} (hd:d.Ok E n) {t:Tm} {m:Xq} {K:Tm->Xq->Bool} (h:(CL E n fn d).run H t m K=true):db E n fn none d.code (fun e t m=>e = .normal/\K t m=true) t m:=by
 unfold CL at h
 split at h
 ·rename_i hn;have hn:=Ul hn;obtain⟨v,h1,h⟩:=LX h;obtain⟨r,rfl,h⟩:=mR h;cases r with
  | none=>cases h
  | some bm =>
   obtain⟨hbm,h⟩:=aY h;obtain⟨es,h2,h⟩:=mL h;obtain⟨b1,b2,b3,b4,b5⟩:=hd.hb;have c1:d.d1<512:=Uc b1 hn;have c2:d.d2<512:=Uc b2 hn;have c3:d.e1<512:=Uc b3 hn;have c4:d.e2<512:=Uc b4 hn;have c5:d.f1<512:=Uc b5 hn;rw[Ay,gh _ c1,gh _ c2,dj] at h;have hbl:bm<m.next:=Ul hbm
   refine db.GL hE hmono hd.h1 hd.h2 hd.hmt hd.hN hd.hX hd.hOE hd.h3 hd.hb hd.hd.1 hd.hd.2.1 hd.hd.2.2 h1 h2 (lim:=bm+1) (Vp _) hbl
    (fun S t' m'=>∃k,goN E n fn d H bm m.next (Nat.succ bm) m.wl es K k ((List.range es.length).filter fun j=>!S.contains j) t' m'=true/\m'.get bm=some (.map es)/\bm+1<=m'.wl/\t'.at d.d2=ptr m.next 0)
    (fun S t' m' hI=>by obtain⟨_,_,hI⟩:=hI; exact hI) ⟨es.length+1,?_,?_,?_,?_⟩ ?_ ?_
   have:(List.range es.length).filter (fun j=>!([]:XB Nat).contains j)=List.range es.length:=List.filter_eq_self.2 fun a _=>by simp
   rw[this]; exact h
   rw[iL,WU]; exact h2
   rw[ET]; omega
   rw[at_set,Ui rfl]
   ·intro S i e t1 m1 x1 x2 x3 x4 hI;obtain⟨k,g1,g2,g3,g4⟩:=hI;cases k with
    | zero=>cases g1
    | succ k =>
     have hi:i<es.length:=(Uq.1 x4).1;have hmem:i ∈(List.range es.length).filter fun j=>!S.contains j:=List.mem_filter.2 ⟨We.2 hi,by simp[x3]⟩
     have g1':(KC ((List.range es.length).filter fun j=>!S.contains j) fun i=>KY es i fun ke ve=>(ia d.e1).run t1 (.tuple #[.bool true,ke,ve]) fun t=>(ia d.e2).run t (.bool true) fun t=>(ia d.f1).run t (.tuple #[ke,ve]) fun t =>
   (zI E n d.ops3 d.rest).run H t m1 fun t m'=>(iU E n fn d.X).run H none t m' fun e t m'=>fq e (dL (zk (m'.get bm) es) (dL (Nat.ble (Nat.succ bm) m'.wl) ((Jy d.d2).run t fun v=>dL (qH v (ptr m.next 0)) (goN E n fn d H bm m.next (Nat.succ bm) m.wl es K k (((List.range es.length).filter fun j=>!S.contains j).filter fun j=>!Nat.beq j i) t m') false) false) false) (fun _=>false) false)=true:=by
         unfold goN at g1;cases hl:(List.range es.length).filter fun j=>!S.contains j with
         | nil=>rw[hl] at hmem; cases hmem
         | cons a l=>rw[hl] at g1; exact g1
     have g5:=FC x4 (vQ g1' i hmem);rw[gh _ c3,gh _ c4,gh _ c5] at g5;have g6:=pw hH g5;have mono:∀{os:XB Oper} {t:Tm} {m:Xq} {K K':Tm->Xq->Prop},(∀t m,K t m->K' t m)->ji E n d.ops3 K os t m->ji E n d.ops3 K' os t m:=by
      intro os
      induction os with
      | nil=>intro t m K K' hk h; exact hk _ _ h
      | cons o os ih =>
       intro t m K K' hk h;simp only[ji] at h ⊢
       split at h
       rename_i hw;obtain⟨v,m1,a1,t1,hp,a2⟩:=h;rw[Ui hw];exact⟨v,m1,a1,t1,hp,ih hk a2⟩
       rename_i hw;obtain⟨t1,hp,a2⟩:=h;rw[Uk hw];exact⟨t1,hp,ih hk a2⟩
     refine mono (fun t2 m2 h2=>?_) g6;refine(mh hH d.X h2).mono fun e t3 m3 h3=>?_;rcases cS h3 with⟨rfl,h3⟩|⟨id,rfl,h3⟩|⟨rfl,h3⟩
     obtain⟨y1,h3⟩:=aY h3;obtain⟨y2,h3⟩:=aY h3;rw[xU _ c2] at h3;obtain⟨y3,h3⟩:=aY h3;refine⟨rfl,k,?_,zS y1,Ul y2,qB y3⟩;rw[Bg]; exact h3
     cases h3
     cases h3
   ·intro S t1 m1 hS hI;obtain⟨k,g1,_⟩:=hI;have hnil:(List.range es.length).filter (fun j=>!S.contains j)=[]:=List.filter_eq_nil_iff.2 fun a ha=>by
     have:=hS.mem_iff.2 ha;simp[this]
    rw[hnil] at g1;cases k with
    | zero=>cases g1
    | succ k =>
     have g1':((ia d.e1).run t1 (.tuple #[.bool false]) fun t=>(ia d.e2).run t (.bool false) fun t=>fM (m1.ww (min m.wl m1.wl)) fun m=>K t m)=true:=g1;rw[gh _ c3,gh _ c4,Ay] at g1';exact⟨rfl,g1'⟩
 cases h
def Sz(ND:XI->XA FunN)(l:XB Oper):Bool:=l.any fun o=>(sB ND o.op).isSome
structure SemN where
 run:Hand->Tm->Xq->(Xr->Tm->Xq->Bool)->Bool
noncomputable def j8 (E:Env) (n:Nat) (fn:XI) (ND:XI->XA FunN):Code->SemN
 | .seq a b=>match xm E n a with
  | some d=>⟨fun H t m K=>(CL E n fn d).run H t m fun t m=>(j8 E n fn ND b).run H t m K⟩
  | none=>⟨fun H t m K=>(j8 E n fn ND a).run H t m fun e t m=>fq e ((j8 E n fn ND b).run H t m K) (fun id=>K (.exit id) t m) (K .ret t m)⟩
 | .cond x a b=>⟨fun H t m K=>(dg E x).run t fun v=>rp v (fun c=>dL c ((j8 E n fn ND a).run H t m K) ((j8 E n fn ND b).run H t m K)) false⟩
 | .block id a=>⟨fun H t m K=>(j8 E n fn ND a).run H t m fun e t m=>fq e (K .normal t m) (fun id'=>dL (Nat.beq id' id) (K .normal t m) (K (.exit id') t m)) (K .ret t m)⟩
 | .region i ops draw=>match draw,Sz ND ops.toList with
  | false,true=>⟨fun H t m K=>(BZ E n ops ND ops.toList).run H t m fun t m=>K .normal t m⟩
  | _,_=>⟨fun H t m K=>(Kx E n ops draw).run H t m fun t m=>K .normal t m⟩
 | c=>⟨fun H t m K=>(iU E n fn c).run H none t m K⟩
def IF{E:Env}(hE:EnvOk E)(hmono:¬E.mono){H:Hand}(hH:CK E H){ND:XI->XA FunN}(hN:Qb E ND){n:Nat}{fn:XI}:∀(c:Code) {t:Tm} {m:Xq} {K:Xr->Tm->Xq->Bool},(j8 E n fn ND c).run H t m K=true->db E n fn none c (fun e t m=>K e t m=true) t m:=by
 intro c
 induction c with
 | seq a b iha ihb =>
  intro t m K h;unfold j8 at h
  split at h
  rename_i d hd;obtain⟨rfl,hok⟩:=zw hd;refine .Gx ((GR hE hmono hH hok h).mono fun e t m h=>?_);obtain⟨rfl,h⟩:=h;exact ihb h
  refine .Gx ((iha h).mono fun e t m h=>?_);rcases cS h with⟨rfl,h⟩|⟨id,rfl,h⟩|⟨rfl,h⟩
  exact ihb h
  exact h
  exact h
 | cond x a b iha ihb =>
  intro t m K h;unfold j8 at h;obtain⟨v,h1,h⟩:=aW (x:=x) h;obtain⟨c,rfl,h⟩:=iK h;refine .cond h1 (fun hc=>?_) (fun hc=>?_)
  subst hc; exact iha h
  subst hc; exact ihb h
 | block id a ih =>
  intro t m K h;unfold j8 at h;refine .block ((ih h).mono fun e t m h=>?_);rcases cS h with⟨rfl,h⟩|⟨id',rfl,h⟩|⟨rfl,h⟩
  exact h
  simp only[ee];rcases cJ h with⟨h1,h⟩|⟨h1,h⟩
  rw[Ui (Ue h1)]; exact h
  rw[Uk (fun e=>by rw[e,Nat.beq_refl] at h1; cases h1)]; exact h
  exact h
 | region i ops draw =>
  intro t m K h;unfold j8 at h
  split at h
  exact .region (pA hE hH hN h)
  exact .of hE (Ek hH (fun t m h=>h) h)
 | _ =>
  intro t m K h;unfold j8 at h;exact .of hE (mh hH _ h)
noncomputable def pS (E:Env) (H:Hand) (ND:XI->XA FunN) (f:XI):FunN :=
 match E.P.funcs[f]? with
 | some fn=>match fn.body,Nat.ble fn.ntmps 512 with
  | some c,true=>⟨fun args m K=>dL (Nat.ble args.length fn.ntmps) (zl args 0 .nil fun t=>(j8 E fn.ntmps f ND c).run H t m fun e t m=>fq e ((Du E fn.results.toList).run t m fun vs=>Jb vs fun v=>K v m) (fun _=>false) ((Du E fn.results.toList).run t m fun vs=>Jb vs fun v=>K v m)) false⟩
  | _,_=>⟨fun _ _ _=>false⟩
 | none=>⟨fun _ _ _=>false⟩
def sK{E:Env}(hE:EnvOk E)(hmono:¬E.mono){H:Hand}(hH:CK E H){ND:XI->XA FunN}(hN:Qb E ND){f:XI}{args:XB WJ}{m:Xq}{K:WJ->Xq->Bool}(h:(pS E H ND f).run args m K=true):W.nC E f args m fun v m'=>K v m'=true:=by
 unfold pS at h
 split at h
 rename_i F hf
 split at h
 rename_i c hb hn;have g:=aY h; clear h; obtain⟨h1,h⟩:=g;have hle:=Ul h1;have hn':=Ul hn;rw[qm args 0 _ _ (by omega)] at h
 have hmax:max args.length F.ntmps=F.ntmps:=Nat.max_eq_right hle;refine W.Bu hE hf hb rfl hmax ((IF hE hmono hH hN c h).mono fun e t m h=>?_);rcases cS h with⟨rfl,h⟩|⟨id,rfl,h⟩|⟨rfl,h⟩
 obtain⟨vs,h2,h⟩:=mQ h;rw[sx] at h;rw[wW,h2,wH]; exact h
 cases h
 obtain⟨vs,h2,h⟩:=mQ h;rw[sx] at h;rw[IE,h2,wH]; exact h
 cases h
 cases h
section
variable{E:Env}{j j1:aL}{m m1:Xq}{w w1:WO}
def Sim.same(h:MR E j m w)(hold:∀c,c<w.heap.size->w1.heap[c]? = w.heap[c]?)(hsize:w.heap.size<=w1.heap.size)(hcalm:iN E w w1):Sim E j m w j m w1 where
 ext:=.refl m
 le:=.refl j
 new:=fun b k h h'=>by simp[h'] at h
 mr:=⟨fun b k hb=>⟨(h.lt b k hb).1,Uc (h.lt b k hb).2 hsize⟩,fun b o k ho hb=>by
  obtain⟨o',h1,h2⟩:=h.obj b o k ho hb;exact⟨o',(hold k.c (h.lt b k hb).2).trans h1,h2⟩,h.inj,h.glob⟩
 size:=hsize
 full:=fun b h h' _=>Uy h (by omega)
 away:=fun _ _ _=>rfl
 fresh:=fun b k h h'=>by simp[h'] at h
 frame:=fun c hc _=>hold c hc
 calm:=hcalm
def CY(hE:EnvOk E){pr:XI->XA Prim}(h:∀f p,pr f=some p->E.cT f=some p\/∀args m v m',p.run args m=some (v,m')->∀(j:aL) (w:WO) (args':XB WJ),MR E j m w->LR j args args'->dT E.P (E.cT f).isSome f args'.toArray w (fH E j m w v m')):EnvOk { E with cT:=pr}:=by
 refine⟨hE.call,hE.mixed,fun f p hp args m v m' hrun j w args' hm hl=>?_⟩;have hp':({ E with cT:=pr}:Env).cT f=some p:=hp;have hm0:MR E j m w:=MR.env (E:={ E with cT:=pr}) (E':=E) rfl hm;have key:∀v' w',fH E j m w v m' v' w'->fH { E with cT:=pr} j m w v m' v' w':=fun v' w' ⟨j',s,hv⟩=>⟨j',Sim.env (E:=E) rfl (fun e=>e) s,hv⟩;rcases h f p hp with h1|h1
 exact cy (fun _=>by rw[hp']; rfl) (hE.cT f p h1 args m v m' hrun j w args' hm0 hl) key
 exact cy (fun _=>by rw[hp']; rfl) (h1 args m v m' hrun j w args' hm0 hl) key
end
section
variable{E:Env}{j:aL}{m:Xq}{w:WO}
def lH(j:aL)(g:Nat):aL:=fun x=>if x<g then j x else none
def Aj(n:Nat)(gs:Nat->XA (XB WJ))(b:Nat):(FM n gs).get b=(gs b).map fun cs=>.cells cs .ro:=by
 simp[Xq.get,FM,Heap.get_nil]
def MR.RK{gs:Nat->XA (XB WJ)}(h:MR E j m w)(hgs:∀x c,x<E.glob->gs x=some c->m.get x=some (.cells c .ro))(hgp:∀x c,gs x=some c->c.all aM=true):MR E (lH j E.glob) (FM E.glob gs) w:=by
 have cases1:∀x k,lH j E.glob x=some k->x<E.glob/\j x=some k:=by
  intro x k hx;unfold lH at hx
  split at hx
  rename_i hlt; exact⟨hlt,hx⟩
  cases hx
 refine⟨fun x k hx=>?_,fun x o k ho hx=>?_,fun x x' k k' hx hx' hl hl' hc=>?_,fun gl hgl=>?_⟩
 obtain⟨hlt,hj⟩:=cases1 x k hx;exact⟨hlt,(h.lt x k hj).2⟩
 ·rw[Aj] at ho;obtain⟨hlt,hj⟩:=cases1 x k hx;cases hg:gs x with
  | none=>rw[hg] at ho; cases ho
  | some c =>
   rw[hg] at ho; cases ho;have hgx:=hgs x c hlt hg;obtain⟨o',h1,h2⟩:=h.obj x _ k hgx hj;refine⟨o',h1,?_⟩;cases o' with
   | cells c' ty fz =>
    refine⟨h2.1,fun i v hi=>?_⟩;obtain⟨v',h3,h4⟩:=h2.2 i v hi;have hpv:=Ux.1 (hgp x c hg) v (Ur hi);have:=eS hpv h4;subst this;exact⟨_,h3,.aM hpv⟩
   | _=>exact h2.elim
 ·have live:∀y,y<E.glob->((FM E.glob gs).get y).isSome=true->(m.get y).isSome=true:=by
   intro y hy hl;rw[Aj] at hl;cases hg:gs y with
   | none=>rw[hg] at hl; cases hl
   | some c=>rw[hgs y c hy hg]; rfl
  obtain⟨hlt,hj⟩:=cases1 x k hx;obtain⟨hlt',hj'⟩:=cases1 x' k' hx';exact h.inj x x' k k' hj hj' (live x hlt hl) (live x' hlt' hl') hc
 unfold lH;rw[Ui hgl];exact h.glob gl hgl
def xP(hE:EnvOk E){f:XI}{gs:Nat->XA (XB WJ)}(hgp:∀x c,gs x=some c->c.all aM=true){fuel:Nat}{v:WJ}{m0:Xq}
  (hrun:run E fuel (.call f [] (FM E.glob gs))=some (.val v m0)) (hwl:E.glob<=m0.wl) (hpv:bG v=true) {args':XB WJ} (h:MR E j m w) (hgs:∀x c,x<E.glob->gs x=some c->m.get x=some (.cells c .ro)) (hl:LR j [] args') :
  dT E.P (E.cT f).isSome f args'.toArray w (fH E j m w v m):=by
 have hm0:=h.RK hgs hgp;have hl0:LR (lH j E.glob) [] args':=by
  rw[LR.dw hl]; exact .nil _
 obtain⟨_,_,e,hs⟩:=km hE fuel _ _ hrun;cases e;refine cy (fun x=>x) (hs _ w args' hm0 hl0) ?_;intro v' w' ⟨j',s,hv'⟩;have hold:∀c,c<w.heap.size->w'.heap[c]? = w.heap[c]?:=fun c hc=>s.frame c hc fun x k hx _ _=>by
  have:x<E.glob:=(hm0.lt x k hx).1;omega
 exact⟨j,.same h hold s.size s.calm,VR.mX hpv hv'⟩
end
attribute [local irreducible] Xq.get Xq.set Xq.alloc Xq.ww Xq.kill
section
variable{E:Env}{j j1:aL}{m m1:Xq}{w w1:WO}
def Sim.Qk{js:aL}{ms:Xq}(h:MR E j m w)(hs:MR E js ms w)(s:Sim E js { ms with wl:=ms.next} w j1 m1 w1)(g:Grown ms m1){T:FA}{a:Nat->Nat}{tg:Nat->Tag}(hT:T.ok)
  (ha:∀i,i<T.length->ms.next<=a i/\a i<m1.next) (hinj:∀i k,i<T.length->k<T.length->a i=a k->i=k) (ho:∀i x,T[i]? = some x->m1.get (a i)=some (.cells (x.1.map (TV.inst T a)) (tg i))/\(tg i=.own\/tg i=.more x.2)) :
  ∃j2,Sim E j m w j2 (m.gr (T.bX fun i=>m.next+i)) w1/\∀x:TV,x.ok T.length=true->∀v',VR j1 (x.inst T a) v'->VR j2 (x.inst T fun i=>m.next+i) v':=by
 have hol:(T.bX fun i=>m.next+i).length=T.length:=by unfold FA.bX; rw[UH]
 have hjn:∀b,ms.next<=b->js b=none:=fun b hb=>by
  cases e:js b with
  | none=>rfl
  | some k=>exact Uy (hs.lt b k e).1 (by omega)
 have hold:=s.old hs g;have hk:∀i x,T[i]? = some x->∃k,j1 (a i)=some k:=fun i x hi=>by
  have hlt:=(Uq.1 hi).1;exact s.full (a i) (ha i hlt).1 (ha i hlt).2 (by rw[(ho i x hi).1]; rfl)
 have hfresh:∀i k,i<T.length->j1 (a i)=some k->w.heap.size<=k.c:=fun i k hi hk=>by
  rcases s.fresh (a i) k hk (hjn _ (ha i hi).1) with hf|⟨b0,k0,a1,_,_,a4⟩
  exact hf
  have:=(hs.lt b0 k0 a1).1; have:=g.wl; omega
 have hcell:∀i x k,T[i]? = some x->j1 (a i)=some k->∃c ty fz,w1.heap[k.c]? = some (.cells c ty fz)/\pB k (tg i) x.1.length c fz/\∀(q:Nat) (z:TV),x.1[q]? = some z->∃v',c[q]? = some v'/\VR j1 (z.inst T a) v':=fun i x k hi hk=>by
  obtain⟨o',g1,g2⟩:=s.mr.obj (a i) _ k (ho i x hi).1 hk;cases o' with
  | cells c ty fz =>
   refine⟨c,ty,fz,g1,by have:=g2.1; rwa[UH] at this,fun q z hq=>?_⟩
   exact g2.2 q (z.inst T a) (by rw[UN,hq]; rfl)
  | _=>exact g2.elim
 have key:∀j2:aL,(∀i x,T[i]? = some x->∀k,j1 (a i)=some k->j2 (m.next+i)=some (ml k x.2 x.1.length))->∀x:TV,x.ok T.length=true->∀v',VR j1 (x.inst T a) v'->VR j2 (x.inst T fun i=>m.next+i) v':=fun j2 hj2 x hx v' hv=>by
  let cf:Nat->XD WJ ×(Nat×Nat):=fun i=>match j1 (a i) with
   | some k=>match w1.heap[k.c]? with
    | some (.cells c _ fz)=>(c,fz)
    | _=>(#[],(0,0))
   | none=>(#[],(0,0))
  refine TV.move hT (tg:=tg) (cf:=cf) (fun i y hi=>?_) hx hv;obtain⟨k,hk⟩:=hk i y hi;obtain⟨c,ty,fz,h1,h2,_⟩:=hcell i y k hi hk;have ecf:cf i=(c,fz):=by show(match j1 (a i) with|some k=>_|none=>_)=_; rw[hk]; dsimp only; rw[h1]
  exact⟨k,hk,hj2 i y hi k hk,(ho i y hi).2,by rw[ecf]; exact h2⟩
 have e1:∀i x,T[i]? = some x->∀k,j1 (a i)=some k->(fun b=>if m.next<=b then match T[b-m.next]?,j1 (a (b-m.next)) with|some x,some k=>some (ml k x.2 x.1.length)|_,_=>none else j b) (m.next+i)=some (ml k x.2 x.1.length):=fun i x hi k hk=>by
  dsimp only
  rw[WV,Nat.add_sub_cancel_left,hi,hk]
 have e2:∀b,b<m.next->(fun b=>if m.next<=b then match T[b-m.next]?,j1 (a (b-m.next)) with|some x,some k=>some (ml k x.2 x.1.length)|_,_=>none else j b) b=j b:=fun b hb=>by
  dsimp only
  rw[WU]
 have e3:∀b k,(fun b=>if m.next<=b then match T[b-m.next]?,j1 (a (b-m.next)) with|some x,some k=>some (ml k x.2 x.1.length)|_,_=>none else j b) b=some k->(b<m.next/\j b=some k)\/∃i x k1,T[i]? = some x/\b=m.next+i/\j1 (a i)=some k1/\k=ml k1 x.2 x.1.length:=fun b k hb=>by
  by_cases c:m.next<=b
  ·dsimp only at hb
   rw[Ui c] at hb;cases hx:T[b-m.next]? with
   | none=>rw[hx] at hb; cases hb
   | some x =>
    cases hk:j1 (a (b-m.next)) with
    | none=>rw[hx,hk] at hb; cases hb
    | some k1 =>
     rw[hx,hk] at hb;exact .inr ⟨b-m.next,x,k1,hx,by omega,hk,(Ug hb).symm⟩
  dsimp only at hb
  rw[Uk c] at hb;exact .inl ⟨(h.lt b k hb).1,hb⟩
 generalize(fun b=>if m.next<=b then match T[b-m.next]?,j1 (a (b-m.next)) with|some x,some k=>some (ml k x.2 x.1.length)|_,_=>none else j b)=j2 at e1 e2 e3
 refine⟨j2,?_,key j2 e1⟩;have hle:j.le j2:=fun b k hb=>by rw[e2 b (h.lt b k hb).1]; exact hb
 have hget:∀i,i<T.length->(m.gr (T.bX fun i=>m.next+i)).get (m.next+i)=(T.bX fun i=>m.next+i)[i]?:=fun i hi=>vT _ m i (by omega)
 have ha2:MR E j m w1:=⟨fun b k e=>⟨(h.lt b k e).1,Uc (h.lt b k e).2 s.size⟩,fun b o k ho e=>by
  obtain⟨o',h1,h2⟩:=h.obj b o k ho e;exact⟨o',(hold _ (h.lt b k e).2).trans h1,h2⟩,h.inj,h.glob⟩
 have hlt:∀{i x},T[i]? = some x->i<T.length:=fun hi=>(Uq.1 hi).1;have hlive:∀{i x},T[i]? = some x->(m1.get (a i)).isSome=true:=fun hi=>by rw[(ho _ _ hi).1]; rfl
 refine⟨⟨by rw[gS]; omega,by rw[wI]; exact Ua _,fun b hb _=>dB _ _ (.inl hb),fun b hb hn=>(dB _ _ (.inl hb)).trans hn⟩,hle,fun b k e e'=>?_,⟨fun b k e=>?_,fun b o k ho' e=>?_,fun b b' k k' e e' hl hl' hc=>?_,fun gl hgl=>?_⟩,s.size,fun b hb1 hb2 _=>?_,fun b hb _=>?_,fun b k e e'=>?_,fun c hc _=>hold c hc,s.calm⟩
 rcases e3 b k e with⟨_,c⟩|⟨i,_,_,_,rfl,_⟩
 rw[e'] at c; cases c
 omega
 rcases e3 b k e with⟨c1,c2⟩|⟨i,x,k1,hi,rfl,c2,rfl⟩
 exact⟨by rw[gS]; omega,(ha2.lt b k c2).2⟩
 exact⟨by rw[gS,hol]; have:=hlt hi; omega,by rw[mn]; exact(s.mr.lt _ k1 c2).2⟩
 rcases e3 b k e with⟨c1,c2⟩|⟨i,x,k1,hi,rfl,c2,rfl⟩
 rw[dB _ _ (.inl c1)] at ho';obtain⟨o',h1,h2⟩:=ha2.obj b o k ho' c2;exact⟨o',h1,h2.mono hle⟩
 rw[hget i (hlt hi)] at ho';unfold FA.bX at ho';rw[UN,hi,Uh] at ho';cases ho';obtain⟨c,ty,fz,g1,g2,g3⟩:=hcell i x k1 hi c2;obtain⟨o1,o2,o3,o4⟩:=hT x (Ur hi);refine⟨.cells c ty fz,by rw[mn]; exact g1,?_,fun q v hq=>?_⟩
 rw[UH];rw[o2] at g2 ⊢;exact Jp (ho i x hi).2 o1 o3 g2
 rw[UN] at hq;obtain⟨z,hz,rfl⟩:=VK.1 hq;obtain⟨v',h3,h4⟩:=g3 q z hz;exact⟨v',h3,key j2 e1 z (Ux.1 o4 z (Ur hz)) v' h4⟩
 have old:∀{b k},b<m.next->j b=some k->(m.get b).isSome=true->∀i x,T[i]? = some x->∀k1,j1 (a i)=some k1->k.c≠k1.c:=fun{b k} hb e hl i x hi k1 hk1 hc=>by
  have:=(h.lt b k e).2;have:=hfresh i k1 (hlt hi) hk1;omega
 rcases e3 b k e with⟨c1,c2⟩|⟨i,x,k1,hi,rfl,c2,rfl⟩<;>rcases e3 b' k' e' with⟨d1,d2⟩|⟨i',x',k1',hi',rfl,d2,rfl⟩
 rw[dB _ _ (.inl c1)] at hl;rw[dB _ _ (.inl d1)] at hl';exact h.inj b b' k k' c2 d2 hl hl' hc
 rw[dB _ _ (.inl c1)] at hl;rw[mn] at hc;exact Uy hc (old c1 c2 hl i' x' hi' k1' d2)
 rw[dB _ _ (.inl d1)] at hl';rw[mn] at hc;exact Uy hc.symm (old d1 d2 hl' i x hi k1 c2)
 rw[mn,mn] at hc;have:=s.mr.inj (a i) (a i') k1 k1' c2 d2 (hlive hi) (hlive hi') hc;rw[hinj i i' (hlt hi) (hlt hi') this]
 have:=h.glob gl hgl;rw[e2 gl (h.lt gl _ this).1]; exact this
 rw[gS,hol] at hb2;have hi:=T6 (show b-m.next<T.length by omega)
 obtain⟨k,hk⟩:=hk _ _ hi;have:=e1 _ _ hi k hk;exact⟨_,by rw[show b=m.next+(b-m.next) by omega]; exact this⟩
 rw[dB _ _ (.inl hb)]
 rcases e3 b k e with⟨_,c⟩|⟨i,x,k1,hi,rfl,c,rfl⟩
 rw[e'] at c; cases c
 rw[mn]; exact .inl (hfresh i k1 (hlt hi) c)
end
inductive SV where
 | v (x:WJ)
 | s (b n:Nat)
inductive AV where
 | one (x:SV)
 | agg (xs:XB SV)
def SV.val(f:Nat->Nat):SV->WJ
 | .v x=>x
 | .s b n=>.slice (some ⟨f b,0,none⟩) n n
def SV.ok(N:Nat):SV->Bool
 | .v x=>bG x
 | .s b _=>Nat.blt b N
def AV.val(f:Nat->Nat):AV->WJ
 | .one x=>x.val f
 | .agg xs=>.agg (xs.map (SV.val f)).toArray
def AV.ok(N:Nat):AV->Bool
 | .one x=>x.ok N
 | .agg xs=>xs.all (SV.ok N)
abbrev Bk:=XB SV×Tag
def oL(g:Nat)(gs:Nat->XA (XB WJ))(A:XB Bk):Xq:=⟨g+A.length,g+A.length,.nil,fun b=>if b<g then(gs b).map fun cs=>.cells cs .ro else(A[b-g]?).map fun x=>.cells (x.1.map (SV.val fun b=>b)) x.2⟩
def BX(g:Nat)(gs:Nat->XA (XB WJ))(A:XB Bk)(b:Nat):(oL g gs A).get b=if b<g then(gs b).map fun cs=>.cells cs .ro else(A[b-g]?).map fun x=>.cells (x.1.map (SV.val fun b=>b)) x.2:=by
 simp[Xq.get,oL,Heap.get_nil]
def eW(g:Nat)(l:XB Nat)(b:Nat):Nat:=if b<g then b else l.getD (b-g) 0
def vf(g N:Nat)(l:XB Nat)(j:aL):aL:=fun b=>if b<N then j (eW g l b) else none
def SV.VR{j:aL}{g N:Nat}{l:XB Nat}{x:SV}(hx:x.ok N=true){v':WJ}(h:VR j (x.val (eW g l)) v'):VR (vf g N l j) (x.val fun b=>b) v':=by
 cases x with
 | v x=>exact VR.mX hx h
 | s b n =>
  have hb:b<N:=Ul hx;have e:∀k,j (eW g l b)=some k->vf g N l j b=some k:=fun k hk=>by unfold vf; rw[Ui hb]; exact hk
  have h:Go.Ab.VR j (.slice (some ⟨eW g l b,0,none⟩) n n) v':=h
  show Go.Ab.VR _ (.slice (some ⟨b,0,none⟩) n n) v'
  cases h with
  | slice hj hm=>exact .slice (e _ hj) hm
  | sliceM hj hm h1 h2 hl hc=>exact .sliceM (e _ hj) hm h1 h2 hl hc
structure SmallIn(m:Xq)(g:Nat)(gs:Nat->XA (XB WJ))(A:XB Bk)(l:XB Nat):Prop where
 len:l.length=A.length
 glob:∀x c,x<g->gs x=some c->m.get x=some (.cells c .ro)/\c.all aM=true
 at_:∀i (h:i<A.length),m.get (l.getD i 0)=some (.cells (A[i].1.map (SV.val (eW g l))) A[i].2)
 low:∀i,i<l.length->g<=l.getD i 0
 nd:∀i k,i<l.length->k<l.length->l.getD i 0=l.getD k 0->i=k
 ok:A.all (fun x=>x.1.all (SV.ok (g+A.length)))=true
def MR.Kt{E:Env}{j:aL}{m:Xq}{w:WO}{gs:Nat->XA (XB WJ)}{A:XB Bk}{l:XB Nat}(h:MR E j m w)(hs:SmallIn m E.glob gs A l):MR E (vf E.glob (E.glob+A.length) l j) (oL E.glob gs A) w:=by
 have hj:∀x k,vf E.glob (E.glob+A.length) l j x=some k->x<E.glob+A.length/\j (eW E.glob l x)=some k:=fun x k hx=>by
  unfold vf at hx
  split at hx
  rename_i hlt; exact⟨hlt,hx⟩
  cases hx
 have hobj:∀x o,(oL E.glob gs A).get x=some o->x<E.glob+A.length->(x<E.glob/\m.get (eW E.glob l x)=some o/\∃c,o=.cells c .ro/\c.all aM=true)\/∃y:Bk,y∈A/\o=.cells (y.1.map (SV.val fun b=>b)) y.2/\m.get (eW E.glob l x)=some (.cells (y.1.map (SV.val (eW E.glob l))) y.2):=fun x o ho hx=>by
  rw[BX] at ho
  split at ho
  ·rename_i hlt;cases hg:gs x with
   | none=>rw[hg] at ho; cases ho
   | some c =>
    rw[hg] at ho; cases ho;have e:eW E.glob l x=x:=by unfold eW; rw[Ui hlt]
    rw[e];exact .inl ⟨hlt,(hs.glob x c hlt hg).1,c,rfl,(hs.glob x c hlt hg).2⟩
  rename_i hlt;have hi:x-E.glob<A.length:=by omega
  have h1:=hs.at_ (x-E.glob) hi;rw[T6 hi] at ho;cases ho;have e:eW E.glob l x=l.getD (x-E.glob) 0:=by unfold eW; rw[Uk hlt]
  rw[e];exact .inr ⟨_,V0 hi,rfl,h1⟩
 have hlive:∀x,x<E.glob+A.length->((oL E.glob gs A).get x).isSome=true->(m.get (eW E.glob l x)).isSome=true:=fun x hx hl=>by
  cases e1:(oL E.glob gs A).get x with
  | none=>rw[e1] at hl; cases hl
  | some o =>
   rcases hobj x o e1 hx with⟨_,h1,_⟩|⟨y,_,_,h1⟩
   rw[h1]; rfl
   rw[h1]; rfl
 refine⟨fun x k hx=>?_,fun x o k ho hx=>?_,fun x x' k k' hx hx' hl hl' hc=>?_,fun gl hgl=>?_⟩
 obtain⟨hlt,hj⟩:=hj x k hx;exact⟨hlt,(h.lt _ k hj).2⟩
 ·obtain⟨hlt,hj⟩:=hj x k hx;rcases hobj x o ho hlt with⟨_,h1,cs,rfl,h2⟩|⟨y,hy,rfl,h1⟩
  ·obtain⟨o',h3,h4⟩:=h.obj _ _ k h1 hj;refine⟨o',h3,?_⟩;cases o' with
   | cells c' ty fz =>
    refine⟨h4.1,fun i v hi=>?_⟩;obtain⟨v',h5,h6⟩:=h4.2 i v hi;have hpv:=Ux.1 h2 v (Ur hi);have:=eS hpv h6;subst this;exact⟨_,h5,.aM hpv⟩
   | _=>exact h4.elim
  ·obtain⟨o',h3,h4⟩:=h.obj _ _ k h1 hj;refine⟨o',h3,?_⟩;have hok:=Ux.1 hs.ok y hy;cases o' with
   | cells c' ty fz =>
    refine⟨by have:=h4.1; rwa[UH] at this ⊢,fun i v hi=>?_⟩
    rw[UN] at hi;obtain⟨z,hz,rfl⟩:=VK.1 hi;obtain⟨v',h5,h6⟩:=h4.2 i (z.val (eW E.glob l)) (by rw[UN,hz]; rfl)
    exact⟨v',h5,SV.VR (Ux.1 hok z (Ur hz)) h6⟩
   | _=>exact h4.elim
 obtain⟨hlt,hj1⟩:=hj x k hx;obtain⟨hlt',hj2⟩:=hj x' k' hx';have e:=h.inj _ _ k k' hj1 hj2 (hlive x hlt hl) (hlive x' hlt' hl') hc;unfold eW at e;have hlen:=hs.len
 split at e
 split at e
 exact e
 rename_i a b; have:=hs.low (x'-E.glob) (by omega); omega
 split at e
 rename_i a b; have:=hs.low (x-E.glob) (by omega); omega
 rename_i a b;have:=hs.nd _ _ (by omega) (by omega) e
 omega
 show vf E.glob (E.glob+A.length) l j gl=_
 unfold vf eW;rw[WV,Ui hgl]
 exact h.glob gl hgl
def SV.LR{j:aL}{g N:Nat}{l:XB Nat}:∀{xs:XB SV} {ys:XB WJ},xs.all (SV.ok N)=true->LR j (xs.map (SV.val (eW g l))) ys->Go.Ab.LR (vf g N l j) (xs.map (SV.val fun b=>b)) ys
 | [],ys,_,h=>by rw[Go.Ab.LR.dw h]; exact .nil _
 | x::xs,ys,hx,h=>by
  obtain⟨y,ys',rfl,h1,h2⟩:=Go.Ab.LR.cons_inv h;simp only[Vw,T7] at hx;exact .cons (SV.VR hx.1 h1) (SV.LR hx.2 h2)
def AV.LR{j:aL}{g N:Nat}{l:XB Nat}:∀{xs:XB AV} {ys:XB WJ},xs.all (AV.ok N)=true->LR j (xs.map (AV.val (eW g l))) ys->Go.Ab.LR (vf g N l j) (xs.map (AV.val fun b=>b)) ys
 | [],ys,_,h=>by rw[Go.Ab.LR.dw h]; exact .nil _
 | x::xs,ys,hx,h=>by
  obtain⟨y,ys',rfl,h1,h2⟩:=Go.Ab.LR.cons_inv h;simp only[Vw,T7] at hx;refine .cons ?_ (AV.LR hx.2 h2);cases x with
  | one x=>exact SV.VR hx.1 h1
  | agg xs =>
   have h1:Go.Ab.VR j (.agg (xs.map (SV.val (eW g l))).toArray) y:=h1;cases h1 with
   | agg a b =>
    rename_i zs;have:=SV.LR (j:=j) (g:=g) (N:=N) (l:=l) (xs:=xs) (ys:=zs.toList) hx.1 (by
     have:=Go.Ab.LR.fa a b
     simpa using this)
    refine Go.Ab.VR.C5 ?_
    simpa using this
structure Case where
 A:XB Bk
 args:XB AV
 V:XB TV
 T:FA
def Case.small(c:Case)(g:Nat)(gs:Nat->XA (XB WJ)):Xq:=oL g gs c.A
def Case.Out(c:Case)(ms:Xq)(v1:WJ)(m1:Xq):Prop:=Grown ms m1/\∃(a:Nat->Nat) (tg:Nat->Tag),v1=.tuple (c.V.map (TV.inst c.T a)).toArray /\
  (∀i,i<c.T.length->ms.next<=a i/\a i<m1.next)/\(∀i k,i<c.T.length->k<c.T.length->a i=a k->i=k)/\∀i x,c.T[i]? = some x->m1.get (a i)=some (.cells (x.1.map (TV.inst c.T a)) (tg i))/\(tg i=.own\/tg i=.more x.2)
def yR:WJ->XB Nat
 | .slice (some a) _ _=>[a.block]
 | _=>[]
def Oe:WJ->XB Nat
 | .agg xs=>xs.toList.flatMap yR
 | .tuple xs=>xs.toList.flatMap yR
 | v=>yR v
def cellsOf(m:Xq)(b:Nat):XB WJ :=
 match m.get b with
 | some (.cells cs _)=>cs
 | _=>[]
def sw(m:Xq)(v:WJ):XB Nat:=(Oe v).flatMap fun b=>b::(cellsOf m b).flatMap yR
def RE:XB Nat->Bool
 | []=>true
 | x::xs=>!xs.contains x&&RE xs
def Dt:∀{l:XB Nat},RE l=true->∀i k,i<l.length->k<l.length->l.getD i 0=l.getD k 0->i=k
 | [],_,i,k,hi,_,_=>by simp at hi
 | x::xs,h,i,k,hi,hk,e=>by
  simp only[RE,T7,U7,List.contains_eq_mem,decide_eq_false_iff_not] at h;have hx:∀q,q<xs.length->xs.getD q 0∈xs:=fun q hq=>by
   rw[List.getD_eq_getElem?_getD,T6 hq]; exact V0 hq
  cases i with
  | zero =>
   cases k with
   | zero=>rfl
   | succ k =>
    have e:x=xs.getD k 0:=e;exact Uy (e▸hx k (by simpa using hk)) h.1
  | succ i =>
   cases k with
   | zero =>
    have e:xs.getD i 0=x:=e;exact Uy (e▸hx i (by simpa using hi)) h.1
   | succ k=>exact VB (· + 1) (Dt h.2 i k (by simpa using hi) (by simpa using hk) e)
def yq(o:XA Xs)(cs:XB WJ)(t:Tag):Bool :=
 match o with
 | some (.cells cs' t')=>qV cs' cs&&decide (t'=t)
 | _=>false
def xN{o:XA Xs}{cs:XB WJ}{t:Tag}(h:yq o cs t=true):o=some (.cells cs t):=by
 unfold yq at h
 split at h
 simp only[T7,UL] at h;rw[jL h.1,h.2]
 cases h
def Fk(m:Xq)(g:Nat)(f:Nat->Nat):XB Bk->XB Nat->Bool
 | [],[]=>true
 | o::os,b::bs=>yq (m.get b) (o.1.map (SV.val f)) o.2 &&(Nat.ble g b&&Fk m g f os bs)
 | _,_=>false
def tz{m:Xq}{g:Nat}{f:Nat->Nat}:∀{A:XB Bk} {l:XB Nat},Fk m g f A l=true->l.length=A.length/\∀i (h:i<A.length),m.get (l.getD i 0)=some (.cells (A[i].1.map (SV.val f)) A[i].2)/\g<=l.getD i 0
 | [],[],_=>⟨rfl,fun i h=>by simp at h⟩
 | o::os,b::bs,h=>by
  simp only[Fk,T7] at h;obtain⟨h1,h3,h4⟩:=h;obtain⟨h5,h6⟩:=tz h4;refine⟨by simp[h5],fun i hi=>?_⟩
  cases i with
  | zero=>exact⟨xN h1,Ul h3⟩
  | succ i=>exact h6 i (by simpa using hi)
 | [],_::_,h=>by cases h
 | _::_,[],h=>by cases h
def Case.fits(c:Case)(g:Nat)(tabB:Xq->Bool)(args:XB WJ)(m:Xq):Bool :=
 (fun l=>uC args (c.args.map (AV.val (eW g l))) &&(Fk m g (eW g l) c.A l &&(RE l&&tabB m))) (args.flatMap (sw m))
def Case.value(c:Case)(a:Nat->Nat):WJ:=.tuple (c.V.map (TV.inst c.T a)).toArray
def Case.run(c:Case)(g:Nat)(tabB:Xq->Bool)(args:XB WJ)(m:Xq):XA (WJ×Xq) :=
 if c.fits g tabB args m then some (c.value fun i=>m.next+i,m.gr (c.T.bX fun i=>m.next+i)) else none
def Case.JQ{E:Env}{c:Case}{f:XI}{gs:Nat->XA (XB WJ)}{tabB:Xq->Bool}(ht:∀m,tabB m=true->∀x cs,x<E.glob->gs x=some cs->m.get x=some (.cells cs .ro)/\cs.all aM=true)(hT:c.T.ok)(hV:c.V.all (TV.ok c.T.length)=true)(hA:c.args.all (AV.ok (E.glob+c.A.length))=true)
  (hA2:c.A.all (fun x=>x.1.all (SV.ok (E.glob+c.A.length)))=true) (h:W.nC E f (c.args.map (AV.val fun b=>b)) (c.small E.glob gs) (c.Out (c.small E.glob gs))) {args:XB WJ} {m m':Xq} {v:WJ} (hr:c.run E.glob tabB args m=some (v,m')) (pr:Bool) {j:aL} {w:WO} {args':XB WJ} (hm:MR E j m w) (hl:LR j args args'):dT E.P pr f args'.toArray w (fH E j m w v m'):=by
 unfold Case.run at hr
 split at hr
 ·rename_i hf;cases hr;unfold Case.fits at hf;simp only[T7] at hf;obtain⟨h1,h2,h3,h4⟩:=hf;have h1:=p6 h1;obtain⟨h5,h6⟩:=tz h2;generalize args.flatMap (sw m)=l at h1 h2 h3 h5 h6;subst h1;have hs:=hm.Kt (gs:=gs) (A:=c.A) (l:=l) ⟨h5,ht m h4,fun i hi=>(h6 i hi).1,fun i hi=>(h6 i (by omega)).2,Dt h3,hA2⟩
  have hl':=AV.LR (g:=E.glob) (N:=E.glob+c.A.length) (l:=l) hA hl;have e:c.small E.glob gs ={ c.small E.glob gs with wl:=(c.small E.glob gs).next}:=rfl
  refine cy (fun h=>by cases h) (h _ w args' hs hl') ?_
  rintro v' w' ⟨v1,m1,⟨hg,a,tg,rfl,g1,g2,g3⟩,j',s,hv⟩;obtain⟨j2,s2,hmv⟩:=Sim.Qk hm hs (by rw[<-Case.small,<-e]; exact s) hg hT g1 g2 g3
  refine⟨j2,s2,?_⟩;cases hv with
  | tuple e1 e2 =>
   rename_i ys;refine .tuple (by rw[<-e1]; simp) fun i hi hi2=>?_
   simp only[List.size_toArray,UH] at hi;have hx:=Ux.1 hV c.V[i] (V0 hi);have h5:=e2 i (by simpa using hi) hi2
   simp only[List.getElem_toArray,List.getElem_map] at h5 ⊢;exact hmv _ hx _ h5
 cases hr
def RU(t:Tag)(sz:Nat):Bool :=
 match t with
 | .own=>true
 | .more k=>Nat.beq k sz
 | .ro=>false
def De(o:XA Xs)(cs:XB WJ)(sz:Nat):Bool :=
 match o with
 | some (.cells cs' t)=>qV cs' cs&&RU t sz
 | _=>false
def zN{o:XA Xs}{cs:XB WJ}{sz:Nat}(h:De o cs sz=true):∃t,o=some (.cells cs t)/\(t=.own\/t=.more sz):=by
 unfold De at h
 split at h
 rename_i cs' t;simp only[T7] at h;rw[jL h.1];refine⟨t,rfl,?_⟩;have h2:=h.2;unfold RU at h2
 split at h2
 exact .inl rfl
 rw[Ue h2]; exact .inr rfl
 cases h2
 cases h
def Kl(c:Case)(a:Nat->Nat)(lo:Nat)(m1:Xq):XB (XB TV×Nat)->XB Nat->Bool
 | [],[]=>true
 | x::xs,b::bs=>De (m1.get b) (x.1.map (TV.inst c.T a)) x.2 &&(Nat.ble lo b &&(Nat.blt b m1.next&&Kl c a lo m1 xs bs))
 | _,_=>false
def wC{c:Case}{a:Nat->Nat}{lo:Nat}{m1:Xq}:∀{T:XB (XB TV×Nat)} {l:XB Nat},Kl c a lo m1 T l=true->l.length=T.length/\∀i x,T[i]? = some x->(∃t,m1.get (l.getD i 0)=some (.cells (x.1.map (TV.inst c.T a)) t)/\(t=.own\/t=.more x.2))/\lo<=l.getD i 0/\l.getD i 0<m1.next
 | [],[],_=>⟨rfl,fun i x h=>by simp at h⟩
 | y::xs,b::bs,h=>by
  simp only[Kl,T7] at h;obtain⟨h1,h2,h3,h4⟩:=h;obtain⟨h5,h6⟩:=wC h4;refine⟨by simp[h5],fun i x hi=>?_⟩
  cases i with
  | zero =>
   simp only[UA,Option.some.injEq] at hi;subst hi;exact⟨zN h1,Ul h2,Ul h3⟩
  | succ i=>exact h6 i x (by simpa using hi)
 | [],_::_,h=>by cases h
 | _::_,[],h=>by cases h
def HD:WJ->WJ->Bool
 | .tuple a,.tuple b=>uC a.toList b.toList
 | v,u=>vB v u
def IB:∀{v u:WJ},HD v u=true->v=u:=by
 intro v u h;unfold HD at h
 split at h
 rw[U4.1 (p6 h)]
 exact oV h
def Case.G8(c:Case)(ms:Xq)(v:WJ)(m1:Xq):Bool :=
 (fun l=>HD v (c.value fun i=>l.getD i 0) &&(Kl c (fun i=>l.getD i 0) ms.next m1 c.T l &&(RE l &&(Nat.ble ms.next m1.wl &&(Nat.ble ms.next m1.next &&(List.range ms.next).all fun b=>Ei (m1.get b) (ms.get b)))))) (sw m1 v)
def Case.wm{c:Case}{ms:Xq}{v:WJ}{m1:Xq}(h:c.G8 ms v m1=true):c.Out ms v m1:=by
 unfold Case.G8 at h;simp only[T7] at h;obtain⟨h1,h2,h3,h4,h5,h6⟩:=h;obtain⟨h7,h8⟩:=wC h2;generalize sw m1 v=l at h1 h2 h3 h7 h8;refine⟨⟨Ul h5,fun b hb=>Ar (Ux.1 h6 b (We.2 hb)),Ul h4⟩,fun i=>l.getD i 0,fun i=>match m1.get (l.getD i 0) with
  | some (.cells _ t)=>t
  | _=>.own,IB h1,fun i hi=>?_,fun i k hi hk e=>Dt h3 i k (by omega) (by omega) e,fun i x hi=>?_⟩
 have hi':=T6 hi;exact(h8 i _ hi').2
 obtain⟨⟨t,g1,g2⟩,_⟩:=h8 i x hi
 dsimp only
 rw[g1];exact⟨rfl,g2⟩
end Go.Ab
namespace Go.Proofs.YtpkadoocdgdcfaaGreatDoor
section
open Go Go.Ab
set_option maxRecDepth 100000
def iv(x:Int):WJ:=.int .i64 x
def tv(x:Int):TV:=.v (.int .i64 x)
def sv(x:Int):SV:=.v (.int .i64 x)
def dU:XB TV:=([1,0,0,0,0,0,0,0,3,0,0,0,0,0,0,0]:XB Int).map fun x=>.v (.int .u64 x)
def eA(tag:Tag)(p:XB Int):Case where
 A:=[([0,1,1,2,2,3].map sv,.own),([1,1,1,1].map sv,.own),(p.map sv,tag)]
 args:=[.agg [.v (iv 4),.s 1 3],.agg [.s 2 4,.v (iv 1),.v (iv 3),.v (iv 2)],.one (.s 3 4)]
 V:=[.s 0,.s 4,.v (iv 0)]
 T:=[([.s 1,.s 2,.s 3],1),([0,0,0,1].map tv,1),([0,0,1,1].map tv,1),([0,1,1,1].map tv,1),(dU++dU++dU,16)]
noncomputable def Se:Hand:=hand nJ me 1000
noncomputable def PS (f:XI):XA FunN:=if f=137 then some (pS nJ Se (fun _=>none) 137) else none
def Nc:CK nJ Se:=pj (pY none none none) 1000
def Cq:¬nJ.mono:=fun h=>h
def MJ:Qb nJ PS:=by
 intro g S hS args m K h;unfold PS at hS
 split at hS
 rename_i e;subst e;cases hS;exact sK oW Cq Nc (fun h=>by cases h) h
 cases hS
abbrev Rl:Case:=eA .own [0,0,1,1]
abbrev Ro:Case:=eA (.more 1) [0,0,0,1]
abbrev Rw:Case:=eA (.more 1) [0,0,1,1]
abbrev QF:Case:=eA (.more 1) [0,1,1,1]
noncomputable def Ii (S:FunN) (c:Case):Bool:=S.run (c.args.map (AV.val fun b=>b)) (c.small 1 fF) fun v m=>c.G8 (c.small 1 fF) v m
noncomputable def uc (c:Case):Bool:=Ii (pS nJ Se PS 66) c
noncomputable def mD (f:XI) (c:Case):Bool:=Ii (pS nJ Se (fun _=>none) f) c
def Nd(n d:Int):XB TV:=([n,0,0,0,0,0,0,0,d,0,0,0,0,0,0,0]:XB Int).map fun x=>.v (.int .u64 x)
def Cs(n d:Int):XB SV:=([n,0,0,0,0,0,0,0,d,0,0,0,0,0,0,0]:XB Int).map fun x=>.v (.int .u64 x)
def P7(n:Int):XB SV:=([n,0,0,0,0,0,0,0]:XB Int).map fun x=>.v (.int .u64 x)
def Tx(n:Int):WJ:=.agg #[.int .u64 n,.int .u64 0,.int .u64 0,.int .u64 0,.int .u64 0,.int .u64 0,.int .u64 0,.int .u64 0]
def TX(n d:Int):WJ:=.agg #[.int .u64 n,.int .u64 0,.int .u64 0,.int .u64 0,.int .u64 0,.int .u64 0,.int .u64 0,.int .u64 0,.int .u64 d,.int .u64 0,.int .u64 0,.int .u64 0,.int .u64 0,.int .u64 0,.int .u64 0,.int .u64 0]
def dA(n d:Int):Case:=⟨[],[.one (sv n),.one (sv d)],[.v (TX n d),tv 0],[]⟩
def qk:Case where
 A:=[([0,1,1,2,2,3].map sv,.own),([1,1,1,1].map sv,.own),([0,0,1,1].map sv,.own)]
 args:=[.agg [.v (iv 4),.s 1 3],.agg [.s 2 4,.v (iv 1),.v (iv 3),.v (iv 2)],.one (.s 3 4)]
 V:=[.s 0,.s 4,tv 0]
 T:=[([.s 1,.s 2,.s 3],1),([0,0,0,1].map tv,1),([0,0,1,1].map tv,1),([0,1,1,1].map tv,1),([.s 5,.s 6,.s 7],1),(dU++dU++dU,16),(dU++dU++dU,16),(dU++dU++dU,16)]
def gy(p:XB Int)(k n:Int):Case:=⟨[([0,1,0,3,1,2,2,3].map sv,.own),(p.map sv,.own)],[.agg [.v (iv 4),.s 1 4],.one (.s 2 4),.one (sv k)],[.v (Tx n),tv 0],[]⟩
def kA:XB Bk:=[([.s 2 2,.s 3 2],.own),(Cs 1 2++Cs 1 2,.more 16),(Cs 1 4++Cs 3 4,.more 16)]
def oD:Case:=⟨kA++[(P7 1++P7 1,.more 8)],[.one (.s 1 2),.one (.s 4 2)],[.s 0,tv 0],[([.s 1,.s 2],1),(Nd 3 4++Nd 1 4,16),(Nd 1 4++Nd 3 4,16)]⟩
def mF:Case:=⟨[([.s 2 3,.s 3 3,.s 4 3],.own),(Cs 1 1++Cs 0 1++Cs 0 1,.more 16),(Cs 1 2++Cs 0 1++Cs 1 2,.more 16),(Cs 0 1++Cs 1 1++Cs 0 1,.more 16)],[.one (.s 1 3)],[.s 0,tv 0],[([0,1,1].map tv,1)]⟩
def dN(a b:Int)(r:Bool):Case:=⟨kA++[(P7 a++P7 b,.more 8)],[.one (.s 1 2),.one (.s 4 2)],[.v (.bool r),tv 0],[]⟩
def uD:Case:=⟨[(P7 1++P7 2,.more 8)],[.one (.s 1 2)],[.s 0,tv 0],[(Nd 1 3++Nd 2 3,16)]⟩
def vL(a b c d k p q r s:Int):Case:=⟨kA++[(Cs a b++Cs c d,.more 16)],[.one (.s 1 2),.one (.s 4 2),.one (sv k)],[.s 0,tv 0],[(Nd p q++Nd r s,16)]⟩
abbrev CP:Case:=vL 1 1 0 1 1 1 2 1 2
abbrev CS:Case:=vL 1 3 2 3 5 1 3 2 3
set_option maxHeartbeats 0 in
def Be:uc Rl=true:=by decide +kernel
set_option maxHeartbeats 0 in
def Af:uc Ro=true:=by decide +kernel
set_option maxHeartbeats 0 in
def Bv:uc Rw=true:=by decide +kernel
set_option maxHeartbeats 0 in
def A5:uc QF=true:=by decide +kernel
end
section
open Go Go.Ab
set_option maxRecDepth 100000
attribute [local irreducible] pS Case.run Case.fits
def QT{c:Case}(h:uc c=true):W.nC nJ 66 (c.args.map (AV.val fun b=>b)) (c.small 1 fF) (c.Out (c.small 1 fF)):=by
 unfold uc at h;have h1:=sK oW Cq Nc MJ (f:=66) (args:=c.args.map (AV.val fun b=>b)) (m:=c.small 1 fF) (K:=fun v m=>c.G8 (c.small 1 fF) v m) h;intro j w args' hm hl;refine cy (fun h=>h) (h1 j w args' hm hl) ?_;rintro v' w' ⟨v1,m1,hq,hv⟩;exact⟨v1,m1,Case.wm hq,hv⟩
def wQ:XB WJ->XB Int->Bool
 | [],[]=>true
 | .int .u8 n::vs,k::ks=>n==k&&wQ vs ks
 | _,_=>false
def uj:∀{vs:XB WJ} {ks:XB Int},wQ vs ks=true->vs=ks.map (.int .u8)
 | [],[],_=>rfl
 | [],_::_,h=>by cases h
 | v::vs,[],h=>by simp[wQ] at h
 | v::vs,k::ks,h=>by
  unfold wQ at h
  split at h
  rename_i e _; cases e
  rename_i n vs' k' ks' e1 e2;cases e1; cases e2;simp only[T7,beq_iff_eq] at h;rw[h.1,uj h.2]; rfl
  cases h
def ib(m:Xq):Bool :=
 match m.get 0 with
 | some (.cells cs .ro)=>wQ cs kB
 | _=>false
def Co{m:Xq}(h:ib m=true):m.get 0=some (.cells (kB.map (.int .u8)) .ro):=by
 unfold ib at h
 split at h
 rename_i cs hg; rw[hg,uj h]
 cases h
def qX:∀x c,fF x=some c->c.all aM=true:=by
 intro x c h;unfold fF at h
 split at h
 cases h;rw[List.all_map];exact Ux.2 fun x _=>rfl
 cases h
def tA{m:Xq}(h:ib m=true):∀x cs,x<1->fF x=some cs->m.get x=some (.cells cs .ro)/\cs.all aM=true:=fun x cs hx he=>by
 refine⟨?_,qX x cs he⟩;have:x=0:=by omega
 subst this;simp only[fF,if_true,Option.some.injEq] at he;rw[<-he]; exact Co h
def yO(args:XB WJ)(m:Xq):XA (WJ×Xq) :=
 (Rl.run 1 ib args m).or ((Ro.run 1 ib args m).or ((Rw.run 1 ib args m).or (QF.run 1 ib args m)))
def Ha(tag:Tag)(p:XB Int):(eA tag p).T.ok:=by
 intro x hx;have h:∀x ∈(eA .own [0,0,1,1]).T,0<x.2/\x.1.length=x.1.length/x.2*x.2/\x.1.length/x.2<=9223372036854775807/\x.1.all (TV.ok (eA .own [0,0,1,1]).T.length)=true:=by
  intro y hy;have:y=([.s 1,.s 2,.s 3],1)\/y=([0,0,0,1].map tv,1)\/y=([0,0,1,1].map tv,1)\/y=([0,1,1,1].map tv,1)\/y=(dU++dU++dU,16):=by simpa [eA] using hy
  rcases this with rfl|rfl|rfl|rfl|rfl<;>decide
 exact h x hx
def A9{args:XB WJ}{m m':Xq}{v:WJ}(h:yO args m=some (v,m'))(pr:Bool){j:aL}{w:WO}{args':XB WJ}(hm:MR nJ j m w)(hl:LR j args args'):dT Tryz.prog pr 66 args'.toArray w (fH nJ j m w v m'):=by
 have key:∀(tag:Tag) (p:XB Int),((eA tag p).A.all fun x=>x.1.all (SV.ok 4))=true->uc (eA tag p)=true->(eA tag p).run 1 ib args m=some (v,m')->dT Tryz.prog pr 66 args'.toArray w (fH nJ j m w v m'):=fun tag p h0 h1 h2 =>
  Case.JQ (E:=nJ) (gs:=fF) (tabB:=ib) (fun m ht=>tA ht) (Ha tag p) (by show([.s 0,.s 4,.v (iv 0)]:XB TV).all (TV.ok 5)=true; decide) (by show([.agg [.v (iv 4),.s 1 3],.agg [.s 2 4,.v (iv 1),.v (iv 3),.v (iv 2)],.one (.s 3 4)]:XB AV).all (AV.ok 4)=true; decide) h0 (QT h1) h2 pr hm hl
 unfold yO at h;simp only[Option.or_eq_some_iff] at h;rcases h with h|⟨_,h|⟨_,h|⟨_,h⟩⟩⟩
 exact key _ _ (by decide) Be h
 exact key _ _ (by decide) Af h
 exact key _ _ (by decide) Bv h
 exact key _ _ (by decide) A5 h
end
end Go.Proofs.YtpkadoocdgdcfaaGreatDoor
namespace Go.Ab
open Go
end Go.Ab
namespace Go.Proofs.YtpkadoocdgdcfaaGreatDoor
section
open Go Go.Ab Go.Ab.W
variable{p q pz:XA Prim}
def Gs(_:Nat)(x y c:Nat):XA (Nat×Nat):=gd (decide (c<=1)) (some ((x+y+c)%18446744073709551616,(x+y+c)/18446744073709551616))
def HI(_:Nat)(x y c:Nat):XA (Nat×Nat):=gd (decide (c<=1)) (some ((x+18446744073709551616-y-c)%18446744073709551616,if x<y+c then 1 else 0))
def wF{V:Nat->Nat->Nat->WJ}{x y c:Nat}(hc:c<=1)(m:Xq):dK V [.int .u64 ((x:Nat):Int),.int .u64 ((y:Nat):Int),.int .u64 ((c:Nat):Int)] m=some (V x y c,m):=by
 show(if Nat.ble c 1 then some (V x y c,m) else none)=_
 rw[U9 hc]; rfl
def xF(n:Nat)(x y c:Nat)(r:Nat×Nat)(hF:Gs n x y c=some r)(m:Xq) :
  ax (dy p q pz) 234 [.int .u64 ((x:Nat):Int),.int .u64 ((y:Nat):Int),.int .u64 ((c:Nat):Int)] m (fun v m'=>∃_:XC,v=.tuple #[.int .u64 ((r.1:Nat):Int),.int .u64 ((r.2:Nat):Int)]/\Hp m m' []):=by
 obtain⟨hc,hF⟩:=aD hF;have hr:=Ug hF;subst hr;exact ax.cT (p:=⟨dK yb⟩) rfl (wF (of_decide_eq_true hc) m) ⟨(),rfl,.start m⟩
def E0(n:Nat)(x y c:Nat)(r:Nat×Nat)(hF:HI n x y c=some r)(m:Xq) :
  ax (dy p q pz) 251 [.int .u64 ((x:Nat):Int),.int .u64 ((y:Nat):Int),.int .u64 ((c:Nat):Int)] m (fun v m'=>∃_:XC,v=.tuple #[.int .u64 ((r.1:Nat):Int),.int .u64 ((r.2:Nat):Int)]/\Hp m m' []):=by
 obtain⟨hc,hF⟩:=aD hF;have hr:=Ug hF;subst hr;exact ax.cT (p:=⟨dK uU⟩) rfl (wF (of_decide_eq_true hc) m) ⟨(),by
  show uU x y c=_
  unfold uU
  split<;>rfl,.start m⟩
end
end Go.Proofs.YtpkadoocdgdcfaaGreatDoor
namespace Go.Ab.W
open Go Go.Ab
def lg.Tc{α:Type}{m0:Xq}{ps:XB Pc}{r:Rep α}{z:α}{g:r.G}{S:WI}(h:Lf m0 ps r z g S)(k:Nat):lg m0 ps r (List.replicate k z) (List.replicate k (r.V z g)) S:=by
 have:=lg.rep h k;rwa[List.map_id'] at this
end Go.Ab.W
namespace Go.Proofs.YtpkadoocdgdcfaaGreatDoor
open Go Go.Ab Go.Ab.W
set_option maxRecDepth 10000
set_option maxHeartbeats 4000000
attribute [local irreducible] Tm.at Trie.set Trie.get Xq.get Xq.set Xq.alloc Xq.ww Xq.kill
variable{p q pz:XA Prim}
def RV{P:WN}{ty e l c l' c':Nat}(hu:P.underlying ty=some (.slice e)):bf .eql ty P (.slice none l c) (.slice none l' c')=some (.bool true):=by
 simp only[bf,Op.maxDepth,lj,hu,Uh,Option.isNone_none]
def Qv{P:WN}{ty e l c l' c':Nat}{A:Addr}(hu:P.underlying ty=some (.slice e)):bf .eql ty P (.slice (some A) l c) (.slice none l' c')=some (.bool false):=by
 simp only[bf,Op.maxDepth,lj,hu,Uh]
def Rd.LB{m:Xq}{cap w n:Nat}{es:WG}(h:Rd m none cap w n es):n=0:=by
 rcases h.2.2 with⟨_,h⟩|⟨_,_,h,_⟩|⟨_,_,h,_⟩
 exact h
 cases h
 cases h
def Gl(m:Xq):Prop:=m.get 0=some (.cells (kB.map (.int .u8)) .ro)/\0<m.next
def Gl.ext{m m':Xq}(h:Gl m)(e:Ext m m'):Gl m':=⟨by rw[e.same 0 h.2]; exact h.1,Uc h.2 e.next⟩
def Oo:(dy p q pz).P.underlying 72=some (.slice 68):=by kernel_rfl
def Ou:SlT (dy p q pz).P 72 68 16:=SlT.of (by kernel_rfl)
def Sj:bR (dy p q pz).P 68=some (.agg #[.int .u64 0,.int .u64 0,.int .u64 0,.int .u64 0,.int .u64 0,.int .u64 0,.int .u64 0,.int .u64 0,.int .u64 0,.int .u64 0,.int .u64 0,.int .u64 0,.int .u64 0,.int .u64 0,.int .u64 0,.int .u64 0]):=by kernel_rfl
def MN(n:Nat)(es:WG)(a:WH)(c:Nat)(hl:lim n=true)(hw:∀e∈es,e.length=16)(ho:fO es)(m:Xq)(h:Rd m a c 16 n es):ax (dy p q pz) 55 [.slice a n c] m (fun v m'=>∃x:WH,v=.slice x n n/\Hp m m' [.sl x 16 n es]):=by
 cases a with
 | none =>
  have h0:=Rd.LB h;subst h0;have:es=[]:=Vt.1 h.1;subst this;refine fX (m0:=m) (ps:=[]) (N:=8) (rs:=[.tmp 2]) rfl Tryz.func55 rfl rfl rfl (W3 m) ?_;refine WX ?_;refine WZ ?_;refine WW (cW rfl) rfl ?_;refine W7 ?_;refine W5 ?_;refine WX ?_;refine WX ?_;refine WZ ?_;refine WW (aI rfl) rfl ?_;refine WW (aN rfl rfl (RV Oo)) rfl ?_;refine W7 ?_;refine W5 ?_;refine Wk.fW rfl rfl ?_;refine WX ?_;refine WZ ?_;refine WW (cW rfl) rfl ?_;refine W7 ?_;refine W5 ?_;refine Wk.ret ?_;refine At.tr ?_;exact W2 (.tmp rfl .nil) fun m' hm=>⟨none,rfl,(ai.nil 16 rfl) m' hm⟩
 | some A =>
  refine fX (m0:=m) (ps:=[.rd (some A) c 16 n es]) (N:=8) (rs:=[.tmp 2]) rfl Tryz.func55 rfl rfl rfl ((W3 m).cg bM h) ?_;refine WX ?_;refine WZ ?_;refine WW (cW rfl) rfl ?_;refine W7 ?_;refine W5 ?_;refine WX ?_;refine WX ?_;refine WZ ?_;refine WW (aI rfl) rfl ?_;refine WW (aN rfl rfl (Qv Oo)) rfl ?_;refine W7 ?_;refine W5 ?_;refine Wk.lN rfl rfl ?_;refine Wk.skip ?_;refine W5 ?_;refine WX ?_;refine WZ ?_;refine W9 (fc (es:=[]) Ou rfl (fb Ou Sj rfl rfl) rfl rfl) gn rfl fun b=>?_;refine WW (aI rfl) rfl ?_;refine Xe (ai.close (k:=0) rfl) ?_;refine W9 (RH (k:=0) (k2:=1) (n:=0) (es:=[]) (es2:=es) Ou ⟨_,Oo⟩ rfl rfl rfl (.rd _ _ _ _ _) hw ho (by rw[UU]; exact hl)) gn rfl fun a2=>?_
  refine WW (cW rfl) rfl ?_;refine W7 ?_;refine W5 ?_;refine Wk.ret ?_;exact W2 (.tmp rfl .nil) fun m' hm=>⟨a2,by show Value.slice a2 (0+n) (0+n)=_; rw[UU],by
   have:=(ai.an [0] rfl rfl) m' hm;rwa[UU] at this⟩
def SE(_:Nat)(l:XB XN):XA (XB XN):=gd (lim l.length) (some l)
def OS(n:Nat)(l:XB XN)(a:WH)(c:Nat)(r:XB XN)(hF:SE n l=some r)(m:Xq)(h:Rd m a c 16 l.length (l.map (eP (eN .u64) (eP (eN .u64) (eP (eN .u64) (eP (eN .u64) (eP (eN .u64) (eP (eN .u64) (eP (eN .u64) (eP (eN .u64) (eP (eN .u64) (eP (eN .u64) (eP (eN .u64) (eP (eN .u64) (eP (eN .u64) (eP (eN .u64) (eP (eN .u64) (eN .u64)))))))))))))))))):ax (dy p q pz) 55 [.slice a l.length c] m (fun v m'=>∃x:WH×Nat,v=.slice x.1 x.2 x.2/\Hp m m' [.sl x.1 16 x.2 (r.map (eP (eN .u64) (eP (eN .u64) (eP (eN .u64) (eP (eN .u64) (eP (eN .u64) (eP (eN .u64) (eP (eN .u64) (eP (eN .u64) (eP (eN .u64) (eP (eN .u64) (eP (eN .u64) (eP (eN .u64) (eP (eN .u64) (eP (eN .u64) (eP (eN .u64) (eN .u64)))))))))))))))))]):=by
 obtain⟨hl,hF⟩:=aD hF;cases hF;exact(MN l.length (l.map (eP (eN .u64) (eP (eN .u64) (eP (eN .u64) (eP (eN .u64) (eP (eN .u64) (eP (eN .u64) (eP (eN .u64) (eP (eN .u64) (eP (eN .u64) (eP (eN .u64) (eP (eN .u64) (eP (eN .u64) (eP (eN .u64) (eP (eN .u64) (eP (eN .u64) (eN .u64))))))))))))))))) a c hl ((cL (cl .u64) (cL (cl .u64) (cL (cl .u64) (cL (cl .u64) (cL (cl .u64) (cL (cl .u64) (cL (cl .u64) (cL (cl .u64) (cL (cl .u64) (cL (cl .u64) (cL (cl .u64) (cL (cl .u64) (cL (cl .u64) (cL (cl .u64) (cL (cl .u64) (cl .u64)))))))))))))))).rK l) ((cL (cl .u64) (cL (cl .u64) (cL (cl .u64) (cL (cl .u64) (cL (cl .u64) (cL (cl .u64) (cL (cl .u64) (cL (cl .u64) (cL (cl .u64) (cL (cl .u64) (cL (cl .u64) (cL (cl .u64) (cL (cl .u64) (cL (cl .u64) (cL (cl .u64) (cl .u64)))))))))))))))).fO l) m h).mono fun v m' ⟨x,h1,h2⟩=>⟨(x,l.length),h1,h2⟩
def SD(_:Nat):XA Bool:=some true
end Go.Proofs.YtpkadoocdgdcfaaGreatDoor
namespace Go.Ab.W
open Go Go.Ab
attribute [local irreducible] Tm.at Trie.set Trie.get Xq.get Xq.set Xq.alloc Xq.ww Xq.kill
end Go.Ab.W
namespace Go.Ab
open Go
attribute [local irreducible] Tm.at Trie.set Trie.get Xq.get Xq.set Xq.alloc Xq.ww Xq.kill
def CA(ns:XB Int):ByteArray:=ns.foldl (fun r n=>r.push (UInt8.ofNat n.toNat)) ByteArray.empty
section
variable{E:Env}{n:Nat}{ops:XD Oper}{K:Tm->Xq->Prop}{t:Tm}{m:Xq}
def Ih{j:aL}{w:WO}(h:MR E j m w){s d e:WK}(hs:E.P.underlying s=some (.slice e))(he:E.P.underlying e=some (.int .u8))(hd:E.P.underlying d=some .string){a:WH}{len cap:Nat}{ns:XB Int}(hc:cu 1 (.slice a len cap) len m=some (ns.map (Value.int .u8))){x':WJ}(hx:VR j (.slice a len cap) x') :
  (convert s d x').run E.P w=.ok (.string (CA ns)) w:=by
 obtain⟨new',h1,h2⟩:=yI h hc hx;have hnew:new'=ns.map (Value.int .u8):=LR.DX (by rw[List.all_map]; exact Ux.2 fun _ _=>rfl) h2
 subst hnew;have h3:=h1 w rfl;have key:∀(a':Addr) (cap':Nat),x'=.slice (some a') len cap'->(convert s d x').run E.P w=.ok (.string (CA ns)) w:=fun a' cap' e'=>by
  subst e';rw[run_convert_bytes_string w s d e (some a') len cap' hs he hd];refine run_bytesToString w a' len cap' ns ?_;have:(Builtin.firstCells 1 len (.slice (some a') len cap')).run E.P w=(loadCells a' (len*1)).run E.P w:=rfl;rw[this,Vo] at h3;exact h3
 cases hx with
 | snil l c =>
  rw[run_convert_bytes_string w s d e none len cap hs he hd];have hz:ns=[]:=by
   simp only[cu] at hc
   split at hc
   ·cases ns with
    | nil=>rfl
    | cons a l=>cases hc
   cases hc
  subst hz
  rfl
 | slice _ _=>exact key _ _ rfl
 | sliceM _ _ _ _ _ _=>exact key _ _ rfl
 | gR=>exact key _ _ rfl
 | dry=>exact key _ _ rfl
def fg.str{o:Oper}{os:XB Oper}{s d e:WK}{x:WM}{a:WH}{len cap:Nat}{ns:XB Int}(hw:aX ops o t=true)(hop:o.op=.convert s d x)(hs:E.P.underlying s=some (.slice e))(he:E.P.underlying e=some (.int .u8))(hd:E.P.underlying d=some .string)(hx:aq E t x=some (.slice a len cap))(hc:cu 1 (.slice a len cap) len m=some (ns.map (Value.int .u8)))
  (hk:∃t',gz n t o.dst (.string (CA ns))=some t'/\fg E n ops K os t' m):fg E n ops K (o::os) t m:=fun i F j0 m0 w0 ds Q j w a' hF h0 hd' s' ht hds hQ=>by
 obtain⟨ho,hd2,hidx⟩:=mV hd';obtain⟨t',hp,hk⟩:=hk;rw[hidx];simp only[wpOpsIn,ho,j5 ht];rw[Ui hw];have hrun:=Ih s'.mr hs he hd hc (aJ s'.mr ht hx);have hex:execOp a'.eval o=(do pure (.value (<-convert s d (a'.eval x)))):=by simp only[execOp,hop]
 refine dc hF (fun c e=>by rw[hop] at e; cases e) (v:=.string (CA ns)) (w':=w) (by rw[hex]; exact kg.value hrun) ?_
 exact hk (i+1) F j0 m0 w0 ds Q j w _ hF h0 hd2 s' (ht.put (.string _) hp) (by cases hds':o.dst<;>simp[Act.put,hds]) hQ
namespace W
section
variable{m0:Xq}{fs:Fs}{ps:XB Pc}{os:XB Oper}
def Vn.str{s d e q:WK}{x:WM}{a:WH}{len cap:Nat}{ns:XB Int}{ty:WK}{p:String}{af:XD Edge}(hs:E.P.underlying s=some (.slice e))(he:E.P.underlying e=some (.int .u8))(hd:E.P.underlying d=some .string)(hx:ev E fs x=some (.slice a len cap))(hc:∀m,Hp m0 m ps->cu 1 (.slice a len cap) len m=some (ns.map (Value.int .u8)))(hq:Nat.blt q n=true)
  (k:Vn E n ops K os m0 ((q,.string (CA ns))::fs) ps):Vn E n ops K (⟨some q,.convert s d x,ty,p,af,none⟩::os) m0 fs ps:=fun t m hfr hm=>by
 have hq':q<n:=by rwa[VS] at hq
 refine fg.str rfl rfl hs he hd (hfr.ev hx) (hc m hm) ⟨_,by rw[cK,Ui hq'],k _ m hfr.set hm⟩
end
end W
end
end Go.Ab
namespace Go.Ab.W
open Go Go.Ab
class TyC (P:WN) (ty:WK) (ag:outParam Bool) (sz:outParam Nat):Prop where
 t:TyI P ty ag sz
class FaC (P:WN) (ty:WK) (f:Nat) (off:outParam Nat):Prop where
 t:∀b o:Nat,aR P ty (ptr b o) f=some (ptr b (o+off))
class SlC (P:WN) (ty:WK) (el:outParam WK) (w:outParam Nat):Prop where
 t:SlT P ty el w
class ArC (P:WN) (ty:WK) (el:outParam WK) (len w:outParam Nat):Prop where
 t:ArT P ty el len w
class UsC (P:WN) (ty:WK) (el:outParam WK):Prop where
 t:P.underlying ty=some (.slice el)
section
variable{E:Env}{n:Nat}{m0:Xq}{fs:Fs}{ps ps':XB Pc}{ops:XD Oper}{os:XB Oper}{K:Tm->Xq->Prop}{dr:Bool}
variable{ty:WK}{p:String}{af:XD Edge}{d:XA Nat}{o:Op}{g:XA (Nat×Bool)}{v:WJ}
def Wo.Tn{j:Nat}{b:Bool}(hg:sT ops fs (some (j,b)) true)(k:Wo dr E n ops K (⟨d,o,ty,p,af,none⟩::os) m0 fs ps):Wo dr E n ops K (⟨d,o,ty,p,af,some (j,b)⟩::os) m0 fs ps:=by
 cases dr with
 | false =>
  intro t m hf hm;have h:=k t m hf hm;simp only[qn,hg t _ _ _ _ _ hf,if_true];simp only[qn,gn t _ _ _ _ _ hf,if_true] at h;exact h
 | true =>
  intro t m w hf hm hw;have h:=k t m w hf hm hw;simp only[iB,hg t _ _ _ _ _ hf,if_true];simp only[iB,gn t _ _ _ _ _ hf,if_true] at h;exact h
end
section
variable{k:IntKind}{P:WN}{ty:WK}
def OG(_:k.signed=true)(a b:Int):bf .add ty P (.int k a) (.int k b)=some (.int k (k.wrap (a+b))):=dv _ _ _
def Ov(_:k.signed=true)(a b:Int):bf .sub ty P (.int k a) (.int k b)=some (.int k (k.wrap (a-b))):=jl _ _ _
def NB(_:k.signed=true)(a b:Int):bf .lss ty P (.int k a) (.int k b)=some (.bool (decide (a<b))):=ga _ _ _
def NN(_:k.signed=true)(a b:Int):bf .leq ty P (.int k a) (.int k b)=some (.bool (decide (a<=b))):=rJ _ _ _
def O2(_:k.signed=true)(a b:Int):bf .gtr ty P (.int k a) (.int k b)=some (.bool (decide (b<a))):=zd _ _ _
def OP(_:k.signed=true)(a b:Int):bf .geq ty P (.int k a) (.int k b)=some (.bool (decide (b<=a))):=yo _ _ _
def PO(_:k.signed=true)(a b:Int):bf .eql ty P (.int k a) (.int k b)=some (.bool (decide (a=b))):=pf _ _ _
def ON(_:k.signed=true)(a b:Int):bf .neq ty P (.int k a) (.int k b)=some (.bool (!decide (a=b))):=yy _ _
def N8(_:k.signed=false)(a b:Nat):bf .lss ty P (.int k (a:Int)) (.int k (b:Int))=some (.bool (decide (a<b))):=On _ _
def N0(_:k.signed=false)(a b:Nat):bf .leq ty P (.int k (a:Int)) (.int k (b:Int))=some (.bool (decide (a<=b))):=OV _ _
def OX(_:k.signed=false)(a b:Nat):bf .gtr ty P (.int k (a:Int)) (.int k (b:Int))=some (.bool (decide (b<a))):=Oj _ _
def NI(_:k.signed=false)(a b:Nat):bf .geq ty P (.int k (a:Int)) (.int k (b:Int))=some (.bool (decide (b<=a))):=Pt _ _
def Nu(_:k.signed=false)(a b:Nat):bf .eql ty P (.int k (a:Int)) (.int k (b:Int))=some (.bool (decide (a=b))):=OC _ _
def Po(_:k.signed=false)(a b:Nat):bf .neq ty P (.int k (a:Int)) (.int k (b:Int))=some (.bool (!decide (a=b))):=NV _ _
end
section
variable{E:Env}{n:Nat}{m0:Xq}{fs:Fs}{ps ps':XB Pc}{ops:XD Oper}{os:XB Oper}{K:Tm->Xq->Prop}{dr:Bool}
variable{ty ty' oty:WK}{p:String}{af:XD Edge}{d:Nat}{dd:XA Nat}{o:Op}{a b r v:WJ}{x y c:WM}
def Wo.kN(k:Wo dr E n ops K (⟨dd,o,ty,p,af,none⟩::os) m0 fs ps):Wo dr E n ops K (⟨dd,o,ty,p,af,none⟩::os) m0 fs ps:=k
def Wo.kG{g:Nat×Bool}(k:Wo dr E n ops K (⟨dd,o,ty,p,af,some g⟩::os) m0 fs ps):Wo dr E n ops K (⟨dd,o,ty,p,af,some g⟩::os) m0 fs ps:=k
def Has(ps:XB Pc)(q:Pc):Prop:=∃k,pk ps k=some q
def Has.z{q:Pc}:Has (q::ps) q:=⟨0,rfl⟩
def Has.s{q q':Pc}(h:Has ps q):Has (q'::ps) q:=by obtain⟨k,h⟩:=h; exact⟨k+1,h⟩
def Wo.TI(h:ev E fs x=some v)(hd:Nat.blt d n=true)(k:Wo dr E n ops K os m0 ((d,v)::fs) ps):Wo dr E n ops K (⟨some d,.move x,ty,p,af,none⟩::os) m0 fs ps:=WW (aI h) hd k
def Wo.TJ(h:ev E fs x=some v)(hd:Nat.blt d n=true)(k:Wo dr E n ops K os m0 ((d,v)::fs) ps):Wo dr E n ops K (⟨some d,.assign x,ty,p,af,none⟩::os) m0 fs ps:=WW (cW h) hd k
def Wo.TL{op:BinOp}(h:ev E fs x=some a)(h':ev E fs y=some b)(hr:bf op oty E.P a b=some r)(hd:Nat.blt d n=true)(k:Wo dr E n ops K os m0 ((d,r)::fs) ps):Wo dr E n ops K (⟨some d,.binOp op oty x y ty',ty,p,af,none⟩::os) m0 fs ps:=WW (aN h h' hr) hd k
def Wo.TH{f:Nat}(h:ev E fs x=some a)(hr:aR E.P oty a f=some r)(hd:Nat.blt d n=true)(k:Wo dr E n ops K os m0 ((d,r)::fs) ps):Wo dr E n ops K (⟨some d,.fieldAddr oty x f,ty,p,af,none⟩::os) m0 fs ps:=WW (bJ h hr) hd k
def Wo.Tw{ag:Bool}{sz b o:Nat}{cs:XB WJ}{tg:Tag}(ht:TyI E.P oty ag sz)(hx:ev E fs x=some (ptr b o))(hp:Has ps (.obj b (.cells cs tg)))(hv:AP ag sz cs o=some v)(hd:Nat.blt d n=true)(k:Wo dr E n ops K os m0 ((d,v)::fs) ps):Wo dr E n ops K (⟨some d,.load oty x,ty,p,af,none⟩::os) m0 fs ps:=by
 obtain⟨q,hp⟩:=hp;exact WW (aV ht hx hp hv) hd k
def Wo.Sq{ag:Bool}{sz b o w j c l:Nat}{es:WG}{e:XB WJ}(ht:TyI E.P oty ag sz)(hx:ev E fs x=some (ptr b (o+j*w+c)))(hp:Has ps (.ro b o w l es))(he:es[j]? = some e)(hv:AP ag sz e c=some v)(hs:yG ag sz c w=true)(hd:Nat.blt d n=true)(k:Wo dr E n ops K os m0 ((d,v)::fs) ps):Wo dr E n ops K (⟨some d,.load oty x,ty,p,af,none⟩::os) m0 fs ps:=by
 obtain⟨q,hp⟩:=hp;exact WW (jD ht hx hp he hv hs) hd k
def Wo.SI{ag:Bool}{sz b w j c l:Nat}{es:WG}{e:XB WJ}{tg:Tag}(ht:TyI E.P oty ag sz)(hx:ev E fs x=some (ptr b (j*w+c)))(hp:Has ps (.arr b w l es tg))(he:es[j]? = some e)(hv:AP ag sz e c=some v)(hs:yG ag sz c w=true)(hd:Nat.blt d n=true)(k:Wo dr E n ops K os m0 ((d,v)::fs) ps):Wo dr E n ops K (⟨some d,.load oty x,ty,p,af,none⟩::os) m0 fs ps:=by
 obtain⟨q,hp⟩:=hp;exact WW (As ht hx hp he hv hs) hd k
def HN(ps:XB Pc)(q q':Pc)(ps':XB Pc):Prop:=∃k,pk ps k=some q/\df ps k q'=ps'
def HN.z{q q':Pc}:HN (q::ps) q q' (q'::ps):=⟨0,rfl,rfl⟩
def HN.s{q q' r:Pc}(h:HN ps q q' ps'):HN (r::ps) q q' (r::ps'):=by obtain⟨k,h,h'⟩:=h; exact⟨k+1,h,by rw[<-h']; rfl⟩
def Wo.TG{ag:Bool}{sz b o:Nat}{cs cs':XB WJ}{tg:Tag}(ht:TyI E.P oty ag sz)(hx:ev E fs x=some (ptr b o))(hy:ev E fs y=some v)(hp:HN ps (.obj b (.cells cs tg)) (.obj b (.cells cs' tg)) ps')(htg:AK tg=true)(hv:MI cs o v sz=some cs')(k:Wo dr E n ops K os m0 fs ps'):Wo dr E n ops K (⟨none,.store oty x y,ty,p,af,none⟩::os) m0 fs ps:=by
 obtain⟨q,hp,rfl⟩:=hp;exact Xi (da ht hx hy hp htg hv) k
def Wo.TB{b:Bool}(hc:ev E fs c=some (.bool b))(hb:b=true)(h:ev E fs x=some v)(hd:Nat.blt d n=true)(k:Wo dr E n ops K os m0 ((d,v)::fs) ps):Wo dr E n ops K (⟨some d,.pick c x y,ty,p,af,none⟩::os) m0 fs ps:=WW (RJ hc hb h) hd k
def Wo.TW{b:Bool}(hc:ev E fs c=some (.bool b))(hb:b=false)(h:ev E fs y=some v)(hd:Nat.blt d n=true)(k:Wo dr E n ops K os m0 ((d,v)::fs) ps):Wo dr E n ops K (⟨some d,.pick c x y,ty,p,af,none⟩::os) m0 fs ps:=WW (Q9 hc hb h) hd k
def Wo.TP(hc:ev E fs c=some (.bool true))(h:ev E fs x=some v)(hd:Nat.blt d n=true)(k:Wo dr E n ops K os m0 ((d,v)::fs) ps):Wo dr E n ops K (⟨some d,.pick c x y,ty,p,af,none⟩::os) m0 fs ps:=WW (RY hc h) hd k
def Wo.T1(hc:ev E fs c=some (.bool false))(h:ev E fs y=some v)(hd:Nat.blt d n=true)(k:Wo dr E n ops K os m0 ((d,v)::fs) ps):Wo dr E n ops K (⟨some d,.pick c x y,ty,p,af,none⟩::os) m0 fs ps:=WW (RF hc h) hd k
def Wo.TT{i:Nat}{vs:XD WJ}(h:ev E fs x=some (.tuple vs))(hr:vs[i]? = some r)(hd:Nat.blt d n=true)(k:Wo dr E n ops K os m0 ((d,r)::fs) ps):Wo dr E n ops K (⟨some d,.extract x i,ty,p,af,none⟩::os) m0 fs ps:=WW (NL h hr) hd k
def Wo.TS{b:Bool}(h:ev E fs x=some (.bool b))(hd:Nat.blt d n=true)(k:Wo dr E n ops K os m0 ((d,.bool (!b))::fs) ps):Wo dr E n ops K (⟨some d,.unOp .not oty x,ty,p,af,none⟩::os) m0 fs ps:=WW (Mt h rfl) hd k
def Wo.TQ{el:WK}{len w b o i:Nat}{kd:IntKind}(ht:ArT E.P oty el len w)(h:ev E fs x=some (ptr b o))(h':ev E fs y=some (.int kd (i:Int)))(hi:i<len)(hd:Nat.blt d n=true)(k:Wo dr E n ops K os m0 ((d,ptr b (o+i*w))::fs) ps):Wo dr E n ops K (⟨some d,.indexAddr oty x y,ty,p,af,none⟩::os) m0 fs ps:=WW (O5 h h' (Rp ht hi)) hd k
def Wo.Sy{elem:WK}{b o w l cap:Nat}{i:Int}{kd:IntKind}(ht:SlT E.P oty elem w)(hx:ev E fs x=some (.slice (some ⟨b,o,none⟩) l cap))(hy:ev E fs y=some (.int kd i))(hi:0<=i/\i.toNat<l)(hd:Nat.blt d n=true)(k:Wo dr E n ops K os m0 ((d,ptr b (o+i.toNat*w+0))::fs) ps):Wo dr E n ops K (⟨some d,.indexAddr oty x y,ty,p,af,none⟩::os) m0 fs ps:=WW (ew ht hx hy hi) hd k
def Wo.Si{elem:WK}{b w l cap:Nat}{i:Int}{kd:IntKind}(ht:SlT E.P oty elem w)(hx:ev E fs x=some (.slice (some ⟨b,0,none⟩) l cap))(hy:ev E fs y=some (.int kd i))(hi:0<=i/\i.toNat<l)(hd:Nat.blt d n=true)(k:Wo dr E n ops K os m0 ((d,ptr b (i.toNat*w+0))::fs) ps):Wo dr E n ops K (⟨some d,.indexAddr oty x y,ty,p,af,none⟩::os) m0 fs ps:=WW (hZ ht hx hy hi) hd k
def AO(ps:XB Pc)(a:WH):Prop:=∃k q,pk ps k=some q/\(cC a=q.rX\/a=none)
def AO.z{q:Pc}{a:WH}(h:cC a=q.rX):AO (q::ps) a:=⟨0,q,rfl,.inl h⟩
def AO.s{q:Pc}{a:WH}(h:AO ps a):AO (q::ps) a:=by obtain⟨k,r,h⟩:=h; exact⟨k+1,r,h⟩
def Wo.TA{l cap:Nat}{a:WH}{ars:XD WM}{elem:WK}(hu:E.P.underlying oty=some (.slice elem))(ha:jK E fs ars.toList=some [.slice a l cap])(hp:AO ps a)(hd:Nat.blt d n=true)(k:Wo dr E n ops K os m0 ((d,.int .i64 (l:Int))::fs) ps):Wo dr E n ops K (⟨some d,.call ⟨.builtin .len,ars,#[oty]⟩,ty,p,af,none⟩::os) m0 fs ps:=by
 obtain⟨_,_,hp,hb⟩:=hp;exact WW (td hu ha hp hb) hd k
def Wo.zT{j:Nat}{q:Bool}(hd:(ops[j]?).bind (·.dst)=some d)(h:lk fs d=some (.bool q))(hq:q=true)(k:Wo dr E n ops K (⟨dd,o,ty,p,af,none⟩::os) m0 fs ps):Wo dr E n ops K (⟨dd,o,ty,p,af,some (j,true)⟩::os) m0 fs ps:=Wo.Tn (gg hd h (SU hq)) k
def Wo.zF{j:Nat}{q:Bool}(hd:(ops[j]?).bind (·.dst)=some d)(h:lk fs d=some (.bool q))(hq:q=false)(k:Wo dr E n ops K (⟨dd,o,ty,p,af,none⟩::os) m0 fs ps):Wo dr E n ops K (⟨dd,o,ty,p,af,some (j,false)⟩::os) m0 fs ps:=Wo.Tn (gg hd h (qZ hq)) k
def Wo.Ty{j d':Nat}{q:Bool}(hd:(ops[j]?).bind (·.dst)=some d')(h:lk fs d'=some (.bool q))(hq:q=false)(hd':Nat.blt d n=true)(k:Wo dr E n ops K os m0 ((d,undef)::fs) ps):Wo dr E n ops K (⟨some d,o,ty,p,af,some (j,true)⟩::os) m0 fs ps:=Wo.s (gg hd h (T0 hq)) hd' k
def Wo.TN{j d':Nat}{q:Bool}(hd:(ops[j]?).bind (·.dst)=some d')(h:lk fs d'=some (.bool q))(hq:q=true)(hd':Nat.blt d n=true)(k:Wo dr E n ops K os m0 ((d,undef)::fs) ps):Wo dr E n ops K (⟨some d,o,ty,p,af,some (j,false)⟩::os) m0 fs ps:=Wo.s (gg hd h (Lv hq)) hd' k
def Wo.TE{j d':Nat}{q:Bool}(hd:(ops[j]?).bind (·.dst)=some d')(h:lk fs d'=some undef)(hd':Nat.blt d n=true)(k:Wo dr E n ops K os m0 ((d,undef)::fs) ps):Wo dr E n ops K (⟨some d,o,ty,p,af,some (j,q)⟩::os) m0 fs ps:=Wo.s (gu hd h) hd' k
end
structure Bx(Q:Prop):Prop where
 v:Q
def wz{P Q:Prop}(k:Q)(h:Bx Q->P:=by
  intro h
  repeat first
   | refine WX ?_
   | refine WZ ?_
   |(apply Wk.fW; exact rfl; first|assumption|exact rfl)
   |(apply Wk.lN; exact rfl; first|assumption|exact rfl)
   | refine Wk.skip ?_
   | refine Wk.ret ?_
   | refine Wk.exit ?_
   | refine W0 ?_
   |(apply Wk.draw; kernel_rfl)
  repeat first
   |((first|refine Wo.kN ?_ |(refine Wo.kG ?_; first |(apply Wo.zT; exact rfl; exact rfl; first|assumption|with_reducible exact rfl) |(apply Wo.zF; exact rfl; exact rfl; first|assumption|with_reducible exact rfl))); first
    |(apply Wo.TI; exact rfl; exact rfl)
    |(apply Wo.TJ; exact rfl; exact rfl)
    |(apply Wo.TL; exact rfl; exact rfl;(first |(apply OG; exact rfl) |(apply NB; exact rfl) |(apply Ov; exact rfl) |(apply PO; exact rfl) |(apply ON; exact rfl) |(apply OP; exact rfl) |(apply O2; exact rfl) |(apply NN; exact rfl) |(apply Nu; exact rfl) |(apply Po; exact rfl) |(apply N8; exact rfl) |(apply N0; exact rfl) |(apply NI; exact rfl) |(apply OX; exact rfl) |(apply H0; exact rfl) |(apply EY; exact rfl) |(apply Dn; exact rfl) |(apply yk; exact rfl) |(apply ub_andn; exact rfl)); exact rfl)
    |(apply Wo.TH; exact rfl; exact FaC.t _ _; exact rfl)
    |(apply Wo.Tw; exact TyC.t; exact rfl;(repeat first|exact Has.z|refine Has.s ?_); exact rfl; exact rfl)
    |(apply Wo.Sq; exact TyC.t; exact rfl;(repeat first|exact Has.z|refine Has.s ?_); exact eH (by assumption); exact rfl; exact rfl; exact rfl)
    |(apply Wo.SI; exact TyC.t; exact rfl;(repeat first|exact Has.z|refine Has.s ?_); exact eH (by assumption); exact rfl; exact rfl; exact rfl)
    |(apply Wo.TG; exact TyC.t; exact rfl; exact rfl;(repeat first|exact HN.z|apply HN.s); exact rfl; exact rfl)
    |(apply Wo.TB; exact rfl; assumption; exact rfl; exact rfl)
    |(apply Wo.TW; exact rfl; assumption; exact rfl; exact rfl)
    |(apply Wo.TP; exact rfl; exact rfl; exact rfl)
    |(apply Wo.T1; exact rfl; exact rfl; exact rfl)
    |(apply Wo.TT; exact rfl; exact rfl; exact rfl)
    |(apply Wo.TS; exact rfl; exact rfl)
    |(apply Wo.TQ; exact ArC.t; exact rfl; exact rfl; decide; exact rfl)
    |(apply Wo.Si; exact SlC.t; exact rfl; exact rfl; assumption; exact rfl)
    |(apply Wo.Sy; exact SlC.t; exact rfl; exact rfl; assumption; exact rfl)
    |(apply Wo.TA; exact UsC.t; exact rfl;(repeat first|exact AO.z rfl|refine AO.s ?_); exact rfl))
   |(refine Wo.kG ?_; first
    |(apply Wo.Ty; exact rfl; exact rfl;(first|assumption|with_reducible exact rfl); exact rfl)
    |(apply Wo.TN; exact rfl; exact rfl;(first|assumption|with_reducible exact rfl); exact rfl)
    |(apply Wo.TE; exact rfl; exact rfl; exact rfl))
  try refine W7 ?_
  repeat first
   | refine W5 ?_
   | refine At.te ?_
   | refine At.tr ?_
   | refine At.bn ?_
   | refine At.be ?_
   | refine At.br ?_
   | refine At.bx rfl ?_
  exact h.v):P:=h ⟨k⟩
def au{P Q:Prop}(k:Q)(h:Bx Q->P:=by intro h; refine wz ?_; refine wz ?_; exact h.v):P:=h ⟨k⟩
def eO{P Q:Prop}(k:Q)(h:Bx Q->P:=by intro h; refine wz ?_; refine wz ?_; refine wz ?_; exact h.v):P:=h ⟨k⟩
def R8{P Q:Prop}(k:Q)(h:Bx Q->P:=by intro h; refine wz ?_; refine wz ?_; refine wz ?_; refine wz ?_; exact h.v):P:=h ⟨k⟩
section
variable{E:Env}{n:Nat}{m0:Xq}{fs:Fs}{ps:XB Pc}{fn:XI}{ro:XA Nat}{c:Code}{Q:Xr->Tm->Xq->Prop}
def Wl(E:Env)(n:Nat)(fn:XI)(ro:XA Nat)(c:Code)(Q:Xr->Tm->Xq->Prop)(m0:Xq)(fs:Fs)(ps:XB Pc):Prop:=∀t m,Fr t fs->Hp m0 m ps->wj E n fn ro c Q t m
end
def bU{β:Type}{i:Int}{n:Nat}{k:XA β}{r:β}(h:gd (bB i n) k=some r):(0<=i/\i.toNat<n)/\k=some r:=⟨j9 (aD h).1,(aD h).2⟩
section
variable{E:Env}{n:Nat}{m0:Xq}{fs fs':Fs}{ps ps':XB Pc}{ops:XD Oper}{os:XB Oper}{K:Tm->Xq->Prop}{dr:Bool}{fn:XI}{ro:XA Nat}{c:Code}{Q:Xr->Tm->Xq->Prop}
variable{ty oty:WK}{p:String}{af:XD Edge}{d:Nat}{g:XA (Nat×Bool)}{x:WM}{v:WJ}
def ae{γ:Type}{G:γ->En}{e:Xr}(g:γ)(ks:XB Nat)(he:e=(G g).e:=by rfl)(hs:sub fs (G g).fs:=by repeat first|exact sn|refine sc rfl ?_)(hn:lV ks=true:=by rfl)(hp:an ps ks=some (G g).ps:=by rfl):At (nZ m0 G) e m0 fs ps:=At.en g he hs (ai.an ks hn hp)
def ar{α:Type}{V:α->WJ}{N:α->XB Pc}{rs:XB ResultVar}{vs:XB WJ}(x:α)(ks:XB Nat)(hr:Res1 E fs ps rs vs:=by repeat first|exact .nil |(apply Res1.tmp; exact rfl) |(apply Res1.zc; exact TyC.t; exact rfl;(repeat first|exact Has.z|refine Has.s ?_); exact rfl))(hv:fw vs=V x:=by rfl)(hn:lV ks=true:=by rfl)(hp:an ps ks=some (N x):=by rfl):At (lB E rs fun v m=>∃x,v=V x/\Hp m0 m (N x)) .ret m0 fs ps:=.ret hr fun _ hm=>⟨x,hv,hm.an ks hn hp⟩
def ap{ρ:Type}{δ:ρ->Type}(X:(r:ρ)->δ r->En)(r:ρ):δ r->En:=X r
def lo{σ ρ γ:Type}{δ:ρ->Type}{body:σ->XA (σ⊕ρ)}{X:(r:ρ)->δ r->En}{N:Nat}{s:σ}{r:ρ}(h:bN body N s=some r)(g:γ)(ks:XB Nat)(I:σ->γ->En)
  (hb:∀s g r,body s=some r->Wk E n fn ro c (match r with|.inl s'=>nZ m0 (I s')|.inr r=>nZ m0 (X r)) m0 (I s g).fs (I s g).ps)
  (hs:sub fs (I s g).fs:=by repeat first|exact sn|refine sc rfl ?_) (hd:lV ks=true:=by rfl) (hp:an ps ks=some (I s g).ps:=by rfl)
  (hn:∀s g,(I s g).e=.normal:=by exact fun _ _=>rfl) (hx:∀r g,(X r g).e≠.normal:=by intro r d; first |(intro e; cases e; done) |(rcases r with r|r<;>first |(intro e; cases e; done) |(rcases r with r|r<;>first |(intro e; cases e; done) |(rcases r with r|r<;>intro e<;>cases e)))):Wk E n fn ro (.loop c) (nZ m0 (ap X r)) m0 fs ps:=.Jd hs (ai.an ks hd hp) (Wk.loop body I X hb hn hx N s r h g)
def ct{ρ γ:Type}(F:ρ->γ->En)(r:ρ)(h:Wk E n fn ro c (nZ m0 (ap F r)) m0 fs ps)(k:∀g,At Q (F r g).e m0 (F r g).fs (F r g).ps):Wk E n fn ro c Q m0 fs ps:=.cut h k
def wb(k:∀b,Wo dr E n ops K os m0 ((d,ptr b 0)::fs) (.obj b (.cells v.cells.toList .own)::ps))(h:ev E fs x=some v:=by rfl)(hd:Nat.blt d n=true:=by rfl):Wo dr E n ops K (⟨some d,.box oty x,ty,p,af,none⟩::os) m0 fs ps:=W9 (Su h) gn hd k
def wa{z:WJ}(hz:bR E.P oty=some z)(k:∀b,Wo dr E n ops K os m0 ((d,ptr b 0)::fs) (.obj b (.cells z.cells.toList .own)::ps))(hp:bG z=true:=by rfl)(hd:Nat.blt d n=true:=by rfl):Wo dr E n ops K (⟨some d,.alloc oty,ty,p,af,none⟩::os) m0 fs ps:=W9 (ua hz hp) gn hd k
def cw{f:XI}{F:Func}{args:XB WJ}{rs:XB ResultVar}{N:Nat}{R:WJ->Xq->Prop}{m:Xq}(hf:E.P.funcs[f]? = some F)(hm:Hp m0 m ps)(h:Wk E N f none c (lB E rs R) m0 (wG args 0 []) ps)(hp:E.cT f=none:=by rfl)(hb:F.body=some c:=by rfl)(hrs:F.results.toList=rs:=by rfl)(hN:max args.length F.ntmps=N:=by rfl):ax E f args m R:=fX hp hf hb hrs hN hm h
variable{m:Xq}{a:WH}{cap w l:Nat}{es:WG}
def Hp.q(h:Hp m0 m ps)(k:Nat){p:Pc}(hp:pk ps k=some p:=by rfl)(hi:IsRd p a cap w l es:=by first|exact .rd _ _ _ _ _|exact .sl _ _ _ _|exact .arr _ _ _ _ _):Rd m a cap w l es:=h.rd hp hi
def Hp.no(h:Hp m0 m ps)(k:Nat)(hp:pk ps k=some (.rd a cap w l es):=by rfl):∀b,cC a=some b->¬kM ps b:=h.RI hp
variable{α:Type}{V:α->WJ}{N:α->XB Pc}{R:α->Pc}{f:WM}{q:XI}{ars:XD WM}{ts:XD WK}{args:XB WJ}{prs:XB (Nat×Nat)}{ss:XB Nk}
def wc(hg:sT ops fs g true)(hc:∀m,Hp m0 m ps->ax E q args m (fun v m'=>∃x,v=V x/\Hp m m' (N x)))(k:∀x,Wo dr E n ops K os m0 ((d,V x)::fs) (N x++ps))(hf:ev E fs f=some (.func (.func q) #[] #[]):=by rfl)(ha:jK E fs ars.toList=some args:=by rfl)(ho:∀x,xZ (N x)=true:=by exact fun _=>rfl)(hd:Nat.blt d n=true:=by rfl):Wo dr E n ops K (⟨some d,.call ⟨.value f,ars,ts⟩,ty,p,af,g⟩::os) m0 fs ps:=W9 (SJ hf ha hc ho) hg hd k
def wv(hg:sT ops fs g true)(hc:∀m,Hp m0 m ps->ax E q args m (fun v m'=>∃x,v=V x/\Hp m m' [R x,.gen (pU (kM ps))]))(k:∀x,Wo dr E n ops K os m0 ((d,V x)::fs) (R x::ps))(hf:ev E fs f=some (.func (.func q) #[] #[]):=by rfl)(ha:jK E fs ars.toList=some args:=by rfl)(ho:∀x,j4 [R x]=true:=by exact fun _=>rfl)(hd:Nat.blt d n=true:=by rfl):Wo dr E n ops K (⟨some d,.call ⟨.value f,ars,ts⟩,ty,p,af,g⟩::os) m0 fs ps:=W9 (Fa (N:=fun x=>[R x]) hf ha hc ho) hg hd k
def nc(hg:sT ops fs g true)(hc:∀m,Hp m0 m ps->ax E q args m (fun v m'=>∃x,v=V x/\Hp m m' (N x)))(k:∀x,Wn E n ops prs K os (.call::ss) m0 ((d,V x)::fs) (N x++ps))(hf:ev E fs f=some (.func (.func q) #[] #[]):=by rfl)(ha:jK E fs ars.toList=some args:=by rfl)(ho:∀x,xZ (N x)=true:=by exact fun _=>rfl)(hd:Nat.blt d n=true:=by rfl):Wn E n ops prs K (⟨some d,.call ⟨.value f,ars,ts⟩,ty,p,af,g⟩::os) ss m0 fs ps:=Wn.c (SW hf ha hc ho) hg hd k
def nv(hg:sT ops fs g true)(hc:∀m,Hp m0 m ps->ax E q args m (fun v m'=>∃x,v=V x/\Hp m m' [R x,.gen (pU (kM ps))]))(k:∀x,Wn E n ops prs K os (.call::ss) m0 ((d,V x)::fs) (R x::ps))(hf:ev E fs f=some (.func (.func q) #[] #[]):=by rfl)(ha:jK E fs ars.toList=some args:=by rfl)(ho:∀x,j4 [R x]=true:=by exact fun _=>rfl)(hd:Nat.blt d n=true:=by rfl):Wn E n ops prs K (⟨some d,.call ⟨.value f,ars,ts⟩,ty,p,af,g⟩::os) ss m0 fs ps:=Wn.c (Np (N:=fun x=>[R x]) hf ha hc ho) hg hd k
end
end Go.Ab.W
namespace Go.Proofs.YtpkadoocdgdcfaaGreatDoor
section
open Go Go.Ab Go.Ab.W
set_option maxRecDepth 100000
namespace Nm
attribute [local irreducible] Wo Wk At Wn Od Ox bA bf
attribute [local irreducible] Tm.at Trie.set Trie.get Xq.get Xq.set Xq.alloc Xq.ww Xq.kill
variable{p q pz:XA Prim}
def rm(n:Nat)(l1:XB (Int)):(XB (Nat)×Int)->XA ((XB (Nat)×Int) ⊕(XB (Nat))):=fun(l20,v21) =>
br (decide (v21<(l1.length:Int))) (
gd (bB v21 l1.length) (
ob (l1[v21.toNat]?) fun x39 =>
gd (bB v21 ((l1.length:Int).toNat)) (
ob (l20[v21.toNat]?) fun x42 =>
some (.inl ((l20.set v21.toNat (ui .u8 x39)),WQ (v21+1)))))) (
some (.inr l20))
def KH(n:Nat)(l1:XB (Int)):XA (XB (Nat)×Nat) :=
gd (decide (0<=(l1.length:Int))) (gd (lim ((l1.length:Int).toNat)) (
ob (
bN (rm n l1) n ((List.replicate (l1.length:Int).toNat (0:Nat)),0)) fun l34 =>
some (l34,(l1.length:Int).toNat)))
def Tp:(dy p q pz).P.underlying 39=some (.slice 3):=by kernel_rfl
def z5:bR (dy p q pz).P 5=some (.int .u8 ((0:Nat):Int)):=by kernel_rfl
def T4:SlT (dy p q pz).P 39 3 1:=SlT.of (by kernel_rfl)
def Gp:TyI (dy p q pz).P 3 false 1:=⟨by kernel_rfl,by kernel_rfl,by kernel_rfl⟩
def u3:(dy p q pz).P.underlying 3=some (.int .i64):=by kernel_rfl
def u5:(dy p q pz).P.underlying 5=some (.int .u8):=by kernel_rfl
def Ql:SlT (dy p q pz).P 26 5 1:=SlT.of (by kernel_rfl)
def QW:TyI (dy p q pz).P 5 false 1:=⟨by kernel_rfl,by kernel_rfl,by kernel_rfl⟩
def KN(hE:EnvOk (dy p q pz))(n:Nat)(l1:XB (Int))(a2:WH)(c3:Nat)(r:XB (Nat)×Nat)(hF:KH n l1=some r)(m:Xq)(h4:Rd m a2 c3 1 l1.length (l1.map (eI .i64))){R:WJ->Xq->Prop}(kN:∀g:WH,Vk (dy p q pz) 24 70 none (Sl 3 (xT Tryz.f70)) (lB (dy p q pz) [.tmp 2] R) m ((fun(r:XB (Nat)×Nat) (g:WH)=>match r,g with |(l47,n49),a48=>([(3,.slice a48 n49 n49)]:Fs)) r g) ((fun(r:XB (Nat)×Nat) (g:WH)=>match r,g with |(l47,n49),a48=>([.sl a48 1 n49 (l47.map (eN .u8))]:XB Pc)) r g)) :
  Vk (dy p q pz) 24 70 none (xT Tryz.f70) (lB (dy p q pz) [.tmp 2] R) m (wG [.slice a2 l1.length c3] 0 []) [.rd a2 c3 1 l1.length (l1.map (eI .i64))]:=by
 unfold KH at hF;refine Vk.seq hE ?_;refine WZ ?_;refine WW (cW rfl) rfl ?_;refine W7 ?_;refine At.Sp ?_;refine Vk.seq hE ?_;refine WZ ?_;refine WW (aI rfl) rfl ?_;refine WW (td (k:=0) Tp rfl rfl (.inl rfl)) rfl ?_;obtain⟨h5,hF⟩:=aD hF;obtain⟨h6,hF⟩:=aD hF;refine W9 (lG (f:=eN .u8) (z0:=(0:Nat)) Ql rfl h5 h6 z5 rfl rfl) gn rfl fun b7=>?_;refine WW (cW rfl) rfl ?_;refine W7 ?_;refine At.Sp ?_;refine Vk.seq hE ?_;refine WX ?_;refine WZ ?_;refine WW (aI rfl) rfl ?_;refine WW (td (k:=1) Tp rfl rfl (.inl rfl)) rfl ?_;refine WW (aI rfl) rfl ?_;refine W7 ?_;refine W5 ?_;refine W0 ?_;obtain⟨l34,h45,hF⟩:=aa hF;refine Wk.cut (G:=(fun(r:XB (Nat)) (g:XC)=>match r,g with|l34,_=>⟨(.exit 0),[(3,.slice (some ⟨b7,0,none⟩) ((l1.length:Int).toNat) ((l1.length:Int).toNat))],[.arr b7 1 ((l1.length:Int).toNat) (l34.map (eN .u8)) .own]⟩) l34) ?_ ?_
 refine Wk.Jd (fs':=[(3,.slice (some ⟨b7,0,none⟩) ((l1.length:Int).toNat) ((l1.length:Int).toNat)),(9,.slice a2 l1.length c3),(10,.int .i64 (l1.length:Int)),(11,.int .i64 0)]) (ps':=[.arr b7 1 ((l1.length:Int).toNat) ((List.replicate (l1.length:Int).toNat (0:Nat)).map (eN .u8)) .own,.rd a2 c3 1 l1.length (l1.map (eI .i64))]) (sc rfl (sc rfl (sc rfl (sc rfl sn)))) (ai.an [0,1] rfl rfl) ?_;refine Wk.loop (σ:=XB (Nat)×Int) (ρ:=XB (Nat)) (γ:=XC) (δ:=fun _=>XC) _ (fun(s:XB (Nat)×Int) (g:XC)=>match s,g with |(l20,v21),_=>⟨.normal,[(3,.slice (some ⟨b7,0,none⟩) ((l1.length:Int).toNat) ((l1.length:Int).toNat)),(9,.slice a2 l1.length c3),(10,.int .i64 (l1.length:Int)),(11,.int .i64 v21)],[.arr b7 1 ((l1.length:Int).toNat) (l20.map (eN .u8)) .own,.rd a2 c3 1 l1.length (l1.map (eI .i64))]⟩) (fun(r:XB (Nat)) (g:XC)=>match r,g with|l34,_=>⟨(.exit 0),[(3,.slice (some ⟨b7,0,none⟩) ((l1.length:Int).toNat) ((l1.length:Int).toNat))],[.arr b7 1 ((l1.length:Int).toNat) (l34.map (eN .u8)) .own]⟩) ?_ (fun _ _=>rfl) (fun r d=>by intro e; cases e) _ _ _ h45 ()
 clear hF h45;rintro⟨l20,v21⟩ ⟨⟩ r hF;unfold rm at hF;refine WX ?_;refine WZ ?_;refine WW (aN rfl rfl (ga _ _ _)) rfl ?_;refine W7 ?_;refine W5 ?_;refine WX ?_;rcases ah hF with⟨h35,hF⟩|⟨h35,hF⟩
 refine Wk.fW rfl h35 ?_;refine Wk.skip ?_;refine W5 ?_;refine WX ?_;refine W0 ?_;refine WX ?_;refine WZ ?_;refine WW (aI rfl) rfl ?_;obtain⟨h36,hF⟩:=aD hF;replace h36:=j9 h36;refine Xc (k:=1) rfl (aG h36) ?_;rintro b37 o38 rfl;refine Xj (ew T4 rfl rfl h36) gn rfl ?_;obtain⟨x39,h40,hF⟩:=aa hF;refine WW (jD (k:=0) Gp rfl rfl (eH h40) rfl rfl) rfl ?_;refine WW (cW rfl) rfl ?_;refine WW (cW rfl) rfl ?_;refine W7 ?_;refine W5 ?_;refine WZ ?_;refine WW (aI rfl) rfl ?_;refine WW (aI rfl) rfl ?_;refine WW (aI rfl) rfl ?_;refine WW (jh rfl (yM (by rw[u3]; rfl) u5 rfl)) rfl ?_
 obtain⟨h41,hF⟩:=aD hF;replace h41:=j9 h41;refine Xj (hZ Ql rfl rfl h41) gn rfl ?_;obtain⟨x42,h43,hF⟩:=aa hF;refine Xi (eG (k:=1) (x1:=x42) (x2:=ui .u8 x39) QW rfl rfl rfl h43 rfl) ?_;refine W7 ?_;refine At.bn ?_;refine W5 ?_;refine WZ ?_;refine WW (aN rfl rfl (dv _ _ _)) rfl ?_;refine WW (aI rfl) rfl ?_;refine W7 ?_;cases hF;exact At.en () rfl (sc rfl (sc rfl (sc rfl (sc rfl sn)))) (ai.an [1,2] rfl rfl)
 refine Wk.lN rfl h35 ?_;refine Wk.exit ?_;refine At.te ?_;cases hF;exact At.en () rfl (sc rfl sn) (ai.an [0] rfl rfl)
 clear h45;rintro⟨⟩;refine At.be ?_;refine At.Sp ?_;cases hF;exact Vk.Jd (sc rfl sn) (ai.trans (ai.close (k:=0) rfl) (ai.an [0] rfl rfl)) (kN (some ⟨b7,0,none⟩))
end Nm
def QD(l1:XB Int)(n0:Nat)(hl:l1.length<9223372036854775807):∀k i m,i+k=l1.length->k<m->bN (Nm.rm n0 l1) m ((l1.take i).map (ui .u8)++List.replicate k 0,(i:Int))=some (l1.map (ui .u8))
 | 0,i,m,h,hm=>by
  obtain⟨m,rfl⟩:∃k,m=k+1:=⟨m-1,by omega⟩
  have hi:i=l1.length:=by omega
  subst hi;rw[List.take_length,List.replicate_zero,Vc];have e1:Nm.rm n0 l1 (l1.map (ui .u8),(l1.length:Int))=some (.inr (l1.map (ui .u8))):=by
   unfold Nm.rm
   dsimp only
   rw[Um (show ¬(l1.length:Int)<(l1.length:Int) by omega)]; rfl
  simp only[bN,e1]
 | k+1,i,m,h,hm=>by
  obtain⟨m,rfl⟩:∃k,m=k+1:=⟨m-1,by omega⟩
  have hi:i<l1.length:=by omega
  have ih:=QD l1 n0 hl k (i+1) m (by omega) (by omega)
  have e1:Nm.rm n0 l1 ((l1.take i).map (ui .u8)++List.replicate (k+1) 0,(i:Int))=some (.inl ((l1.take (i+1)).map (ui .u8)++List.replicate k 0,((i+1:Nat):Int))):=by
   unfold Nm.rm;have b1:bB (i:Int) l1.length=true:=by simp[bB]; omega
   have b2:bB (i:Int) ((l1.length:Int).toNat)=true:=by simp[bB]; omega
   have b3:((l1.take i).map (ui .u8)++List.replicate (k+1) 0)[i]? = some 0:=by
    rw[UJ (by simp; omega)]
    simp[show min i l1.length=i by omega]
   have b4:((l1.take i).map (ui .u8)++List.replicate (k+1) 0).set i (ui .u8 l1[i])=(l1.take (i+1)).map (ui .u8)++List.replicate k 0:=by
    rw[List.set_append_right _ _ (by simp; omega)]
    rw[List.take_succ_eq_append_getElem hi,List.map_append,Vq];simp[show min i l1.length=i by omega,Vl]
   have b5:WQ ((i:Int)+1)=((i+1:Nat):Int):=by
    rw[show WQ ((i:Int)+1)=(i:Int)+1 from wrap_i64 _ (by omega) (by omega)]; omega
   dsimp only
   rw[Ud (show(i:Int)<(l1.length:Int) by omega)]
   simp only[br,gd,ob,T5,b1,b2,b3,T6 hi,b4,b5]
  simp only[bN,e1];exact ih
def K8(l1:XB Int)(hl:lim l1.length=true)(hl2:l1.length<9223372036854775807)(n:Nat)(hn:l1.length<n):Nm.KH n l1=some (l1.map (ui .u8),l1.length):=by
 have h:=QD l1 n hl2 l1.length 0 n (by omega) hn
 rw[List.take_zero,List.map_nil,VA] at h;unfold Nm.KH;simp only[gd,ob,T5,hl,Vi,decide_true,if_true];have h':bN (Nm.rm n l1) n (List.replicate l1.length 0,0)=some (l1.map (ui .u8)):=h;rw[h']
open Go.Ab.W
def bytesOf(l:XB Int):XB Int:=l.map fun x=>((ui .u8 x:Nat):Int)
def sW:∀l:XB Int,((l.map (ui .u8)).map (eN .u8)).flatten=(bytesOf l).map (Value.int .u8)
 | []=>rfl
 | a::l=>by
  have h:=sW l;simp only[Wq,Va,bytesOf] at h ⊢;rw[h]; rfl
def I0{m:Xq}{l:XB Int}{A:WH}{R:WJ->Xq->Prop}(hR:∀m1,Hp m m1 []->R (.string (CA (bytesOf l))) m1):Vk nJ 24 70 none (Sl 3 (xT Tryz.f70)) (lB nJ [.tmp 2] R) m ([(3,.slice A l.length l.length)]:Fs) ([.sl A 1 l.length ((l.map (ui .u8)).map (eN .u8))]:XB Pc):=by
 refine Vk.Gx (Vk.region ?_);refine Vn.pre (os:=[_]) oW (WW (aI rfl) rfl (Wo.SB (dr:=false) ?_));refine Vn.str (e:=5) (ns:=bytesOf l) (by kernel_rfl) (by kernel_rfl) (by kernel_rfl) rfl (fun m1 hm=>?_) rfl ?_
 have h:=hm.get (k:=0) rfl;rw[<-sW];rcases h with⟨h1,h2,rfl,_⟩|⟨b,tg,rfl,h1⟩
 have:l=[]:=Vv h1;subst this; rfl
 exact h1.rd.cells
 refine Vn.of oW (WW (cW rfl) rfl ?_);refine W7 (Q:=fun _=>_) ?_
 show Vk nJ 24 70 none _ _ m _ _
 refine Vk.of oW (Wk.ret ?_);exact W2 (.tmp rfl .nil) fun m1 hm=>hR m1 ((ai.an [] rfl rfl) m1 hm)
def Ik:Tag->Bool
 | .more k=>Nat.beq k 1
 | _=>true
def xh:XB WJ->XA (XB Int)
 | []=>some []
 | .int .i64 x::vs=>(xh vs).map (x::·)
 | _=>none
def q8:∀{vs:XB WJ} {l:XB Int},xh vs=some l->vs=l.map (.int .i64)
 | [],l,h=>by cases h; rfl
 | v::vs,l,h=>by
  unfold xh at h
  split at h
  rename_i e; cases e
  rename_i x vs' e;cases e;obtain⟨l',h1,rfl⟩:=VK.1 h;rw[q8 h1]; rfl
  cases h
def yX(args:XB WJ)(m:Xq):XA (WJ×Xq) :=
 match args with
 | [.slice (some ⟨b,o,none⟩) n c]=>match m.get b with
  | some (.cells cs tag)=>if Nat.ble n c &&(Nat.blt b m.next &&(Ik tag &&(lim n&&Nat.ble (o+n) cs.length))) then(xh ((cs.drop o).take n)).map fun l=>(.string (CA (bytesOf l)),m) else none
  | _=>none
 | _=>none
def AW{args:XB WJ}{m m':Xq}{v:WJ}(h:yX args m=some (v,m'))(pr:Bool){j:aL}{w:WO}{args':XB WJ}(hm:MR nJ j m w)(hl:LR j args args'):dT Tryz.prog pr 70 args'.toArray w (fH nJ j m w v m'):=by
 unfold yX at h
 split at h
 rename_i b o n c
 split at h
 rename_i cs tag hg
 split at h
 rename_i hc;obtain⟨l,h1,h2⟩:=VK.1 h;cases h2;simp only[T7] at hc;obtain⟨c1,c2,c3,c4,c5⟩:=hc;have c5:=Ul c5;have c2:b<m.next:=Ul c2
 have hi:=q8 h1;have hlen:l.length=n:=by
  have:=VB List.length hi;rw[U0,V6,UH] at this; omega
 subst hlen;have hr:∀x,Rd { m with wl:=x} (some ⟨b,o,none⟩) c 1 l.length (l.map (eI .i64)):=fun x=>by
  refine⟨by rw[UH],Ul c1,.inr (.inr ⟨b,o,rfl,c2,cs,tag,hg,fun sz e=>?_,fun i e he=>?_⟩)⟩
  subst e;exact Ue c3
  rw[UN] at he;obtain⟨y,hy,rfl⟩:=VK.1 he;have hil:=(Uq.1 hy).1;refine⟨?_,rfl⟩;have h3:((cs.drop o).take l.length)[i]? = some (.int .i64 y):=by rw[hi,UN,hy]; rfl
  rw[VY,Ui hil,Vr] at h3;rw[Vo];have h4:o+i<cs.length:=by omega
  rw[VJ h4,List.take_succ_cons,List.take_zero];rw[T6 h4] at h3;rw[Ug h3]; rfl
 have hlm:l.length<9223372036854775807:=by
  have:l.length<=1073741824:=Ul c4;omega
 refine Dq (m:=m) (Hm (E:=nJ) (c:=xT Tryz.f70) (m0:={ m with wl:=m.next}) (N:=24) (rs:=[.tmp 2]) (ps:=[.rd (some ⟨b,o,none⟩) c 1 l.length (l.map (eI .i64))]) oW Tryz.func70 rfl rfl rfl ((W3 _).cg bM (hr _)) ?_) pr hm hl
 refine Nm.KN oW (l.length+1) l _ c _ (K8 l c4 hlm _ (Vp _)) _ (hr _) fun g=>?_;refine I0 fun m1 hm1=>?_;have hn0:({ m with wl:=m.next}:Xq).next=m.next:=rfl
 exact⟨⟨hm1.ext.next,fun b hb=>hm1.ext.same b hb,by have:=hm1.ext.wl; rw[hn0] at this; exact Ub (Nat.le_of_eq (Nat.min_self _).symm) this⟩,.inl ⟨rfl,rfl,rfl⟩⟩
 cases h
 cases h
 cases h
end
section
open Go Go.Ab
set_option maxRecDepth 100000
noncomputable abbrev IC:Env:=dy (some ⟨yO⟩) none (some ⟨yX⟩)
def zA{a b c a' b' c':XA Prim}{j:aL}{m:Xq}{w:WO}{v:WJ}{m':Xq}{v':WJ}{w':WO}(h:fH (dy a b c) j m w v m' v' w'):fH (dy a' b' c') j m w v m' v' w':=by
 obtain⟨j',s,hv⟩:=h;exact⟨j',Sim.env (E:=dy a b c) (E':=dy a' b' c') rfl (fun e=>e) s,hv⟩
def KT:EnvOk IC:=tj
 (fun c h args m v m' hr j w args' hm hl=>by cases h; exact cy (fun h=>h) (A9 hr true (MR.env (E:=IC) (E':=nJ) rfl hm) hl) fun _ _=>zA)
 (fun c h=>by cases h)
 (fun c h args m v m' hr j w args' hm hl=>by cases h; exact cy (fun h=>h) (AW hr true (MR.env (E:=IC) (E':=nJ) rfl hm) hl) fun _ _=>zA)
noncomputable def Te:Hand:=hand IC me 1000
set_option maxHeartbeats 0 in
def Kn:Ii (pS IC Te (fun _=>none) 14) qk=true:=by decide +kernel
set_option maxHeartbeats 0 in
def Hr:mD 18 (gy [0,0,1,1] 2 1)=true:=by decide +kernel
set_option maxHeartbeats 0 in
def IV:mD 18 (gy [0,0,0,0] 1 4)=true:=by decide +kernel
set_option maxHeartbeats 0 in
def IW:mD 31 oD=true:=by decide +kernel
set_option maxHeartbeats 0 in
def FW:mD 22 mF=true:=by decide +kernel
set_option maxHeartbeats 0 in
def Ot:mD 75 (dA 1 3)=true:=by decide +kernel
set_option maxHeartbeats 0 in
def PH:mD 75 (dA 1 2)=true:=by decide +kernel
set_option maxHeartbeats 0 in
def Pe:mD 75 (dA 1 4)=true:=by decide +kernel
set_option maxHeartbeats 0 in
def PJ:mD 75 (dA 3 4)=true:=by decide +kernel
set_option maxHeartbeats 0 in
def PF:mD 75 (dA 1 1)=true:=by decide +kernel
set_option maxHeartbeats 0 in
def NS:mD 75 (dA 0 1)=true:=by decide +kernel
set_option maxHeartbeats 0 in
def NW:mD 75 (dA 2 3)=true:=by decide +kernel
set_option maxHeartbeats 0 in
def Ry:mD 29 (dN 1 2 true)=true:=by decide +kernel
set_option maxHeartbeats 0 in
def QS:mD 29 (dN 1 1 false)=true:=by decide +kernel
set_option maxHeartbeats 0 in
def Oh:mD 33 uD=true:=by decide +kernel
set_option maxHeartbeats 0 in
def KE:mD 38 CP=true:=by decide +kernel
set_option maxHeartbeats 0 in
def KO:mD 38 CS=true:=by decide +kernel
end
section
open Go Go.Ab
set_option maxRecDepth 100000
attribute [local irreducible] pS Case.run Case.fits
def Q8{E:Env}(hE:EnvOk E)(hmono:¬E.mono){F:XI->XA PSem}(hF:PA E F){ND:XI->XA FunN}(hN:Qb E ND){n:Nat}{f:XI}{c:Case}(h:Ii (pS E (hand E F n) ND f) c=true):W.nC E f (c.args.map (AV.val fun b=>b)) (c.small 1 fF) (c.Out (c.small 1 fF)):=by
 unfold Ii at h;have h1:=sK hE hmono (pj hF n) hN (f:=f) (args:=c.args.map (AV.val fun b=>b)) (m:=c.small 1 fF) (K:=fun v m=>c.G8 (c.small 1 fF) v m) h;intro j w args' hm hl;refine cy (fun h=>h) (h1 j w args' hm hl) ?_;rintro v' w' ⟨v1,m1,hq,hv⟩;exact⟨v1,m1,Case.wm hq,hv⟩
def Ea(c:Case):Bool:=c.V.all (TV.ok c.T.length) &&(c.args.all (AV.ok (1+c.A.length)) &&(c.A.all (fun x=>x.1.all (SV.ok (1+c.A.length)))&&c.T.all fun x=>Nat.blt 0 x.2 &&(Nat.beq x.1.length (x.1.length/x.2*x.2) &&(Nat.ble (x.1.length/x.2) 9223372036854775807&&x.1.all (TV.ok c.T.length)))))
structure CaseOk(f:XI)(c:Case):Prop where
 call:∀{args:XB WJ} {m m':Xq} {v:WJ},c.run 1 ib args m=some (v,m')->∀(pr:Bool) {j:aL} {w:WO} {args':XB WJ},MR nJ j m w->LR j args args'->dT Tryz.prog pr f args'.toArray w (fH nJ j m w v m')
def IK{p q r:XA Prim}{f:XI}{c:Case}(hg:Ea c=true)(h:W.nC (dy p q r) f (c.args.map (AV.val fun b=>b)) (c.small 1 fF) (c.Out (c.small 1 fF))):CaseOk f c:=⟨fun hr pr _ _ _ hm hl=>by
 unfold Ea at hg;simp only[T7] at hg;obtain⟨h1,h2,h3,h4⟩:=hg;refine cy (fun h=>h) (Case.JQ (E:=dy p q r) (gs:=fF) (tabB:=ib) (fun m ht=>tA ht) (fun x hx=>?_) h1 h2 h3 h hr pr (MR.env (E:=nJ) (E':=dy p q r) rfl hm) hl) fun _ _=>zA;have h5:=Ux.1 h4 x hx;simp only[T7] at h5;exact⟨Ul h5.1,Ue h5.2.1,Ul h5.2.2.1,h5.2.2.2⟩⟩
def Ey{E:Env}:Qb E fun _=>none:=fun h=>by cases h
def ie{f:XI}{c:Case}(hg:Ea c=true)(h:mD f c=true):CaseOk f c:=IK (p:=none) (q:=none) (r:=none) hg (Q8 oW Cq (pY _ _ _) Ey h)
def jx:XB (XI×Case):=[(14,qk),(18,gy [0,0,1,1] 2 1),(18,gy [0,0,0,0] 1 4),(31,oD),(22,mF),(29,dN 1 2 true),(29,dN 1 1 false),(33,uD),(38,CP),(38,CS),(75,dA 1 3),(75,dA 1 2),(75,dA 1 4),(75,dA 3 4),(75,dA 1 1),(75,dA 0 1),(75,dA 2 3)]
def zp:jx.all (fun x=>Ea x.2)=true:=by decide +kernel
def sV:∀x∈jx,CaseOk x.1 x.2:=by
 intro x hx;have hg:=Ux.1 zp x hx;simp only[jx,UC,List.not_mem_nil,or_false] at hx;rcases hx with rfl|rfl|rfl|rfl|rfl|rfl|rfl|rfl|rfl|rfl|rfl|rfl|rfl|rfl|rfl|rfl|rfl
 exact IK hg (Q8 KT (fun h=>h) (pY _ _ _) Ey Kn)
 exact ie hg Hr
 exact ie hg IV
 exact ie hg IW
 exact ie hg FW
 exact ie hg Ry
 exact ie hg QS
 exact ie hg Oh
 exact ie hg KE
 exact ie hg KO
 exact ie hg Ot
 exact ie hg PH
 exact ie hg Pe
 exact ie hg PJ
 exact ie hg PF
 exact ie hg NS
 exact ie hg NW
def xX(args:XB WJ)(m:Xq):XB Case->XA (WJ×Xq)
 | []=>none
 | c::cs=>(c.run 1 ib args m).or (xX args m cs)
def wV{f:XI}{args:XB WJ}{m m':Xq}{v:WJ}:∀{cs:XB Case},(∀c∈cs,CaseOk f c)->xX args m cs=some (v,m')->∃c,CaseOk f c/\c.run 1 ib args m=some (v,m')
 | [],_,h=>by cases h
 | c::cs,hc,h=>by
  unfold xX at h;simp only[Option.or_eq_some_iff] at h;rcases h with h|⟨_,h⟩
  exact⟨c,hc c (Vg ..),h⟩
  exact wV (fun c h=>hc c (UM _ h)) h
def E6:XB Case:=[qk]
def Qa:XB Case:=[gy [0,0,1,1] 2 1,gy [0,0,0,0] 1 4]
def EN:XB Case:=[oD]
def oR:XB Case:=[mF]
def GV:XB Case:=[dN 1 2 true,dN 1 1 false]
def K1:XB Case:=[uD]
def HT:XB Case:=[CP,CS]
def I2:XB Case:=[dA 1 3,dA 1 2,dA 1 4,dA 3 4,dA 1 1,dA 0 1,dA 2 3]
def pM(f:XI):XB Case :=
 if f=75 then I2 else if f=14 then E6 else if f=18 then Qa else if f=31 then EN else if f=22 then oR else if f=29 then GV else if f=33 then K1 else if f=38 then HT else[]
def CR(f:XI):∀c∈pM f,CaseOk f c:=by
 have key:∀(g:XI) (l:XB Case),(∀c∈l,(g,c)∈jx)->∀c∈l,CaseOk g c:=fun g l h c hc=>sV (g,c) (h c hc);have sub:∀c,∀{g:XI},(c∈pM g)->(g,c)∈jx:=by
  intro c g h;unfold pM at h
  repeat' split at h
  all_goals first
   |(rename_i e; subst e; simp only[I2,E6,Qa,EN,oR,GV,K1,HT,UC,List.not_mem_nil,or_false] at h; simp only[jx,UC,Wp]; rcases h with rfl|rfl|rfl|rfl|rfl|rfl|rfl<;>simp)
   |(rename_i e; subst e; simp only[I2,E6,Qa,EN,oR,GV,K1,HT,UC,List.not_mem_nil,or_false] at h; simp only[jx,UC,Wp]; rcases h with rfl|rfl<;>simp)
   |(rename_i e; subst e; simp only[I2,E6,Qa,EN,oR,GV,K1,HT,UC,List.not_mem_nil,or_false] at h; simp only[jx,UC,Wp]; subst h; simp)
   | cases h
 exact fun c hc=>sV (f,c) (sub c hc)
noncomputable def HM (f:XI):XA Prim:=if(pM f).isEmpty then nJ.cT f else some ⟨fun args m=>xX args m (pM f)⟩
noncomputable def zM:Env:={ nJ with cT:=HM}
def KP:EnvOk zM:=CY (E:=nJ) oW (pr:=HM) fun f p hp=>by
 unfold HM at hp
 split at hp
 exact .inl hp
 cases hp;refine .inr fun args m v m' h j w args' hm hl=>?_;obtain⟨c,h1,h2⟩:=wV (CR f) h;exact h1.call h2 _ hm hl
def Cb:PA zM me:=by
 intro f S hS;unfold me at hS
 split at hS
 rename_i e; cases hS; subst e;exact⟨⟨dK yb⟩,rfl,fun h=>mK DN h⟩
 split at hS
 rename_i e; cases hS; subst e;exact⟨⟨dK uU⟩,rfl,fun h=>mK Eb h⟩
 cases hS
end
section
open Go Go.Ab
set_option maxRecDepth 100000
set_option maxHeartbeats 0 in
def Cy:(hand zM me 1000).call 11 [] Tf (Qy 1)=true:=by decide +kernel
end
section
open Go Go.Ab Go.Ab.W
def Fx:∃fuel m',run zM fuel (.call 11 [] Tf)=some (.val (.bool true) m')/\1<=m'.wl:=Bl (E:=zM) (F:=me) (n:=1000) (g:=1) Cb Cy
def jQ(args:XB WJ)(m:Xq):XA (WJ×Xq) :=
 match args with
 | []=>if ib m then some (.bool true,m) else none
 | _=>none
def xM{args:XB WJ}{m m':Xq}{v:WJ}(h:jQ args m=some (v,m')){j:aL}{w:WO}{args':XB WJ}(hm:MR nJ j m w)(hl:LR j args args') :
  dT Tryz.prog true 11 args'.toArray w (fH nJ j m w v m'):=by
 unfold jQ at h
 split at h
 split at h
 rename_i ht;cases h;obtain⟨fuel,m0,h1,h2⟩:=Fx;refine cy (fun _=>rfl) (xP (E:=zM) (gs:=fF) KP qX h1 h2 rfl (MR.env (E:=nJ) (E':=zM) rfl hm) (fun x c hx hg=>(tA ht x c hx hg).1) hl) fun _ _ ⟨j',s,hv⟩=>⟨j',Sim.env (E:=zM) (E':=nJ) rfl (fun e=>e) s,hv⟩
 cases h
 cases h
noncomputable abbrev al:Env:=dy none (some ⟨jQ⟩) none
def Md:EnvOk al:=tj (fun c h=>by cases h)
 (fun c h args m v m' hr j w args' hm hl=>by cases h; exact cy (fun h=>h) (xM hr (MR.env (E:=al) (E':=nJ) rfl hm) hl) fun _ _=>zA)
 (fun c h=>by cases h)
def Ns(n:Nat)(r:Bool)(hF:SD n=some r)(m:Xq)(hG:Gl m):ax al 11 [] m (fun v m'=>∃x:XC,v=.bool r/\Hp m m' []):=by
 cases hF;refine ax.cT (p:=⟨jQ⟩) rfl (v:=.bool true) (m':=m) ?_ ⟨(),rfl,W3 m⟩;have ht:ib m=true:=by
  unfold ib;rw[hG.1];exact(by decide +kernel:wQ (kB.map (.int .u8)) kB=true)
 show jQ [] m=_
 simp only[jQ,ht,if_true]
end
section
set_option maxRecDepth 100000
open Go Go.ChangeShapes Go.WideShapes Go.ChangeAt Go.WideMaps Go.WideElems Go.RowKit Go.Ab Go.Ab.W
def SS:BG Tryz.prog 5 61=some [.int .u8,.sl 5]:=by kernel_rfl
def SF:BG Tryz.prog 5 5=some [.int .u8]:=by kernel_rfl
section
variable{H:Type}{enc:WK×WJ->H}{W:WO}{sp:Nat->Bool}{held:Bool}{v:WJ}{d:DataW H}{p:XB MemPlace}{base:Nat}
theorem SA:∀(n:Nat) (cs:XB WJ) (x:DataW H×XB MemPlace),DataW.trod enc Tryz.prog W 0 sp held n 5 cs=some x->∃p:Nat,cs=eN .u8 p/\p<256:=by
 intro n cs x h;obtain⟨v1,cs,rfl,h1,h⟩:=eV (iS 5 5 _ SF n _ x h);obtain rfl:=px h;obtain⟨a,rfl,ha⟩:=xl h1;exact⟨a,rfl,ha⟩
theorem Q6(hok:Value.okWide Tryz.prog W .any base 61 v)(hs:0<W.heap.size)(h:DataW.Trod enc Tryz.prog W 0 sp held 61 v d p):∃(x1:Nat) (l:XB Nat) (a:WH) (c:Nat),
  VR (dH W) (.agg #[.int .u8 ((x1:Nat):Int),.slice a l.length c]) v/\x1<256/\(∀q∈l,q<256)/\l.length<=maxLen/\Rd (dP W) a c 1 l.length (l.map (eN .u8)):=by
 obtain⟨cs,rfl,_⟩:=okWide_struct (t:=61) (fs:=Tryz.prog.underlying 61 |>.elim #[] fun u=>match u with|.struct fs=>fs|_=>#[]) (by kernel_rfl) hok
 obtain⟨n,h⟩:=h;obtain⟨v1,r,hr,h1,h⟩:=eV (uh SS h);obtain⟨v2,r,rfl,h2,h⟩:=eV h;obtain rfl:=px h;obtain⟨x1,rfl,g1⟩:=xl h1;obtain⟨a,c,l,e1,e2,e3,e4⟩:=IJ (f:=eN .u8) (w:=1) (by kernel_rfl) (by omega) hs (fun q=>rfl) SA h2
 refine⟨x1,l,a,c,?_,g1,e3,e4,e2⟩;refine H5 (l:=[.int .u8 ((x1:Nat):Int),.slice a l.length c]) ?_;rw[hr];exact .cons (.int _ _) (.cons e1 (.nil _))
end
def QM:laidOutB Tryz.prog=true:=by kernel_rfl
def Mw:mapsRowed Tryz.prog=true:=by kernel_rfl
def LZ:sizedB Tryz.prog=true:=by kernel_rfl
def OI{W:WO}(h:laidMetH Tryz.prog uf W):Gl (dP W)/\0<W.heap.size:=by
 rw[MakeChecks.laidMetH_plain _ _ _ (by kernel_rfl)] at h
 obtain⟨ps,hL,_⟩:=h;have ht:(Tryz.prog.globals[0]?).map (·.type)=some 354:=by kernel_rfl
 obtain⟨c,ty,fz,h1,h2⟩:=FB (L:=kB) (k:=.u8) (N:=64) (t:=354) (e:=5) S4 ht (by kernel_rfl) (by kernel_rfl) (by kernel_rfl) (by kernel_rfl) rfl hL
 have hs:0<W.heap.size:=(Ut.1 h1).1;refine⟨⟨?_,hs⟩,hs⟩;rw[pQ h1,h2,List.map_map]
 congr 2
def Gg{H:Type}{enc:WK×WJ->H}{f:XI}{fn:Func}{s:ChangeSpec}{W:WO}{args:XD WJ}{ds:XB (DataW H)}{before:XB MemPlace}{tb:WK}{fresh handsOn:Bool}{absArgs:XB WJ}(hpr:al.cT f=none)
  (hvars:s.vars=[]) (hres:fn.resultTypes.toList=[tb]) (hrs:fn.resultTypes.size=1) (htb:Tryz.prog.underlying tb=some .bool) (hpt:∀t∈fn.params.toList,t<Tryz.prog.types.size) (hfn:s.fn H ds ={ results:=[.lit (.bool true)],args:=ds,vars:=[]})
  (hW:DataW.Whole enc Tryz.prog fn.params.toList s.vars false W args.toList ds [] before) (hs:0<W.heap.size)
  (hl:LR (dH W) absArgs args.toList) (hc:ax al f absArgs (dP W) (fun v m'=>∃x:XC,v=.bool true/\Hp (dP W) m' [])) :
  Calls Tryz.prog f args W fun e W'=>∃v,e=.returned v/\s.post enc Tryz.prog fn false fresh handsOn false W args v W':=by
 obtain⟨v,m',⟨fuel,hrun⟩,_,rfl,hm'⟩:=hc;have hm:MR al (dH W) (dP W) W:=OM hs;have hcall:=callsIn_wide.1 (zg Md hrun hpr hm hl);refine hcall.mono fun e W' ⟨v',he,j',sm,hv⟩=>?_;have hv':v'=.bool true:=eS rfl hv;subst hv';have hwl:(dP W).next<=m'.wl:=by
  have h1:=hm'.ext.wl;have h2:min (dP W).wl (dP W).next=(dP W).next:=Nat.min_self _
  omega
 exact⟨_,he,HQ QM Mw LZ hvars hres hrs htb hpt hfn hW sm.calm (sm.grown hm hwl)⟩
end
section
open Go Go.Ab Go.Ab.W
def gC:XB Nat:=[0,1,2,2,3,3,3,3,4,4,4,4,4,4,4,4,5,5,5,5,5,5,5,5,5,5,5,5,5,5,5,5,6,6,6,6,6,6,6,6,6,6,6,6,6,6,6,6,6,6,6,6,6,6,6,6,6,6,6,6,6,6,6,6,7,7,7,7,7,7,7,7,7,7,7,7,7,7,7,7,7,7,7,7,7,7,7,7,7,7,7,7,7,7,7,7,7,7,7,7,7,7,7,7,7,7,7,7,7,7,7,7,7,7,7,7,7,7,7,7,7,7,7,7,7,7,7,7,8,8,8,8,8,8,8,8,8,8,8,8,8,8,8,8,8,8,8,8,8,8,8,8,8,8,8,8,8,8,8,8,8,8,8,8,8,8,8,8,8,8,8,8,8,8,8,8,8,8,8,8,8,8,8,8,8,8,8,8,8,8,8,8,8,8,8,8,8,8,8,8,8,8,8,8,8,8,8,8,8,8,8,8,8,8,8,8,8,8,8,8,8,8,8,8,8,8,8,8,8,8,8,8,8,8,8,8,8,8,8,8,8,8,8,8,8,8,8,8,8,8,8,8,8,8,8,8]
def tF(n:Nat)(l1:XB (Int)):Int->XA (Int⊕Int):=fun v7 =>
ob (
br (decide (0<v7)) (
gd (bB (WQ (v7-1)) l1.length) (
ob (l1[(WQ (v7-1)).toNat]?) fun x69 =>
some (decide (x69=0)))) (
some false)) fun v64 =>
br (v64) (
some (.inl (WQ (v7-1)))) (
some (.inr v7))
def pD(n:Nat)(l1:XB (Int)):XA (XB Int) :=
ob (
bN (tF n l1) n (l1.length:Int)) fun v41 =>
gd (okB 0 v41 l1.length) (
some ((l1.drop WR).take ((v41:Int).toNat-WR)))
def jY(n:Nat)(x1:Bool)(l2:XB (Int)):XA (Bool×XB Int) :=
ob (pD n l2) fun l9 =>
br (x1) (
some (decide (0<(l9.length:Int)),l9)) (
some (false,l9))
def Kj(n:Nat)(x1:Int):XA (Bool×XB Int) :=
ob (
br (decide (x1<0)) (
some (L9 .u64 (ui .u64 x1))) (
some (ui .u64 x1))) fun v4 =>
ob (jY n (decide (x1<0)) ([WQ ((v4%4294967296:Nat):Int),WQ ((uw .u64 (v4/4294967296):Nat):Int)])) fun(r10,l11) =>
some (r10,l11)
def sF(n:Nat)(l1:XB (Int)):(Int×XB (Int)×Int)->XA ((Int×XB (Int)×Int) ⊕(Int×XB (Int))):=fun(v24,l25,v27) =>
br (decide (v27<(l1.length:Int))) (
gd (bB v27 l1.length) (
ob (l1[v27.toNat]?) fun x52 =>
ob (some (Int.tmod (WQ ((WQ (2*x52))+v24)) 4294967296)) fun y54 =>
gd (lim (l25++[y54]).length) (
ob (some (WQ (Int.tdiv (WQ ((WQ (2*x52))+v24)) 4294967296))) fun y59 =>
some (.inl (y59,(l25++[y54]),WQ (v27+1)))))) (
some (.inr (v24,l25)))
def JI(n:Nat)(l1:XB (Int))(x6:Int):XA (XB Int) :=
ob (
bN (sF n l1) n (x6,([]:XB (Int)),0)) fun(v45,l46) =>
gd (lim (l46++[v45]).length) (
ob (pD n (l46++[v45])) fun l67 =>
some l67)
def nX(n:Nat)(l1:XB (Int))(l5:XB (Int)):Int->XA (Int⊕Int⊕XC):=fun v11 =>
br (decide (0<=v11)) (
gd (bB v11 l1.length) (
ob (l1[v11.toNat]?) fun x32 =>
gd (bB v11 l5.length) (
ob (l5[v11.toNat]?) fun x37 =>
br (!decide (x32=x37)) (
gd (bB v11 l1.length) (
gd (bB v11 l5.length) (
some (.inr (.inl (WQ (x32-x37))))))) (
some (.inl (WQ (v11-1))))))) (
some (.inr (.inr ())))
def BL(n:Nat)(l1:XB (Int))(l5:XB (Int)):XA Int :=
br (!decide ((l1.length:Int)=(l5.length:Int))) (
some (WQ ((l1.length:Int)-(l5.length:Int)))) (
ob (α:=(Int)⊕XC) (
bN (nX n l1 l5) n (WQ ((l1.length:Int)-1))) fun r43=>match r43 with
| .inl v27 =>
some v27
| .inr _ =>
some 0)
def s9(n:Nat)(l1:XB (Int))(l6:XB (Int)):(XB (Int)×Int×Int)->XA ((XB (Int)×Int×Int) ⊕(XB (Int))):=fun(l2,v2,v0) =>
br (decide (v0<(l1.length:Int))) (
gd (bB v0 l1.length) (
ob (l1[v0.toNat]?) fun x3 =>
ob (
br (decide (v0<(l6.length:Int))) (
gd (bB v0 l6.length) (
ob (l6[v0.toNat]?) fun x4 =>
some (WQ ((WQ (x3-v2))-x4)))) (
some (WQ (x3-v2)))) fun v1 =>
ob (
br (decide (v1<0)) (
some (1,WQ (v1+4294967296))) (
some (0,v1))) fun(v4,v3) =>
gd (lim (l2++[v3]).length) (
some (.inl ((l2++[v3]),v4,WQ (v0+1)))))) (
some (.inr l2))
def uW(n:Nat)(l1:XB (Int))(l6:XB (Int)):XA (XB Int) :=
ob (
bN (s9 n l1 l6) n (([]:XB (Int)),0,0)) fun l2 =>
ob (pD n l2) fun l3 =>
some l3
def qb(n:Nat)(v0:Int)(l1:XB (Int))(l6:XB (Int))(y2:Int):(XB (Int)×XB (Int)×Int)->XA ((XB (Int)×XB (Int)×Int) ⊕(XB (Int)×XB (Int))):=fun(l2,l4,v1) =>
br (decide (0<=v1)) (
ob (
gd (bB v0 l1.length) (
ob (l1[v0.toNat]?) fun x3 =>
ob (JI n l4 (Int.tmod (HO .i64 x3 v1.toNat) 2)) fun l3 =>
ob (BL n l3 l6) fun r0 =>
br (decide (0<=r0)) (
ob (uW n l3 l6) fun l7 =>
gd (bB v0 y2.toNat) (
ob (l2[v0.toNat]?) fun x4 =>
gd (bB v0 y2.toNat) (
some ((l2.set v0.toNat (WQ (x4+(Dh .i64 1 v1.toNat)))),l7)))) (
some (l2,l3)))) fun(l8,l9) =>
some (.inl (l8,l9,WQ (v1-1)))) (
some (.inr (l2,l4)))
def tG(n:Nat)(l1:XB (Int))(l6:XB (Int))(y2:Int):(XB (Int)×XB (Int)×Int)->XA ((XB (Int)×XB (Int)×Int) ⊕(XB (Int)×XB (Int))):=fun(l2,l3,v0) =>
br (decide (0<=v0)) (
ob (
bN (qb n v0 l1 l6 y2) n (l2,l3,31)) fun(l4,l7) =>
some (.inl (l4,l7,WQ (v0-1)))) (
some (.inr (l2,l3)))
def GS(n:Nat)(l1:XB (Int))(l6:XB (Int)):XA (XB Int×XB Int) :=
br (decide ((l1.length:Int)<=WQ ((l6.length:Int)-1))) (
gd (lim (([]:XB (Int))++l1).length) (
some ([],(([]:XB (Int))++l1)))) (
ob (some (WQ ((l1.length:Int)-(WQ ((l6.length:Int)-1))))) fun y2 =>
gd (decide (0<=y2)) (gd (lim y2.toNat) (
ob (some (WQ ((l1.length:Int)-(WQ ((l6.length:Int)-1))))) fun y3 =>
gd (okB y3 (l1.length:Int) l1.length) (
gd (lim (([]:XB (Int))++((l1.drop (y3:Int).toNat).take (((l1.length:Int):Int).toNat-(y3:Int).toNat))).length) (
ob (
bN (tG n l1 l6 y2) n ((List.replicate y2.toNat (0:Int)),(([]:XB (Int))++((l1.drop (y3:Int).toNat).take (((l1.length:Int):Int).toNat-(y3:Int).toNat))),WQ ((y2.toNat:Int)-1))) fun(l2,l3) =>
ob (pD n l2) fun l4 =>
some (l4,l3))))))
def sL(n:Nat):(XB (Int)×XB (Int))->XA ((XB (Int)×XB (Int)) ⊕(XB (Int))):=fun(l26,l29) =>
br (decide (0<(l29.length:Int))) (
ob (GS n l26 l29) fun(l53,l57) =>
some (.inl (l29,l57))) (
some (.inr l26))
def GA(n:Nat)(x1:Bool)(l2:XB (Int))(x7:Bool)(l8:XB (Int)):XA (Bool×XB Int) :=
ob (
bN (sL n) n (l2,l8)) fun l48 =>
some (false,l48)
def Dl(n:Nat)(x1:Bool)(l2:XB (Int)):XA (Bool×XB Int) :=
ob (jY n (!x1) l2) fun(r10,l11) =>
some (r10,l11)
def uk(n:Nat)(l1:XB (Int))(l5:XB (Int)):(XB (Int)×Int×Int)->XA ((XB (Int)×Int×Int) ⊕(XB (Int))):=fun(l2,v1,v0) =>
ob (
br (decide (v0<(l1.length:Int))) (
some true) (
br (decide (v0<(l5.length:Int))) (
some true) (
some (decide (0<v1))))) fun v4 =>
br (v4) (
ob (
br (decide (v0<(l1.length:Int))) (
gd (bB v0 l1.length) (
ob (l1[v0.toNat]?) fun x3 =>
some (WQ (v1+x3)))) (
some v1)) fun v3 =>
ob (
br (decide (v0<(l5.length:Int))) (
gd (bB v0 l5.length) (
ob (l5[v0.toNat]?) fun x4 =>
some (WQ (v3+x4)))) (
some v3)) fun v2 =>
gd (lim (l2++[Int.tmod v2 4294967296]).length) (
some (.inl ((l2++[Int.tmod v2 4294967296]),WQ (Int.tdiv v2 4294967296),WQ (v0+1))))) (
some (.inr l2))
def Fw(n:Nat)(l1:XB (Int))(l5:XB (Int)):XA (XB Int) :=
ob (
bN (uk n l1 l5) n (([]:XB (Int)),0,0)) fun l2 =>
some l2
def rE(n:Nat)(x1:Bool)(l2:XB (Int))(x7:Bool)(l8:XB (Int)):XA (Bool×XB Int) :=
br ((x1==x7)) (
ob (Fw n l2 l8) fun l18 =>
ob (jY n x1 l18) fun(r22,l23) =>
some (r22,l23)) (
ob (BL n l2 l8) fun r28 =>
br (decide (0<=r28)) (
ob (uW n l2 l8) fun l31 =>
ob (jY n x1 l31) fun(r36,l37) =>
some (r36,l37)) (
ob (uW n l8 l2) fun l42 =>
ob (jY n x7 l42) fun(r47,l48) =>
some (r47,l48)))
def FX(n:Nat)(x1:Bool)(l2:XB (Int))(x7:Bool)(l8:XB (Int)):XA (Bool×XB Int) :=
ob (Dl n x7 l8) fun(r17,l18) =>
ob (rE n x1 l2 r17 l18) fun(r23,l24) =>
some (r23,l24)
def FY(n:Nat)(x1:Bool)(l8:XB (Int))(x3:Bool)(l3:XB (Int)):XA (Bool×XB Int×Bool×XB Int) :=
ob (GS n l8 l3) fun(l9,l10) =>
ob (jY n (!(x1==x3)) l9) fun(r0,l2) =>
ob (jY n x1 l10) fun(r1,l4) =>
ob (
br (r1) (
ob (rE n r1 l4 false l3) fun(r3,l7) =>
br (x3) (
ob (Kj n 1) fun(r4,l11) =>
ob (rE n r0 l2 r4 l11) fun(r5,l12) =>
some (r5,l12,r3,l7)) (
ob (Kj n 1) fun(r6,l13) =>
ob (FX n r0 l2 r6 l13) fun(r7,l14) =>
some (r7,l14,r3,l7))) (
some (r0,l2,r1,l4))) fun(v0,l15,v1,l16) =>
some (v0,l15,v1,l16)
def zP(n:Nat)(x1:Bool)(l2:XB (Int))(x7:Bool)(l8:XB (Int)):XA (Bool×XB Int×Bool×XB Int) :=
ob (GA n x1 l2 x7 l8) fun(r17,l18) =>
ob (
br (x7) (
ob (Dl n r17 l18) fun(r36,l37) =>
some (r36,l37)) (
some (r17,l18))) fun(v30,l31) =>
ob (FY n x1 l2 v30 l31) fun(r44,l45,r49,l50) =>
ob (FY n x7 l8 v30 l31) fun(r57,l58,r62,l63) =>
some (r44,l45,r57,l58)
def vj(n:Nat)(x1:Int)(x2:Int):XA (Bool×XB Int×Bool×XB Int) :=
ob (Kj n x1) fun(r5,l6) =>
ob (Kj n x2) fun(r11,l12) =>
ob (zP n r5 l6 r11 l12) fun(r17,l18,r22,l23) =>
some (r17,l18,r22,l23)
def vJ(n:Nat)(l2:XB (Int)):(XB (Nat)×Int)->XA ((XB (Nat)×Int) ⊕(XB (Nat))):=fun(l3,v0) =>
br (decide (v0<(l2.length:Int))) (
gd (bB (WQ (Int.tdiv v0 2)) 8) (
ob (l3[(WQ (Int.tdiv v0 2)).toNat]?) fun x3 =>
gd (bB v0 l2.length) (
ob (l2[v0.toNat]?) fun x4 =>
gd (decide (0<=WQ (32*(Int.tmod v0 2)))) (
ob (some (gk .u64 (ui .u64 x4) (WQ (32*(Int.tmod v0 2))).toNat)) fun y2 =>
gd (bB (WQ (Int.tdiv v0 2)) 8) (
some (.inl ((l3.set ((WQ (Int.tdiv v0 2)).toNat) (uw .u64 (x3+y2))),WQ (v0+1)))))))) (
some (.inr l3))
def N4(n:Nat)(x1:Bool)(l2:XB (Int)):XA (Nat×Nat×Nat×Nat×Nat×Nat×Nat×Nat×Int) :=
gd (decide ((0:Int)<=16)) (gd (lim ((16:Int).toNat)) (
gd (bB 15 ((16:Int).toNat)) (
ob ((List.replicate (16:Int).toNat (0:Int))[(15:Int).toNat]?) fun x11 =>
ob (BL n l2 ((List.replicate (16:Int).toNat (0:Int)).set ((15:Int).toNat) 2147483648)) fun r0 =>
ob (
br (decide (0<r0)) (
some true) (
br (decide (r0=0)) (
some (!x1)) (
some false))) fun v0 =>
br (v0) (
some (0,0,0,0,0,0,0,0,6)) (
ob (
br (x1) (
gd (decide ((0:Int)<=17)) (gd (lim ((17:Int).toNat)) (
gd (bB 16 ((17:Int).toNat)) (
ob ((List.replicate (17:Int).toNat (0:Int))[(16:Int).toNat]?) fun x12 =>
ob (uW n ((List.replicate (17:Int).toNat (0:Int)).set ((16:Int).toNat) 1) l2) fun l3 =>
some l3)))) (
some l2)) fun l4 =>
ob (
bN (vJ n l4) n (([0,0,0,0,0,0,0,0]:XB (Nat)),0)) fun l7 =>
ob (Lj l7) fun(x3,x4,x5,x6,x7,x8,x9,x10) =>
some (x3,x4,x5,x6,x7,x8,x9,x10,0)))))
def Cd(n:Nat)(x1:Bool)(l2:XB (Int))(x6:Bool)(l7:XB (Int)):XA (Nat×Nat×Nat×Nat×Nat×Nat×Nat×Nat×Nat×Nat×Nat×Nat×Nat×Nat×Nat×Nat×Int) :=
ob (N4 n x1 l2) fun(r14,r15,r16,r17,r18,r19,r20,r21,r22) =>
ob (N4 n x6 l7) fun(r25,r26,r27,r28,r29,r30,r31,r32,r33) =>
ob (
br (!decide (r22=0)) (
some true) (
some (!decide (r33=0)))) fun v42 =>
br (v42) (
some (0,0,0,0,0,0,0,0,0,0,0,0,0,0,0,0,6)) (
some (r14,r15,r16,r17,r18,r19,r20,r21,r25,r26,r27,r28,r29,r30,r31,r32,0))
def Q4(n:Nat)(x1:Int)(x2:Int):XA (Nat×Nat×Nat×Nat×Nat×Nat×Nat×Nat×Nat×Nat×Nat×Nat×Nat×Nat×Nat×Nat×Int) :=
br (decide (x2=0)) (
some (0,0,0,0,0,0,0,0,0,0,0,0,0,0,0,0,7)) (
ob (vj n x1 x2) fun(r6,l7,r11,l12) =>
ob (Cd n r6 l7 r11 l12) fun(r17,r18,r19,r20,r21,r22,r23,r24,r25,r26,r27,r28,r29,r30,r31,r32,r33) =>
some (r17,r18,r19,r20,r21,r22,r23,r24,r25,r26,r27,r28,r29,r30,r31,r32,r33))
def vY(n:Nat)(v1:Int)(v2:Int)(l2:XB (Nat)):(XB (Int)×Int×Int)->XA ((XB (Int)×Int×Int) ⊕(XB (Int)×Int)):=fun(l3,v4,v0) =>
br (decide (v0<v1)) (
ob (
br (decide (WQ ((WQ (v1*v2))+v0)<(l2.length:Int))) (
gd (bB (WQ ((WQ (v1*v2))+v0)) l2.length) (
ob (l2[(WQ ((WQ (v1*v2))+v0)).toNat]?) fun x3 =>
some (WQ ((x3%6:Nat):Int)))) (
some 0)) fun v3 =>
gd (lim (l3++[v3]).length) (
some (.inl ((l3++[v3]),WQ (v4+v3),WQ (v0+1))))) (
some (.inr (l3,v4)))
def vA(n:Nat)(v1:Int)(l3:XB (Int))(l4:XB (Int))(v2:Int):(XB XN×Int)->XA ((XB XN×Int) ⊕(XB XN)):=fun(l2,v0) =>
br (decide (v0<v1)) (
gd (bB v0 l3.length) (
ob (l4[v0.toNat]?) fun x3 =>
ob (Q4 n x3 v2) fun(r0,r1,r3,r4,r5,r6,r7,r8,r9,r10,r11,r12,r13,r14,r15,r16,r17) =>
gd (lim (l2++[(r0,r1,r3,r4,r5,r6,r7,r8,r9,r10,r11,r12,r13,r14,r15,r16)]).length) (
some (.inl ((l2++[(r0,r1,r3,r4,r5,r6,r7,r8,r9,r10,r11,r12,r13,r14,r15,r16)]),WQ (v0+1)))))) (
some (.inr l2))
def w6(n:Nat)(l7:XB (Nat)):(Int×XB (XB XN)×Int)->XA ((Int×XB (XB XN)×Int) ⊕(XB (XB XN))):=fun(v1,l3,v0) =>
br (decide (v0<v1)) (
ob (
bN (vY n v1 v0 l7) n (([]:XB (Int)),0,0)) fun(l2,v2) =>
ob (
br (decide (v2=0)) (
gd (bB v0 l2.length) (
ob (l2[v0.toNat]?) fun x3 =>
some ((l2.set v0.toNat 1),1))) (
some (l2,v2))) fun(l8,v3) =>
ob (
bN (vA n v1 l2 l8 v3) n (([]:XB XN),0)) fun l4 =>
gd (lim (l3++([l4]:XB (XB XN))).length) (
some (.inl (v1,(l3++([l4]:XB (XB XN))),WQ (v0+1))))) (
some (.inr l3))
def QP(n:Nat)(x1:Nat)(l2:XB (Nat)):XA (XB (XB XN)) :=
ob (
bN (w6 n l2) n (WQ (1+(WQ ((x1%4:Nat):Int))),([]:XB (XB XN)),0)) fun l3 =>
some l3
def MP(n:Nat):(XB (Nat)×Int)->XA ((XB (Nat)×Int) ⊕(XB (Nat))):=fun(l40,v41) =>
br (decide (v41<8)) (
gd (bB v41 8) (
ob (l40[v41.toNat]?) fun x52 =>
some (.inl ((l40.set v41.toNat 18446744073709551615),WQ (v41+1))))) (
some (.inr l40))
def NX(n:Nat)(x1:Int):XA XO :=
ob (
br (decide (x1<0)) (
ob (
bN (MP n) n (([ui .u64 x1,0,0,0,0,0,0,0]:XB (Nat)),1)) fun l49 =>
some l49) (
some ([ui .u64 x1,0,0,0,0,0,0,0]:XB (Nat)))) fun l30 =>
ob (Lj l30) fun(x59,x60,x61,x62,x63,x64,x65,x66) =>
some (x59,x60,x61,x62,x63,x64,x65,x66)
def qG(n:Nat):(XB (Nat)×XB (Nat)×Nat×Int)->XA ((XB (Nat)×XB (Nat)×Nat×Int) ⊕(XB (Nat)×Nat)):=fun(l36,l37,v38,v39) =>
br (decide (v39<8)) (
gd (bB v39 8) (
ob (l36[v39.toNat]?) fun x60 =>
gd (bB v39 8) (
ob (l37[v39.toNat]?) fun x63 =>
ob (HI n x60 x63 v38) fun(r66,r67) =>
gd (bB v39 8) (
some (.inl ((l36.set v39.toNat r66),l37,r67,WQ (v39+1))))))) (
some (.inr (l36,v38)))
def Is(n:Nat)(x1:Nat)(x2:Nat)(x3:Nat)(x4:Nat)(x5:Nat)(x6:Nat)(x7:Nat)(x8:Nat)(x9:Nat)(x10:Nat)(x11:Nat)(x12:Nat)(x13:Nat)(x14:Nat)(x15:Nat)(x16:Nat):XA (Nat×Nat×Nat×Nat×Nat×Nat×Nat×Nat×Nat) :=
ob (
bN (qG n) n (([x1,x2,x3,x4,x5,x6,x7,x8]:XB (Nat)),([x9,x10,x11,x12,x13,x14,x15,x16]:XB (Nat)),0,0)) fun(l56,v57) =>
ob (Lj l56) fun(x72,x73,x74,x75,x76,x77,x78,x79) =>
some (x72,x73,x74,x75,x76,x77,x78,x79,v57)
def IP(n:Nat)(x1:Nat)(x2:Nat)(x3:Nat)(x4:Nat)(x5:Nat)(x6:Nat)(x7:Nat)(x8:Nat):XA (Bool×Nat×Nat×Nat×Nat×Nat×Nat×Nat×Nat) :=
ob (
br (decide (dh .u64 x8 63=1)) (
ob (Is n 0 0 0 0 0 0 0 0 x1 x2 x3 x4 x5 x6 x7 x8) fun(r34,r35,r36,r37,r38,r39,r40,r41,r42) =>
some (decide (dh .u64 x8 63=1),r34,r35,r36,r37,r38,r39,r40,r41)) (
some (decide (dh .u64 x8 63=1),x1,x2,x3,x4,x5,x6,x7,x8))) fun(v23,v24,v25,v26,v27,v28,v29,v30,v31) =>
some (v23,v24,v25,v26,v27,v28,v29,v30,v31)
def oO(n:Nat)(l2:XB (Nat)):Int->XA (Int⊕Int):=fun v9 =>
ob (
br (decide (0<v9)) (
gd (bB (WQ (v9-1)) l2.length) (
ob (l2[(WQ (v9-1)).toNat]?) fun x71 =>
some (decide (x71=0)))) (
some false)) fun v66 =>
br (v66) (
some (.inl (WQ (v9-1)))) (
some (.inr v9))
def nb(n:Nat)(x1:Bool)(l2:XB (Nat)):XA (Bool×XB Nat) :=
ob (
bN (oO n l2) n (l2.length:Int)) fun v43 =>
br (x1) (
gd (okB 0 v43 l2.length) (
some (decide (0<v43),((l2.drop WR).take ((v43:Int).toNat-WR))))) (
gd (okB 0 v43 l2.length) (
some (false,((l2.drop WR).take ((v43:Int).toNat-WR)))))
def Lc(n:Nat)(x1:Nat)(x2:Nat)(x3:Nat)(x4:Nat)(x5:Nat)(x6:Nat)(x7:Nat)(x8:Nat):XA (Bool×XB Nat) :=
ob (IP n x1 x2 x3 x4 x5 x6 x7 x8) fun(r12,r13,r14,r15,r16,r17,r18,r19,r20) =>
gd (lim (([]:XB (Nat))++[r13,r14,r15,r16,r17,r18,r19,r20]).length) (
ob (nb n r12 (([]:XB (Nat))++[r13,r14,r15,r16,r17,r18,r19,r20])) fun(r26,l27) =>
some (r26,l27))
def Me(n:Nat)(x1:Int):XA (Bool×XB Nat) :=
ob (NX n x1) fun(r4,r5,r6,r7,r8,r9,r10,r11) =>
ob (Lc n r4 r5 r6 r7 r8 r9 r10 r11) fun(r13,l14) =>
some (r13,l14)
def GW(n:Nat)(x1:Nat)(x2:Nat)(x3:Nat)(x4:Nat)(x5:Nat)(x6:Nat)(x7:Nat)(x8:Nat)(x9:Nat)(x10:Nat)(x11:Nat)(x12:Nat)(x13:Nat)(x14:Nat)(x15:Nat)(x16:Nat):XA XP :=
ob (Lc n x1 x2 x3 x4 x5 x6 x7 x8) fun(r20,l21) =>
ob (Lc n x9 x10 x11 x12 x13 x14 x15 x16) fun(r26,l27) =>
some (r20,l21,r26,l27)
def Nf(n:Nat)(x1:Bool)(l2:XB (Nat)):XA Int :=
br (x1) (
some (-1)) (
br (decide ((l2.length:Int)=0)) (
some 0) (
some 1))
def JY(n:Nat)(x1:Nat):XA Int :=
ob (
br (decide (4294967296<=x1)) (
some (dh .u64 x1 32,32)) (
some (x1,0))) fun(v3,v4) =>
ob (
br (decide (65536<=v3)) (
some (dh .u64 v3 16,WQ (v4+16))) (
some (v3,v4))) fun(v9,v10) =>
ob (
br (decide (256<=v9)) (
some (dh .u64 v9 8,WQ (v10+8))) (
some (v9,v10))) fun(v15,v16) =>
gd (bB ((uw .u8 v15:Nat):Int) 256) (
ob (gC[((uw .u8 v15:Nat):Int).toNat]?) fun y22 =>
some (WQ (v16+(WQ ((y22:Nat):Int)))))
def Dc(n:Nat)(x1:Nat):XA Int :=
ob (JY n x1) fun r3 =>
some (WQ (64-r3))
def tY(n:Nat):XO->XA (XO ⊕(Nat×Nat×Nat×Nat×Nat×Nat×Nat)):=fun(v20,v21,v22,v23,v24,v25,v26,v27) =>
ob (
br (decide (4294967296<=v26)) (
some true) (
some (decide (uw .u64 ((uw .u64 (4294967296*v27))+v24)<uw .u64 (v26*v23))))) fun v63 =>
br (v63) (
br (decide (4294967296<=uw .u64 (v27+v22))) (
some (.inr (v20,v21,v22,v23,v24,v25,jj .u64 v26 1))) (
some (.inl (v20,v21,v22,v23,v24,v25,jj .u64 v26 1,uw .u64 (v27+v22))))) (
some (.inr (v20,v21,v22,v23,v24,v25,v26)))
def fS(n:Nat)(v3:Nat)(v4:Nat)(v2:Nat):(Nat×Nat)->XA ((Nat×Nat)⊕Nat):=fun(v1,v0) =>
ob (
br (decide (4294967296<=v0)) (
some true) (
some (decide (uw .u64 ((uw .u64 (4294967296*v1))+v3)<uw .u64 (v0*v4))))) fun v5 =>
br (v5) (
br (decide (4294967296<=uw .u64 (v1+v2))) (
some (.inr (jj .u64 v0 1))) (
some (.inl (uw .u64 (v1+v2),jj .u64 v0 1)))) (
some (.inr v0))
def ID(n:Nat)(x1:Nat)(x2:Nat)(x3:Nat):XA (Nat×Nat) :=
br (decide (x3=0)) (
none) (
br (decide (x3<=x1)) (
none) (
br (decide (x1=0)) (
gd (decide (0<x3)) (
gd (decide (0<x3)) (
some (uw .u64 (x2/x3),x2%x3)))) (
ob (Dc n x3) fun r0 =>
ob (some (uw .u64 (uw .u64 (gk .u64 x1 (ui .u64 r0)) ||| uw .u64 (dh .u64 x2 (jj .u64 64 (ui .u64 r0)))))) fun y2 =>
gd (decide (0<dh .u64 (gk .u64 x3 (ui .u64 r0)) 32)) (
ob (some (uw .u64 ((uw .u64 (y2/(dh .u64 (gk .u64 x3 (ui .u64 r0)) 32)))*(dh .u64 (gk .u64 x3 (ui .u64 r0)) 32)))) fun y4 =>
ob (
bN (tY n) n (gk .u64 x3 (ui .u64 r0),ui .u64 r0,dh .u64 (gk .u64 x3 (ui .u64 r0)) 32,uw .u64 (uw .u64 (gk .u64 x3 (ui .u64 r0)) &&& uw .u64 4294967295),dh .u64 (gk .u64 x2 (ui .u64 r0)) 32,uw .u64 (uw .u64 (gk .u64 x2 (ui .u64 r0)) &&& uw .u64 4294967295),uw .u64 (y2/(dh .u64 (gk .u64 x3 (ui .u64 r0)) 32)),jj .u64 y2 y4)) fun(v1,v5,v0,v6,v7,v2,v3) =>
ob (some (jj .u64 (uw .u64 ((uw .u64 (y2*4294967296))+v7)) (uw .u64 (v3*v1)))) fun y3 =>
gd (decide (0<v0)) (
ob (
bN (fS n v2 v6 v0) n (jj .u64 y3 (uw .u64 ((uw .u64 (y3/v0))*v0)),uw .u64 (y3/v0))) fun v4 =>
ob (some (jj .u64 (uw .u64 ((uw .u64 (y3*4294967296))+v2)) (uw .u64 (v4*v1)))) fun y5 =>
some (uw .u64 ((uw .u64 (v3*4294967296))+v4),dh .u64 y5 v5))))))
def Gb(n:Nat)(l1:XB (Nat)):XA Int :=
br (decide ((l1.length:Int)=0)) (
some 0) (
gd (bB (WQ ((l1.length:Int)-1)) l1.length) (
ob (l1[(WQ ((l1.length:Int)-1)).toNat]?) fun x9 =>
ob (Dc n x9) fun r12 =>
some (WQ ((WQ (64*(l1.length:Int)))-r12))))
def qh(n:Nat)(l1:XB (Nat))(x3:Int):(XB (Nat)×Nat×Int)->XA ((XB (Nat)×Nat×Int) ⊕(XB (Nat)×Nat)):=fun(l2,n2,v0) =>
br (decide (v0<(l1.length:Int))) (
ob (
gd (bB v0 l1.length) (
ob (l1[v0.toNat]?) fun x4 =>
gd (bB (WQ (v0+(WQ (Int.tdiv x3 64)))) n2) (
ob (l2[(WQ (v0+(WQ (Int.tdiv x3 64)))).toNat]?) fun x5 =>
gd (decide (0<=Int.tmod x3 64)) (
ob (some (uw .u64 (uw .u64 x5 ||| uw .u64 (gk .u64 x4 (Int.tmod x3 64).toNat)))) fun y2 =>
gd (bB (WQ (v0+(WQ (Int.tdiv x3 64)))) n2) (
br (decide (0<Int.tmod x3 64)) (
ob (some (WQ ((WQ (v0+(WQ (Int.tdiv x3 64))))+1))) fun y3 =>
gd (decide (0<=WQ (64-(Int.tmod x3 64)))) (
gd (bB y3 n2) (
ob ((l2.set ((WQ (v0+(WQ (Int.tdiv x3 64)))).toNat) y2)[y3.toNat]?) fun x6 =>
some ((l2.set ((WQ (v0+(WQ (Int.tdiv x3 64)))).toNat) y2).set y3.toNat (dh .u64 x4 (WQ (64-(Int.tmod x3 64))).toNat))))) (
some (l2.set ((WQ (v0+(WQ (Int.tdiv x3 64)))).toNat) y2))))))) fun l3 =>
some (.inl (l3,n2,WQ (v0+1)))) (
some (.inr (l2,n2)))
def Ir(n:Nat)(l1:XB (Nat))(x3:Int):XA (XB Nat) :=
ob (some (WQ ((l1.length:Int)+(WQ (Int.tdiv x3 64))))) fun y2 =>
gd (decide (0<=WQ (y2+1))) (gd (lim ((WQ (y2+1)).toNat)) (
ob (
bN (qh n l1 x3) n ((List.replicate (WQ (y2+1)).toNat (0:Nat)),(WQ (y2+1)).toNat,0)) fun(l2,n2) =>
ob (nb n false l2) fun(r0,l3) =>
some l3))
def lL(n:Nat)(l1:XB (Nat))(l5:XB (Nat)):Int->XA (Int⊕Int⊕XC):=fun v11 =>
br (decide (0<=v11)) (
gd (bB v11 l1.length) (
ob (l1[v11.toNat]?) fun x33 =>
gd (bB v11 l5.length) (
ob (l5[v11.toNat]?) fun x38 =>
br (decide (x33<x38)) (
some (.inr (.inl (-1)))) (
gd (bB v11 l1.length) (
gd (bB v11 l5.length) (
br (decide (x38<x33)) (
some (.inr (.inl 1))) (
some (.inl (WQ (v11-1)))))))))) (
some (.inr (.inr ())))
def F9(n:Nat)(l1:XB (Nat))(l5:XB (Nat)):XA Int :=
br (!decide ((l1.length:Int)=(l5.length:Int))) (
some (WQ ((l1.length:Int)-(l5.length:Int)))) (
ob (α:=(Int)⊕XC) (
bN (lL n l1 l5) n (WQ ((l1.length:Int)-1))) fun r45=>match r45 with
| .inl v28 =>
some v28
| .inr _ =>
some 0)
def qd(n:Nat)(l1:XB (Nat))(l5:XB (Nat)):(XB (Nat)×Nat×Int)->XA ((XB (Nat)×Nat×Int) ⊕(XB (Nat))):=fun(l2,v1,v0) =>
br (decide (v0<(l1.length:Int))) (
gd (bB v0 l1.length) (
ob (l1[v0.toNat]?) fun x3 =>
ob (
br (decide (v0<(l5.length:Int))) (
gd (bB v0 l5.length) (
ob (l5[v0.toNat]?) fun x4 =>
some x4)) (
some 0)) fun v2 =>
ob (HI n x3 v2 v1) fun(r0,r1) =>
gd (bB v0 ((l1.length:Int).toNat)) (
ob (l2[v0.toNat]?) fun x5 =>
some (.inl ((l2.set v0.toNat r0),r1,WQ (v0+1)))))) (
some (.inr l2))
def GQ(n:Nat)(l1:XB (Nat))(l5:XB (Nat)):XA (XB Nat) :=
gd (decide (0<=(l1.length:Int))) (gd (lim ((l1.length:Int).toNat)) (
ob (
bN (qd n l1 l5) n ((List.replicate (l1.length:Int).toNat (0:Nat)),0,0)) fun l2 =>
some l2))
def qp(n:Nat)(l1:XB (Nat))(l6:XB (Nat)):(XB (Nat)×Nat×Int)->XA ((XB (Nat)×Nat×Int) ⊕(XB (Nat)×Nat)):=fun(l37,v38,v39) =>
br (decide (0<=v39)) (
gd (bB v39 l1.length) (
ob (l1[v39.toNat]?) fun x67 =>
gd (bB 0 l6.length) (
ob (l6[WR]?) fun x72 =>
ob (ID n v38 x67 x72) fun(r75,r76) =>
gd (bB v39 ((l1.length:Int).toNat)) (
ob (l37[v39.toNat]?) fun x78 =>
some (.inl ((l37.set v39.toNat r75),r76,WQ (v39-1))))))) (
some (.inr (l37,v38)))
def jI(n:Nat)(l6:XB (Nat))(l1:XB (Nat)):(XB (Nat)×XB (Nat)×Int)->XA ((XB (Nat)×XB (Nat)×Int) ⊕(XB (Nat)×XB (Nat))):=fun(l2,l3,v0) =>
br (decide (0<=v0)) (
ob (
ob (Ir n l6 v0) fun l4 =>
ob (F9 n l3 l4) fun r0 =>
br (decide (0<=r0)) (
ob (GQ n l3 l4) fun l7 =>
ob (nb n false l7) fun(r1,l8) =>
gd (bB (WQ (Int.tdiv v0 64)) ((l1.length:Int).toNat)) (
ob (l2[(WQ (Int.tdiv v0 64)).toNat]?) fun x3 =>
gd (decide (0<=Int.tmod v0 64)) (
ob (some (uw .u64 (uw .u64 x3 ||| uw .u64 (gk .u64 1 (Int.tmod v0 64).toNat)))) fun y2 =>
gd (bB (WQ (Int.tdiv v0 64)) ((l1.length:Int).toNat)) (
some ((l2.set ((WQ (Int.tdiv v0 64)).toNat) y2),l8))))) (
some (l2,l3))) fun(l9,l10) =>
some (.inl (l9,l10,WQ (v0-1)))) (
some (.inr (l2,l3)))
def AJ(n:Nat)(l1:XB (Nat))(l6:XB (Nat)):XA (XB Nat×XB Nat) :=
gd (decide (0<=(l1.length:Int))) (gd (lim ((l1.length:Int).toNat)) (
br (decide ((l6.length:Int)=1)) (
ob (
bN (qp n l1 l6) n ((List.replicate (l1.length:Int).toNat (0:Nat)),0,WQ ((l1.length:Int)-1))) fun(l2,v0) =>
ob (nb n false ([v0])) fun(r3,l3) =>
some (l2,l3)) (
ob (Gb n l1) fun r0 =>
ob (Gb n l6) fun r1 =>
ob (
bN (jI n l6 l1) n ((List.replicate (l1.length:Int).toNat (0:Nat)),l1,WQ (r0-r1))) fun(l4,l7) =>
some (l4,l7))))
def sI(n:Nat):(XB (Nat)×XB (Nat))->XA ((XB (Nat)×XB (Nat)) ⊕(XB (Nat))):=fun(l26,l29) =>
br (decide (0<(l29.length:Int))) (
ob (AJ n l26 l29) fun(l53,l57) =>
some (.inl (l29,l57))) (
some (.inr l26))
def FD(n:Nat)(x1:Bool)(l2:XB (Nat))(x7:Bool)(l8:XB (Nat)):XA (Bool×XB Nat) :=
ob (
bN (sI n) n (l2,l8)) fun l48 =>
some (false,l48)
def A4(n:Nat)(x1:Bool)(l2:XB (Nat)):XA (Bool×XB Nat) :=
ob (nb n (!x1) l2) fun(r10,l11) =>
some (r10,l11)
def oF(n:Nat)(l2:XB (Nat))(l3:XB (Nat)):(XB (Nat)×Nat×Nat×Int)->XA ((XB (Nat)×Nat×Nat×Int) ⊕(XB (Nat)×Nat×Nat)):=fun(l4,n2,v1,v0) =>
br (decide (v0<(l2.length:Int))) (
gd (bB v0 l2.length) (
ob (l2[v0.toNat]?) fun x3 =>
ob (
br (decide (v0<(l3.length:Int))) (
gd (bB v0 l3.length) (
ob (l3[v0.toNat]?) fun x4 =>
some x4)) (
some 0)) fun v2 =>
ob (Gs n x3 v2 v1) fun(r0,r1) =>
gd (bB v0 n2) (
ob (l4[v0.toNat]?) fun x5 =>
some (.inl ((l4.set v0.toNat r0),n2,r1,WQ (v0+1)))))) (
some (.inr (l4,n2,v1)))
def J8(n:Nat)(l1:XB (Nat))(l5:XB (Nat)):XA (XB Nat) :=
ob (
br (decide ((l1.length:Int)<(l5.length:Int))) (
some (l5,l1)) (
some (l1,l5))) fun(l2,l4) =>
gd (decide (0<=WQ ((l2.length:Int)+1))) (gd (lim ((WQ ((l2.length:Int)+1)).toNat)) (
ob (
bN (oF n l2 l4) n ((List.replicate (WQ ((l2.length:Int)+1)).toNat (0:Nat)),(WQ ((l2.length:Int)+1)).toNat,0,0)) fun(l3,n2,v0) =>
gd (bB (l2.length:Int) n2) (
ob (l3[(l2.length:Int).toNat]?) fun x3 =>
some (l3.set ((l2.length:Int).toNat) v0))))
def xW(n:Nat)(x1:Bool)(l2:XB (Nat))(x7:Bool)(l8:XB (Nat)):XA (Bool×XB Nat) :=
br ((x1==x7)) (
ob (J8 n l2 l8) fun l18 =>
ob (nb n x1 l18) fun(r22,l23) =>
some (r22,l23)) (
ob (
ob (F9 n l2 l8) fun r39 =>
br (decide (r39<0)) (
some (x7,l8,x1,l2)) (
some (x1,l2,x7,l8))) fun(v30,l31,v34,l35) =>
ob (GQ n l31 l35) fun l44 =>
ob (nb n v30 l44) fun(r48,l49) =>
some (r48,l49))
def Jh(n:Nat)(x1:Bool)(l2:XB (Nat))(x7:Bool)(l8:XB (Nat)):XA (Bool×XB Nat) :=
ob (A4 n x7 l8) fun(r17,l18) =>
ob (xW n x1 l2 r17 l18) fun(r23,l24) =>
some (r23,l24)
def B5(n:Nat)(x1:Bool)(l2:XB (Nat))(x6:Bool)(l7:XB (Nat)):XA Int :=
ob (Jh n x1 l2 x6 l7) fun(r14,l15) =>
ob (Nf n r14 l15) fun r20 =>
some r20
def F3(n:Nat)(x1:Nat)(x2:Nat)(x3:Nat)(x4:Nat)(x5:Nat)(x6:Nat)(x7:Nat)(x8:Nat)(x9:Nat)(x10:Nat)(x11:Nat)(x12:Nat)(x13:Nat)(x14:Nat)(x15:Nat)(x16:Nat):XA Int :=
ob (Me n 1) fun(r19,l20) =>
ob (GW n x1 x2 x3 x4 x5 x6 x7 x8 x9 x10 x11 x12 x13 x14 x15 x16) fun(r26,l27,r31,l32) =>
ob (
ob (Nf n r31 l32) fun r76 =>
br (decide (r76<=0)) (
some true) (
ob (FD n r26 l27 r31 l32) fun(r79,l80) =>
ob (B5 n r79 l80 r19 l20) fun r85 =>
some (!decide (r85=0)))) fun v74 =>
br (v74) (
some 20) (
some 0)
def HF(n:Nat)(x1:Nat)(x2:Nat)(x3:Nat)(x4:Nat)(x5:Nat)(x6:Nat)(x7:Nat)(x8:Nat)(x9:Nat)(x10:Nat)(x11:Nat)(x12:Nat)(x13:Nat)(x14:Nat)(x15:Nat)(x16:Nat):XA Bool :=
ob (F3 n x1 x2 x3 x4 x5 x6 x7 x8 x9 x10 x11 x12 x13 x14 x15 x16) fun r19 =>
br (!decide (r19=0)) (
some true) (
ob (GW n x1 x2 x3 x4 x5 x6 x7 x8 x9 x10 x11 x12 x13 x14 x15 x16) fun(r22,l23,r27,l28) =>
ob (Nf n r22 l23) fun r33 =>
some (decide (r33<0)))
def BU(n:Nat)(x1:Bool)(l2:XB (Nat)):XA XP :=
ob (Me n 1) fun(r10,l11) =>
some (x1,l2,r10,l11)
def va(n:Nat)(x1:Int):XA XP :=
ob (Me n x1) fun(r4,l5) =>
ob (BU n r4 l5) fun(r10,l11,r15,l16) =>
some (r10,l11,r15,l16)
def J0(n:Nat)(x1:Nat)(x2:Nat):XA (Nat×Nat) :=
ob (some (uw .u64 ((uw .u64 (uw .u64 x1 &&& uw .u64 4294967295))*(uw .u64 (uw .u64 x2 &&& uw .u64 4294967295))))) fun y3 =>
ob (some (uw .u64 ((dh .u64 x1 32)*(uw .u64 (uw .u64 x2 &&& uw .u64 4294967295))))) fun y5 =>
ob (some (uw .u64 (uw .u64 (uw .u64 (y5+(dh .u64 y3 32))) &&& uw .u64 4294967295))) fun y7 =>
ob (some (uw .u64 ((uw .u64 (uw .u64 x1 &&& uw .u64 4294967295))*(dh .u64 x2 32)))) fun y9 =>
ob (some (uw .u64 ((uw .u64 ((dh .u64 x1 32)*(dh .u64 x2 32)))+(dh .u64 (uw .u64 (y5+(dh .u64 y3 32))) 32)))) fun y11 =>
some (uw .u64 (y11+(dh .u64 (uw .u64 (y7+y9)) 32)),uw .u64 (x1*x2))
def qE(n:Nat)(l5:XB (Nat))(x3:Nat)(v1:Int)(n2:Nat):(XB (Nat)×Nat×Int)->XA ((XB (Nat)×Nat×Int) ⊕(XB (Nat)×Nat)):=fun(l2,v2,v0) =>
br (decide (v0<(l5.length:Int))) (
gd (bB v0 l5.length) (
ob (l5[v0.toNat]?) fun x4 =>
ob (J0 n x3 x4) fun(r0,r1) =>
gd (bB (WQ (v1+v0)) n2) (
ob (l2[(WQ (v1+v0)).toNat]?) fun x5 =>
ob (Gs n x5 r1 0) fun(r3,r4) =>
ob (Gs n r3 v2 0) fun(r5,r6) =>
gd (bB (WQ (v1+v0)) n2) (
some (.inl ((l2.set ((WQ (v1+v0)).toNat) r5),uw .u64 ((uw .u64 (r0+r4))+r6),WQ (v0+1))))))) (
some (.inr (l2,v2)))
def qL(n:Nat)(l1:XB (Nat))(l5:XB (Nat)):(XB (Nat)×Nat×Int)->XA ((XB (Nat)×Nat×Int) ⊕(XB (Nat)×Nat)):=fun(l2,n2,v0) =>
br (decide (v0<(l1.length:Int))) (
gd (bB v0 l1.length) (
ob (l1[v0.toNat]?) fun x3 =>
ob (
bN (qE n l5 x3 v0 n2) n (l2,0,0)) fun(l3,v1) =>
gd (bB (WQ (v0+(l5.length:Int))) n2) (
ob (l3[(WQ (v0+(l5.length:Int))).toNat]?) fun x4 =>
some (.inl ((l3.set ((WQ (v0+(l5.length:Int))).toNat) v1),n2,WQ (v0+1)))))) (
some (.inr (l2,n2)))
def G0(n:Nat)(l1:XB (Nat))(l5:XB (Nat)):XA (XB Nat) :=
gd (decide (0<=WQ ((l1.length:Int)+(l5.length:Int)))) (gd (lim ((WQ ((l1.length:Int)+(l5.length:Int))).toNat)) (
ob (
bN (qL n l1 l5) n ((List.replicate (WQ ((l1.length:Int)+(l5.length:Int))).toNat (0:Nat)),(WQ ((l1.length:Int)+(l5.length:Int))).toNat,0)) fun(l2,n2) =>
some l2))
def Ec(n:Nat)(x1:Bool)(l2:XB (Nat))(x7:Bool)(l8:XB (Nat)):XA (Bool×XB Nat) :=
ob (G0 n l2 l8) fun l17 =>
ob (nb n (!(x1==x7)) l17) fun(r21,l22) =>
some (r21,l22)
def FH(n:Nat)(x1:Bool)(l2:XB (Nat))(x7:Bool)(l8:XB (Nat)):XA XP :=
ob (AJ n l2 l8) fun(l18,l22) =>
ob (nb n (!(x1==x7)) l18) fun(r27,l28) =>
ob (nb n x1 l22) fun(r33,l34) =>
ob (
br (r33) (
ob (xW n r33 l34 false l8) fun(r65,l66) =>
ob (xW n r27 l28 (!x7) ([1])) fun(r73,l74) =>
some (r73,l74,r65,l66)) (
some (r27,l28,r33,l34))) fun(v54,l55,v58,l59) =>
some (v54,l55,v58,l59)
def CC(n:Nat)(x1:Bool)(l2:XB (Nat))(x7:Bool)(l8:XB (Nat)):XA XP :=
ob (FD n x1 l2 x7 l8) fun(r17,l18) =>
ob (FH n x1 l2 r17 l18) fun(r24,l25,r29,l30) =>
ob (FH n x7 l8 r17 l18) fun(r37,l38,r42,l43) =>
ob (
br (r37) (
ob (A4 n r24 l25) fun(r72,l73) =>
ob (A4 n r37 l38) fun(r78,l79) =>
some (r72,l73,r78,l79)) (
some (r24,l25,r37,l38))) fun(v62,l63,v66,l67) =>
some (v62,l63,v66,l67)
def AZ(n:Nat)(x1:Bool)(l2:XB (Nat))(x7:Bool)(l8:XB (Nat))(x13:Bool)(l14:XB (Nat))(x19:Bool)(l20:XB (Nat)):XA XP :=
ob (Ec n x1 l2 x19 l20) fun(r29,l30) =>
ob (Ec n x13 l14 x7 l8) fun(r35,l36) =>
ob (xW n r29 l30 r35 l36) fun(r41,l42) =>
ob (Ec n x7 l8 x19 l20) fun(r47,l48) =>
ob (CC n r41 l42 r47 l48) fun(r53,l54,r58,l59) =>
some (r53,l54,r58,l59)
def xI(n:Nat)(x1:Bool)(l2:XB (Nat))(x6:Bool)(l7:XB (Nat))(x11:Bool)(l12:XB (Nat))(x16:Bool)(l17:XB (Nat)):XA Int :=
ob (Ec n x1 l2 x16 l17) fun(r24,l25) =>
ob (Ec n x11 l12 x6 l7) fun(r30,l31) =>
ob (B5 n r24 l25 r30 l31) fun r36 =>
some r36
def uI(n:Nat)(l1:XB XN):Int->XA (Int⊕Int⊕XC):=fun v0 =>
br (decide (v0<(l1.length:Int))) (
gd (bB v0 l1.length) (
ob (l1[v0.toNat]?) fun(x3,x4,x5,x6,x7,x8,x9,x10,x11,x12,x14,x15,x16,x17,x18,x19) =>
ob (HF n x3 x4 x5 x6 x7 x8 x9 x10 x11 x12 x14 x15 x16 x17 x18 x19) fun r0 =>
br (r0) (
some (.inr (.inl v0))) (
some (.inl (WQ (v0+1)))))) (
some (.inr (.inr ())))
def qw(n:Nat)(l1:XB XN):(Bool×XB (Nat)×Bool×XB (Nat)×Int)->XA ((Bool×XB (Nat)×Bool×XB (Nat)×Int) ⊕(Bool×XB (Nat)×Bool×XB (Nat))):=fun(v1,l2,v2,l3,v0) =>
br (decide (v0<(l1.length:Int))) (
gd (bB v0 l1.length) (
ob (l1[v0.toNat]?) fun(x3,x4,x5,x6,x7,x8,x9,x10,x11,x12,x14,x15,x16,x17,x18,x19) =>
ob (GW n x3 x4 x5 x6 x7 x8 x9 x10 x11 x12 x14 x15 x16 x17 x18 x19) fun(r0,l4,r1,l7) =>
ob (AZ n v1 l2 v2 l3 r0 l4 r1 l7) fun(r3,l8,r4,l9) =>
some (.inl (r3,l8,r4,l9,WQ (v0+1))))) (
some (.inr (v1,l2,v2,l3)))
def BC(n:Nat)(l1:XB XN):XA Bool :=
ob (
ob (α:=Int) (
ob (α:=(Int)⊕XC) (
bN (uI n l1) n 0) fun r0=>match r0 with
| .inl v0 =>
some v0
| .inr _ =>
some (-1)) fun v1 =>
some (decide (0<=v1))) fun v2 =>
br (v2) (
some false) (
ob (
ob (va n 0) fun(r1,l2,r3,l3) =>
ob (
bN (qw n l1) n (r1,l2,r3,l3,0)) fun(v3,l4,v4,l7) =>
some (v3,l4,v4,l7)) fun(v5,l8,v6,l9) =>
ob (va n 1) fun(r4,l10,r5,l11) =>
ob (xI n v5 l8 v6 l9 r4 l10 r5 l11) fun r6 =>
some (decide (r6=0)))
def ld(n:Nat)(l1:XB (XB XN)):Int->XA (Int⊕XC⊕XC):=fun v21 =>
br (decide (v21<(l1.length:Int))) (
gd (bB v21 l1.length) (
ob (l1[v21.toNat]?) fun l79 =>
ob (
br (!decide ((l79.length:Int)=(l1.length:Int))) (
some true) (
ob (BC n l79) fun r89 =>
some (!r89))) fun v86 =>
br (v86) (
some (.inr (.inl ()))) (
some (.inl (WQ (v21+1)))))) (
some (.inr (.inr ())))
def Lo(n:Nat)(l1:XB (XB XN)):XA Int :=
ob (
br (decide ((l1.length:Int)<1)) (
some true) (
some (decide (60<(l1.length:Int))))) fun v15 =>
br (v15) (
some 330) (
ob (α:=(XC)⊕XC) (
bN (ld n l1) n 0) fun r94=>match r94 with
| .inl _ =>
some 330
| .inr _ =>
some 0)
def eE(n:Nat):(XB (Nat)×XB (Nat)×Int)->XA ((XB (Nat)×XB (Nat)×Int)⊕Int⊕XC):=fun(l32,l33,v34) =>
br (decide (0<=v34)) (
gd (bB v34 8) (
ob (l32[v34.toNat]?) fun x52 =>
gd (bB v34 8) (
ob (l33[v34.toNat]?) fun x55 =>
br (!decide (x52=x55)) (
gd (bB v34 8) (
gd (bB v34 8) (
br (decide (x52<x55)) (
some (.inr (.inl (-1)))) (
some (.inr (.inl 1)))))) (
some (.inl (l32,l33,WQ (v34-1))))))) (
some (.inr (.inr ())))
def zO(n:Nat)(x1:Nat)(x2:Nat)(x3:Nat)(x4:Nat)(x5:Nat)(x6:Nat)(x7:Nat)(x8:Nat)(x9:Nat)(x10:Nat)(x11:Nat)(x12:Nat)(x13:Nat)(x14:Nat)(x15:Nat)(x16:Nat):XA Int :=
ob (α:=(Int)⊕XC) (
bN (eE n) n (([x1,x2,x3,x4,x5,x6,x7,x8]:XB (Nat)),([x9,x10,x11,x12,x13,x14,x15,x16]:XB (Nat)),7)) fun r62=>match r62 with
| .inl v49 =>
some v49
| .inr _ =>
some 0
def Ip(n:Nat)(x1:Bool)(x2:Nat)(x3:Nat)(x4:Nat)(x5:Nat)(x6:Nat)(x7:Nat)(x8:Nat)(x9:Nat):XA (Nat×Nat×Nat×Nat×Nat×Nat×Nat×Nat×Int) :=
ob (zO n x2 x3 x4 x5 x6 x7 x8 x9 0 0 0 0 0 0 0 9223372036854775808) fun r24 =>
ob (
br (decide (0<r24)) (
some true) (
br (decide (r24=0)) (
some (!x1)) (
some false))) fun v27 =>
br (v27) (
some (0,0,0,0,0,0,0,0,6)) (
ob (
br (x1) (
ob (Is n 0 0 0 0 0 0 0 0 x2 x3 x4 x5 x6 x7 x8 x9) fun(r54,r55,r56,r57,r58,r59,r60,r61,r62) =>
some (r54,r55,r56,r57,r58,r59,r60,r61)) (
some (x2,x3,x4,x5,x6,x7,x8,x9))) fun(v44,v45,v46,v47,v48,v49,v50,v51) =>
some (v44,v45,v46,v47,v48,v49,v50,v51,0))
def P3(n:Nat)(x1:Bool)(l2:XB (Nat)):XA (Nat×Nat×Nat×Nat×Nat×Nat×Nat×Nat×Int) :=
br (decide (8<(l2.length:Int))) (
some (0,0,0,0,0,0,0,0,6)) (
gd (decide ((l2:XB (Nat)).length<=8)) (
ob (Lj ((l2:XB (Nat))++([0,0,0,0,0,0,0,0]:XB (Nat)).drop (l2:XB (Nat)).length)) fun(x12,x13,x14,x15,x16,x17,x18,x19) =>
ob (Ip n x1 x12 x13 x14 x15 x16 x17 x18 x19) fun(r21,r22,r23,r24,r25,r26,r27,r28,r29) =>
some (r21,r22,r23,r24,r25,r26,r27,r28,r29)))
def Cr(n:Nat)(x1:Bool)(l2:XB (Nat))(x6:Bool)(l7:XB (Nat)):XA (Nat×Nat×Nat×Nat×Nat×Nat×Nat×Nat×Nat×Nat×Nat×Nat×Nat×Nat×Nat×Nat×Int) :=
ob (P3 n x1 l2) fun(r14,r15,r16,r17,r18,r19,r20,r21,r22) =>
ob (P3 n x6 l7) fun(r25,r26,r27,r28,r29,r30,r31,r32,r33) =>
ob (
br (!decide (r22=0)) (
some true) (
some (!decide (r33=0)))) fun v42 =>
br (v42) (
some (0,0,0,0,0,0,0,0,0,0,0,0,0,0,0,0,6)) (
some (r14,r15,r16,r17,r18,r19,r20,r21,r25,r26,r27,r28,r29,r30,r31,r32,0))
end
end Go.Proofs.YtpkadoocdgdcfaaGreatDoor
namespace Go.Ab.W
open Go Go.Ab
def fJ{a:Nat}(h:a<2 ^ 64):uw .u64 a=a:=UG h
def G4{a b:Nat}(ha:a<2 ^ 64)(hb:b<2 ^ 64):uw .u64 (uw .u64 a &&& uw .u64 b)=a &&& b:=by
 rw[fJ ha,fJ hb,fJ (U6 Nat.and_le_left ha)]
def L5{a b:Nat}(ha:a<2 ^ 64)(hb:b<2 ^ 64):uw .u64 (uw .u64 a ||| uw .u64 b)=a ||| b:=by
 rw[fJ ha,fJ hb,fJ (Nat.or_lt_two_pow ha hb)]
def Ij{a k:Nat}(h:k<=64):dh .u64 a k=a >>> k:=by
 unfold dh;rw[US (show k<=IntKind.bits .u64 from h),Nat.shiftRight_eq_div_pow]
end Go.Ab.W
