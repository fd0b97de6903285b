/- A part of the proof. -/
import Derived.Test.YtpkadoocdgdcfaaGreatDoorKa3
import Derived.Maps.RangeRun
import Derived.Laws.BytesString
set_option linter.all false
abbrev WQ:=Nat×Nat×Nat×Nat×Nat×Nat×Nat×Nat×Nat×Nat×Nat×Nat×Nat×Nat×Nat×Nat
abbrev WR:=Nat×Nat×Nat×Nat×Nat×Nat×Nat×Nat
abbrev WT:=Bool×WB Nat×Bool×WB Nat
namespace Go.Ab.W
open Go Go.Ab
attribute [local irreducible] Tm.at Trie.set Trie.get V7.get V7.set V7.alloc V7.ww V7.kill
def O9(m:V7)(S:Vr)(qs:WB Pc):Prop:=(∀p∈qs,p.ok 0 m/\p.bound=true/\(∀b,p.any b->p.ow b)/\∀b,p.ow b->S b)/\qs.Pairwise Pc.apart
def O9.st{m m':V7}{S:Vr}{qs:WB Pc}(h:O9 m S qs)(hn:m.next<=m'.next)(hg:∀b,S b->b<m.next->m'.get b=m.get b):O9 m' S qs :=
 ⟨fun p hp=>⟨Pc.ia (h.1 p hp).1 hn fun b hb hlt=>hg b ((h.1 p hp).2.2.2 b ((h.1 p hp).2.2.1 b hb)) hlt,(h.1 p hp).2⟩,h.2⟩
def Pc.PK{lo:Nat}{m:V7}{p:Pc}(h:p.ok 0 m)(hl:∀b,p.ow b->lo<=b):p.ok lo m:=by
 cases p with
 | obj b o=>exact⟨hl b (.inl ⟨rfl,rfl⟩),h.2⟩
 | arr b w n es tg=>exact⟨hl b (.inl ⟨rfl,rfl⟩),h.2⟩
 | sl a w n es =>
  rcases h with h|⟨b,tg,rfl,h⟩
  exact .inl h
  exact .inr ⟨b,tg,rfl,hl b (.inl ⟨rfl,rfl⟩),h.2⟩
 | rd a cap w n es=>exact h
 | ro b o w n es=>exact h
 | gen g=>exact⟨h.1,fun _ b hb=>hl b (.inr hb)⟩
section
variable{m0 m:V7}{ps qs:WB Pc}
def Hp.perm{ps':WB Pc}(h:Hp m0 m ps)(hp:ps.Perm ps'):Hp m0 m ps' :=
 ⟨h.ext,fun p hm=>h.ok p (hp.mem_iff.2 hm),hp.pairwise h.apart fun h=>Pc.fR h⟩
def Hp.QD{g:GPc}(h:Hp m0 m (.gen g::ps))(hf:g.fr=false)(hB:O9 m g.ow qs):Hp m0 m (qs++ps):=by
 have h0:=h.ok _ (T5 ..);have ha:=Tp.1 h.apart;refine⟨h.ext,fun p hp=>?_,UO.2 ⟨hB.2,ha.2,fun p hp q hq=>⟨fun b h1 h2=>?_,fun b h1 h2=>?_⟩⟩⟩
 rcases T7.1 hp with hp|hp
 exact Pc.PK (hB.1 p hp).1 fun b hb=>h0.2 hf b ((hB.1 p hp).2.2.2 b hb)
 exact h.ok p (TB _ hp)
 exact(ha.1 q hq).1 b (.inr ((hB.1 p hp).2.2.2 b h1)) h2
 exact(ha.1 q hq).2 b h1 (.inr (.inl ((hB.1 p hp).2.2.2 b ((hB.1 p hp).2.2.1 b h2))))
def Hp.Ms(h:Hp m0 m (qs++ps))(ho:∀p∈qs,p.bound=true/\∀b,p.any b->p.ow b):O9 m (kL qs) qs :=
 ⟨fun p hp=>⟨Pc.FZ (h.ok p (Uu _ hp)) (Uw _),(ho p hp).1,(ho p hp).2,fun b hb=>⟨p,hp,hb⟩⟩,(UO.1 h.apart).1⟩
def Hp.Se{g:GPc}(h:Hp m0 m (qs++ps))(ho:∀p∈qs,p.bound=true/\∀b,p.any b->p.ow b)(hP:g.P m)(hw:∀b,g.ow b->kL qs b)(hr:∀b,¬g.rd b):Hp m0 m (.gen g::ps):=by
 obtain⟨h1,h2,h3⟩:=UO.1 h.apart;have hany:∀b,Pc.any (.gen g) b->kL qs b:=fun b hb=>hb.elim (fun h=>by cases h) fun hb=>hb.elim (hw b) fun hb=>Tl hb (hr b)
 refine⟨h.ext,fun p hp=>?_,Tp.2 ⟨fun q hq=>⟨fun b a c=>?_,fun b a c=>?_⟩,h2⟩⟩
 rcases Tt.1 hp with rfl|hp
 refine⟨hP,fun _ b hb=>?_⟩;obtain⟨p,hp,hb⟩:=hw b hb;exact Pc.C0 (h.ok p (Uu _ hp)) (ho p hp).1 hb
 exact h.ok p (List.mem_append_right _ hp)
 obtain⟨p,hp,hb⟩:=hany b (Pc.iP a);exact(h3 p hp q hq).1 b hb c
 obtain⟨p,hp,hb⟩:=hany b c;exact(h3 p hp q hq).2 b a (Pc.iP hb)
end
structure Orp{α:Type}(r:Rep α) where
 G:Type
 V:α->G->WB Vs
 N:α->G->WB Pc
 len:∀x g,(V x g).length=r.w
 one:∀x g,(V x g).all lH=true
 own:∀x g,∀p∈N x g,p.bound=true/\∀b,p.any b->p.ow b
 PV:∀{m:V7} {x:α} {g:G} {S:Vr},(∀p∈N x g,p.ok 0 m)->(∀p∈N x g,∀b,p.any b->S b)->∃g',V x g=r.V x g'/\r.A m S x g'
section
variable{α β:Type}{r:Rep α}{r2:Rep β}
def iq(o:Orp r):WB α->Vp->WB Pc->Prop
 | [],[],qs=>qs=[]
 | x::L,e::es,qs=>∃g qs',e=o.V x g/\qs=o.N x g++qs'/\iq o L es qs'
 | _,_,_=>False
def iq.append{o:Orp r}:∀{L L':WB α} {es es':Vp} {qs qs':WB Pc},iq o L es qs->iq o L' es' qs'->iq o (L++L') (es++es') (qs++qs')
 | [],_,[],_,_,_,h,h'=>by cases h; exact h'
 | x::L,L',e::es,es',_,qs',h,h'=>by
  obtain⟨g,q1,h1,rfl,h3⟩:=h;exact⟨g,q1++qs',h1,by rw[Uk],h3.append h'⟩
 | [],_,_::_,_,_,_,h,_=>h.elim
 | _::_,_,[],_,_,_,h,_=>h.elim
def iq.split{o:Orp r}:∀{L:WB α} {es:Vp} {qs:WB Pc} (j:Nat),iq o L es qs->∃q1 q2,qs=q1++q2/\iq o (L.take j) (es.take j) q1/\iq o (L.drop j) (es.drop j) q2
 | [],[],_,j,h=>by cases h; exact⟨[],[],rfl,by simp[iq],by simp[iq]⟩
 | x::L,e::es,_,0,h=>⟨[],_,rfl,rfl,h⟩
 | x::L,e::es,_,j+1,h=>by
  obtain⟨g,q1,h1,rfl,h3⟩:=h;obtain⟨p1,p2,rfl,h4,h5⟩:=iq.split j h3;exact⟨o.N x g++p1,p2,by rw[Uk],⟨g,p1,h1,rfl,h4⟩,h5⟩
 | [],_::_,_,_,h=>h.elim
 | _::_,[],_,_,h=>h.elim
def iq.own{o:Orp r}:∀{L:WB α} {es:Vp} {qs:WB Pc},iq o L es qs->∀p∈qs,p.bound=true/\∀b,p.any b->p.ow b
 | [],[],_,h=>by cases h; exact fun p hp=>by cases hp
 | x::L,e::es,_,h=>by
  obtain⟨g,q1,h1,rfl,h3⟩:=h;intro p hp;rcases T7.1 hp with hp|hp
  exact o.own x g p hp
  exact h3.own p hp
 | [],_::_,_,h=>h.elim
 | _::_,[],_,h=>h.elim
def iq.PV{o:Orp r}{m:V7}{S:Vr}:∀{L:WB α} {es:Vp} {qs:WB Pc},iq o L es qs->(∀p∈qs,p.ok 0 m)->(∀p∈qs,∀b,p.any b->S b)->fK r m S L es
 | [],[],_,h,_,_=>.nil
 | x::L,e::es,_,h,h1,h2=>by
  obtain⟨g,q1,rfl,rfl,h5⟩:=h;obtain⟨g',e1,e2⟩:=o.PV (fun p hp=>h1 p (Uu _ hp)) fun p hp=>h2 p (Uu _ hp);rw[e1];exact .cons e2 (h5.PV (fun p hp=>h1 p (List.mem_append_right _ hp)) fun p hp=>h2 p (List.mem_append_right _ hp))
 | [],_::_,_,h,_,_=>h.elim
 | _::_,[],_,h,_,_=>h.elim
def iq.len{o:Orp r}:∀{L:WB α} {es:Vp} {qs:WB Pc},iq o L es qs->es.length=L.length
 | [],[],_,_=>rfl
 | _::_,_::_,_,h=>by obtain⟨_,_,_,_,h⟩:=h; simp[h.len]
 | [],_::_,_,h=>h.elim
 | _::_,[],_,h=>h.elim
def iq.cells{o:Orp r}:∀{L:WB α} {es:Vp} {qs:WB Pc},iq o L es qs->∀e∈es,e.length=r.w/\e.all lH=true
 | [],[],_,_=>fun e he=>by cases he
 | x::L,e::es,_,h=>by
  obtain⟨g,_,rfl,_,h⟩:=h;intro e' he;rcases Tt.1 he with rfl|he
  exact⟨o.len x g,o.one x g⟩
  exact h.cells e' he
 | [],_::_,_,h=>h.elim
 | _::_,[],_,h=>h.elim
def ib(o:Orp r)(S:Vr)(L:WB α)(es:Vp):GPc where
 ow b:=S b
 rd _:=False
 P m:=(∃qs,iq o L es qs/\O9 m S qs)/\∀b,S b->b<m.next
 st _ _ h hn hg:=by
  obtain⟨⟨qs,h1,h2⟩,h3⟩:=h;exact⟨⟨qs,h1,h2.st hn fun b hb hlt=>hg b (.inl hb) hlt⟩,fun b hb=>SY (h3 b hb) hn⟩
 lt _ b h hb:=hb.elim (h.2 b) fun h=>h.elim
def OS{a:Vq}{w n:Nat}{es:Vp}{b:Nat}(h:Pc.any (.sl a w n es) b):Pc.ow (.sl a w n es) b:=h.elim (fun h=>.inl ⟨rfl,h⟩) fun h=>h.elim
def oS(f:α->WB Vs)(w:Nat):Orp (rS f w) where
 G:=Vq
 V l a:=[.slice a l.length l.length]
 N l a:=[.sl a w l.length (l.map f)]
 len _ _:=rfl
 one _ _:=rfl
 own _ _ p hp:=by rw[TG.1 hp]; exact⟨rfl,fun b hb=>OS hb⟩
 PV {m x g S} h h':=by
  have h1:=h _ (TG.2 rfl);exact⟨(g,x.length),rfl,Pc.OI (p:=.sl g w x.length (x.map f)) h1 (.sl ..),fun b hb=>h' _ (TG.2 rfl) b (.inl hb)⟩
end
section
variable{α:Type}{r:Rep α}{o:Orp r}{E:Env}{n:Nat}{m0 m:V7}{fs:Fs}{ps:WB Pc}
def Hp.N2{x:α}{g:o.G}(h:Hp m0 m (o.N x g++ps)):Hp m0 m (.gen (ib o (kL (o.N x g)) [x] [o.V x g])::ps) :=
 h.Se (o.own x g) ⟨⟨_,⟨g,[],rfl,(T8 _).symm,rfl⟩,h.Ms (o.own x g)⟩,fun b ⟨p,hp,hb⟩=>Pc.fT (h.ok p (Uu _ hp)) (Pc.iP hb)⟩ (fun _ h=>h) fun _ h=>h
def Hp.G5(h:Hp m0 m ps):Hp m0 m (.gen (ib o (fun _=>False) [] [])::ps) :=
 h.Mo (SX _) h.ext (fun _ _=>rfl) ⟨⟨⟨[],rfl,fun p hp=>(by cases hp),.nil⟩,fun _ h=>h.elim⟩,fun _ _ h=>h.elim⟩ fun b hb=>hb.elim (fun h=>by cases h) fun h=>h.elim (fun h=>h.elim) fun h=>h.elim
def Hp.B7{S:Vr}{L:WB α}{es:Vp}(h:Hp m0 m (.gen (ib o S L es)::ps)):∃qs,iq o L es qs/\Hp m0 m (qs++ps):=by
 obtain⟨⟨qs,h1,h2⟩,_⟩:=(h.ok _ (T5 ..)).1;exact⟨qs,h1,h.QD rfl h2⟩
def Hp.xP{L:WB α}{es:Vp}{qs:WB Pc}(h:Hp m0 m (qs++ps))(ho:iq o L es qs):Hp m0 m (.gen (ib o (kL qs) L es)::ps) :=
 h.Se ho.own ⟨⟨qs,ho,h.Ms ho.own⟩,fun b ⟨p,hp,hb⟩=>Pc.fT (h.ok p (Uu _ hp)) (Pc.iP hb)⟩ (fun _ h=>h) fun _ h=>h
def Hp.QW{S S':Vr}{L L':WB α}{es es':Vp}(h:Hp m0 m (.gen (ib o S L es)::.gen (ib o S' L' es')::ps)):∃S'',Hp m0 m (.gen (ib o S'' (L++L') (es++es'))::ps):=by
 obtain⟨q1,h1,h2⟩:=h.B7;obtain⟨q2,h3,h4⟩:=(h2.perm (ps':=.gen (ib o S' L' es')::(q1++ps)) List.perm_middle).B7;have h5:Hp m0 m ((q1++q2)++ps):=h4.perm (by rw[<-Uk]; exact List.Perm.append_right _ List.perm_append_comm)
 exact⟨_,h5.xP (h1.append h3)⟩
def Hp.KX{S:Vr}{L:WB α}{es:Vp}{j:Nat}{x:α}(h:Hp m0 m (.gen (ib o S L es)::ps))(hl:L[j]? = some x):∃g S1 S2,es[j]? = some (o.V x g)/\Hp m0 m (o.N x g++(.gen (ib o S1 (L.take j) (es.take j))::.gen (ib o S2 (L.drop (j+1)) (es.drop (j+1)))::ps)):=by
 obtain⟨qs,h1,h2⟩:=h.B7;obtain⟨q1,q2,rfl,h3,h4⟩:=h1.split j;have hj:j<L.length:=(Tc.1 hl).1;have hje:j<es.length:=by rw[h1.len]; exact hj
 have hd:L.drop j=x::L.drop (j+1):=by
  rw[UT hj];rw[SU hj] at hl;rw[S3 hl]
 rw[hd,UT hje] at h4;obtain⟨g,q3,e1,rfl,h5⟩:=h4;have p1:Hp m0 m (q1++(q3++(o.N x g++ps))):=h2.perm (by
  rw[Uk,Uk];refine List.Perm.append_left _ ?_;rw[<-Uk,<-Uk];exact List.Perm.append_right _ List.perm_append_comm)
 have p2:=p1.xP h3;have p3:Hp m0 m (q3++(.gen (ib o (kL q1) (L.take j) (es.take j))::(o.N x g++ps))):=p2.perm List.perm_middle.symm;have p4:=p3.xP h5;refine⟨g,_,_,by rw[SU hje,e1],p4.perm (ps':=o.N x g++(.gen (ib o (kL q1) (L.take j) (es.take j))::.gen (ib o (kL q3) (L.drop (j+1)) (es.drop (j+1)))::ps)) ?_⟩
 exact(List.Perm.swap _ _ _).trans ((List.Perm.cons _ List.perm_middle.symm).trans List.perm_middle.symm)
def mZ{γ:Type}{l:WB γ}{j:Nat}(y:γ)(h:j<l.length):l.set j y=l.take j++y::l.drop (j+1):=by
 rw[List.set_eq_take_append_cons_drop,S7 h]
def Hp.tJ{S:Vr}{L:WB α}{es:Vp}(h:Hp m0 m (.gen (ib o S L es)::ps)):Hp m0 m (.gen (ef r S L es)::ps):=by
 have h0:=h.ok _ (T5 ..);have ha:=Tp.1 h.apart;obtain⟨⟨qs,h1,h2⟩,h3⟩:=h0.1;refine⟨h.ext,fun p hp=>?_,Tp.2 ⟨fun q hq=>⟨fun b a _=>(fE a).elim,fun b a c=>(ha.1 q hq).2 b a (.inr (.inl (rh c)))⟩,ha.2⟩⟩;rcases Tt.1 hp with rfl|hp
 exact⟨⟨h1.PV (fun p hp=>(h2.1 p hp).1) fun p hp b hb=>(h2.1 p hp).2.2.2 b ((h2.1 p hp).2.2.1 b hb),h3⟩,fun _ b hb=>hb.elim⟩
 exact h.ok p (TB _ hp)
def GY{S:Vr}{L:WB α}{es:Vp}{q:Nat}(h:Hp m0 m ps)(hq:pk ps q=some (.gen (ib o S L es))):es.length=L.length:=by
 obtain⟨⟨qs,h1,_⟩,_⟩:=(h.get hq).1;exact h1.len
end
section
variable{α:Type}{E:Env}{n:Nat}{m0 m:V7}{fs:Fs}{ps:WB Pc}{r:Rep α}{x:Vu}{ty elem:Vt}
def qv.rep{z:α}{g:r.G}{S:Vr}(h:Lf m0 ps r z g S)(k:Nat):qv m0 ps r (List.replicate k z) ((List.replicate k (r.V z g)).map fun e=>e) S:=fun m hm=>by
 refine⟨?_,(h m hm).2⟩;rw[List.map_id'];refine⟨by simp,fun i y hi=>?_⟩
 obtain⟨hi1,hi2⟩:=Tc.1 hi;rw[List.length_replicate] at hi1;rw[List.getElem_replicate] at hi2;subst hi2;exact⟨g,by rw[TX,S7 hi1],(h m hm).1⟩
end
end Go.Ab.W
namespace Go.Ab
open Go
open Go.ChangeMaps (setBlock)
section
variable{E:Env}{n:Nat}{fn:WJ}{ro:WA Nat}
def cM(E:Env)(n:Nat)(fn:WJ)(ro:WA Nat)(c:Code)(Q:V8->Tm->V7->Prop)(t:Tm)(m:V7):Prop :=
 ∀(j:aJ) (w:Vw) (a:Act) (F:Fence) (N:Nat),MR E j m w->TR n j t a.tmps->jZ j ro F->Marks N w a.defers->N<=w.heap.size ->
  c.wpIn F 0 E.P (fun e' a' w'=>∃e t' m',Q e t' m'/\kV E j m w N n e t' m' e' a' w') a w
variable{Q Q':V8->Tm->V7->Prop}{t:Tm}{m:V7}{c x y:Code}
def cM.of(hE:EnvOk E)(h:bu E n fn ro c Q t m):cM E n fn ro c Q t m:=fun j w a F N hm ht hro hd hN=>by
 obtain⟨e,t',m',⟨k,hk⟩,q⟩:=h;obtain⟨e0,t0,m0,hr,H⟩:=kH hE k _ _ hk;cases hr;exact wpIn_mono (H j w a F N hm ht hro hd hN) fun e' a' w' hq=>⟨e,t',m',q,hq⟩
def cM.mono(h:cM E n fn ro c Q t m)(hq:∀e t m,Q e t m->Q' e t m):cM E n fn ro c Q' t m:=fun j w a F N hm ht hro hd hN =>
 wpIn_mono (h j w a F N hm ht hro hd hN) fun e' a' w' ⟨e,t',m',q,hc⟩=>⟨e,t',m',hq _ _ _ q,hc⟩
def cM.Fo(h:cM E n fn ro x (lS (cM E n fn ro y Q) Q) t m):cM E n fn ro (.seq x y) Q t m:=fun j w a F N hm ht hro hd hN=>by
 refine wpIn_seq (wpIn_mono (h j w a F N hm ht hro hd hN) ?_);rintro e' a' w' ⟨e,t',m',q,hc⟩;obtain⟨rfl,j',s,ht',hd'⟩:=hc;cases e with
 | normal=>exact wpIn_mono (q j' w' a' F N s.mr ht' (hro.mono s.le) hd' (Tb hN s.size)) fun _ _ _ ⟨e2,t2,m2,q2,c2⟩=>⟨e2,t2,m2,q2,c2.from hm s⟩
 | exit id=>exact⟨.exit id,t',m',q,rfl,j',s,ht',hd'⟩
 | ret=>exact⟨.ret,t',m',q,rfl,j',s,ht',hd'⟩
def cM.seq(hE:EnvOk E)(h:bu E n fn ro x (lS (cM E n fn ro y Q) Q) t m):cM E n fn ro (.seq x y) Q t m:=.Fo (.of hE h)
def H0{j:aJ}{m:V7}{w:Vw}(h:MR E j m w){r:Nat}(hr:∀b k,j b=some k->(m.get b).isSome=true->k.c≠r){w1:Vw}(hw:w1=w\/w1=w.drew)(hE:¬E.mono){o o':Obj}(ho:w.heap[r]? = some o):MR E j m (setBlock w1 r o')/\w.heap.size=(setBlock w1 r o').heap.size/\(∀c,c≠r->(setBlock w1 r o').heap[c]? = w.heap[c]?)/\iC E w (setBlock w1 r o'):=by
 have hh:w1.heap=w.heap:=by rcases hw with rfl|rfl<;>rfl
 have hs:w.heap.size=(setBlock w1 r o').heap.size:=by simp[setBlock,hh]
 have hg:∀c,c≠r->(setBlock w1 r o').heap[c]? = w.heap[c]?:=fun c hc=>by
  show(w1.heap.setIfInBounds r o')[c]? = _
  rw[hh,UC (Ne.symm hc)]
 refine⟨⟨fun b k e=>⟨(h.lt b k e).1,hs ▸(h.lt b k e).2⟩,fun b o k hgt e=>?_,h.inj,h.glob⟩,hs,hg,?_⟩
 obtain⟨o1,h1,h2⟩:=h.obj b o k hgt e;exact⟨o1,by rw[hg _ (hr b k e (by rw[hgt]; rfl))]; exact h1,h2⟩
 rcases hw with rfl|rfl<;>exact⟨rfl,rfl,rfl,fun e=>Tl e hE⟩
def AA{j:aJ}{m:V7}{w:Vw}(h:MR E j m w){r:Nat}{a:WA Nat}{b0:Nat}{s:WD Nat}{d:Nat}(hr:w.heap[r]? = some (.mapIter a b0 s d)):∀b k,j b=some k->(m.get b).isSome=true->k.c≠r:=by
 intro b k hb hl he;cases hg:m.get b with
 | none=>rw[hg] at hl; cases hl
 | some o =>
  obtain⟨o',h1,h2⟩:=h.obj b o k hg hb;rw[he,hr] at h1;cases h1;cases o<;>exact h2.elim
def ua{w:Vw}{N:Nat}{ds:WB Deferred}(hm:Marks N w ds){r:Nat}{w':Vw}{a:WA Nat}{b0:Nat}{s:WD Nat}{d:Nat}(hr:w.heap[r]? = some (.mapIter a b0 s d))(hg:∀c,c≠r->w'.heap[c]? = w.heap[c]?):Marks N w' ds:=by
 obtain⟨rs,h1,h2,h3⟩:=hm;refine⟨rs,h1,h2,fun x hx=>⟨(h3 x hx).1,?_⟩⟩;rw[hg x fun e=>by subst e; have:=(h3 _ hx).2; rw[hr] at this; cases this]
 exact(h3 x hx).2
end
def QK(w:Vw)(r c:Nat)(ents:WD MapEntry)(clock:Nat)(S:WB Nat)(cnt:Nat):Prop :=
 ∃since seen c0,w.heap[r]? = some (.mapIter (some c) since seen c0)/\w.heap[c]? = some (.map ents clock)/\(∀x∈ents.toList,x.born<since)/\since<=c0/\since<=clock/\(∀i x,ents[i]? = some x->(seen.contains x.born=true↔i∈S))/\(leftOf ents seen).size=cnt
def rL:∀(n:Nat) (S:WB Nat),S.Nodup->(∀i∈S,i<n)->(∀i,i<n->i∈S)->S.Perm (List.range n)
 | 0,S,_,h2,_=>by
  cases S with
  | nil=>exact List.Perm.refl _
  | cons a l=>exact Tl (h2 a (by simp)) (by omega)
 | n+1,S,h1,h2,h3=>by
  have hm:n∈S:=h3 n (by omega)
  have hp:=List.perm_cons_erase hm;have ih:=rL n (S.erase n) (h1.erase n) (fun i hi=>by
   have h4:=h2 i (List.mem_of_mem_erase hi);have h5:i≠n:=fun e=>by subst e; exact(List.Nodup.not_mem_erase h1) hi
   omega) fun i hi=>(List.mem_erase_of_ne (by omega)).2 (h3 i (by omega))
  rw[List.range_succ];exact hp.trans ((List.Perm.cons n ih).trans (List.perm_append_singleton n (List.range n)).symm)
section
variable{E:Env}{n:Nat}{fn:WJ}{ro:WA Nat}
def eval_put{a:Act}{d:Tmp}{v:Vs}(h:d<a.tmps.size):(a.put (some d) v).eval (.tmp d)=v:=by
 simp[Act.put,Act.eval,h]
def IP(hE:EnvOk E)(hmono:¬E.mono){B B' i2 i3:Nat}{oN oX oE:Oper}{rest:WB Oper}{ops3:WD Oper}{X:Code}{d2 e1 e2 f1:Tmp}
  (hN:oN.op=.next (.tmp d2) false/\oN.dst=some e1/\oN.guard=none) (hX:oX.op=.extract (.tmp e1) 0/\oX.dst=some e2/\oX.guard=none) (hOE:oE.op=.entry (.tmp d2)/\oE.dst=some f1/\oE.guard=none) (h3:ops3.toList=oE::rest)
  (h7:e1<n) (h8:e2<n) (h15:f1<n) (h16:e1≠d2) (h17:e2≠d2) (_hd3:f1≠d2)
  {mb:V7} {w0:Vw} {j0:aJ} (h18:MR E j0 mb w0) {bm bi:Nat} {es:WB (Vs×Vs)} {lim:Nat} (hbm:mb.get bm=some (.map es)) (hbl:bm<lim)
  (Inv:WB Nat->Tm->V7->Prop) (hExt:∀S t m,Inv S t m->m.get bm=some (.map es)/\lim<=m.wl/\t.at d2=ptr bi 0)
  (hstep:∀S i e t m,S.Nodup->(∀i∈S,i<es.length)->i∉S->es[i]? = some e->Inv S t m->iV E n ops3 (fun t' m'=>bu E n fn ro X (fun e' t'' m''=>e'=.normal/\Inv (S++[i]) t'' m'') t' m') rest (((t.set e1 (.tuple #[.bool true,e.1,e.2])).set e2 (.bool true)).set f1 (.tuple #[e.1,e.2])) m)
  {r:Nat} (h33:w0.heap.size<=r) {kb:Blk} {ents:WD MapEntry} {clock:Nat} (hinc:JD ents clock) (a3:WB Deferred) (N:Nat) :
  ∀(K:Nat) (S:WB Nat) (cnt:Nat) (t:Tm) (m:V7) (j:aJ) (w:Vw) (a:Act) (F:Fence),cnt<K->S.Nodup->(∀i∈S,i<es.length)->Inv S t m->Sim E j0 mb w0 j m w->TR n j t a.tmps->jZ j ro F->Marks N w a.defers->N<=w.heap.size ->
   j bi=some ⟨r,none⟩->j bm=some kb->ER j es ents.toList->QK w r kb.c ents clock S cnt ->
   np F 0 E.P (.seq (.region i2 #[oN,oX] false) (.seq (.cond (.tmp e2) .skip (.exit B)) (.block B' (.seq (.region i3 ops3 false) X))))
    (fun e' a' w'=>∃S t' m',S.Perm (List.range es.length)/\Inv S t' m'/\kV E j0 mb w0 N n (.exit B) ((t'.set e1 (.tuple #[.bool false])).set e2 (.bool false)) m' e' a' w') a w:=by
 intro K
 induction K with
 | zero=>intro S cnt t m j w a F hc; exact Tl hc (by omega)
 | succ K ih =>
  intro S cnt t m j w a F hc hnd hSl hinv s ht hro hmk hNw hjr hjm her hit;have hlen:es.length=ents.size:=by have:=her.len; simpa using this
  obtain⟨hg,hwl,htd⟩:=hExt S t m hinv;obtain⟨since,seen,c0,i1,i2',i3',i5,i4,i0,i6⟩:=hit;refine jX (wpIn_seq (wpIn_region ?_));have hiter:a.eval (.tmp d2)=.pointer (some ⟨r,0,none⟩):=by
   have hv:=ht.2 d2;rw[htd] at hv
   show a.tmps.getD d2 undef=_
   generalize hx:a.tmps.getD d2 undef=x at hv;cases hv with
   | ptr hj=>rw[hjr] at hj; cases hj; rfl
  have hsz:a.tmps.size=n:=ht.1;have hlist:List.range (#[oN,oX]:WD Oper).size=[0,1]:=rfl;rw[hlist];have w0':Region.wanted oN (yielded #[oN,oX] a.tmps)=true:=by simp[Region.wanted,hN.2.2]
  have g0:(#[oN,oX]:WD Oper)[0]? = some oN:=rfl;have g1:(#[oN,oX]:WD Oper)[1]? = some oX:=rfl;simp only[wpOpsIn,g0,g1,w0',if_true];have hexN:execOp a.eval oN=(do pure (.value (<-Instr.next (.pointer (some ⟨r,0,none⟩)) false oN.type))):=by simp only[execOp,hN.1,hiter]
  have hdN:∀c,oN.op≠.defer c:=fun c e=>by rw[hN.1] at e; cases e
  have hdX:∀c,oX.op≠.defer c:=fun c e=>by rw[hX.1] at e; cases e
  have hbmj:bm<m.next:=(s.mr.lt bm kb hjm).1
  rcases run_next_at (P:=E.P) w oN.type r kb.c since c0 seen ents clock i1 i2' i3' i5 with⟨q0,hrun⟩|⟨x,hx,w1,h12,hrun⟩
  ·
   refine cL hro.wide hdN (by rw[hexN]; exact jY.value hrun) ?_
   have h5:TR n j (t.set e1 (.tuple #[.bool false])) (a.put oN.dst (.tuple #[.bool false])).tmps:=ht.put (t':=t.set e1 (.tuple #[.bool false])) (.tuple' (LR.cons (.bool false) (.nil j))) (by rw[hN.2.1,cD,S7 h7])
   rw[hN.2.1] at h5 ⊢;have w1':Region.wanted oX (yielded #[oN,oX] (a.put (some e1) (.tuple #[.bool false])).tmps)=true:=by simp[Region.wanted,hX.2.2]
   rw[S7 w1'];have hexX:execOp (a.put (some e1) (.tuple #[.bool false])).eval oX=(do pure (.value (<-Instr.extract (.tuple #[.bool false]) 0))):=by
    simp only[execOp,hX.1];rw[eval_put (v:=.tuple #[.bool false]) (d:=e1) (a:=a) (hsz.symm▸h7)]
   refine cL hro.wide hdX (v:=.bool false) (w':=w) (by rw[hexX]; exact jY.value rfl) ?_
   have h0:=h5.put (t':=(t.set e1 (.tuple #[.bool false])).set e2 (.bool false)) (dst:=oX.dst) (.bool false) (by rw[hX.2.1,cD,S7 h8])
   rw[hX.2.1] at h0 ⊢;refine wpIn_seq (wpIn_cond_false (eval_put (by simp only[Act.put,Array.size_setIfInBounds]; exact hsz.symm▸h8)) (wpIn_exit ?_))
   refine⟨S,t,m,rL _ S hnd hSl fun i hi=>?_,hinv,rfl,j,s,h0,hmk⟩;have hi':i<ents.size:=by omega
   refine(i0 i _ (Array.getElem?_eq_getElem hi')).1 ?_;cases hcs:seen.contains (ents[i]'hi').born with
   | true=>rfl
   | false =>
    have:(ents[i]'hi') ∈(leftOf ents seen).toList:=by
     unfold leftOf;simp[hcs];exact fun h=>by simp_all
    rw[UX q0] at this;simp at this
  
  obtain⟨hxm,hxs⟩:=mem_left hx;obtain⟨i,hi⟩:=List.mem_iff_getElem?.1 hxm;have hi':ents[i]? = some x:=by simpa using hi
  have hiS:i∉S:=fun h=>by rw[(i0 i x hi').2 h] at hxs; cases hxs
  have hil:i<es.length:=by rw[hlen]; exact(Te.1 hi').1
  obtain⟨y,hy,hky,hvy⟩:=her.get (SU hil);rw[hi] at hy;cases hy;have hne:∀b k,j b=some k->(m.get b).isSome=true->k.c≠r:=AA s.mr i1;have hcr:kb.c≠r:=hne bm kb hjm (by rw[hg]; rfl)
  obtain⟨p2,p1,p0,p3⟩:=H0 s.mr hne h12 hmono (o':=.mapIter (some kb.c) since (seen.push x.born) clock) i1;have s1:Sim E j0 mb w0 j m (setBlock w1 r (.mapIter (some kb.c) since (seen.push x.born) clock)) :=
   { ext:=s.ext,le:=s.le,new:=s.new,mr:=p2,size:=by rw[<-p1]; exact s.size,full:=s.full,away:=s.away,fresh:=s.fresh,frame:=fun c hc H=>by rw[p0 c (by omega)]; exact s.frame c hc H,calm:=s.calm.trans p3}
  have m3:=ua hmk i1 p0;refine cL hro.wide hdN (by rw[hexN]; exact jY.value hrun) ?_
  generalize h19:setBlock w1 r (.mapIter (some kb.c) since (seen.push x.born) clock)=w2 at s1 m3 p1 p0;have h9:w2.heap[r]? = some (.mapIter (some kb.c) since (seen.push x.born) clock):=by
   rw[<-h19];have hh:w1.heap=w.heap:=by rcases h12 with rfl|rfl<;>rfl
   have hrl:=(Te.1 i1).1;simp[setBlock,hh,hrl]
  have h10:w2.heap[kb.c]? = some (.map ents clock):=by rw[p0 _ hcr]; exact i2'
  have hvT:VR j (.tuple #[.bool true,(es[i]'hil).1,(es[i]'hil).2]) (.tuple #[.bool true,x.key,x.val]):=.tuple' (LR.cons (.bool true) (LR.cons hky (LR.cons hvy (.nil j))));have h5:=ht.put (t':=t.set e1 (.tuple #[.bool true,(es[i]'hil).1,(es[i]'hil).2])) (dst:=oN.dst) hvT (by rw[hN.2.1,cD,S7 h7])
  rw[hN.2.1] at h5 ⊢;have w1':Region.wanted oX (yielded #[oN,oX] (a.put (some e1) (.tuple #[.bool true,x.key,x.val])).tmps)=true:=by simp[Region.wanted,hX.2.2]
  rw[S7 w1'];have hexX:execOp (a.put (some e1) (.tuple #[.bool true,x.key,x.val])).eval oX=(do pure (.value (<-Instr.extract (.tuple #[.bool true,x.key,x.val]) 0))):=by
   simp only[execOp,hX.1];rw[eval_put (v:=.tuple #[.bool true,x.key,x.val]) (d:=e1) (a:=a) (hsz.symm▸h7)]
  refine cL hro.wide hdX (v:=.bool true) (w':=w2) (by rw[hexX]; exact jY.value rfl) ?_
  have h0:=h5.put (t':=(t.set e1 (.tuple #[.bool true,(es[i]'hil).1,(es[i]'hil).2])).set e2 (.bool true)) (dst:=oX.dst) (.bool true) (by rw[hX.2.1,cD,S7 h8])
  rw[hX.2.1] at h0 ⊢;generalize h11:(a.put (some e1) (.tuple #[.bool true,x.key,x.val])).put (some e2) (.bool true)=a0 at h0;have hdef2:a0.defers=a.defers:=by rw[<-h11]; rfl
  have h20:a0.eval (.tmp e2)=.bool true:=by rw[<-h11]; exact eval_put (by simp only[Act.put,Array.size_setIfInBounds]; exact hsz.symm▸h8)
  have h21:a0.eval (.tmp d2)=.pointer (some ⟨r,0,none⟩):=by
   rw[<-h11]
   show(((a.tmps.setIfInBounds e1 _).setIfInBounds e2 _).getD d2 undef)=_
   have h6:a.tmps.getD d2 undef=.pointer (some ⟨r,0,none⟩):=hiter;simp only[Array.getD_eq_getD_getElem?] at h6 ⊢;rw[UC h17,UC h16];exact h6
  refine wpIn_seq (wpIn_cond_true h20 (wpIn_skip ?_));refine wpIn_block (wpIn_seq (wpIn_region ?_));have h22:List.range ops3.size=0::List.range' 1 (ops3.size-1):=by
   have:ops3.size=rest.length+1:=by have:=Up List.length h3; simpa using this
   rw[this,List.range_eq_range']
   rfl
  rw[h22];have g2:ops3[0]? = some oE:=by have:=Up (·[0]?) h3; simpa using this
  have w2':Region.wanted oE (yielded ops3 a0.tmps)=true:=by simp[Region.wanted,hOE.2.2]
  simp only[wpOpsIn,g2,w2',if_true];have hdE:∀c,oE.op≠.defer c:=fun c e=>by rw[hOE.1] at e; cases e
  have hexE:execOp a0.eval oE=(do pure (.value (<-Instr.entry (.pointer (some ⟨r,0,none⟩))))):=by simp only[execOp,hOE.1,h21]
  refine cL hro.wide hdE (by rw[hexE]; exact jY.value (run_entry_at w2 r kb.c since seen ents clock x h9 h10 hxm hinc.2)) ?_
  have hvE:VR j (.tuple #[(es[i]'hil).1,(es[i]'hil).2]) (.tuple #[x.key,x.val]):=.tuple' (LR.cons hky (LR.cons hvy (.nil j)));have h13:=h0.put (t':=((t.set e1 (.tuple #[.bool true,(es[i]'hil).1,(es[i]'hil).2])).set e2 (.bool true)).set f1 (.tuple #[(es[i]'hil).1,(es[i]'hil).2])) (dst:=oE.dst) hvE (by rw[hOE.2.1,cD,S7 h15])
  rw[hOE.2.1] at h13 ⊢;have hdef3:(a0.put (some f1) (.tuple #[x.key,x.val])).defers=a.defers:=by rw[<-hdef2]; rfl
  have hst:=hstep S i _ t m hnd hSl hiS (SU hil) hinv;obtain⟨k0,t0,m5,h23,hX4⟩:=mu hst;have hrun3:=j9 (ops:=ops3) (n:=n) (tf:=t0) (mf:=m5) (F:=F) (kH hE k0) hro.wide (Q:=Exit.then (fun a' w'=>X.wpIn F 0 E.P (Exit.inBlock B' (Exit.then (fun a' w'=>np F 0 E.P (.seq (.region i2 #[oN,oX] false) (.seq (.cond (.tmp e2) .skip (.exit B)) (.block B' (.seq (.region i3 ops3 false) X)))) (fun e' a' w'=>∃S t' m',S.Perm (List.range es.length)/\Inv S t' m'/\kV E j0 mb w0 N n (.exit B) ((t'.set e1 (.tuple #[.bool false])).set e2 (.bool false)) m' e' a' w') a' w')
    (fun e' a' w'=>∃S t' m',S.Perm (List.range es.length)/\Inv S t' m'/\kV E j0 mb w0 N n (.exit B) ((t'.set e1 (.tuple #[.bool false])).set e2 (.bool false)) m' e' a' w'))) a' w')
    (Exit.inBlock B' (Exit.then (fun a' w'=>np F 0 E.P (.seq (.region i2 #[oN,oX] false) (.seq (.cond (.tmp e2) .skip (.exit B)) (.block B' (.seq (.region i3 ops3 false) X)))) (fun e' a' w'=>∃S t' m',S.Perm (List.range es.length)/\Inv S t' m'/\kV E j0 mb w0 N n (.exit B) ((t'.set e1 (.tuple #[.bool false])).set e2 (.bool false)) m' e' a' w') a' w')
    (fun e' a' w'=>∃S t' m',S.Perm (List.range es.length)/\Inv S t' m'/\kV E j0 mb w0 N n (.exit B) ((t'.set e1 (.tuple #[.bool false])).set e2 (.bool false)) m' e' a' w')))) s1.mr a.defers ?_ rest 1 _ m j w2 (a0.put (some f1) (.tuple #[x.key,x.val])) (by rw[h3]; rfl) h23 (.refl s1.mr) h13 hdef3
  exact hrun3
  
  intro j3 w4 a1 s3 h24 h25;obtain⟨e0,t1,m4,⟨k1,h26⟩,h27,hinv5⟩:=hX4;subst h27;obtain⟨e3,t2,m8,h28,H6⟩:=kH hE k1 _ _ h26;cases h28;have m6:Marks N w4 a1.defers:=by rw[h25]; exact m3.FX s1.mr s3
  refine wpIn_mono (H6 j3 w4 a1 F N s3.mr h24 (hro.mono s3.le) m6 (by have:=s3.size; omega)) ?_
  rintro e4 a2 w3 ⟨rfl,j2,s4,h29,m7⟩;have s2:Sim E j m w2 j2 m4 w3:=s3.trans s1.mr s4;have hk5':=hExt _ _ _ hinv5;have h30:∀b k,j b=some k->(m.get b).isSome=true->k.c≠r:=AA s1.mr h9;have h31:w3.heap[r]? = w2.heap[r]?:=s2.frame r (Te.1 h9).1 fun b k hb hl he=>Tl he (h30 b k hb hl);have h32:w3.heap[kb.c]? = w2.heap[kb.c]?:=s2.frame kb.c (Te.1 h10).1 fun b k hb hl he=>by
   have:=s1.mr.inj b bm k kb hb hjm hl (by rw[hg]; rfl) he
   omega
  refine ih (S++[i]) _ t1 m4 j2 w3 a2 F ?_ ?_ ?_ hinv5 (s1.trans h18 s2) h29 ((hro.mono s3.le).mono s4.le) m7 (by have:=s2.size; omega) (s2.le _ _ hjr) (s2.le _ _ hjm) (her.mono s2.le)
   ⟨since,seen.push x.born,clock,by rw[h31]; exact h9,by rw[h32]; exact h10,i3',i4,i4,fun i' x' hx'=>?_,rfl⟩
  have:=left_shrinks ents seen x hx;omega
  exact List.nodup_append.2 ⟨hnd,by simp,fun p hp q hq=>by rw[TG] at hq; subst hq; exact fun e=>hiS (e▸hp)⟩
  intro p hp;rcases T7.1 hp with hp|hp
  exact hSl p hp
  rw[TG.1 hp]; exact hil
  have hcp:(seen.push x.born).contains x'.born=true↔(seen.contains x'.born=true\/x'.born=x.born):=by simp[Array.mem_push]
  rw[hcp,i0 i' x' hx',T7,TG];refine or_congr Iff.rfl ⟨fun e=>?_,fun e=>?_⟩
  have h14:(ents.toList.map (·.born))[i']? = some x'.born:=by rw[Tn]; simp[hx']
  have h6:(ents.toList.map (·.born))[i]? = some x.born:=by rw[Tn]; simp[hi']
  have hl':i'<(ents.toList.map (·.born)).length:=(Tc.1 h14).1;exact(List.getElem_inj (h₀:=hl') (h₁:=(Tc.1 h6).1) hinc.2).1 (by
   rw[(Tc.1 h14).2,(Tc.1 h6).2,e])
  subst e; rw[hi'] at hx'; cases hx'; rfl
def MR.PT{j:aJ}{m:V7}{w:Vw}(h:MR E j m w)(x:Nat):MR E j (m.ww x) w :=
 ⟨fun b k e=>by rw[V7.next_ww]; exact h.lt b k e,fun b o k ho=>by rw[V7.get_ww] at ho; exact h.obj b o k ho,fun b b' k k' e e'=>by rw[V7.get_ww,V7.get_ww]; exact h.inj b b' k k' e e',h.glob⟩
def N7{j j':aJ}{m m':V7}{w w':Vw}{x:Nat}(s:Sim E j (m.ww x) w j' m' w'):Sim E j m w j' (m'.ww (min m.wl m'.wl)) w' where
 ext:=⟨by have:=s.ext.next; rwa[V7.next_ww] at this ⊢,by rw[V7.wl_ww]; omega,fun b hb hl=>by
  rw[V7.wl_ww] at hl;have:=s.ext.same b (by rw[V7.next_ww]; exact hb) (by omega)
  rwa[V7.get_ww] at this ⊢,fun b hb hn=>by
  have:=s.ext.dead b (by rw[V7.next_ww]; exact hb) (by rw[V7.get_ww]; exact hn)
  rwa[V7.get_ww]⟩
 le:=s.le
 new:=fun b k h h'=>by have:=s.new b k h h'; rwa[V7.next_ww] at this
 mr:=s.mr.PT _
 size:=s.size
 full:=fun b h h' hl=>by
  rw[V7.next_ww] at h';rw[V7.get_ww] at hl;exact s.full b (by rw[V7.next_ww]; exact h) h' hl
 away:=fun b hb hn=>by
  have:=s.away b (by rw[V7.next_ww]; exact hb) hn
  rwa[V7.get_ww] at this ⊢
 fresh:=fun b k h h'=>by
  rcases s.fresh b k h h' with hf|⟨b0,k0,a1,a2,a3,a4⟩
  exact .inl hf
  rw[V7.get_ww] at a2;exact .inr ⟨b0,k0,a1,a2,a3,by rw[V7.wl_ww]; omega⟩
 frame:=fun c hc H=>s.frame c hc fun b k hb hl he=>by
  rw[V7.get_ww] at hl;have:=H b k hb hl he;rw[V7.wl_ww] at this; omega
 calm:=s.calm
def mK(m:V7):V7:=((m.alloc (.cells [] .own)).kill m.next).ww (m.next+1)
def pD(m:V7):(mK m).next=m.next+1:=by unfold mK; rw[V7.next_ww,V7.next_kill,V7.next_alloc]
def CG(m:V7):(mK m).wl=m.next+1:=by unfold mK; rw[V7.wl_ww]
def iM(m:V7)(b:Nat):(mK m).get b=if b=m.next then none else m.get b:=by
 unfold mK;rw[V7.get_ww,V7.fP,V7.bg]
 split<;>rfl
def IL{j:aJ}{m:V7}{w:Vw}(h:MR E j m w)(o:Obj):Sim E j (m.ww (m.next+1)) w (j.set m.next ⟨w.heap.size,none⟩) (mK m) (w.alloc o):=by
 have hn:j m.next=none:=h.me
 have hget:∀c,c<w.heap.size->(w.alloc o).heap[c]? = w.heap[c]?:=fun c hc=>by
  show(w.heap.push o)[c]? = w.heap[c]?
  rw[U3,Vz]
 refine⟨⟨by rw[V7.next_ww,pD]; omega,by rw[V7.wl_ww,CG]; omega,fun b hb _=>?_,fun b hb hd=>?_⟩,aJ.nB _ hn,fun b k e e'=>?_,⟨fun b k e=>?_,fun b a k ha e=>?_,fun b b' k k' e e' hl hl' hc=>?_,fun g hg=>?_⟩,by rw[World.size_alloc]; omega,fun b hb hb' hl=>?_,fun b hb hj=>?_,fun b k e e'=>?_,fun c hc _=>hget c hc,⟨rfl,rfl,rfl,fun _=>SX _⟩⟩
 rw[V7.next_ww] at hb;rw[iM,Vz,V7.get_ww]
 rw[V7.next_ww] at hb;rw[V7.get_ww] at hd;rw[iM,Vz,hd]
 by_cases hb:b=m.next
 rw[hb,V7.next_ww]; exact SX _
 rw[aJ.bP _ _ hb,e'] at e; cases e
 rw[pD,World.size_alloc]
 by_cases hb:b=m.next
 subst hb; rw[aJ.cc] at e; cases e;exact⟨Uj _,Uj _⟩
 rw[aJ.bP _ _ hb] at e;exact⟨Nat.lt_succ_of_lt (h.lt b k e).1,Nat.lt_succ_of_lt (h.lt b k e).2⟩
 rw[iM] at ha
 split at ha
 cases ha
 rename_i hb;rw[aJ.bP _ _ hb] at e;obtain⟨o',h1,h2⟩:=h.obj b a k ha e;exact⟨o',by rw[hget _ (h.lt b k e).2]; exact h1,h2.mono (aJ.nB _ hn)⟩
 rw[iM] at hl hl'
 split at hl
 cases hl
 rename_i hb
 split at hl'
 cases hl'
 rename_i hb';rw[aJ.bP _ _ hb] at e;rw[aJ.bP _ _ hb'] at e';exact h.inj b b' k k' e e' hl hl' hc
 have h1:=h.glob g hg;have hlt:=(h.lt g _ h1).1;rw[aJ.bP _ _ (by omega)]; exact h1
 rw[V7.next_ww] at hb;rw[pD] at hb';rw[iM,VA] at hl
 cases hl
 rw[V7.next_ww] at hb;rw[iM,Vz,V7.get_ww]
 by_cases hb:b=m.next
 subst hb; rw[aJ.cc] at e; cases e;exact .inl (SX _)
 rw[aJ.bP _ _ hb,e'] at e; cases e
end
end Go.Ab
namespace Go.Ab.W
open Go Go.Ab
attribute [local irreducible] Tm.at Trie.set Trie.get V7.get V7.set V7.alloc V7.ww V7.kill
def xL(F:Func):Code:=match F.body with
 | some c=>c
 | none=>.skip
def Rz:Nat->Code->Code
 | k+1,.seq _ b=>Rz k b
 | _,c=>c
section
variable{E:Env}{n:Nat}{m0:V7}{fs fs':Fs}{ps ps':WB Pc}{fn:WJ}{ro:WA Nat}{Q:V8->Tm->V7->Prop}{a b c:Code}
def Vk(E:Env)(n:Nat)(fn:WJ)(ro:WA Nat)(c:Code)(Q:V8->Tm->V7->Prop)(m0:V7)(fs:Fs)(ps:WB Pc):Prop:=∀t m,Fr t fs->Hp m0 m ps->cM E n fn ro c Q t m
def Vk.seq(hE:EnvOk E)(h:Wk E n fn ro a (lS (cM E n fn ro b Q) Q) m0 fs ps):Vk E n fn ro (.seq a b) Q m0 fs ps:=fun t m hf hm=>.seq hE (h t m hf hm)
def Vk.of(hE:EnvOk E)(h:Wk E n fn ro c Q m0 fs ps):Vk E n fn ro c Q m0 fs ps:=fun t m hf hm=>.of hE (h t m hf hm)
def At.R8(h:Vk E n fn ro b Q m0 fs ps):At (lS (cM E n fn ro b Q) Q) .normal m0 fs ps:=h
def Vk.Jt(hs:sub fs fs')(h:ai m0 ps ps')(k:Vk E n fn ro c Q m0 fs' ps'):Vk E n fn ro c Q m0 fs ps:=fun t m hf hm=>k t m (hf.sub hs) (h m hm)
def mJ(E:Env)(f:WJ)(args:WB Vs)(m:V7)(R:Vs->V7->Prop):Prop:=∀(j:aJ) (w:Vw) (args':WB Vs),MR E j m w->LR j args args'->dN E.P false f args'.toArray w (fun v' w'=>∃v1 m1,R v1 m1/\fy E j m w v1 m1 v' w')
def AB(hE:EnvOk E){f:WJ}{F:Func}{args:WB Vs}{rs:WB ResultVar}{N:Nat}{R:Vs->V7->Prop}{m:V7}(hf:E.P.funcs[f]? = some F)(hb:F.body=some c)(hrs:F.results.toList=rs)(hN:max args.length F.ntmps=N)
  (h:cM E N f none c (lU E rs R) (Trie.ofList args 0 .nil) m):mJ E f args m R:=fun j w args' hm hl=>by
 subst hrs hN;refine .inl ⟨hE.call f F c hf hb _ w,?_⟩;refine callsIn_of_wp_marks hf hb trivial ?_;refine wpIn_mono (h j w { tmps:=args'.toArray++Vh (F.ntmps-args'.toArray.size) undef,defers:=[]} Fence.wide w.heap.size hm (TR.enter hl F.ntmps) rfl (Marks.nil _ _) (SX _)) ?_;rintro e' a' w' ⟨e,t',m',hq,rfl,j',s,ht,rs,hnd,hds,hrs⟩;have key:∀{vs:WB Vs},bT E t' m' F.results.toList=some vs->R (fg vs) m'->LeavesInM Fence.wide 0 E.P F a'.tmps (fun e w'=>∃v,e=.returned v/\∃v1 m1,R v1 m1/\fy E j m w v1 m1 v w') a'.defers .returning w':=by
  intro vs hvs hR;rw[hds];refine j5 (fun w'' s'=>?_) rs w' s hnd hrs;obtain⟨v',hv1,hv2⟩:=qD s'.mr ht hvs;exact⟨v',hv1,v',rfl,fg vs,m',hR,j',s',hv2⟩
 cases e with
 | exit id=>exact hq.elim
 | normal =>
  simp only[lU] at hq;unfold wH at hq
  split at hq
  rename_i vs hv; exact key hv hq
  exact hq.elim
 | ret =>
  simp only[lU] at hq;unfold wH at hq
  split at hq
  rename_i vs hv; exact key hv hq
  exact hq.elim
def I3(hE:EnvOk E){f:WJ}{F:Func}{args:WB Vs}{rs:WB ResultVar}{N:Nat}{R:Vs->V7->Prop}{m:V7}(hf:E.P.funcs[f]? = some F)(hb:F.body=some c)(hrs:F.results.toList=rs)(hN:max args.length F.ntmps=N)(hm:Hp m0 m ps)
  (h:Vk E N f none c (lU E rs R) m0 (uZ args 0 []) ps):mJ E f args m R:=AB hE hf hb hrs hN (h _ m (Fr.args args 0 [] _ (Fr.nil _)) hm)
def Bm{f:WJ}{args:WB Vs}{m:V7}{v:Vs}{m':V7}(h:mJ E f args { m with wl:=m.next} fun v1 m1=>Grown m m1 /\
  ((bw v=true/\v1=v/\m'=m)\/∃R b1 cs tag,QG R/\v1=R b1/\v=R m.next/\m.next<=b1/\b1<m1.next/\m1.get b1=some (.cells cs tag)/\cs.all aL=true/\m'=m.alloc (.cells cs tag))) (pr:Bool) {j:aJ} {w:Vw} {args':WB Vs} (hm:MR E j m w) (hl:LR j args args'):dN E.P pr f args'.toArray w (fy E j m w v m'):=by
 refine cp (fun h=>by cases h) (h j w args' (MR.uW hm) hl) ?_
 rintro v' w' ⟨v1,m1,⟨hg,hc⟩,j',s,hv⟩;rcases hc with⟨hpv,rfl,rfl⟩|⟨R,b1,cs,tag,hR,rfl,rfl,hb,hb1,ho,hpl,rfl⟩
 exact⟨j,Sim.forget hm s hg,VR.mn hpv hv⟩
 obtain⟨k1,hk1⟩:=s.full b1 hb hb1 (by rw[ho]; rfl)
 exact⟨_,Sim.born hm s hg hb hk1 ho hpl,hR _ _ _ _ _ _ hk1 (aJ.cc _ _ _) hv⟩
end
section
variable{α:Type}{r:Rep α}{o:Orp r}{E:Env}{n:Nat}{m0 m:V7}{fs:Fs}{ps:WB Pc}{dr:Bool}{ops:WD Oper}{K:Tm->V7->Prop}{os:WB Oper}{prs:WB (Nat×Nat)}{ss:WB Nk}{ty:Vt}
def ai.G5:ai m0 ps (.gen (ib o (fun _=>False) [] [])::ps):=fun _ hm=>hm.G5
def Wo.N2{x:α}{g:o.G}{qs:WB Pc}(hq:o.N x g++ps=qs)(k:∀S,Wo dr E n ops K os m0 fs (.gen (ib o S [x] [o.V x g])::ps)):Wo dr E n ops K os m0 fs qs :=
 Wo.Dl (N:=fun S=>.gen (ib o S [x] [o.V x g])::ps) (fun m hm=>⟨_,Hp.N2 (by rw[hq]; exact hm)⟩) k
def Ns{elem ty2:Vt}{w c0 l l2:Nat}{a a0:Vq}{S S':Vr}{L L':WB α}{es es':Vp}{ars:WD Vu}{p0:Pc}(ht:SlT E.P ty elem w)(h0:∃e2,E.P.underlying ty2=some (.slice e2))(ha:kP E fs ars.toList=some [.slice a l l,.slice a0 l2 c0])(hr:IsRd p0 a0 c0 w l2 es')(hw:r.w=w)(hl:lim (L++L').length=true) :
  Ox E m0 fs (.gen (ib o S L es)::.gen (ib o S' L' es')::.sl a w l es::p0::ps) (.call ⟨.builtin .append,ars,#[ty,ty2]⟩) (fun y:Vq ×(Nat->Prop)=>.slice y.1 (L++L').length (L++L').length)
   (fun y=>.gen (ib o y.2 (L++L') (es++es'))::.sl y.1 w (L++L').length (es++es')::p0::ps):=fun t m hf hm=>⟨fun b hb=>(by simp[aP] at hb),fun K hK=>by
 have e1:l=L.length:=by rw[Pc.Ca (hm.get (k:=2) rfl),GY hm (q:=0) rfl]
 have e2:l2=L'.length:=by rw[<-(hm.rd (k:=3) rfl hr).1,GY hm (q:=1) rfl]
 have e0:l+l2=(L++L').length:=by rw[e1,e2,S5]
 obtain⟨⟨qs,h1,_⟩,_⟩:=(hm.get (k:=1) rfl).1;obtain⟨S'',h2⟩:=hm.QW;obtain⟨a',m',h3,h4⟩:=mw (n:=l) (k:=1) ht h0 h2 rfl (h2.rd (k:=2) rfl hr) (fun e he=>by rw[<-hw]; exact(h1.cells e he).1) (fun e he=>(h1.cells e he).2) (by rw[e0]; exact hl)
 have:bp E.P .append #[ty,ty2] [.slice a l l,.slice a0 l2 c0] m=some (.slice a' (l+l2) (l+l2),m'):=h3;rw[Go.Ab.fp (hf.kP ha) this];rw[e0] at h4 ⊢;exact hK (a',S'') m' h4⟩
end
def tz{γ:Type}{l:WB γ}{j:Nat}{e:γ}(h:l[j]? = some e):l.set j e=l:=by
 apply Uy;intro i;rw[List.getElem?_set]
 split
 rename_i hij; subst hij;rw[S7 (Tc.1 h).1,h]
 rfl
def nO{γ:Type}{l:WB γ}{j:Nat}{e e':γ}(h:l[j]? = some e):(l.set j e')[j]? = some e':=by
 rw[List.getElem?_set,S7 rfl,S7 (Tc.1 h).1]
section
variable{α β:Type}{r:Rep α}{o:Orp r}{E:Env}{n:Nat}{m0 m:V7}{fs:Fs}{ps qs:WB Pc}{dr:Bool}{ops:WD Oper}{K:Tm->V7->Prop}{os:WB Oper}{prs:WB (Nat×Nat)}{ss:WB Nk}{ty:Vt}{Q:V8->Tm->V7->Prop}
def ai.C2{k b w l:Nat}{es es':Vp}{tg:Tag}(hp:pk ps k=some (.arr b w l es tg))(h:es=es'):ai m0 ps (da ps k (.arr b w l es' tg)):=fun m hm=>by
 subst h; rw[Ex _ _ _ hp]; exact hm
def At.Dl{e:V8}{β:Type}{N:β->WB Pc}(h:∀m,Hp m0 m ps->∃y,Hp m0 m (N y))(k:∀y,At Q e m0 fs (N y)):At Q e m0 fs ps:=fun t m hf hm=>by
 obtain⟨y,hy⟩:=h m hm; exact k y t m hf hy
def Hd{S:Vr}{L:WB α}{es:Vp}{j:Nat}{x:α}(hl:L[j]? = some x):∀m,Hp m0 m (.gen (ib o S L es)::ps) ->
  ∃z:{ z:o.G ×(Nat->Prop) ×(Nat->Prop) // es[j]? = some (o.V x z.1)},Hp m0 m (o.N x z.1.1++(.gen (ib o z.1.2.1 (L.take j) (es.take j))::.gen (ib o z.1.2.2 (L.drop (j+1)) (es.drop (j+1)))::ps)):=fun m hm=>by
 obtain⟨g,S1,S2,he,h⟩:=hm.KX hl;exact⟨⟨(g,S1,S2),he⟩,h⟩
def Wo.Gf{S:Vr}{L:WB α}{es:Vp}{j:Nat}{x:α}{N:o.G->(Nat->Prop)->(Nat->Prop)->WB Pc}(hl:L[j]? = some x)(hN:∀g S1 S2,N g S1 S2=o.N x g++(.gen (ib o S1 (L.take j) (es.take j))::.gen (ib o S2 (L.drop (j+1)) (es.drop (j+1)))::ps))(k:∀g S1 S2,es[j]? = some (o.V x g)->Wo dr E n ops K os m0 fs (N g S1 S2)) :
  Wo dr E n ops K os m0 fs (.gen (ib o S L es)::ps):=Wo.Dl (Hd hl) fun z=>by rw[<-hN]; exact k _ _ _ z.2
def ai.L7{S:Vr}{L:WB α}{es:Vp}:ai m0 (.gen (ib o S L es)::ps) (.gen (ef r S L es)::ps):=fun _ hm=>hm.tJ
def GW{S1 S2 S:Vr}{L:WB α}{es:Vp}{j:Nat}{x y:α}{e:WB Vs}{g:r.G}(hl:L[j]? = some x)(he:es[j]? = some e)(hf:Lf m0 ps r y g S):∀m,Hp m0 m (.gen (ib o S1 (L.take j) (es.take j))::.gen (ib o S2 (L.drop (j+1)) (es.drop (j+1)))::ps)->∃R,Hp m0 m (.gen (ef r R (L.set j y) (es.set j (r.V y g)))::ps):=fun m hm=>by
 have h1:=hm.tJ;have h2:Hp m0 m (.gen (ib o S2 (L.drop (j+1)) (es.drop (j+1)))::.gen (ef r S1 (L.take j) (es.take j))::ps):=h1.perm (List.Perm.swap _ _ _);have h3:=h2.tJ;have h0:Hp m0 m ps:=by
  have:=h3.ok;exact⟨h3.ext,fun p hp=>h3.ok p (TB _ (TB _ hp)),(Tp.1 (Tp.1 h3.apart).2).2⟩
 obtain⟨a1,a2⟩:=hf m h0;have h4:qv m0 (.gen (ef r S2 (L.drop (j+1)) (es.drop (j+1)))::.gen (ef r S1 (L.take j) (es.take j))::ps) r [y] [r.V y g] (fun b=>S b\/False):=fun m' hm'=>by
  have h5:Hp m0 m' ps:=⟨hm'.ext,fun p hp=>hm'.ok p (TB _ (TB _ hp)),(Tp.1 (Tp.1 hm'.apart).2).2⟩;obtain⟨b1,b2⟩:=hf m' h5;refine⟨.cons (r.mono b1 fun _ h=>.inl h) .nil,fun b hb=>?_⟩;obtain⟨q,hq,h⟩:=b2 b (hb.elim id False.elim);exact⟨q,TB _ (TB _ hq),h⟩
 have h6:=ai.dp h4 m h3;have h7:=ai.IY (m0:=m0) (q:=0) (q2:=1) rfl rfl m h6;have h8:=ai.IY (m0:=m0) (q:=2) (q2:=0) rfl rfl m h7;have h9:Hp m0 m (.gen (ef r (fun b=>S1 b\/((S b\/False)\/S2 b)) (L.take j++([y]++L.drop (j+1))) (es.take j++([r.V y g]++es.drop (j+1))))::ps):=⟨h8.ext,fun p hp=>h8.ok p (TB _ (TB _ hp)),(Tp.1 (Tp.1 h8.apart).2).2⟩;refine⟨fun b=>S1 b\/((S b\/False)\/S2 b),?_⟩;rw[mZ y (Tc.1 hl).1,mZ (r.V y g) (Tc.1 he).1];exact h9
def At.Jl{ex:V8}{S1 S2 S:Vr}{L:WB α}{es:Vp}{j:Nat}{x y:α}{e:WB Vs}{g:r.G}(hl:L[j]? = some x)(he:es[j]? = some e){e2:WB Vs}(hf:Lf m0 ps r y g S)(hV:∀m,Hp m0 m ps->r.V y g=e2)(k:∀R,At Q ex m0 fs (.gen (ef r R (L.set j y) (es.set j e2))::ps)) :
  At Q ex m0 fs (.gen (ib o S1 (L.take j) (es.take j))::.gen (ib o S2 (L.drop (j+1)) (es.drop (j+1)))::ps):=At.Dl (fun m hm=>by
 obtain⟨R,hR⟩:=GW hl he hf m hm;have h0:Hp m0 m ps:=⟨hR.ext,fun p hp=>hR.ok p (TB _ hp),(Tp.1 hR.apart).2⟩;rw[hV m h0] at hR;exact⟨R,hR⟩) k
def Lf.sr{f:β->WB Vs}{a:Vq}{k cap w l:Nat}{xs:WB β}(hp:pk ps k=some (.rd a cap w l (xs.map f))):Lf m0 ps (rS f w) xs (a,cap) (fun b=>dx a=some b):=fun m hm=>by
 have e:=sM hm hp;subst e;exact Lf.s hp m hm
end
end Go.Ab.W
namespace Go.Ab
section
open Go
namespace W
end W
end
section
open Go
attribute [local irreducible] V7.get V7.set V7.alloc V7.ww V7.kill
def V7.fU(m:V7):WB V9->V7
 | []=>m
 | o::os=>(m.alloc o).fU os
def gE:∀(os:WB V9) (m:V7),(m.fU os).next=m.next+os.length
 | [],m=>rfl
 | o::os,m=>by rw[V7.fU,gE os,V7.next_alloc,Tz]; omega
def vc:∀(os:WB V9) (m:V7),(m.fU os).wl=m.wl
 | [],m=>rfl
 | o::os,m=>by rw[V7.fU,vc os,V7.wl_alloc]
def dt:∀(os:WB V9) (m:V7) {b:Nat},(b<m.next\/m.next+os.length<=b)->(m.fU os).get b=m.get b
 | [],m,b,_=>rfl
 | o::os,m,b,h=>by
  rw[Tz] at h;rw[V7.fU,dt os (m.alloc o) (by rw[V7.next_alloc]; omega),V7.bg,Vz]
def vE:∀(os:WB V9) (m:V7) (i:Nat),i<os.length->(m.fU os).get (m.next+i)=os[i]?
 | [],m,i,h=>by simp at h
 | o::os,m,0,h=>by rw[V7.fU,dt os (m.alloc o) (by rw[V7.next_alloc]; omega),V7.bg,TP,S7 rfl]; rfl
 | o::os,m,i+1,h=>by
  have:=vE os (m.alloc o) i (by simpa using h)
  rw[V7.next_alloc,show m.next+1+i=m.next+(i+1) by omega] at this
  rw[V7.fU,this]; rfl
inductive TV where
 | v (x:Vs)
 | s (i:Nat)
abbrev Fy:=WB (WB TV×Nat)
def Fy.n(T:Fy)(i:Nat):Nat:=match T[i]? with
 | some x=>x.1.length/x.2
 | none=>0
def TV.inst(T:Fy)(a:Nat->Nat):TV->Vs
 | .v x=>x
 | .s i=>.slice (some ⟨a i,0,none⟩) (T.n i) (T.n i)
def TV.ok(n:Nat):TV->Bool
 | .v x=>bw x
 | .s i=>Nat.blt i n
def Fy.ok(T:Fy):Prop:=∀x∈T,0<x.2/\x.1.length=x.1.length/x.2*x.2/\x.1.length/x.2<=9223372036854775807/\x.1.all (TV.ok T.length)=true
def Fy.bQ(T:Fy)(a:Nat->Nat):WB V9:=T.map fun x=>.cells (x.1.map (TV.inst T a)) (.more x.2)
def lf(k:Blk)(sz len:Nat):Blk:=match k.more with
 | none=>⟨k.c,some (sz,len,len)⟩
 | some _=>k
def ma(k:Blk)(sz len:Nat):(lf k sz len).c=k.c:=by unfold lf; split<;>rfl
def Ie{k:Blk}{sz n:Nat}{tag:Tag}(ht:tag=.own\/tag=.more sz)(hsz:0<sz)(hn:n<=9223372036854775807){c:WD Vs}{fz:Nat×Nat}(h:oJ k tag (n*sz) c fz):oJ (lf k sz (n*sz)) (.more sz) (n*sz) c fz:=by
 rcases ht with rfl|rfl
 obtain⟨t1,t2,rfl⟩:k.more=none/\c.size=n*sz/\fz=(0,0):=h;unfold lf;rw[t1];refine⟨by rw[t2],by rw[t2]; exact SX _,rfl,hsz,?_⟩
 unfold nL;rw[t2,Tj]; exact T6 _ hn
 have:k.more=some (sz,n*sz,c.size):=h.1;unfold lf;rw[this]; exact h
section
variable{E:Env}{j j1:aJ}{m m1:V7}{w w1:Vw}
def TV.move{T:Fy}(hT:T.ok){j1 j2:aJ}{a a2:Nat->Nat}{tg:Nat->Tag}{cf:Nat->WD Vs ×(Nat×Nat)}(hj:∀i x,T[i]? = some x->∃k,j1 (a i)=some k/\j2 (a2 i)=some (lf k x.2 x.1.length)/\(tg i=.own\/tg i=.more x.2)/\oJ k (tg i) x.1.length (cf i).1 (cf i).2){x:TV}(hx:x.ok T.length=true){v':Vs}(h:VR j1 (x.inst T a) v'):VR j2 (x.inst T a2) v':=by
 cases x with
 | v x =>
  exact VR.mn hx h
 | s i =>
  have hi:i<T.length:=S6 hx;have e:=SU hi;generalize T[i]=y at e;obtain⟨k,h1,h2,h3,h4⟩:=hj i y e;obtain⟨o1,o2,o3,o4⟩:=hT y (Ti e);have en:T.n i=y.1.length/y.2:=by unfold Fy.n; rw[e]
  have h:VR j1 (.slice (some ⟨a i,0,none⟩) (T.n i) (T.n i)) v':=h
  show VR j2 (.slice (some ⟨a2 i,0,none⟩) (T.n i) (T.n i)) v'
  rw[en] at h ⊢;cases h with
  | slice e' hm =>
   rw[h1] at e'; cases e';have z:VR j2 (.slice (some ⟨a2 i,0,none⟩) (y.1.length/y.2) (y.1.length/y.2)) (.slice (some ⟨(lf k y.2 y.1.length).c,0,none⟩) (y.1.length/y.2) (y.1.length/y.2)) :=
    .sliceM h2 (by unfold lf; rw[hm]) (by rw[TP]; exact o2.symm) (by rw[TP]; exact o2.symm) (SX _) (SX _)
   rwa[ma] at z
  | sliceM e' hm a1 a2 hl hc =>
   rw[h1] at e'; cases e';have:lf k y.2 y.1.length=k:=by unfold lf; rw[hm]
   rw[this] at h2;exact .sliceM h2 hm a1 a2 hl hc
end
namespace W
end W
end
section
open Go
attribute [local irreducible] Tm.at Trie.set Trie.get V7.get V7.set V7.alloc V7.ww V7.kill
section
variable{E:Env}{n:Nat}{ops:WD Oper}{K K':Tm->V7->Prop}{t:Tm}{m:V7}
def fa(E:Env)(n:Nat)(ops:WD Oper)(K:Tm->V7->Prop)(os:WB Oper)(t:Tm)(m:V7):Prop :=
 ∀(i:Nat) (F:Fence) (j0:aJ) (m0:V7) (w0:Vw) (ds:WB Deferred) (Q:Exit->Act->Vw->Prop) (j:aJ) (w:Vw) (a:Act),jN F->MR E j0 m0 w0->ops.toList.drop i=os->Sim E j0 m0 w0 j m w->TR n j t a.tmps->a.defers=ds ->
  (∀t' m' j' w' a',K t' m'->Sim E j0 m0 w0 j' m' w'->TR n j' t' a'.tmps->a'.defers=ds->Q .normal a' w')->wpOpsIn F 0 E.P ops Q (List.range' i (ops.size-i)) a w
def fa.nil(h:K t m):fa E n ops K [] t m:=fun i F j0 m0 w0 ds Q j w a hF h0 hd s ht hds hQ=>by
 have hlen:ops.size<=i:=by
  have:=Up List.length hd;simp at this; omega
 rw[show ops.size-i=0 by omega]
 exact hQ t m j w a h s ht hds
def mD{os:WB Oper}{o:Oper}{i:Nat}(hd:ops.toList.drop i=o::os):ops[i]? = some o/\ops.toList.drop (i+1)=os/\List.range' i (ops.size-i)=i::List.range' (i+1) (ops.size-(i+1)):=by
 have hlt:i<ops.size:=by
  have:=Up List.length hd;simp at this; omega
 refine⟨by have:=Up (·[0]?) hd; simpa [Um] using this,by rw[<-U0,hd]; rfl,?_⟩
 rw[show ops.size-i=(ops.size-(i+1))+1 by omega]; rfl
def fa.op(hE:EnvOk E){o:Oper}{os:WB Oper}(hw:aU ops o t=true)(h:jg E t m o.op fun v m'=>∃t',gb n t o.dst v=some t'/\fa E n ops K os t' m'):fa E n ops K (o::os) t m:=fun i F j0 m0 w0 ds Q j w a hF h0 hd s ht hds hQ=>by
 obtain⟨ho,hd',hidx⟩:=mD hd;obtain⟨v,m',⟨k,he⟩,t',hp,hk⟩:=h;rw[hidx];simp only[wpOpsIn,ho,jA ht];rw[S7 hw];refine vD (kH hE k) s.mr ht he hF ?_;rintro v' w' ⟨j',s',hv⟩;exact hk (i+1) F j0 m0 w0 ds Q j' w' _ hF h0 hd' (s.trans h0 s') ((ht.mono s'.le).put hv hp) (by cases hds':o.dst<;>simp[Act.put,hds]) hQ
def fa.not{o:Oper}{os:WB Oper}(hw:aU ops o t=false){t':Tm}(hp:gb n t o.dst undef=some t')(h:fa E n ops K os t' m):fa E n ops K (o::os) t m:=fun i F j0 m0 w0 ds Q j w a hF h0 hd s ht hds hQ=>by
 obtain⟨ho,hd',hidx⟩:=mD hd;rw[hidx];simp only[wpOpsIn,ho,jA ht];rw[S8 (by rw[hw]; exact Uv)]
 exact⟨fun f _=>hF.fn f,h (i+1) F j0 m0 w0 ds Q j w _ hF h0 hd' s (ht.put (VR.undef j) hp) (by cases hds':o.dst<;>simp[Act.put,hds]) hQ⟩
def fa.PG{o:Oper}{os:WB Oper}{c:Call}{fv:Vu}{g:WJ}{vs:WB Vs}{R:Vs->V7->Prop}(hw:aU ops o t=true)(hop:o.op=.call c)(hc:c.callee=.value fv)(hf:an E t fv=some (.func (.func g) #[] #[]))(ha:bE E t c.args.toList=some vs)(h:W.mJ E g vs m R)(hk:∀v m',R v m'->∃t',gb n t o.dst v=some t'/\fa E n ops K os t' m'):fa E n ops K (o::os) t m:=fun i F j0 m0 w0 ds Q j w a hF h0 hd s ht hds hQ=>by
 obtain⟨ho,hd',hidx⟩:=mD hd;rw[hidx];simp only[wpOpsIn,ho,jA ht];rw[S7 hw];have hfv:=aH s.mr ht hf;generalize hfe:a.eval fv=fv' at hfv;cases hfv with
 | func h1 h2 h3 h4 =>
  rename_i ys ds';have ey:ys=#[]:=UX h1.symm;have ed:ds'=#[]:=UX h3.symm;subst ey ed;have hl:LR j vs (c.args.toList.map a.eval):=eG s.mr ht ha;have hcs:=h j w _ s.mr hl;have harr:(c.args.toList.map a.eval).toArray=#[]++c.args.map a.eval++#[]:=by apply TY.1; simp
  rw[harr] at hcs;have hexec:execOp a.eval o=(do let d <-resolve a.eval c o.type; invoke d.target d.args):=by simp only[execOp,hop]
  have hrun:(execOp a.eval o).run E.P w=(callFunc g (#[]++c.args.map a.eval++#[])).run E.P w:=by
   rw[hexec];simp only[resolve,hc,hfe,Deferred.ofValue,WG,WH,WE,invoke]
  refine Does.wpIn hF (fun c' e=>by rw[hop] at e; cases e) (G:=fun v' w'=>∃v1 m1,R v1 m1/\fy E j m w v1 m1 v' w') ?_ ?_
  rcases hcs with⟨hr,hci⟩|⟨_,v',w',hr,hq⟩
  exact .inr (.inl ⟨_,_,hrun.trans hr,hci⟩)
  exact .inl ⟨v',w',.inl (hrun.trans hr),hq⟩
  rintro v' w' ⟨v1,m1,hR,j',s',hv⟩;obtain⟨t',hp,hk⟩:=hk v1 m1 hR;exact hk (i+1) F j0 m0 w0 ds Q j' w' _ hF h0 hd' (s.trans h0 s') ((ht.mono s'.le).put hv hp) (by cases hds':o.dst<;>simp[Act.put,hds]) hQ
def fa.pre(hE:EnvOk E){post:WB Oper}:∀{os:WB Oper} {t:Tm} {m:V7},iV E n ops (fun t m=>fa E n ops K post t m) os t m->fa E n ops K (os++post) t m
 | [],t,m,h=>h
 | o::os,t,m,h=>by
  simp only[iV] at h
  split at h
  rename_i hw;obtain⟨v,m1,h1,t1,hp,h2⟩:=h;exact fa.op hE hw ⟨v,m1,h1,t1,hp,fa.pre hE h2⟩
  rename_i hw;obtain⟨t1,hp,h2⟩:=h;exact fa.not (Bool.eq_false_iff.2 hw) hp (fa.pre hE h2)
def fa.of(hE:EnvOk E){os:WB Oper}(h:iV E n ops K os t m):fa E n ops K os t m:=by
 have:∀(os:WB Oper) (t:Tm) (m:V7),iV E n ops K os t m->iV E n ops (fun t m=>fa E n ops K [] t m) os t m:=by
  intro os
  induction os with
  | nil=>intro t m h; exact fa.nil h
  | cons o os ih =>
   intro t m h;simp only[iV] at h ⊢
   split at h
   rename_i hw;obtain⟨v,m1,h1,t1,hp,h2⟩:=h;rw[S7 hw];exact⟨v,m1,h1,t1,hp,ih _ _ h2⟩
   rename_i hw;obtain⟨t1,hp,h2⟩:=h;rw[S8 hw];exact⟨t1,hp,ih _ _ h2⟩
 have:=fa.pre hE (this os t m h);rwa[T8] at this
variable{fn:WJ}{ro:WA Nat}{Q:V8->Tm->V7->Prop}
def cM.region{id:Nat}(h:fa E n ops (Q .normal) ops.toList t m):cM E n fn ro (.region id ops false) Q t m:=fun j w a F N hm ht hro hd hN=>by
 refine wpIn_region ?_;have:=h 0 F j m w a.defers (fun e' a' w'=>∃e t' m',Q e t' m'/\kV E j m w N n e t' m' e' a' w') j w a hro.wide hm rfl (.refl hm) ht rfl fun t' m' j' w' a' hq s ht' hds=>⟨.normal,t',m',hq,rfl,j',s,ht',by rw[hds]; exact hd.FX hm s⟩
 rwa[U4,<-List.range_eq_range'] at this
def cM.cond{x:Vu}{c:Bool}{a b:Code}(hx:an E t x=some (.bool c))(ht:c=true->cM E n fn ro a Q t m)(hf:c=false->cM E n fn ro b Q t m):cM E n fn ro (.cond x a b) Q t m:=fun j w a' F N hm ht' hro hd hN=>by
 have hv:=aH hm ht' hx;generalize hfe:a'.eval x=v at hv;cases hv;cases c with
 | true=>exact wpIn_cond_true hfe (ht rfl j w a' F N hm ht' hro hd hN)
 | false=>exact wpIn_cond_false hfe (hf rfl j w a' F N hm ht' hro hd hN)
namespace W
section
variable{m0:V7}{fs:Fs}{ps:WB Pc}{os:WB Oper}{a b:Code}
def Vn(E:Env)(n:Nat)(ops:WD Oper)(K:Tm->V7->Prop)(os:WB Oper)(m0:V7)(fs:Fs)(ps:WB Pc):Prop:=∀t m,Fr t fs->Hp m0 m ps->fa E n ops K os t m
def Vn.of(hE:EnvOk E)(h:Wo false E n ops K os m0 fs ps):Vn E n ops K os m0 fs ps:=fun t m hf hm=>.of hE (jP (h t m hf hm))
def Vn.pre(hE:EnvOk E){post:WB Oper}(h:Wo false E n ops (fun t m=>fa E n ops K post t m) os m0 fs ps):Vn E n ops K (os++post) m0 fs ps:=fun t m hf hm=>.pre hE (jP (h t m hf hm))
def Wo.Rk{dr:Bool}{K:Tm->V7->Prop}{post:WB Oper}(h:Vn E n ops K post m0 fs ps):Wo false E n ops (fun t m=>fa E n ops K post t m) [] m0 fs ps:=fun t m hf hm=>h t m hf hm
def Vk.region{id:Nat}(h:Vn E n ops (Q .normal) ops.toList m0 fs ps):Vk E n fn ro (.region id ops false) Q m0 fs ps:=fun t m hf hm=>.region (h t m hf hm)
def Vk.Fo(h:Vk E n fn ro a (lS (cM E n fn ro b Q) Q) m0 fs ps):Vk E n fn ro (.seq a b) Q m0 fs ps:=fun t m hf hm=>.Fo (h t m hf hm)
end
end W
end
end
end Go.Ab
namespace Go.Ab.W
open Go Go.Ab
attribute [local irreducible] Tm.at Trie.set Trie.get V7.get V7.set V7.alloc V7.ww V7.kill
abbrev RV:=Int×Int×Int×Int×Int×Int×Int×Int×Int×Int×Int×Int
def Pk:RV->WB Int
 |(a,b,c,d,e,f,g,h,i,j,k,l)=>[a,b,c,d,e,f,g,h,i,j,k,l]
def Lo{p q:RV}(h:Pk p=Pk q):p=q:=by
 obtain⟨a,b,c,d,e,f,g,i,j,k,l,m⟩:=p;obtain⟨a',b',c',d',e',f',g',i',j',k',l',m'⟩:=q;simp only[Pk,List.cons.injEq,and_true] at h;obtain⟨h1,h2,h3,h4,h5,h6,h7,h8,h9,h10,h11,h12⟩:=h;subst h1 h2 h3 h4 h5 h6 h7 h8 h9 h10 h11 h12; rfl
instance:DecidableEq RV:=fun p q=>decidable_of_iff (Pk p=Pk q) ⟨Lo,Up Pk⟩
variable{E:Env}{m0:V7}{fs:Fs}{ps:WB Pc}{ty:Vt}
end Go.Ab.W
namespace Go.Ab
open Go
open Go.ChangeMaps (setBlock)
section
variable{E:Env}{n:Nat}{fn:WJ}{ro:WA Nat}
def cM.ED(hE:EnvOk E)(hmono:¬E.mono){B B' i1 i2 i3:Nat}{o1 o2 oN oX oE:Oper}{rest:WB Oper}{ops3:WD Oper}{X:Code}{d1 d2 e1 e2 f1:Tmp}{mt kt et:Vt}
  (h1:o1.dst=some d1/\o1.guard=none) (h2:o2.op=.range mt (.tmp d1)/\o2.dst=some d2/\o2.guard=none) (hmt:E.P.underlying mt=some (.map kt et))
  (hN:oN.op=.next (.tmp d2) false/\oN.dst=some e1/\oN.guard=none) (hX:oX.op=.extract (.tmp e1) 0/\oX.dst=some e2/\oX.guard=none) (hOE:oE.op=.entry (.tmp d2)/\oE.dst=some f1/\oE.guard=none) (h3:ops3.toList=oE::rest)
  (hb:d1<n/\d2<n/\e1<n/\e2<n/\f1<n) (h7:e1≠d2) (h8:e2≠d2) (h9:f1≠d2)
  {Q:V8->Tm->V7->Prop} {t:Tm} {m:V7} {bm:Nat} {es:WB (Vs×Vs)} (hld:cH E t m o1.op=some (.map (some bm),m)) (hbm:m.get bm=some (.map es)) {lim:Nat} (hbl:bm<lim) (hlim:lim<=m.next)
  (Inv:WB Nat->Tm->V7->Prop) (hExt:∀S t' m',Inv S t' m'->m'.get bm=some (.map es)/\lim<=m'.wl/\t'.at d2=ptr m.next 0)
  (hinit:Inv [] ((t.set d1 (.map (some bm))).set d2 (ptr m.next 0)) (mK m))
  (hstep:∀S i e t m,S.Nodup->(∀i∈S,i<es.length)->i∉S->es[i]? = some e->Inv S t m->iV E n ops3 (fun t' m'=>bu E n fn ro X (fun e' t'' m''=>e'=.normal/\Inv (S++[i]) t'' m'') t' m') rest (((t.set e1 (.tuple #[.bool true,e.1,e.2])).set e2 (.bool true)).set f1 (.tuple #[e.1,e.2])) m)
  (hend:∀S t' m',S.Perm (List.range es.length)->Inv S t' m'->Q .normal ((t'.set e1 (.tuple #[.bool false])).set e2 (.bool false)) (m'.ww (min m.wl m'.wl))) :
  cM E n fn ro (.seq (.region i1 #[o1,o2] false) (.block B (.loop (.seq (.region i2 #[oN,oX] false) (.seq (.cond (.tmp e2) .skip (.exit B)) (.block B' (.seq (.region i3 ops3 false) X))))))) Q t m:=fun j w a F N hm ht hro hmk hNw=>by
 refine wpIn_seq (wpIn_region ?_);have hlist:List.range (#[o1,o2]:WD Oper).size=[0,1]:=rfl;rw[hlist];have w0':Region.wanted o1 (yielded #[o1,o2] a.tmps)=true:=by simp[Region.wanted,h1.2]
 have g0:(#[o1,o2]:WD Oper)[0]? = some o1:=rfl;have g1:(#[o1,o2]:WD Oper)[1]? = some o2:=rfl;simp only[wpOpsIn,g0,g1,w0',if_true];obtain⟨j1,w1,v0,q0,s1,q1⟩:=Iq hm ht (o:=o1) hld;refine cL hro.wide (lN hld) q0 ?_;cases q1 with
 | map hj =>
 rename_i kb;obtain⟨oo,hh,hor⟩:=s1.mr.obj bm _ kb hbm hj;cases oo with
 | map ents clock =>
  have h0:=(ht.mono s1.le).put (t':=t.set d1 (.map (some bm))) (dst:=o1.dst) (VR.map hj) (by rw[h1.1,cD,S7 hb.1])
  rw[h1.1] at h0 ⊢;have w1':Region.wanted o2 (yielded #[o1,o2] (a.put (some d1) (.map (some kb.c))).tmps)=true:=by simp[Region.wanted,h2.2.2]
  rw[S7 w1'];have hsz:a.tmps.size=n:=ht.1;have h10:execOp (a.put (some d1) (.map (some kb.c))).eval o2=(do pure (.value (<-Instr.range mt (.map (some kb.c))))):=by
   simp only[execOp,h2.1];rw[eval_put (v:=.map (some kb.c)) (d:=d1) (a:=a) (hsz.symm▸hb.1)]
  have hd2':∀c,o2.op≠.defer c:=fun c e=>by rw[h2.1] at e; cases e
  refine cL hro.wide hd2' (by rw[h10]; exact jY.value (run_range_map w1 mt kt et kb.c ents clock hmt hh)) ?_
  have s2:=IL s1.mr (.mapIter (some kb.c) clock #[] clock);have h5:(j1.set m.next ⟨w1.heap.size,none⟩) m.next=some ⟨w1.heap.size,none⟩:=aJ.cc _ _ _
  have h6:=(h0.mono s2.le).put (t':=(t.set d1 (.map (some bm))).set d2 (ptr m.next 0)) (dst:=o2.dst) (v:=ptr m.next 0) (v':=.pointer (some ⟨w1.heap.size,0,none⟩)) (VR.ptr h5) (by rw[h2.2.1,cD,S7 hb.2.1])
  rw[h2.2.1] at h6 ⊢;have m3:Marks N (w1.alloc (.mapIter (some kb.c) clock #[] clock)) a.defers:=(hmk.FX hm s1).FX (s1.mr.PT (m.next+1)) s2
  have hsize:w1.heap.size<(w1.alloc (.mapIter (some kb.c) clock #[] clock)).heap.size:=by rw[World.size_alloc]; omega
  have hcl:kb.c<w1.heap.size:=(Te.1 hh).1;have hit:QK (w1.alloc (.mapIter (some kb.c) clock #[] clock)) w1.heap.size kb.c ents clock [] (leftOf ents #[]).size :=
   ⟨clock,#[],clock,by show(w1.heap.push _)[w1.heap.size]? = _; simp,by show(w1.heap.push _)[kb.c]? = _; rw[U3,Vz]; exact hh,hor.2.1,SX _,SX _,fun i x hx=>by simp,rfl⟩
  refine wpIn_block (lW ?_);have hL:=IP (fn:=fn) (B:=B) (B':=B') (i2:=i2) (i3:=i3) (X:=X) hE hmono hN hX hOE h3 hb.2.2.1 hb.2.2.2.1 hb.2.2.2.2 h7 h8 h9 (s1.mr.PT (m.next+1)) (bm:=bm) (bi:=m.next) (es:=es) (lim:=lim) (by rw[V7.get_ww]; exact hbm) hbl Inv hExt hstep (SX _) (kb:=kb) (ents:=ents) (clock:=clock) hor.2 a.defers N _ [] _ _ (mK m) _ _ (((a.put (some d1) (.map (some kb.c))).put (some d2) (.pointer (some ⟨w1.heap.size,0,none⟩)))) F (Uj _) List.nodup_nil (fun i h=>by cases h) hinit s2 h6 ((hro.mono s1.le).mono s2.le) m3 (by have:=s1.size; omega) h5 (s2.le _ _ hj) (hor.1.mono s2.le) hit
  intro bF k cs h11 h12 h13;obtain⟨e',a',w',⟨S,t',m',hS,hI,hq⟩,harr⟩:=hL bF k cs h11 h12 h13;obtain⟨rfl,jf,sf,tf,mf⟩:=hq;refine⟨_,a',w',?_,harr⟩
  show Exit.inBlock B _ (.exit B) a' w'
  simp only[Exit.inBlock,if_true];exact⟨.normal,_,_,hend S t' m' hS hI,rfl,jf,s1.trans hm (N7 sf),tf,mf⟩
 | _=>exact hor.elim
end
def cM.block{E:Env}{n:Nat}{fn:WJ}{ro:WA Nat}{Q:V8->Tm->V7->Prop}{t:Tm}{m:V7}{id:Nat}{c:Code}(h:cM E n fn ro c (dV id Q) t m):cM E n fn ro (.block id c) Q t m:=fun j w a F N hm ht hro hd hN=>by
 refine wpIn_block (wpIn_mono (h j w a F N hm ht hro hd hN) ?_);rintro e' a' w' ⟨e,t',m',q,hc⟩;obtain⟨rfl,hc⟩:=hc;cases e with
 | normal=>exact⟨.normal,t',m',q,rfl,hc⟩
 | ret=>exact⟨.ret,t',m',q,rfl,hc⟩
 | exit k =>
  simp only[dV] at q
  show Exit.inBlock id _ (.exit k) a' w'
  simp only[Exit.inBlock]
  split at q
  rename_i e; rw[S7 e]; exact⟨.normal,t',m',q,rfl,hc⟩
  rename_i e; rw[S8 e]; exact⟨.exit k,t',m',q,rfl,hc⟩
structure FunN where
 run:WB Vs->V7->(Vs->V7->Bool)->Bool
def Pd(E:Env)(ND:WJ->WA FunN):Prop:=∀{g:WJ} {S:FunN},ND g=some S->∀{args:WB Vs} {m:V7} {K:Vs->V7->Bool},S.run args m K=true->W.mJ E g args m fun v m'=>K v m'=true
def qU(ND:WJ->WA FunN)(o:Op):WA (FunN×WB Vu) :=
 match o with
 | .call c=>match c.callee with
  | .value (.func g)=>match ND g with
   | some S=>some (S,c.args.toList)
   | none=>none
  | _=>none
 | _=>none
def xT{ND:WJ->WA FunN}{o:Op}{S:FunN}{ars:WB Vu}(h:qU ND o=some (S,ars)):∃c g,o=.call c/\c.callee=.value (.func g)/\ND g=some S/\c.args.toList=ars:=by
 unfold qU at h
 split at h
 rename_i c
 split at h
 rename_i g hc
 split at h
 rename_i S' hS;cases h;exact⟨c,g,rfl,hc,hS,rfl⟩
 cases h
 cases h
 cases h
noncomputable def BE (E:Env) (n:Nat) (ops:WD Oper) (ND:WJ->WA FunN):WB Oper->RegSem
 | []=>⟨fun _ t m K=>K t m⟩
 | o::os=>match o.guard with
  | none=>match qU ND o.op with
   | some (S,ars)=>⟨fun H t m K=>(va E ars).run t fun args=>S.run args m fun v m=>(kJ n o.dst).run t v fun t=>(BE E n ops ND os).run H t m K⟩
   | none=>⟨fun H t m K=>(mQ E o.op).run H t m fun v m=>(kJ n o.dst).run t v fun t=>(BE E n ops ND os).run H t m K⟩
  | some _=>⟨fun H t m K=>(nj ops o).run t ((mQ E o.op).run H t m fun v m=>(kJ n o.dst).run t v fun t=>(BE E n ops ND os).run H t m K) ((kJ n o.dst).run t undef fun t=>(BE E n ops ND os).run H t m K)⟩
def oR{E:Env}(hE:EnvOk E){H:Hand}(hH:B1 E H){ND:WJ->WA FunN}(hN:Pd E ND){n:Nat}{ops:WD Oper}{K:Tm->V7->Bool}:∀{os:WB Oper} {t:Tm} {m:V7},(BE E n ops ND os).run H t m K=true->fa E n ops (fun t m=>K t m=true) os t m
 | [],t,m,h=>.nil h
 | o::os,t,m,h=>by
  unfold BE at h
  split at h
  rename_i hg;have hw:aU ops o t=true:=by simp only[aU,hg]
  split at h
  rename_i S ars hc;obtain⟨c,g,h1,h2,h3,rfl⟩:=xT hc;obtain⟨args,h4,h5⟩:=lA h;refine .PG hw h1 h2 rfl h4 (hN h3 h5) fun v m' hv=>?_;obtain⟨t',hp,h⟩:=fb hv;exact⟨t',hp,oR hE hH hN h⟩
  refine .op hE hw ((jK hH h).mono fun v m' h=>?_);obtain⟨t',hp,h⟩:=fb h;exact⟨t',hp,oR hE hH hN h⟩
  rcases jO h with⟨hw,h⟩|⟨hw,h⟩
  refine .op hE hw ((jK hH h).mono fun v m' h=>?_);obtain⟨t',hp,h⟩:=fb h;exact⟨t',hp,oR hE hH hN h⟩
  obtain⟨t',hp,h⟩:=fb h;exact .not hw hp (oR hE hH hN h)
structure RangeD where
 i1:Nat
 o1:Oper
 o2:Oper
 B:Nat
 i2:Nat
 oN:Oper
 oX:Oper
 B':Nat
 i3:Nat
 oE:Oper
 rest:WB Oper
 ops3:WD Oper
 X:Code
 d1:Tmp
 d2:Tmp
 e1:Tmp
 e2:Tmp
 f1:Tmp
 mt:Vt
 kt:Vt
 et:Vt
def RangeD.code(d:RangeD):Code:=.seq (.region d.i1 #[d.o1,d.o2] false) (.block d.B (.loop (.seq (.region d.i2 #[d.oN,d.oX] false) (.seq (.cond (.tmp d.e2) .skip (.exit d.B)) (.block d.B' (.seq (.region d.i3 d.ops3 false) d.X))))))
structure RangeD.Ok(E:Env)(n:Nat)(d:RangeD):Prop where
 h1:d.o1.dst=some d.d1/\d.o1.guard=none
 h2:d.o2.op=.range d.mt (.tmp d.d1)/\d.o2.dst=some d.d2/\d.o2.guard=none
 hmt:E.P.underlying d.mt=some (.map d.kt d.et)
 hN:d.oN.op=.next (.tmp d.d2) false/\d.oN.dst=some d.e1/\d.oN.guard=none
 hX:d.oX.op=.extract (.tmp d.e1) 0/\d.oX.dst=some d.e2/\d.oX.guard=none
 hOE:d.oE.op=.entry (.tmp d.d2)/\d.oE.dst=some d.f1/\d.oE.guard=none
 h3:d.ops3.toList=d.oE::d.rest
 hb:d.d1<n/\d.d2<n/\d.e1<n/\d.e2<n/\d.f1<n
 hd:d.e1≠d.d2/\d.e2≠d.d2/\d.f1≠d.d2
def IE(o:Oper):WA (Vt×Tmp×Tmp) :=
 match o.guard,o.dst,o.op with
 | none,some d,.range mt (.tmp x)=>some (mt,x,d)
 | _,_,_=>none
def BS{o:Oper}{mt:Vt}{x d:Tmp}(h:IE o=some (mt,x,d)):o.op=.range mt (.tmp x)/\o.dst=some d/\o.guard=none:=by
 unfold IE at h
 split at h
 rename_i a b c; cases h; exact⟨c,b,a⟩
 cases h
def B6(o:Oper):WA (Tmp×Tmp) :=
 match o.guard,o.dst,o.op with
 | none,some d,.next (.tmp x) false=>some (x,d)
 | _,_,_=>none
def yx{o:Oper}{x d:Tmp}(h:B6 o=some (x,d)):o.op=.next (.tmp x) false/\o.dst=some d/\o.guard=none:=by
 unfold B6 at h
 split at h
 rename_i a b c; cases h; exact⟨c,b,a⟩
 cases h
def Cd(o:Oper):WA (Tmp×Tmp) :=
 match o.guard,o.dst,o.op with
 | none,some d,.extract (.tmp x) 0=>some (x,d)
 | _,_,_=>none
def zC{o:Oper}{x d:Tmp}(h:Cd o=some (x,d)):o.op=.extract (.tmp x) 0/\o.dst=some d/\o.guard=none:=by
 unfold Cd at h
 split at h
 rename_i a b c; cases h; exact⟨c,b,a⟩
 cases h
def Iy(o:Oper):WA (Tmp×Tmp) :=
 match o.guard,o.dst,o.op with
 | none,some d,.entry (.tmp x)=>some (x,d)
 | _,_,_=>none
def BF{o:Oper}{x d:Tmp}(h:Iy o=some (x,d)):o.op=.entry (.tmp x)/\o.dst=some d/\o.guard=none:=by
 unfold Iy at h
 split at h
 rename_i a b c; cases h; exact⟨c,b,a⟩
 cases h
def F4(o:Oper):WA Tmp :=
 match o.guard,o.dst with
 | none,some d=>some d
 | _,_=>none
def Bn{o:Oper}{d:Tmp}(h:F4 o=some d):o.dst=some d/\o.guard=none:=by
 unfold F4 at h
 split at h
 rename_i a b; cases h; exact⟨b,a⟩
 cases h
def nk(E:Env)(n:Nat)(i1:Nat)(a1:WD Oper)(B i2:Nat)(a2:WD Oper)(e2 B2 B' i3:Nat)(a3:WD Oper)(X:Code):WA RangeD :=
 match a1.toList,a2.toList,a3.toList with
 | [o1,o2],[oN,oX],oE::rest =>
  match F4 o1,IE o2,B6 oN,Cd oX,Iy oE with
  | some d1,some (mt,d1',d2),some (d2',e1),some (e1',e2'),some (d2'',f1) =>
   match E.P.underlying mt with
   | some (.map kt et)=>if B2=B/\d1'=d1/\d2'=d2/\e1'=e1/\e2'=e2/\d2''=d2/\(d1<n/\d2<n/\e1<n/\e2<n/\f1<n)/\(e1≠d2/\e2≠d2/\f1≠d2) then some ⟨i1,o1,o2,B,i2,oN,oX,B',i3,oE,rest,a3,X,d1,d2,e1,e2,f1,mt,kt,et⟩ else none
   | _=>none
  | _,_,_,_,_=>none
 | _,_,_=>none
def qF{E:Env}{n i1 B i2 e2 B2 B' i3:Nat}{a1 a2 a3:WD Oper}{X:Code}{d:RangeD}(h:nk E n i1 a1 B i2 a2 e2 B2 B' i3 a3 X=some d) :
  .seq (.region i1 a1 false) (.block B (.loop (.seq (.region i2 a2 false) (.seq (.cond (.tmp e2) .skip (.exit B2)) (.block B' (.seq (.region i3 a3 false) X))))))=d.code/\d.Ok E n:=by
 unfold nk at h
 split at h
 rename_i o1 o2 oN oX oE rest q1 q2 q3
 split at h
 rename_i d1 mt d1' d2 d2' e1 e1' e2' d2'' f1 r1 r2 r3 r4 r5
 split at h
 rename_i kt et hu
 split at h
 rename_i hc;obtain⟨rfl,rfl,rfl,rfl,rfl,rfl,hb,hd⟩:=hc;cases h;refine⟨?_,Bn r1,BS r2,hu,yx r3,zC r4,BF r5,q3,hb,hd⟩;have e1:a1=#[o1,o2]:=TY.1 q1;have e2:a2=#[oN,oX]:=TY.1 q2;rw[e1,e2]; rfl
 cases h
 cases h
 cases h
 cases h
def yn(E:Env)(n:Nat):Code->WA RangeD
 | .seq (.region i1 a1 false) (.block B (.loop (.seq (.region i2 a2 false) (.seq (.cond (.tmp e2) .skip (.exit B2)) (.block B' (.seq (.region i3 a3 false) X))))))=>nk E n i1 a1 B i2 a2 e2 B2 B' i3 a3 X
 | _=>none
def xx{E:Env}{n:Nat}{c:Code}{d:RangeD}(h:yn E n c=some d):c=d.code/\d.Ok E n:=by
 unfold yn at h
 split at h
 exact qF h
 cases h
structure SrcSem where
 run:Tm->V7->(Vs->Bool)->Bool
noncomputable def MF (E:Env) (o:Op):SrcSem :=
 match o with
 | .move x=>⟨fun t _ K=>(cU E x).run t K⟩
 | .load ty a=>⟨fun t m K=>(cU E a).run t fun p=>(zW E.P ty).run p m K⟩
 | _=>⟨fun _ _ _=>false⟩
def LW{E:Env}{o:Op}{t:Tm}{m:V7}{K:Vs->Bool}(h:(MF E o).run t m K=true):∃v,cH E t m o=some (v,m)/\K v=true:=by
 unfold MF at h
 split at h
 obtain⟨v,h1,h2⟩:=aS h;exact⟨v,by simp only[cH,h1,SZ],h2⟩
 obtain⟨p,h1,h2⟩:=aS h;obtain⟨v,h3,h4⟩:=tS h2;exact⟨v,by simp only[cH,h1,h3,SZ],h4⟩
 cases h
def vm:Vs->Vs->Bool
 | .agg a,.agg b=>qu a.toList b.toList
 | .tuple a,.tuple b=>qu a.toList b.toList
 | .string a,.string b=>decide (a=b)
 | v,u=>vL v u
def oB:∀{v u:Vs},vm v u=true->v=u:=by
 intro v u h;unfold vm at h
 split at h
 rw[TY.1 (jE h)]
 rw[TY.1 (jE h)]
 rw[of_decide_eq_true h]
 exact oh h
def ru:WB Vs->WB Vs->Bool
 | [],[]=>true
 | v::vs,u::us=>vm v u&&ru vs us
 | _,_=>false
def py:∀{v u:WB Vs},ru v u=true->v=u
 | [],[],_=>rfl
 | v::vs,u::us,h=>by
  simp only[ru,SW] at h;rw[oB h.1,py h.2]
 | [],_::_,h=>by cases h
 | _::_,[],h=>by cases h
def Dy:WB (Vs×Vs)->WB (Vs×Vs)->Bool
 | [],[]=>true
 | v::vs,u::us=>vm v.1 u.1&&vm v.2 u.2&&Dy vs us
 | _,_=>false
def Am:∀{v u:WB (Vs×Vs)},Dy v u=true->v=u
 | [],[],_=>rfl
 |(a,b)::vs,(c,d)::us,h=>by
  simp only[Dy,SW] at h;rw[show a=c from oB h.1.1,show b=d from oB h.1.2,Am h.2]
 | [],_::_,h=>by cases h
 | _::_,[],h=>by cases h
def xu(o:WA V9)(es:WB (Vs×Vs)):Bool :=
 match o with
 | some (.map es')=>Dy es' es
 | _=>false
def yX{o:WA V9}{es:WB (Vs×Vs)}(h:xu o es=true):o=some (.map es):=by
 unfold xu at h
 split at h
 rw[Am h]
 cases h
noncomputable def LI (es:WB (Vs×Vs)) (i:Nat) (k:Vs->Vs->Bool):Bool:=Option.rec (motive:=fun _=>Bool) false (fun e=>Prod.rec (motive:=fun _=>Bool) (fun a b=>k a b) e) es[i]?
def Fk{es:WB (Vs×Vs)}{i:Nat}{k:Vs->Vs->Bool}{e:Vs×Vs}(he:es[i]? = some e)(h:LI es i k=true):k e.1 e.2=true:=by
 unfold LI at h;rw[he] at h;exact h
noncomputable def KL (l:WB Nat) (k:Nat->Bool):Bool:=List.rec (motive:=fun _=>Bool) true (fun i _ ih=>dD (k i) ih false) l
def vg{k:Nat->Bool}:∀{l:WB Nat},KL l k=true->∀i∈l,k i=true
 | [],_,i,hi=>by cases hi
 | a::l,h,i,hi=>by
  have h':dD (k a) (KL l k) false=true:=h;obtain⟨h1,h2⟩:=aV h';rcases Tt.1 hi with rfl|hi
  exact h1
  exact vg h2 i hi
noncomputable def OV (l:WB Nat) (a b:Bool):Bool:=List.rec (motive:=fun _=>Bool) a (fun _ _ _=>b) l
noncomputable def goN (E:Env) (n:Nat) (fn:WJ) (d:RangeD) (H:Hand) (bm bi lim wl:Nat) (es:WB (Vs×Vs)) (K:Tm->V7->Bool):Nat->WB Nat->Tm->V7->Bool
 | 0,_,_,_=>false
 | k+1,idx,t,m=>OV idx ((gT d.e1).run t (.tuple #[.bool false]) fun t=>(gT d.e2).run t (.bool false) fun t=>fM (m.ww (min wl m.wl)) fun m=>K t m)
  (KL idx fun i=>LI es i fun ke ve=>(gT d.e1).run t (.tuple #[.bool true,ke,ve]) fun t=>(gT d.e2).run t (.bool true) fun t=>(gT d.f1).run t (.tuple #[ke,ve]) fun t =>
   (Av E n d.ops3 d.rest).run H t m fun t m=>(iA E n fn d.X).run H none t m fun e t m=>fi e (dD (xu (m.get bm) es) (dD (Nat.ble lim m.wl) ((Hj d.d2).run t fun v=>dD (pG v (ptr bi 0)) (goN E n fn d H bm bi lim wl es K k (idx.filter fun j=>!Nat.beq j i) t m) false) false) false) (fun _=>false) false)
structure RngSem where
 run:Hand->Tm->V7->(Tm->V7->Bool)->Bool
noncomputable def A0 (E:Env) (n:Nat) (fn:WJ) (d:RangeD):RngSem :=
 match Nat.ble n 512 with
 | true=>⟨fun H t m K=>(MF E d.o1.op).run t m fun v=>He v fun r=>Option.rec (motive:=fun _=>Bool) false (fun bm=>dD (Nat.blt bm m.next) (Fz m bm fun es =>
   fM (mK m) fun m2=>(gT d.d1).run t (.map (some bm)) fun t=>(gT d.d2).run t (ptr m.next 0) fun t=>fN es.length fun N=>goN E n fn d H bm m.next (Nat.succ bm) m.wl es K (Nat.succ N) (List.range N) t m2) false) r⟩
 | false=>⟨fun _ _ _ _=>false⟩
def zE(N:Nat)(S:WB Nat)(i:Nat):(List.range N).filter (fun j=>!(S++[i]).contains j)=((List.range N).filter fun j=>!S.contains j).filter fun j=>!Nat.beq j i:=by
 rw[List.filter_filter];refine Up (fun p=>(List.range N).filter p) (funext fun j=>?_);rw[Vg];simp only[T1,SW,List.contains_eq_mem,T7,TG,decide_eq_false_iff_not,not_or];have:(Nat.beq j i=false)↔¬j=i:=by
  rw[<-Bool.not_eq_true];exact not_congr ⟨S0,fun e=>by rw[e]; exact Nat.beq_refl i⟩
 rw[this];exact And.comm
def FO {E:Env} (hE:EnvOk E) (hmono:¬E.mono) {H:Hand} (hH:B1 E H) {n:Nat} {fn:WJ} {d:RangeD} (hd:d.Ok E n) {t:Tm} {m:V7} {K:Tm->V7->Bool} (h:(A0 E n fn d).run H t m K=true):cM E n fn none d.code (fun e t m=>e = .normal/\K t m=true) t m:=by
 unfold A0 at h
 split at h
 ·rename_i hn;have hn:=S6 hn;obtain⟨v,h1,h⟩:=LW h;obtain⟨r,rfl,h⟩:=mz h;cases r with
  | none=>cases h
  | some bm =>
   obtain⟨hbm,h⟩:=aV h;obtain⟨es,h2,h⟩:=mC h;obtain⟨b1,b2,b3,b4,b5⟩:=hd.hb;have c1:d.d1<512:=SY b1 hn;have c2:d.d2<512:=SY b2 hn;have c3:d.e1<512:=SY b3 hn;have c4:d.e2<512:=SY b4 hn;have c5:d.f1<512:=SY b5 hn;rw[yr,fQ _ c1,fQ _ c2,cW] at h;have hbl:bm<m.next:=S6 hbm
   refine cM.ED hE hmono hd.h1 hd.h2 hd.hmt hd.hN hd.hX hd.hOE hd.h3 hd.hb hd.hd.1 hd.hd.2.1 hd.hd.2.2 h1 h2 (lim:=bm+1) (Uj _) hbl
    (fun S t' m'=>∃k,goN E n fn d H bm m.next (Nat.succ bm) m.wl es K k ((List.range es.length).filter fun j=>!S.contains j) t' m'=true/\m'.get bm=some (.map es)/\bm+1<=m'.wl/\t'.at d.d2=ptr m.next 0)
    (fun S t' m' hI=>by obtain⟨_,_,hI⟩:=hI; exact hI) ⟨es.length+1,?_,?_,?_,?_⟩ ?_ ?_
   have:(List.range es.length).filter (fun j=>!([]:WB Nat).contains j)=List.range es.length:=List.filter_eq_self.2 fun a _=>by simp
   rw[this]; exact h
   rw[iM,Vz]; exact h2
   rw[CG]; omega
   rw[at_set,S7 rfl]
   ·intro S i e t1 m1 x1 x2 x3 x4 hI;obtain⟨k,g1,g2,g3,g4⟩:=hI;cases k with
    | zero=>cases g1
    | succ k =>
     have hi:i<es.length:=(Tc.1 x4).1;have hmem:i ∈(List.range es.length).filter fun j=>!S.contains j:=List.mem_filter.2 ⟨UK.2 hi,by simp[x3]⟩
     have g1':(KL ((List.range es.length).filter fun j=>!S.contains j) fun i=>LI es i fun ke ve=>(gT d.e1).run t1 (.tuple #[.bool true,ke,ve]) fun t=>(gT d.e2).run t (.bool true) fun t=>(gT d.f1).run t (.tuple #[ke,ve]) fun t =>
   (Av E n d.ops3 d.rest).run H t m1 fun t m'=>(iA E n fn d.X).run H none t m' fun e t m'=>fi e (dD (xu (m'.get bm) es) (dD (Nat.ble (Nat.succ bm) m'.wl) ((Hj d.d2).run t fun v=>dD (pG v (ptr m.next 0)) (goN E n fn d H bm m.next (Nat.succ bm) m.wl es K k (((List.range es.length).filter fun j=>!S.contains j).filter fun j=>!Nat.beq j i) t m') false) false) false) (fun _=>false) false)=true:=by
         unfold goN at g1;cases hl:(List.range es.length).filter fun j=>!S.contains j with
         | nil=>rw[hl] at hmem; cases hmem
         | cons a l=>rw[hl] at g1; exact g1
     have g5:=Fk x4 (vg g1' i hmem);rw[fQ _ c3,fQ _ c4,fQ _ c5] at g5;have g6:=pg hH g5;have mono:∀{os:WB Oper} {t:Tm} {m:V7} {K K':Tm->V7->Prop},(∀t m,K t m->K' t m)->iV E n d.ops3 K os t m->iV E n d.ops3 K' os t m:=by
      intro os
      induction os with
      | nil=>intro t m K K' hk h; exact hk _ _ h
      | cons o os ih =>
       intro t m K K' hk h;simp only[iV] at h ⊢
       split at h
       rename_i hw;obtain⟨v,m1,a1,t1,hp,a2⟩:=h;rw[S7 hw];exact⟨v,m1,a1,t1,hp,ih hk a2⟩
       rename_i hw;obtain⟨t1,hp,a2⟩:=h;rw[S8 hw];exact⟨t1,hp,ih hk a2⟩
     refine mono (fun t2 m2 h2=>?_) g6;refine(lL hH d.X h2).mono fun e t3 m3 h3=>?_;rcases cJ h3 with⟨rfl,h3⟩|⟨id,rfl,h3⟩|⟨rfl,h3⟩
     obtain⟨y1,h3⟩:=aV h3;obtain⟨y2,h3⟩:=aV h3;rw[xz _ c2] at h3;obtain⟨y3,h3⟩:=aV h3;refine⟨rfl,k,?_,yX y1,S6 y2,pE y3⟩;rw[zE]; exact h3
     cases h3
     cases h3
   ·intro S t1 m1 hS hI;obtain⟨k,g1,_⟩:=hI;have hnil:(List.range es.length).filter (fun j=>!S.contains j)=[]:=List.filter_eq_nil_iff.2 fun a ha=>by
     have:=hS.mem_iff.2 ha;simp[this]
    rw[hnil] at g1;cases k with
    | zero=>cases g1
    | succ k =>
     have g1':((gT d.e1).run t1 (.tuple #[.bool false]) fun t=>(gT d.e2).run t (.bool false) fun t=>fM (m1.ww (min m.wl m1.wl)) fun m=>K t m)=true:=g1;rw[fQ _ c3,fQ _ c4,yr] at g1';exact⟨rfl,g1'⟩
 cases h
def RA(ND:WJ->WA FunN)(l:WB Oper):Bool:=l.any fun o=>(qU ND o.op).isSome
structure SemN where
 run:Hand->Tm->V7->(V8->Tm->V7->Bool)->Bool
noncomputable def jC (E:Env) (n:Nat) (fn:WJ) (ND:WJ->WA FunN):Code->SemN
 | .seq a b=>match yn E n a with
  | some d=>⟨fun H t m K=>(A0 E n fn d).run H t m fun t m=>(jC E n fn ND b).run H t m K⟩
  | none=>⟨fun H t m K=>(jC E n fn ND a).run H t m fun e t m=>fi e ((jC E n fn ND b).run H t m K) (fun id=>K (.exit id) t m) (K .ret t m)⟩
 | .cond x a b=>⟨fun H t m K=>(cU E x).run t fun v=>qo v (fun c=>dD c ((jC E n fn ND a).run H t m K) ((jC E n fn ND b).run H t m K)) false⟩
 | .block id a=>⟨fun H t m K=>(jC E n fn ND a).run H t m fun e t m=>fi e (K .normal t m) (fun id'=>dD (Nat.beq id' id) (K .normal t m) (K (.exit id') t m)) (K .ret t m)⟩
 | .region i ops draw=>match draw,RA ND ops.toList with
  | false,true=>⟨fun H t m K=>(BE E n ops ND ops.toList).run H t m fun t m=>K .normal t m⟩
  | _,_=>⟨fun H t m K=>(Lz E n ops draw).run H t m fun t m=>K .normal t m⟩
 | c=>⟨fun H t m K=>(iA E n fn c).run H none t m K⟩
def GK{E:Env}(hE:EnvOk E)(hmono:¬E.mono){H:Hand}(hH:B1 E H){ND:WJ->WA FunN}(hN:Pd E ND){n:Nat}{fn:WJ}:∀(c:Code) {t:Tm} {m:V7} {K:V8->Tm->V7->Bool},(jC E n fn ND c).run H t m K=true->cM E n fn none c (fun e t m=>K e t m=true) t m:=by
 intro c
 induction c with
 | seq a b iha ihb =>
  intro t m K h;unfold jC at h
  split at h
  rename_i d hd;obtain⟨rfl,hok⟩:=xx hd;refine .Fo ((FO hE hmono hH hok h).mono fun e t m h=>?_);obtain⟨rfl,h⟩:=h;exact ihb h
  refine .Fo ((iha h).mono fun e t m h=>?_);rcases cJ h with⟨rfl,h⟩|⟨id,rfl,h⟩|⟨rfl,h⟩
  exact ihb h
  exact h
  exact h
 | cond x a b iha ihb =>
  intro t m K h;unfold jC at h;obtain⟨v,h1,h⟩:=aS (x:=x) h;obtain⟨c,rfl,h⟩:=iJ h;refine .cond h1 (fun hc=>?_) (fun hc=>?_)
  subst hc; exact iha h
  subst hc; exact ihb h
 | block id a ih =>
  intro t m K h;unfold jC at h;refine .block ((ih h).mono fun e t m h=>?_);rcases cJ h with⟨rfl,h⟩|⟨id',rfl,h⟩|⟨rfl,h⟩
  exact h
  simp only[dV];rcases cA h with⟨h1,h⟩|⟨h1,h⟩
  rw[S7 (S0 h1)]; exact h
  rw[S8 (fun e=>by rw[e,Nat.beq_refl] at h1; cases h1)]; exact h
  exact h
 | region i ops draw =>
  intro t m K h;unfold jC at h
  split at h
  exact .region (oR hE hH hN h)
  exact .of hE (Dk hH (fun t m h=>h) h)
 | _ =>
  intro t m K h;unfold jC at h;exact .of hE (lL hH _ h)
noncomputable def pb (E:Env) (H:Hand) (ND:WJ->WA FunN) (f:WJ):FunN :=
 match E.P.funcs[f]? with
 | some fn=>match fn.body,Nat.ble fn.ntmps 512 with
  | some c,true=>⟨fun args m K=>dD (Nat.ble args.length fn.ntmps) (xG args 0 .nil fun t=>(jC E fn.ntmps f ND c).run H t m fun e t m=>fi e ((A2 E fn.results.toList).run t m fun vs=>Is vs fun v=>K v m) (fun _=>false) ((A2 E fn.results.toList).run t m fun vs=>Is vs fun v=>K v m)) false⟩
  | _,_=>⟨fun _ _ _=>false⟩
 | none=>⟨fun _ _ _=>false⟩
def sG{E:Env}(hE:EnvOk E)(hmono:¬E.mono){H:Hand}(hH:B1 E H){ND:WJ->WA FunN}(hN:Pd E ND){f:WJ}{args:WB Vs}{m:V7}{K:Vs->V7->Bool}(h:(pb E H ND f).run args m K=true):W.mJ E f args m fun v m'=>K v m'=true:=by
 unfold pb at h
 split at h
 rename_i F hf
 split at h
 rename_i c hb hn;have g:=aV h; clear h; obtain⟨h1,h⟩:=g;have hle:=S6 h1;have hn':=S6 hn;rw[pT args 0 _ _ (by omega)] at h
 have hmax:max args.length F.ntmps=F.ntmps:=Nat.max_eq_right hle;refine W.AB hE hf hb rfl hmax ((GK hE hmono hH hN c h).mono fun e t m h=>?_);rcases cJ h with⟨rfl,h⟩|⟨id,rfl,h⟩|⟨rfl,h⟩
 obtain⟨vs,h2,h⟩:=ml h;rw[qX] at h;rw[uV,h2,uP]; exact h
 cases h
 obtain⟨vs,h2,h⟩:=ml h;rw[qX] at h;rw[Il,h2,uP]; exact h
 cases h
 cases h
section
variable{E:Env}{j j1:aJ}{m m1:V7}{w w1:Vw}
def Sim.same(h:MR E j m w)(hold:∀c,c<w.heap.size->w1.heap[c]? = w.heap[c]?)(hsize:w.heap.size<=w1.heap.size)(hcalm:iC E w w1):Sim E j m w j m w1 where
 ext:=.refl m
 le:=.refl j
 new:=fun b k h h'=>by simp[h'] at h
 mr:=⟨fun b k hb=>⟨(h.lt b k hb).1,SY (h.lt b k hb).2 hsize⟩,fun b o k ho hb=>by
  obtain⟨o',h1,h2⟩:=h.obj b o k ho hb;exact⟨o',(hold k.c (h.lt b k hb).2).trans h1,h2⟩,h.inj,h.glob⟩
 size:=hsize
 full:=fun b h h' _=>Tl h (by omega)
 away:=fun _ _ _=>rfl
 fresh:=fun b k h h'=>by simp[h'] at h
 frame:=fun c hc _=>hold c hc
 calm:=hcalm
def Cs(hE:EnvOk E){pr:WJ->WA Prim}(h:∀f p,pr f=some p->E.cQ f=some p\/∀args m v m',p.run args m=some (v,m')->∀(j:aJ) (w:Vw) (args':WB Vs),MR E j m w->LR j args args'->dN E.P (E.cQ f).isSome f args'.toArray w (fy E j m w v m')):EnvOk { E with cQ:=pr}:=by
 refine⟨hE.call,hE.mixed,fun f p hp args m v m' hrun j w args' hm hl=>?_⟩;have hp':({ E with cQ:=pr}:Env).cQ f=some p:=hp;have hm0:MR E j m w:=MR.env (E:={ E with cQ:=pr}) (E':=E) rfl hm;have key:∀v' w',fy E j m w v m' v' w'->fy { E with cQ:=pr} j m w v m' v' w':=fun v' w' ⟨j',s,hv⟩=>⟨j',Sim.env (E:=E) rfl (fun e=>e) s,hv⟩;rcases h f p hp with h1|h1
 exact cp (fun _=>by rw[hp']; rfl) (hE.cQ f p h1 args m v m' hrun j w args' hm0 hl) key
 exact cp (fun _=>by rw[hp']; rfl) (h1 args m v m' hrun j w args' hm0 hl) key
end
section
variable{E:Env}{j:aJ}{m:V7}{w:Vw}
def ly(j:aJ)(g:Nat):aJ:=fun x=>if x<g then j x else none
def Al(n:Nat)(gs:Nat->WA (WB Vs))(b:Nat):(FC n gs).get b=(gs b).map fun cs=>.cells cs .ro:=by
 simp[V7.get,FC,Heap.get_nil]
def MR.QR{gs:Nat->WA (WB Vs)}(h:MR E j m w)(hgs:∀x c,x<E.glob->gs x=some c->m.get x=some (.cells c .ro))(hgp:∀x c,gs x=some c->c.all aL=true):MR E (ly j E.glob) (FC E.glob gs) w:=by
 have cases1:∀x k,ly j E.glob x=some k->x<E.glob/\j x=some k:=by
  intro x k hx;unfold ly at hx
  split at hx
  rename_i hlt; exact⟨hlt,hx⟩
  cases hx
 refine⟨fun x k hx=>?_,fun x o k ho hx=>?_,fun x x' k k' hx hx' hl hl' hc=>?_,fun gl hgl=>?_⟩
 obtain⟨hlt,hj⟩:=cases1 x k hx;exact⟨hlt,(h.lt x k hj).2⟩
 ·rw[Al] at ho;obtain⟨hlt,hj⟩:=cases1 x k hx;cases hg:gs x with
  | none=>rw[hg] at ho; cases ho
  | some c =>
   rw[hg] at ho; cases ho;have hgx:=hgs x c hlt hg;obtain⟨o',h1,h2⟩:=h.obj x _ k hgx hj;refine⟨o',h1,?_⟩;cases o' with
   | cells c' ty fz =>
    refine⟨h2.1,fun i v hi=>?_⟩;obtain⟨v',h3,h4⟩:=h2.2 i v hi;have hpv:=Tk.1 (hgp x c hg) v (Ti hi);have:=eL hpv h4;subst this;exact⟨_,h3,.aL hpv⟩
   | _=>exact h2.elim
 ·have live:∀y,y<E.glob->((FC E.glob gs).get y).isSome=true->(m.get y).isSome=true:=by
   intro y hy hl;rw[Al] at hl;cases hg:gs y with
   | none=>rw[hg] at hl; cases hl
   | some c=>rw[hgs y c hy hg]; rfl
  obtain⟨hlt,hj⟩:=cases1 x k hx;obtain⟨hlt',hj'⟩:=cases1 x' k' hx';exact h.inj x x' k k' hj hj' (live x hlt hl) (live x' hlt' hl') hc
 unfold ly;rw[S7 hgl];exact h.glob gl hgl
def ya(hE:EnvOk E){f:WJ}{gs:Nat->WA (WB Vs)}(hgp:∀x c,gs x=some c->c.all aL=true){fuel:Nat}{v:Vs}{m0:V7}
  (hrun:run E fuel (.call f [] (FC E.glob gs))=some (.val v m0)) (hwl:E.glob<=m0.wl) (hpv:bw v=true) {args':WB Vs} (h:MR E j m w) (hgs:∀x c,x<E.glob->gs x=some c->m.get x=some (.cells c .ro)) (hl:LR j [] args') :
  dN E.P (E.cQ f).isSome f args'.toArray w (fy E j m w v m):=by
 have hm0:=h.QR hgs hgp;have hl0:LR (ly j E.glob) [] args':=by
  rw[LR.dg hl]; exact .nil _
 obtain⟨_,_,e,hs⟩:=kH hE fuel _ _ hrun;cases e;refine cp (fun x=>x) (hs _ w args' hm0 hl0) ?_;intro v' w' ⟨j',s,hv'⟩;have hold:∀c,c<w.heap.size->w'.heap[c]? = w.heap[c]?:=fun c hc=>s.frame c hc fun x k hx _ _=>by
  have:x<E.glob:=(hm0.lt x k hx).1;omega
 exact⟨j,.same h hold s.size s.calm,VR.mn hpv hv'⟩
end
attribute [local irreducible] V7.get V7.set V7.alloc V7.ww V7.kill
section
variable{E:Env}{j j1:aJ}{m m1:V7}{w w1:Vw}
def Sim.PD{js:aJ}{ms:V7}(h:MR E j m w)(hs:MR E js ms w)(s:Sim E js { ms with wl:=ms.next} w j1 m1 w1)(g:Grown ms m1){T:Fy}{a:Nat->Nat}{tg:Nat->Tag}(hT:T.ok)
  (ha:∀i,i<T.length->ms.next<=a i/\a i<m1.next) (hinj:∀i k,i<T.length->k<T.length->a i=a k->i=k) (ho:∀i x,T[i]? = some x->m1.get (a i)=some (.cells (x.1.map (TV.inst T a)) (tg i))/\(tg i=.own\/tg i=.more x.2)) :
  ∃j2,Sim E j m w j2 (m.fU (T.bQ fun i=>m.next+i)) w1/\∀x:TV,x.ok T.length=true->∀v',VR j1 (x.inst T a) v'->VR j2 (x.inst T fun i=>m.next+i) v':=by
 have hol:(T.bQ fun i=>m.next+i).length=T.length:=by unfold Fy.bQ; rw[Tw]
 have hjn:∀b,ms.next<=b->js b=none:=fun b hb=>by
  cases e:js b with
  | none=>rfl
  | some k=>exact Tl (hs.lt b k e).1 (by omega)
 have hold:=s.old hs g;have hk:∀i x,T[i]? = some x->∃k,j1 (a i)=some k:=fun i x hi=>by
  have hlt:=(Tc.1 hi).1;exact s.full (a i) (ha i hlt).1 (ha i hlt).2 (by rw[(ho i x hi).1]; rfl)
 have hfresh:∀i k,i<T.length->j1 (a i)=some k->w.heap.size<=k.c:=fun i k hi hk=>by
  rcases s.fresh (a i) k hk (hjn _ (ha i hi).1) with hf|⟨b0,k0,a1,_,_,a4⟩
  exact hf
  have:=(hs.lt b0 k0 a1).1; have:=g.wl; omega
 have hcell:∀i x k,T[i]? = some x->j1 (a i)=some k->∃c ty fz,w1.heap[k.c]? = some (.cells c ty fz)/\oJ k (tg i) x.1.length c fz/\∀(q:Nat) (z:TV),x.1[q]? = some z->∃v',c[q]? = some v'/\VR j1 (z.inst T a) v':=fun i x k hi hk=>by
  obtain⟨o',g1,g2⟩:=s.mr.obj (a i) _ k (ho i x hi).1 hk;cases o' with
  | cells c ty fz =>
   refine⟨c,ty,fz,g1,by have:=g2.1; rwa[Tw] at this,fun q z hq=>?_⟩
   exact g2.2 q (z.inst T a) (by rw[Tn,hq]; rfl)
  | _=>exact g2.elim
 have key:∀j2:aJ,(∀i x,T[i]? = some x->∀k,j1 (a i)=some k->j2 (m.next+i)=some (lf k x.2 x.1.length))->∀x:TV,x.ok T.length=true->∀v',VR j1 (x.inst T a) v'->VR j2 (x.inst T fun i=>m.next+i) v':=fun j2 hj2 x hx v' hv=>by
  let cf:Nat->WD Vs ×(Nat×Nat):=fun i=>match j1 (a i) with
   | some k=>match w1.heap[k.c]? with
    | some (.cells c _ fz)=>(c,fz)
    | _=>(#[],(0,0))
   | none=>(#[],(0,0))
  refine TV.move hT (tg:=tg) (cf:=cf) (fun i y hi=>?_) hx hv;obtain⟨k,hk⟩:=hk i y hi;obtain⟨c,ty,fz,h1,h2,_⟩:=hcell i y k hi hk;have ecf:cf i=(c,fz):=by show(match j1 (a i) with|some k=>_|none=>_)=_; rw[hk]; dsimp only; rw[h1]
  exact⟨k,hk,hj2 i y hi k hk,(ho i y hi).2,by rw[ecf]; exact h2⟩
 have e1:∀i x,T[i]? = some x->∀k,j1 (a i)=some k->(fun b=>if m.next<=b then match T[b-m.next]?,j1 (a (b-m.next)) with|some x,some k=>some (lf k x.2 x.1.length)|_,_=>none else j b) (m.next+i)=some (lf k x.2 x.1.length):=fun i x hi k hk=>by
  dsimp only
  rw[VA,Nat.add_sub_cancel_left,hi,hk]
 have e2:∀b,b<m.next->(fun b=>if m.next<=b then match T[b-m.next]?,j1 (a (b-m.next)) with|some x,some k=>some (lf k x.2 x.1.length)|_,_=>none else j b) b=j b:=fun b hb=>by
  dsimp only
  rw[Vz]
 have e3:∀b k,(fun b=>if m.next<=b then match T[b-m.next]?,j1 (a (b-m.next)) with|some x,some k=>some (lf k x.2 x.1.length)|_,_=>none else j b) b=some k->(b<m.next/\j b=some k)\/∃i x k1,T[i]? = some x/\b=m.next+i/\j1 (a i)=some k1/\k=lf k1 x.2 x.1.length:=fun b k hb=>by
  by_cases c:m.next<=b
  ·dsimp only at hb
   rw[S7 c] at hb;cases hx:T[b-m.next]? with
   | none=>rw[hx] at hb; cases hb
   | some x =>
    cases hk:j1 (a (b-m.next)) with
    | none=>rw[hx,hk] at hb; cases hb
    | some k1 =>
     rw[hx,hk] at hb;exact .inr ⟨b-m.next,x,k1,hx,by omega,hk,(S3 hb).symm⟩
  dsimp only at hb
  rw[S8 c] at hb;exact .inl ⟨(h.lt b k hb).1,hb⟩
 generalize(fun b=>if m.next<=b then match T[b-m.next]?,j1 (a (b-m.next)) with|some x,some k=>some (lf k x.2 x.1.length)|_,_=>none else j b)=j2 at e1 e2 e3
 refine⟨j2,?_,key j2 e1⟩;have hle:j.le j2:=fun b k hb=>by rw[e2 b (h.lt b k hb).1]; exact hb
 have hget:∀i,i<T.length->(m.fU (T.bQ fun i=>m.next+i)).get (m.next+i)=(T.bQ fun i=>m.next+i)[i]?:=fun i hi=>vE _ m i (by omega)
 have ha2:MR E j m w1:=⟨fun b k e=>⟨(h.lt b k e).1,SY (h.lt b k e).2 s.size⟩,fun b o k ho e=>by
  obtain⟨o',h1,h2⟩:=h.obj b o k ho e;exact⟨o',(hold _ (h.lt b k e).2).trans h1,h2⟩,h.inj,h.glob⟩
 have hlt:∀{i x},T[i]? = some x->i<T.length:=fun hi=>(Tc.1 hi).1;have hlive:∀{i x},T[i]? = some x->(m1.get (a i)).isSome=true:=fun hi=>by rw[(ho _ _ hi).1]; rfl
 refine⟨⟨by rw[gE]; omega,by rw[vc]; exact SX _,fun b hb _=>dt _ _ (.inl hb),fun b hb hn=>(dt _ _ (.inl hb)).trans hn⟩,hle,fun b k e e'=>?_,⟨fun b k e=>?_,fun b o k ho' e=>?_,fun b b' k k' e e' hl hl' hc=>?_,fun gl hgl=>?_⟩,s.size,fun b hb1 hb2 _=>?_,fun b hb _=>?_,fun b k e e'=>?_,fun c hc _=>hold c hc,s.calm⟩
 rcases e3 b k e with⟨_,c⟩|⟨i,_,_,_,rfl,_⟩
 rw[e'] at c; cases c
 omega
 rcases e3 b k e with⟨c1,c2⟩|⟨i,x,k1,hi,rfl,c2,rfl⟩
 exact⟨by rw[gE]; omega,(ha2.lt b k c2).2⟩
 exact⟨by rw[gE,hol]; have:=hlt hi; omega,by rw[ma]; exact(s.mr.lt _ k1 c2).2⟩
 rcases e3 b k e with⟨c1,c2⟩|⟨i,x,k1,hi,rfl,c2,rfl⟩
 rw[dt _ _ (.inl c1)] at ho';obtain⟨o',h1,h2⟩:=ha2.obj b o k ho' c2;exact⟨o',h1,h2.mono hle⟩
 rw[hget i (hlt hi)] at ho';unfold Fy.bQ at ho';rw[Tn,hi,SZ] at ho';cases ho';obtain⟨c,ty,fz,g1,g2,g3⟩:=hcell i x k1 hi c2;obtain⟨o1,o2,o3,o4⟩:=hT x (Ti hi);refine⟨.cells c ty fz,by rw[ma]; exact g1,?_,fun q v hq=>?_⟩
 rw[Tw];rw[o2] at g2 ⊢;exact Ie (ho i x hi).2 o1 o3 g2
 rw[Tn] at hq;obtain⟨z,hz,rfl⟩:=Uz.1 hq;obtain⟨v',h3,h4⟩:=g3 q z hz;exact⟨v',h3,key j2 e1 z (Tk.1 o4 z (Ti hz)) v' h4⟩
 have old:∀{b k},b<m.next->j b=some k->(m.get b).isSome=true->∀i x,T[i]? = some x->∀k1,j1 (a i)=some k1->k.c≠k1.c:=fun{b k} hb e hl i x hi k1 hk1 hc=>by
  have:=(h.lt b k e).2;have:=hfresh i k1 (hlt hi) hk1;omega
 rcases e3 b k e with⟨c1,c2⟩|⟨i,x,k1,hi,rfl,c2,rfl⟩<;>rcases e3 b' k' e' with⟨d1,d2⟩|⟨i',x',k1',hi',rfl,d2,rfl⟩
 rw[dt _ _ (.inl c1)] at hl;rw[dt _ _ (.inl d1)] at hl';exact h.inj b b' k k' c2 d2 hl hl' hc
 rw[dt _ _ (.inl c1)] at hl;rw[ma] at hc;exact Tl hc (old c1 c2 hl i' x' hi' k1' d2)
 rw[dt _ _ (.inl d1)] at hl';rw[ma] at hc;exact Tl hc.symm (old d1 d2 hl' i x hi k1 c2)
 rw[ma,ma] at hc;have:=s.mr.inj (a i) (a i') k1 k1' c2 d2 (hlive hi) (hlive hi') hc;rw[hinj i i' (hlt hi) (hlt hi') this]
 have:=h.glob gl hgl;rw[e2 gl (h.lt gl _ this).1]; exact this
 rw[gE,hol] at hb2;have hi:=SU (show b-m.next<T.length by omega)
 obtain⟨k,hk⟩:=hk _ _ hi;have:=e1 _ _ hi k hk;exact⟨_,by rw[show b=m.next+(b-m.next) by omega]; exact this⟩
 rw[dt _ _ (.inl hb)]
 rcases e3 b k e with⟨_,c⟩|⟨i,x,k1,hi,rfl,c,rfl⟩
 rw[e'] at c; cases c
 rw[ma]; exact .inl (hfresh i k1 (hlt hi) c)
end
inductive SV where
 | v (x:Vs)
 | s (b n:Nat)
inductive AV where
 | one (x:SV)
 | agg (xs:WB SV)
def SV.val(f:Nat->Nat):SV->Vs
 | .v x=>x
 | .s b n=>.slice (some ⟨f b,0,none⟩) n n
def SV.ok(N:Nat):SV->Bool
 | .v x=>bw x
 | .s b _=>Nat.blt b N
def AV.val(f:Nat->Nat):AV->Vs
 | .one x=>x.val f
 | .agg xs=>.agg (xs.map (SV.val f)).toArray
def AV.ok(N:Nat):AV->Bool
 | .one x=>x.ok N
 | .agg xs=>xs.all (SV.ok N)
abbrev Bk:=WB SV×Tag
def nf(g:Nat)(gs:Nat->WA (WB Vs))(A:WB Bk):V7:=⟨g+A.length,g+A.length,.nil,fun b=>if b<g then(gs b).map fun cs=>.cells cs .ro else(A[b-g]?).map fun x=>.cells (x.1.map (SV.val fun b=>b)) x.2⟩
def B0(g:Nat)(gs:Nat->WA (WB Vs))(A:WB Bk)(b:Nat):(nf g gs A).get b=if b<g then(gs b).map fun cs=>.cells cs .ro else(A[b-g]?).map fun x=>.cells (x.1.map (SV.val fun b=>b)) x.2:=by
 simp[V7.get,nf,Heap.get_nil]
def eR(g:Nat)(l:WB Nat)(b:Nat):Nat:=if b<g then b else l.getD (b-g) 0
def ug(g N:Nat)(l:WB Nat)(j:aJ):aJ:=fun b=>if b<N then j (eR g l b) else none
def SV.VR{j:aJ}{g N:Nat}{l:WB Nat}{x:SV}(hx:x.ok N=true){v':Vs}(h:VR j (x.val (eR g l)) v'):VR (ug g N l j) (x.val fun b=>b) v':=by
 cases x with
 | v x=>exact VR.mn hx h
 | s b n =>
  have hb:b<N:=S6 hx;have e:∀k,j (eR g l b)=some k->ug g N l j b=some k:=fun k hk=>by unfold ug; rw[S7 hb]; exact hk
  have h:Go.Ab.VR j (.slice (some ⟨eR g l b,0,none⟩) n n) v':=h
  show Go.Ab.VR _ (.slice (some ⟨b,0,none⟩) n n) v'
  cases h with
  | slice hj hm=>exact .slice (e _ hj) hm
  | sliceM hj hm h1 h2 hl hc=>exact .sliceM (e _ hj) hm h1 h2 hl hc
structure SmallIn(m:V7)(g:Nat)(gs:Nat->WA (WB Vs))(A:WB Bk)(l:WB Nat):Prop where
 len:l.length=A.length
 glob:∀x c,x<g->gs x=some c->m.get x=some (.cells c .ro)/\c.all aL=true
 at_:∀i (h:i<A.length),m.get (l.getD i 0)=some (.cells (A[i].1.map (SV.val (eR g l))) A[i].2)
 low:∀i,i<l.length->g<=l.getD i 0
 nd:∀i k,i<l.length->k<l.length->l.getD i 0=l.getD k 0->i=k
 ok:A.all (fun x=>x.1.all (SV.ok (g+A.length)))=true
def MR.Kz{E:Env}{j:aJ}{m:V7}{w:Vw}{gs:Nat->WA (WB Vs)}{A:WB Bk}{l:WB Nat}(h:MR E j m w)(hs:SmallIn m E.glob gs A l):MR E (ug E.glob (E.glob+A.length) l j) (nf E.glob gs A) w:=by
 have hj:∀x k,ug E.glob (E.glob+A.length) l j x=some k->x<E.glob+A.length/\j (eR E.glob l x)=some k:=fun x k hx=>by
  unfold ug at hx
  split at hx
  rename_i hlt; exact⟨hlt,hx⟩
  cases hx
 have hobj:∀x o,(nf E.glob gs A).get x=some o->x<E.glob+A.length->(x<E.glob/\m.get (eR E.glob l x)=some o/\∃c,o=.cells c .ro/\c.all aL=true)\/∃y:Bk,y∈A/\o=.cells (y.1.map (SV.val fun b=>b)) y.2/\m.get (eR E.glob l x)=some (.cells (y.1.map (SV.val (eR E.glob l))) y.2):=fun x o ho hx=>by
  rw[B0] at ho
  split at ho
  ·rename_i hlt;cases hg:gs x with
   | none=>rw[hg] at ho; cases ho
   | some c =>
    rw[hg] at ho; cases ho;have e:eR E.glob l x=x:=by unfold eR; rw[S7 hlt]
    rw[e];exact .inl ⟨hlt,(hs.glob x c hlt hg).1,c,rfl,(hs.glob x c hlt hg).2⟩
  rename_i hlt;have hi:x-E.glob<A.length:=by omega
  have h1:=hs.at_ (x-E.glob) hi;rw[SU hi] at ho;cases ho;have e:eR E.glob l x=l.getD (x-E.glob) 0:=by unfold eR; rw[S8 hlt]
  rw[e];exact .inr ⟨_,UW hi,rfl,h1⟩
 have hlive:∀x,x<E.glob+A.length->((nf E.glob gs A).get x).isSome=true->(m.get (eR E.glob l x)).isSome=true:=fun x hx hl=>by
  cases e1:(nf E.glob gs A).get x with
  | none=>rw[e1] at hl; cases hl
  | some o =>
   rcases hobj x o e1 hx with⟨_,h1,_⟩|⟨y,_,_,h1⟩
   rw[h1]; rfl
   rw[h1]; rfl
 refine⟨fun x k hx=>?_,fun x o k ho hx=>?_,fun x x' k k' hx hx' hl hl' hc=>?_,fun gl hgl=>?_⟩
 obtain⟨hlt,hj⟩:=hj x k hx;exact⟨hlt,(h.lt _ k hj).2⟩
 ·obtain⟨hlt,hj⟩:=hj x k hx;rcases hobj x o ho hlt with⟨_,h1,cs,rfl,h2⟩|⟨y,hy,rfl,h1⟩
  ·obtain⟨o',h3,h4⟩:=h.obj _ _ k h1 hj;refine⟨o',h3,?_⟩;cases o' with
   | cells c' ty fz =>
    refine⟨h4.1,fun i v hi=>?_⟩;obtain⟨v',h5,h6⟩:=h4.2 i v hi;have hpv:=Tk.1 h2 v (Ti hi);have:=eL hpv h6;subst this;exact⟨_,h5,.aL hpv⟩
   | _=>exact h4.elim
  ·obtain⟨o',h3,h4⟩:=h.obj _ _ k h1 hj;refine⟨o',h3,?_⟩;have hok:=Tk.1 hs.ok y hy;cases o' with
   | cells c' ty fz =>
    refine⟨by have:=h4.1; rwa[Tw] at this ⊢,fun i v hi=>?_⟩
    rw[Tn] at hi;obtain⟨z,hz,rfl⟩:=Uz.1 hi;obtain⟨v',h5,h6⟩:=h4.2 i (z.val (eR E.glob l)) (by rw[Tn,hz]; rfl)
    exact⟨v',h5,SV.VR (Tk.1 hok z (Ti hz)) h6⟩
   | _=>exact h4.elim
 obtain⟨hlt,hj1⟩:=hj x k hx;obtain⟨hlt',hj2⟩:=hj x' k' hx';have e:=h.inj _ _ k k' hj1 hj2 (hlive x hlt hl) (hlive x' hlt' hl') hc;unfold eR at e;have hlen:=hs.len
 split at e
 split at e
 exact e
 rename_i a b; have:=hs.low (x'-E.glob) (by omega); omega
 split at e
 rename_i a b; have:=hs.low (x-E.glob) (by omega); omega
 rename_i a b;have:=hs.nd _ _ (by omega) (by omega) e
 omega
 show ug E.glob (E.glob+A.length) l j gl=_
 unfold ug eR;rw[VA,S7 hgl]
 exact h.glob gl hgl
def SV.LR{j:aJ}{g N:Nat}{l:WB Nat}:∀{xs:WB SV} {ys:WB Vs},xs.all (SV.ok N)=true->LR j (xs.map (SV.val (eR g l))) ys->Go.Ab.LR (ug g N l j) (xs.map (SV.val fun b=>b)) ys
 | [],ys,_,h=>by rw[Go.Ab.LR.dg h]; exact .nil _
 | x::xs,ys,hx,h=>by
  obtain⟨y,ys',rfl,h1,h2⟩:=Go.Ab.LR.cons_inv h;simp only[Uo,SW] at hx;exact .cons (SV.VR hx.1 h1) (SV.LR hx.2 h2)
def AV.LR{j:aJ}{g N:Nat}{l:WB Nat}:∀{xs:WB AV} {ys:WB Vs},xs.all (AV.ok N)=true->LR j (xs.map (AV.val (eR g l))) ys->Go.Ab.LR (ug g N l j) (xs.map (AV.val fun b=>b)) ys
 | [],ys,_,h=>by rw[Go.Ab.LR.dg h]; exact .nil _
 | x::xs,ys,hx,h=>by
  obtain⟨y,ys',rfl,h1,h2⟩:=Go.Ab.LR.cons_inv h;simp only[Uo,SW] at hx;refine .cons ?_ (AV.LR hx.2 h2);cases x with
  | one x=>exact SV.VR hx.1 h1
  | agg xs =>
   have h1:Go.Ab.VR j (.agg (xs.map (SV.val (eR g l))).toArray) y:=h1;cases h1 with
   | agg a b =>
    rename_i zs;have:=SV.LR (j:=j) (g:=g) (N:=N) (l:=l) (xs:=xs) (ys:=zs.toList) hx.1 (by
     have:=Go.Ab.LR.eV a b
     simpa using this)
    refine Go.Ab.VR.AZ ?_
    simpa using this
structure Case where
 A:WB Bk
 args:WB AV
 V:WB TV
 T:Fy
def Case.small(c:Case)(g:Nat)(gs:Nat->WA (WB Vs)):V7:=nf g gs c.A
def Case.Out(c:Case)(ms:V7)(v1:Vs)(m1:V7):Prop:=Grown ms m1/\∃(a:Nat->Nat) (tg:Nat->Tag),v1=.tuple (c.V.map (TV.inst c.T a)).toArray /\
  (∀i,i<c.T.length->ms.next<=a i/\a i<m1.next)/\(∀i k,i<c.T.length->k<c.T.length->a i=a k->i=k)/\∀i x,c.T[i]? = some x->m1.get (a i)=some (.cells (x.1.map (TV.inst c.T a)) (tg i))/\(tg i=.own\/tg i=.more x.2)
def wi:Vs->WB Nat
 | .slice (some a) _ _=>[a.block]
 | _=>[]
def N6:Vs->WB Nat
 | .agg xs=>xs.toList.flatMap wi
 | .tuple xs=>xs.toList.flatMap wi
 | v=>wi v
def cellsOf(m:V7)(b:Nat):WB Vs :=
 match m.get b with
 | some (.cells cs _)=>cs
 | _=>[]
def q8(m:V7)(v:Vs):WB Nat:=(N6 v).flatMap fun b=>b::(cellsOf m b).flatMap wi
def P8:WB Nat->Bool
 | []=>true
 | x::xs=>!xs.contains x&&P8 xs
def BG:∀{l:WB Nat},P8 l=true->∀i k,i<l.length->k<l.length->l.getD i 0=l.getD k 0->i=k
 | [],_,i,k,hi,_,_=>by simp at hi
 | x::xs,h,i,k,hi,hk,e=>by
  simp only[P8,SW,T1,List.contains_eq_mem,decide_eq_false_iff_not] at h;have hx:∀q,q<xs.length->xs.getD q 0∈xs:=fun q hq=>by
   rw[Th,SU hq]; exact UW hq
  cases i with
  | zero =>
   cases k with
   | zero=>rfl
   | succ k =>
    have e:x=xs.getD k 0:=e;exact Tl (e▸hx k (by simpa using hk)) h.1
  | succ i =>
   cases k with
   | zero =>
    have e:xs.getD i 0=x:=e;exact Tl (e▸hx i (by simpa using hi)) h.1
   | succ k=>exact Up (· + 1) (BG h.2 i k (by simpa using hi) (by simpa using hk) e)
def xE(o:WA V9)(cs:WB Vs)(t:Tag):Bool :=
 match o with
 | some (.cells cs' t')=>qu cs' cs&&decide (t'=t)
 | _=>false
def wh{o:WA V9}{cs:WB Vs}{t:Tag}(h:xE o cs t=true):o=some (.cells cs t):=by
 unfold xE at h
 split at h
 simp only[SW,Tv] at h;rw[jE h.1,h.2]
 cases h
def Cx(m:V7)(g:Nat)(f:Nat->Nat):WB Bk->WB Nat->Bool
 | [],[]=>true
 | o::os,b::bs=>xE (m.get b) (o.1.map (SV.val f)) o.2 &&(Nat.ble g b&&Cx m g f os bs)
 | _,_=>false
def tl{m:V7}{g:Nat}{f:Nat->Nat}:∀{A:WB Bk} {l:WB Nat},Cx m g f A l=true->l.length=A.length/\∀i (h:i<A.length),m.get (l.getD i 0)=some (.cells (A[i].1.map (SV.val f)) A[i].2)/\g<=l.getD i 0
 | [],[],_=>⟨rfl,fun i h=>by simp at h⟩
 | o::os,b::bs,h=>by
  simp only[Cx,SW] at h;obtain⟨h1,h3,h4⟩:=h;obtain⟨h5,h6⟩:=tl h4;refine⟨by simp[h5],fun i hi=>?_⟩
  cases i with
  | zero=>exact⟨wh h1,S6 h3⟩
  | succ i=>exact h6 i (by simpa using hi)
 | [],_::_,h=>by cases h
 | _::_,[],h=>by cases h
def Case.fits(c:Case)(g:Nat)(tabB:V7->Bool)(args:WB Vs)(m:V7):Bool :=
 (fun l=>ru args (c.args.map (AV.val (eR g l))) &&(Cx m g (eR g l) c.A l &&(P8 l&&tabB m))) (args.flatMap (q8 m))
def Case.value(c:Case)(a:Nat->Nat):Vs:=.tuple (c.V.map (TV.inst c.T a)).toArray
def Case.run(c:Case)(g:Nat)(tabB:V7->Bool)(args:WB Vs)(m:V7):WA (Vs×V7) :=
 if c.fits g tabB args m then some (c.value fun i=>m.next+i,m.fU (c.T.bQ fun i=>m.next+i)) else none
def Case.IB{E:Env}{c:Case}{f:WJ}{gs:Nat->WA (WB Vs)}{tabB:V7->Bool}(ht:∀m,tabB m=true->∀x cs,x<E.glob->gs x=some cs->m.get x=some (.cells cs .ro)/\cs.all aL=true)(hT:c.T.ok)(hV:c.V.all (TV.ok c.T.length)=true)(hA:c.args.all (AV.ok (E.glob+c.A.length))=true)
  (hA2:c.A.all (fun x=>x.1.all (SV.ok (E.glob+c.A.length)))=true) (h:W.mJ E f (c.args.map (AV.val fun b=>b)) (c.small E.glob gs) (c.Out (c.small E.glob gs))) {args:WB Vs} {m m':V7} {v:Vs} (hr:c.run E.glob tabB args m=some (v,m')) (pr:Bool) {j:aJ} {w:Vw} {args':WB Vs} (hm:MR E j m w) (hl:LR j args args'):dN E.P pr f args'.toArray w (fy E j m w v m'):=by
 unfold Case.run at hr
 split at hr
 ·rename_i hf;cases hr;unfold Case.fits at hf;simp only[SW] at hf;obtain⟨h1,h2,h3,h4⟩:=hf;have h1:=py h1;obtain⟨h5,h6⟩:=tl h2;generalize args.flatMap (q8 m)=l at h1 h2 h3 h5 h6;subst h1;have hs:=hm.Kz (gs:=gs) (A:=c.A) (l:=l) ⟨h5,ht m h4,fun i hi=>(h6 i hi).1,fun i hi=>(h6 i (by omega)).2,BG h3,hA2⟩
  have hl':=AV.LR (g:=E.glob) (N:=E.glob+c.A.length) (l:=l) hA hl;have e:c.small E.glob gs ={ c.small E.glob gs with wl:=(c.small E.glob gs).next}:=rfl
  refine cp (fun h=>by cases h) (h _ w args' hs hl') ?_
  rintro v' w' ⟨v1,m1,⟨hg,a,tg,rfl,g1,g2,g3⟩,j',s,hv⟩;obtain⟨j2,s2,hmv⟩:=Sim.PD hm hs (by rw[<-Case.small,<-e]; exact s) hg hT g1 g2 g3
  refine⟨j2,s2,?_⟩;cases hv with
  | tuple e1 e2 =>
   rename_i ys;refine .tuple (by rw[<-e1]; simp) fun i hi hi2=>?_
   simp only[List.size_toArray,Tw] at hi;have hx:=Tk.1 hV c.V[i] (UW hi);have h5:=e2 i (by simpa using hi) hi2
   simp only[List.getElem_toArray,List.getElem_map] at h5 ⊢;exact hmv _ hx _ h5
 cases hr
def Qk(t:Tag)(sz:Nat):Bool :=
 match t with
 | .own=>true
 | .more k=>Nat.beq k sz
 | .ro=>false
def AH(o:WA V9)(cs:WB Vs)(sz:Nat):Bool :=
 match o with
 | some (.cells cs' t)=>qu cs' cs&&Qk t sz
 | _=>false
def zw{o:WA V9}{cs:WB Vs}{sz:Nat}(h:AH o cs sz=true):∃t,o=some (.cells cs t)/\(t=.own\/t=.more sz):=by
 unfold AH at h
 split at h
 rename_i cs' t;simp only[SW] at h;rw[jE h.1];refine⟨t,rfl,?_⟩;have h2:=h.2;unfold Qk at h2
 split at h2
 exact .inl rfl
 rw[S0 h2]; exact .inr rfl
 cases h2
 cases h
def Kb(c:Case)(a:Nat->Nat)(lo:Nat)(m1:V7):WB (WB TV×Nat)->WB Nat->Bool
 | [],[]=>true
 | x::xs,b::bs=>AH (m1.get b) (x.1.map (TV.inst c.T a)) x.2 &&(Nat.ble lo b &&(Nat.blt b m1.next&&Kb c a lo m1 xs bs))
 | _,_=>false
def vw{c:Case}{a:Nat->Nat}{lo:Nat}{m1:V7}:∀{T:WB (WB TV×Nat)} {l:WB Nat},Kb c a lo m1 T l=true->l.length=T.length/\∀i x,T[i]? = some x->(∃t,m1.get (l.getD i 0)=some (.cells (x.1.map (TV.inst c.T a)) t)/\(t=.own\/t=.more x.2))/\lo<=l.getD i 0/\l.getD i 0<m1.next
 | [],[],_=>⟨rfl,fun i x h=>by simp at h⟩
 | y::xs,b::bs,h=>by
  simp only[Kb,SW] at h;obtain⟨h1,h2,h3,h4⟩:=h;obtain⟨h5,h6⟩:=vw h4;refine⟨by simp[h5],fun i x hi=>?_⟩
  cases i with
  | zero =>
   simp only[Tq,Option.some.injEq] at hi;subst hi;exact⟨zw h1,S6 h2,S6 h3⟩
  | succ i=>exact h6 i x (by simpa using hi)
 | [],_::_,h=>by cases h
 | _::_,[],h=>by cases h
def Gp:Vs->Vs->Bool
 | .tuple a,.tuple b=>ru a.toList b.toList
 | v,u=>vm v u
def Io:∀{v u:Vs},Gp v u=true->v=u:=by
 intro v u h;unfold Gp at h
 split at h
 rw[TY.1 (py h)]
 exact oB h
def Case.H4(c:Case)(ms:V7)(v:Vs)(m1:V7):Bool :=
 (fun l=>Gp v (c.value fun i=>l.getD i 0) &&(Kb c (fun i=>l.getD i 0) ms.next m1 c.T l &&(P8 l &&(Nat.ble ms.next m1.wl &&(Nat.ble ms.next m1.next &&(List.range ms.next).all fun b=>DX (m1.get b) (ms.get b)))))) (q8 m1 v)
def Case.vF{c:Case}{ms:V7}{v:Vs}{m1:V7}(h:c.H4 ms v m1=true):c.Out ms v m1:=by
 unfold Case.H4 at h;simp only[SW] at h;obtain⟨h1,h2,h3,h4,h5,h6⟩:=h;obtain⟨h7,h8⟩:=vw h2;generalize q8 m1 v=l at h1 h2 h3 h7 h8;refine⟨⟨S6 h5,fun b hb=>zo (Tk.1 h6 b (UK.2 hb)),S6 h4⟩,fun i=>l.getD i 0,fun i=>match m1.get (l.getD i 0) with
  | some (.cells _ t)=>t
  | _=>.own,Io h1,fun i hi=>?_,fun i k hi hk e=>BG h3 i k (by omega) (by omega) e,fun i x hi=>?_⟩
 have hi':=SU hi;exact(h8 i _ hi').2
 obtain⟨⟨t,g1,g2⟩,_⟩:=h8 i x hi
 dsimp only
 rw[g1];exact⟨rfl,g2⟩
end Go.Ab
namespace Go.Proofs.YtpkadoocdgdcfaaGreatDoor
section
open Go Go.Ab
set_option maxRecDepth 100000
def iv(x:Int):Vs:=.int .i64 x
def tv(x:Int):TV:=.v (.int .i64 x)
def sv(x:Int):SV:=.v (.int .i64 x)
def dS:WB TV:=([1,0,0,0,0,0,0,0,3,0,0,0,0,0,0,0]:WB Int).map fun x=>.v (.int .u64 x)
def eE(tag:Tag)(p:WB Int):Case where
 A:=[([0,1,1,2,2,3].map sv,.own),([1,1,1,1].map sv,.own),(p.map sv,tag)]
 args:=[.agg [.v (iv 4),.s 1 3],.agg [.s 2 4,.v (iv 1),.v (iv 3),.v (iv 2)],.one (.s 3 4)]
 V:=[.s 0,.s 4,.v (iv 0)]
 T:=[([.s 1,.s 2,.s 3],1),([0,0,0,1].map tv,1),([0,0,1,1].map tv,1),([0,1,1,1].map tv,1),(dS++dS++dS,16)]
noncomputable def Q4:Hand:=hand mX lJ 1000
noncomputable def Nu (f:WJ):WA FunN:=if f=137 then some (pb mX Q4 (fun _=>none) 137) else none
def Mf:B1 mX Q4:=ou (p6 none none none) 1000
def AQ:¬mX.mono:=fun h=>h
def Lx:Pd mX Nu:=by
 intro g S hS args m K h;unfold Nu at hS
 split at hS
 rename_i e;subst e;cases hS;exact sG oL AQ Mf (fun h=>by cases h) h
 cases hS
abbrev Qz:Case:=eE .own [0,0,1,1]
abbrev QI:Case:=eE (.more 1) [0,0,0,1]
abbrev PB:Case:=eE (.more 1) [0,0,1,1]
abbrev Qs:Case:=eE (.more 1) [0,1,1,1]
noncomputable def F1 (S:FunN) (c:Case):Bool:=S.run (c.args.map (AV.val fun b=>b)) (c.small 1 fw) fun v m=>c.H4 (c.small 1 fw) v m
noncomputable def rq (c:Case):Bool:=F1 (pb mX Q4 Nu 66) c
noncomputable def lX (f:WJ) (c:Case):Bool:=F1 (pb mX Q4 (fun _=>none) f) c
def Mt(n d:Int):WB TV:=([n,0,0,0,0,0,0,0,d,0,0,0,0,0,0,0]:WB Int).map fun x=>.v (.int .u64 x)
def Ch(n d:Int):WB SV:=([n,0,0,0,0,0,0,0,d,0,0,0,0,0,0,0]:WB Int).map fun x=>.v (.int .u64 x)
def Pa(n:Int):WB SV:=([n,0,0,0,0,0,0,0]:WB Int).map fun x=>.v (.int .u64 x)
def SF(n:Int):Vs:=.agg #[.int .u64 n,.int .u64 0,.int .u64 0,.int .u64 0,.int .u64 0,.int .u64 0,.int .u64 0,.int .u64 0]
def SG(n d:Int):Vs:=.agg #[.int .u64 n,.int .u64 0,.int .u64 0,.int .u64 0,.int .u64 0,.int .u64 0,.int .u64 0,.int .u64 0,.int .u64 d,.int .u64 0,.int .u64 0,.int .u64 0,.int .u64 0,.int .u64 0,.int .u64 0,.int .u64 0]
def du(n d:Int):Case:=⟨[],[.one (sv n),.one (sv d)],[.v (SG n d),tv 0],[]⟩
def pV:Case where
 A:=[([0,1,1,2,2,3].map sv,.own),([1,1,1,1].map sv,.own),([0,0,1,1].map sv,.own)]
 args:=[.agg [.v (iv 4),.s 1 3],.agg [.s 2 4,.v (iv 1),.v (iv 3),.v (iv 2)],.one (.s 3 4)]
 V:=[.s 0,.s 4,tv 0]
 T:=[([.s 1,.s 2,.s 3],1),([0,0,0,1].map tv,1),([0,0,1,1].map tv,1),([0,1,1,1].map tv,1),([.s 5,.s 6,.s 7],1),(dS++dS++dS,16),(dS++dS++dS,16),(dS++dS++dS,16)]
def fS(p:WB Int)(k n:Int):Case:=⟨[([0,1,0,3,1,2,2,3].map sv,.own),(p.map sv,.own)],[.agg [.v (iv 4),.s 1 4],.one (.s 2 4),.one (sv k)],[.v (SF n),tv 0],[]⟩
def kA:WB Bk:=[([.s 2 2,.s 3 2],.own),(Ch 1 2++Ch 1 2,.more 16),(Ch 1 4++Ch 3 4,.more 16)]
def nS:Case:=⟨kA++[(Pa 1++Pa 1,.more 8)],[.one (.s 1 2),.one (.s 4 2)],[.s 0,tv 0],[([.s 1,.s 2],1),(Mt 3 4++Mt 1 4,16),(Mt 1 4++Mt 3 4,16)]⟩
def lT:Case:=⟨[([.s 2 3,.s 3 3,.s 4 3],.own),(Ch 1 1++Ch 0 1++Ch 0 1,.more 16),(Ch 1 2++Ch 0 1++Ch 1 2,.more 16),(Ch 0 1++Ch 1 1++Ch 0 1,.more 16)],[.one (.s 1 3)],[.s 0,tv 0],[([0,1,1].map tv,1)]⟩
def dF(a b:Int)(r:Bool):Case:=⟨kA++[(Pa a++Pa b,.more 8)],[.one (.s 1 2),.one (.s 4 2)],[.v (.bool r),tv 0],[]⟩
def sV:Case:=⟨[(Pa 1++Pa 2,.more 8)],[.one (.s 1 2)],[.s 0,tv 0],[(Mt 1 3++Mt 2 3,16)]⟩
def uA(a b c d k p q r s:Int):Case:=⟨kA++[(Ch a b++Ch c d,.more 16)],[.one (.s 1 2),.one (.s 4 2),.one (sv k)],[.s 0,tv 0],[(Mt p q++Mt r s,16)]⟩
abbrev AK:Case:=uA 1 1 0 1 1 1 2 1 2
abbrev Cl:Case:=uA 1 3 2 3 5 1 3 2 3
set_option maxHeartbeats 0 in
def zx:rq Qz=true:=by decide +kernel
set_option maxHeartbeats 0 in
def yv:rq QI=true:=by decide +kernel
set_option maxHeartbeats 0 in
def AD:rq PB=true:=by decide +kernel
set_option maxHeartbeats 0 in
def zt:rq Qs=true:=by decide +kernel
end
section
open Go Go.Ab
set_option maxRecDepth 100000
attribute [local irreducible] pb Case.run Case.fits
def QZ{c:Case}(h:rq c=true):W.mJ mX 66 (c.args.map (AV.val fun b=>b)) (c.small 1 fw) (c.Out (c.small 1 fw)):=by
 unfold rq at h;have h1:=sG oL AQ Mf Lx (f:=66) (args:=c.args.map (AV.val fun b=>b)) (m:=c.small 1 fw) (K:=fun v m=>c.H4 (c.small 1 fw) v m) h;intro j w args' hm hl;refine cp (fun h=>h) (h1 j w args' hm hl) ?_;rintro v' w' ⟨v1,m1,hq,hv⟩;exact⟨v1,m1,Case.vF hq,hv⟩
def uG:WB Vs->WB Int->Bool
 | [],[]=>true
 | .int .u8 n::vs,k::ks=>n==k&&uG vs ks
 | _,_=>false
def rB:∀{vs:WB Vs} {ks:WB Int},uG vs ks=true->vs=ks.map (.int .u8)
 | [],[],_=>rfl
 | [],_::_,h=>by cases h
 | v::vs,[],h=>by simp[uG] at h
 | v::vs,k::ks,h=>by
  unfold uG at h
  split at h
  rename_i e _; cases e
  rename_i n vs' k' ks' e1 e2;cases e1; cases e2;simp only[SW,beq_iff_eq] at h;rw[h.1,rB h.2]; rfl
  cases h
def gP(m:V7):Bool :=
 match m.get 0 with
 | some (.cells cs .ro)=>uG cs kK
 | _=>false
def Cu{m:V7}(h:gP m=true):m.get 0=some (.cells (kK.map (.int .u8)) .ro):=by
 unfold gP at h
 split at h
 rename_i cs hg; rw[hg,rB h]
 cases h
def qw:∀x c,fw x=some c->c.all aL=true:=by
 intro x c h;unfold fw at h
 split at h
 cases h;rw[List.all_map];exact Tk.2 fun x _=>rfl
 cases h
def s6{m:V7}(h:gP m=true):∀x cs,x<1->fw x=some cs->m.get x=some (.cells cs .ro)/\cs.all aL=true:=fun x cs hx he=>by
 refine⟨?_,qw x cs he⟩;have:x=0:=by omega
 subst this;simp only[fw,if_true,Option.some.injEq] at he;rw[<-he]; exact Cu h
def wm(args:WB Vs)(m:V7):WA (Vs×V7) :=
 (Qz.run 1 gP args m).or ((QI.run 1 gP args m).or ((PB.run 1 gP args m).or (Qs.run 1 gP args m)))
def Ha(tag:Tag)(p:WB Int):(eE tag p).T.ok:=by
 intro x hx;have h:∀x ∈(eE .own [0,0,1,1]).T,0<x.2/\x.1.length=x.1.length/x.2*x.2/\x.1.length/x.2<=9223372036854775807/\x.1.all (TV.ok (eE .own [0,0,1,1]).T.length)=true:=by
  intro y hy;have:y=([.s 1,.s 2,.s 3],1)\/y=([0,0,0,1].map tv,1)\/y=([0,0,1,1].map tv,1)\/y=([0,1,1,1].map tv,1)\/y=(dS++dS++dS,16):=by simpa [eE] using hy
  rcases this with rfl|rfl|rfl|rfl|rfl<;>decide
 exact h x hx
def Ao{args:WB Vs}{m m':V7}{v:Vs}(h:wm args m=some (v,m'))(pr:Bool){j:aJ}{w:Vw}{args':WB Vs}(hm:MR mX j m w)(hl:LR j args args'):dN Tryz.prog pr 66 args'.toArray w (fy mX j m w v m'):=by
 have key:∀(tag:Tag) (p:WB Int),((eE tag p).A.all fun x=>x.1.all (SV.ok 4))=true->rq (eE tag p)=true->(eE tag p).run 1 gP args m=some (v,m')->dN Tryz.prog pr 66 args'.toArray w (fy mX j m w v m'):=fun tag p h0 h1 h2 =>
  Case.IB (E:=mX) (gs:=fw) (tabB:=gP) (fun m ht=>s6 ht) (Ha tag p) (by show([.s 0,.s 4,.v (iv 0)]:WB TV).all (TV.ok 5)=true; decide) (by show([.agg [.v (iv 4),.s 1 3],.agg [.s 2 4,.v (iv 1),.v (iv 3),.v (iv 2)],.one (.s 3 4)]:WB AV).all (AV.ok 4)=true; decide) h0 (QZ h1) h2 pr hm hl
 unfold wm at h;simp only[Option.or_eq_some_iff] at h;rcases h with h|⟨_,h|⟨_,h|⟨_,h⟩⟩⟩
 exact key _ _ (by decide) zx h
 exact key _ _ (by decide) yv h
 exact key _ _ (by decide) AD h
 exact key _ _ (by decide) zt h
end
end Go.Proofs.YtpkadoocdgdcfaaGreatDoor
namespace Go.Ab
open Go
end Go.Ab
namespace Go.Proofs.YtpkadoocdgdcfaaGreatDoor
section
open Go Go.Ab Go.Ab.W
variable{p q pz:WA Prim}
def Ew(_:Nat)(x y c:Nat):WA (Nat×Nat):=gd (decide (c<=1)) (some ((x+y+c)%18446744073709551616,(x+y+c)/18446744073709551616))
def Ji(_:Nat)(x y c:Nat):WA (Nat×Nat):=gd (decide (c<=1)) (some ((x+18446744073709551616-y-c)%18446744073709551616,if x<y+c then 1 else 0))
def vO{V:Nat->Nat->Nat->Vs}{x y c:Nat}(hc:c<=1)(m:V7):dJ V [.int .u64 ((x:Nat):Int),.int .u64 ((y:Nat):Int),.int .u64 ((c:Nat):Int)] m=some (V x y c,m):=by
 show(if Nat.ble c 1 then some (V x y c,m) else none)=_
 rw[TK hc]; rfl
def xd(n:Nat)(x y c:Nat)(r:Nat×Nat)(hF:Ew n x y c=some r)(m:V7) :
  aB (dm p q pz) 234 [.int .u64 ((x:Nat):Int),.int .u64 ((y:Nat):Int),.int .u64 ((c:Nat):Int)] m (fun v m'=>∃_:WC,v=.tuple #[.int .u64 ((r.1:Nat):Int),.int .u64 ((r.2:Nat):Int)]/\Hp m m' []):=by
 obtain⟨hc,hF⟩:=ax hF;have hr:=S3 hF;subst hr;exact aB.cQ (p:=⟨dJ xf⟩) rfl (vO (of_decide_eq_true hc) m) ⟨(),rfl,.start m⟩
def Cz(n:Nat)(x y c:Nat)(r:Nat×Nat)(hF:Ji n x y c=some r)(m:V7) :
  aB (dm p q pz) 251 [.int .u64 ((x:Nat):Int),.int .u64 ((y:Nat):Int),.int .u64 ((c:Nat):Int)] m (fun v m'=>∃_:WC,v=.tuple #[.int .u64 ((r.1:Nat):Int),.int .u64 ((r.2:Nat):Int)]/\Hp m m' []):=by
 obtain⟨hc,hF⟩:=ax hF;have hr:=S3 hF;subst hr;exact aB.cQ (p:=⟨dJ uk⟩) rfl (vO (of_decide_eq_true hc) m) ⟨(),by
  show uk x y c=_
  unfold uk
  split<;>rfl,.start m⟩
end
end Go.Proofs.YtpkadoocdgdcfaaGreatDoor
namespace Go.Ab.W
open Go Go.Ab
def qv.RK{α:Type}{m0:V7}{ps:WB Pc}{r:Rep α}{z:α}{g:r.G}{S:Vr}(h:Lf m0 ps r z g S)(k:Nat):qv m0 ps r (List.replicate k z) (List.replicate k (r.V z g)) S:=by
 have:=qv.rep h k;rwa[List.map_id'] at this
end Go.Ab.W
namespace Go.Proofs.YtpkadoocdgdcfaaGreatDoor
open Go Go.Ab Go.Ab.W
set_option maxRecDepth 10000
set_option maxHeartbeats 4000000
attribute [local irreducible] Tm.at Trie.set Trie.get V7.get V7.set V7.alloc V7.ww V7.kill
variable{p q pz:WA Prim}
def PI{P:Vv}{ty e l c l' c':Nat}(hu:P.underlying ty=some (.slice e)):bf .eql ty P (.slice none l c) (.slice none l' c')=some (.bool true):=by
 simp only[bf,Op.maxDepth,kX,hu,SZ,Option.isNone_none]
def Pu{P:Vv}{ty e l c l' c':Nat}{A:Addr}(hu:P.underlying ty=some (.slice e)):bf .eql ty P (.slice (some A) l c) (.slice none l' c')=some (.bool false):=by
 simp only[bf,Op.maxDepth,kX,hu,SZ]
def Rd.JS{m:V7}{cap w n:Nat}{es:Vp}(h:Rd m none cap w n es):n=0:=by
 rcases h.2.2 with⟨_,h⟩|⟨_,_,h,_⟩|⟨_,_,h,_⟩
 exact h
 cases h
 cases h
def Gl(m:V7):Prop:=m.get 0=some (.cells (kK.map (.int .u8)) .ro)/\0<m.next
def Gl.ext{m m':V7}(h:Gl m)(e:Ext m m'):Gl m':=⟨by rw[e.same 0 h.2]; exact h.1,SY h.2 e.next⟩
def Oq:(dm p q pz).P.underlying 72=some (.slice 68):=by kernel_rfl
def MP:SlT (dm p q pz).P 72 68 16:=SlT.of (by kernel_rfl)
def R2:bK (dm p q pz).P 68=some (.agg #[.int .u64 0,.int .u64 0,.int .u64 0,.int .u64 0,.int .u64 0,.int .u64 0,.int .u64 0,.int .u64 0,.int .u64 0,.int .u64 0,.int .u64 0,.int .u64 0,.int .u64 0,.int .u64 0,.int .u64 0,.int .u64 0]):=by kernel_rfl
def JN(n:Nat)(es:Vp)(a:Vq)(c:Nat)(hl:lim n=true)(hw:∀e∈es,e.length=16)(ho:fG es)(m:V7)(h:Rd m a c 16 n es):aB (dm p q pz) 55 [.slice a n c] m (fun v m'=>∃x:Vq,v=.slice x n n/\Hp m m' [.sl x 16 n es]):=by
 cases a with
 | none =>
  have h0:=Rd.JS h;subst h0;have:es=[]:=Ux.1 h.1;subst this;refine hJ (m0:=m) (ps:=[]) (N:=8) (rs:=[.tmp 2]) rfl Tryz.func55 rfl rfl rfl (VG m) ?_;refine VC ?_;refine VE ?_;refine VB (cZ rfl) rfl ?_;refine VL ?_;refine VI ?_;refine VC ?_;refine VC ?_;refine VE ?_;refine VB (aW rfl) rfl ?_;refine VB (aN rfl rfl (PI Oq)) rfl ?_;refine VL ?_;refine VI ?_;refine V0 rfl rfl ?_;refine VC ?_;refine VE ?_;refine VB (cZ rfl) rfl ?_;refine VL ?_;refine VI ?_;refine Wk.ret ?_;refine At.tr ?_;exact VH (.tmp rfl .nil) fun m' hm=>⟨none,rfl,(ai.nil 16 rfl) m' hm⟩
 | some A =>
  refine hJ (m0:=m) (ps:=[.rd (some A) c 16 n es]) (N:=8) (rs:=[.tmp 2]) rfl Tryz.func55 rfl rfl rfl ((VG m).cr bS h) ?_;refine VC ?_;refine VE ?_;refine VB (cZ rfl) rfl ?_;refine VL ?_;refine VI ?_;refine VC ?_;refine VC ?_;refine VE ?_;refine VB (aW rfl) rfl ?_;refine VB (aN rfl rfl (Pu Oq)) rfl ?_;refine VL ?_;refine VI ?_;refine Wk.lE rfl rfl ?_;refine Wk.skip ?_;refine VI ?_;refine VC ?_;refine VE ?_;refine VN (gy (es:=[]) MP rfl (gB MP R2 rfl rfl) rfl rfl) gn rfl fun b=>?_;refine VB (aW rfl) rfl ?_;refine VU (ai.close (k:=0) rfl) ?_;refine VN (Qy (k:=0) (k2:=1) (n:=0) (es:=[]) (es2:=es) MP ⟨_,Oq⟩ rfl rfl rfl (.rd _ _ _ _ _) hw ho (by rw[TM]; exact hl)) gn rfl fun a2=>?_
  refine VB (cZ rfl) rfl ?_;refine VL ?_;refine VI ?_;refine Wk.ret ?_;exact VH (.tmp rfl .nil) fun m' hm=>⟨a2,by show Value.slice a2 (0+n) (0+n)=_; rw[TM],by
   have:=(ai.au [0] rfl rfl) m' hm;rwa[TM] at this⟩
def RJ(_:Nat)(l:WB WQ):WA (WB WQ):=gd (lim l.length) (some l)
def Nn(n:Nat)(l:WB WQ)(a:Vq)(c:Nat)(r:WB WQ)(hF:RJ n l=some r)(m:V7)(h:Rd m a c 16 l.length (l.map (eP (eN .u64) (eP (eN .u64) (eP (eN .u64) (eP (eN .u64) (eP (eN .u64) (eP (eN .u64) (eP (eN .u64) (eP (eN .u64) (eP (eN .u64) (eP (eN .u64) (eP (eN .u64) (eP (eN .u64) (eP (eN .u64) (eP (eN .u64) (eP (eN .u64) (eN .u64)))))))))))))))))):aB (dm p q pz) 55 [.slice a l.length c] m (fun v m'=>∃x:Vq×Nat,v=.slice x.1 x.2 x.2/\Hp m m' [.sl x.1 16 x.2 (r.map (eP (eN .u64) (eP (eN .u64) (eP (eN .u64) (eP (eN .u64) (eP (eN .u64) (eP (eN .u64) (eP (eN .u64) (eP (eN .u64) (eP (eN .u64) (eP (eN .u64) (eP (eN .u64) (eP (eN .u64) (eP (eN .u64) (eP (eN .u64) (eP (eN .u64) (eN .u64)))))))))))))))))]):=by
 obtain⟨hl,hF⟩:=ax hF;cases hF;exact(JN l.length (l.map (eP (eN .u64) (eP (eN .u64) (eP (eN .u64) (eP (eN .u64) (eP (eN .u64) (eP (eN .u64) (eP (eN .u64) (eP (eN .u64) (eP (eN .u64) (eP (eN .u64) (eP (eN .u64) (eP (eN .u64) (eP (eN .u64) (eP (eN .u64) (eP (eN .u64) (eN .u64))))))))))))))))) a c hl ((dc (cz .u64) (dc (cz .u64) (dc (cz .u64) (dc (cz .u64) (dc (cz .u64) (dc (cz .u64) (dc (cz .u64) (dc (cz .u64) (dc (cz .u64) (dc (cz .u64) (dc (cz .u64) (dc (cz .u64) (dc (cz .u64) (dc (cz .u64) (dc (cz .u64) (cz .u64)))))))))))))))).qZ l) ((dc (cz .u64) (dc (cz .u64) (dc (cz .u64) (dc (cz .u64) (dc (cz .u64) (dc (cz .u64) (dc (cz .u64) (dc (cz .u64) (dc (cz .u64) (dc (cz .u64) (dc (cz .u64) (dc (cz .u64) (dc (cz .u64) (dc (cz .u64) (dc (cz .u64) (cz .u64)))))))))))))))).fG l) m h).mono fun v m' ⟨x,h1,h2⟩=>⟨(x,l.length),h1,h2⟩
def RP(_:Nat):WA Bool:=some true
end Go.Proofs.YtpkadoocdgdcfaaGreatDoor
namespace Go.Ab.W
open Go Go.Ab
attribute [local irreducible] Tm.at Trie.set Trie.get V7.get V7.set V7.alloc V7.ww V7.kill
end Go.Ab.W
namespace Go.Ab
open Go
attribute [local irreducible] Tm.at Trie.set Trie.get V7.get V7.set V7.alloc V7.ww V7.kill
def A9(ns:WB Int):ByteArray:=ns.foldl (fun r n=>r.push (UInt8.ofNat n.toNat)) ByteArray.empty
section
variable{E:Env}{n:Nat}{ops:WD Oper}{K:Tm->V7->Prop}{t:Tm}{m:V7}
def Ib{j:aJ}{w:Vw}(h:MR E j m w){s d e:Vt}(hs:E.P.underlying s=some (.slice e))(he:E.P.underlying e=some (.int .u8))(hd:E.P.underlying d=some .string){a:Vq}{len cap:Nat}{ns:WB Int}(hc:cd 1 (.slice a len cap) len m=some (ns.map (Value.int .u8))){x':Vs}(hx:VR j (.slice a len cap) x') :
  (convert s d x').run E.P w=.ok (.string (A9 ns)) w:=by
 obtain⟨new',h1,h2⟩:=xl h hc hx;have hnew:new'=ns.map (Value.int .u8):=LR.CS (by rw[List.all_map]; exact Tk.2 fun _ _=>rfl) h2
 subst hnew;have h3:=h1 w rfl;have key:∀(a':Addr) (cap':Nat),x'=.slice (some a') len cap'->(convert s d x').run E.P w=.ok (.string (A9 ns)) w:=fun a' cap' e'=>by
  subst e';rw[run_convert_bytes_string w s d e (some a') len cap' hs he hd];refine run_bytesToString w a' len cap' ns ?_;have:(Builtin.firstCells 1 len (.slice (some a') len cap')).run E.P w=(loadCells a' (len*1)).run E.P w:=rfl;rw[this,U9] at h3;exact h3
 cases hx with
 | snil l c =>
  rw[run_convert_bytes_string w s d e none len cap hs he hd];have hz:ns=[]:=by
   simp only[cd] at hc
   split at hc
   ·cases ns with
    | nil=>rfl
    | cons a l=>cases hc
   cases hc
  subst hz
  rfl
 | slice _ _=>exact key _ _ rfl
 | sliceM _ _ _ _ _ _=>exact key _ _ rfl
 | gG=>exact key _ _ rfl
 | dry=>exact key _ _ rfl
def fa.str{o:Oper}{os:WB Oper}{s d e:Vt}{x:Vu}{a:Vq}{len cap:Nat}{ns:WB Int}(hw:aU ops o t=true)(hop:o.op=.convert s d x)(hs:E.P.underlying s=some (.slice e))(he:E.P.underlying e=some (.int .u8))(hd:E.P.underlying d=some .string)(hx:an E t x=some (.slice a len cap))(hc:cd 1 (.slice a len cap) len m=some (ns.map (Value.int .u8)))
  (hk:∃t',gb n t o.dst (.string (A9 ns))=some t'/\fa E n ops K os t' m):fa E n ops K (o::os) t m:=fun i F j0 m0 w0 ds Q j w a' hF h0 hd' s' ht hds hQ=>by
 obtain⟨ho,hd2,hidx⟩:=mD hd';obtain⟨t',hp,hk⟩:=hk;rw[hidx];simp only[wpOpsIn,ho,jA ht];rw[S7 hw];have hrun:=Ib s'.mr hs he hd hc (aH s'.mr ht hx);have hex:execOp a'.eval o=(do pure (.value (<-convert s d (a'.eval x)))):=by simp only[execOp,hop]
 refine cL hF (fun c e=>by rw[hop] at e; cases e) (v:=.string (A9 ns)) (w':=w) (by rw[hex]; exact jY.value hrun) ?_
 exact hk (i+1) F j0 m0 w0 ds Q j w _ hF h0 hd2 s' (ht.put (.string _) hp) (by cases hds':o.dst<;>simp[Act.put,hds]) hQ
namespace W
section
variable{m0:V7}{fs:Fs}{ps:WB Pc}{os:WB Oper}
def Vn.str{s d e q:Vt}{x:Vu}{a:Vq}{len cap:Nat}{ns:WB Int}{ty:Vt}{p:String}{af:WD Edge}(hs:E.P.underlying s=some (.slice e))(he:E.P.underlying e=some (.int .u8))(hd:E.P.underlying d=some .string)(hx:ev E fs x=some (.slice a len cap))(hc:∀m,Hp m0 m ps->cd 1 (.slice a len cap) len m=some (ns.map (Value.int .u8)))(hq:Nat.blt q n=true)
  (k:Vn E n ops K os m0 ((q,.string (A9 ns))::fs) ps):Vn E n ops K (⟨some q,.convert s d x,ty,p,af,none⟩::os) m0 fs ps:=fun t m hfr hm=>by
 have hq':q<n:=by rwa[UI] at hq
 refine fa.str rfl rfl hs he hd (hfr.ev hx) (hc m hm) ⟨_,by rw[cD,S7 hq'],k _ m hfr.set hm⟩
end
end W
end
end Go.Ab
namespace Go.Ab.W
open Go Go.Ab
class TyC (P:Vv) (ty:Vt) (ag:outParam Bool) (sz:outParam Nat):Prop where
 t:TyI P ty ag sz
class FaC (P:Vv) (ty:Vt) (f:Nat) (off:outParam Nat):Prop where
 t:∀b o:Nat,aM P ty (ptr b o) f=some (ptr b (o+off))
class SlC (P:Vv) (ty:Vt) (el:outParam Vt) (w:outParam Nat):Prop where
 t:SlT P ty el w
class ArC (P:Vv) (ty:Vt) (el:outParam Vt) (len w:outParam Nat):Prop where
 t:ArT P ty el len w
class UsC (P:Vv) (ty:Vt) (el:outParam Vt):Prop where
 t:P.underlying ty=some (.slice el)
section
variable{E:Env}{n:Nat}{m0:V7}{fs:Fs}{ps ps':WB Pc}{ops:WD Oper}{os:WB Oper}{K:Tm->V7->Prop}{dr:Bool}
variable{ty:Vt}{p:String}{af:WD Edge}{d:WA Nat}{o:Op}{g:WA (Nat×Bool)}{v:Vs}
def Wo.Sn{j:Nat}{b:Bool}(hg:sD ops fs (some (j,b)) true)(k:Wo dr E n ops K (⟨d,o,ty,p,af,none⟩::os) m0 fs ps):Wo dr E n ops K (⟨d,o,ty,p,af,some (j,b)⟩::os) m0 fs ps:=by
 cases dr with
 | false =>
  intro t m hf hm;have h:=k t m hf hm;simp only[pt,hg t _ _ _ _ _ hf,if_true];simp only[pt,gn t _ _ _ _ _ hf,if_true] at h;exact h
 | true =>
  intro t m w hf hm hw;have h:=k t m w hf hm hw;simp only[iN,hg t _ _ _ _ _ hf,if_true];simp only[iN,gn t _ _ _ _ _ hf,if_true] at h;exact h
end
section
variable{k:IntKind}{P:Vv}{ty:Vt}
def O4(_:k.signed=true)(a b:Int):bf .add ty P (.int k a) (.int k b)=some (.int k (k.wrap (a+b))):=dy _ _ _
def NL(_:k.signed=true)(a b:Int):bf .sub ty P (.int k a) (.int k b)=some (.int k (k.wrap (a-b))):=jn _ _ _
def OM(_:k.signed=true)(a b:Int):bf .lss ty P (.int k a) (.int k b)=some (.bool (decide (a<b))):=gZ _ _ _
def N4(_:k.signed=true)(a b:Int):bf .leq ty P (.int k a) (.int k b)=some (.bool (decide (a<=b))):=ra _ _ _
def OK(_:k.signed=true)(a b:Int):bf .gtr ty P (.int k a) (.int k b)=some (.bool (decide (b<a))):=wZ _ _ _
def OW(_:k.signed=true)(a b:Int):bf .geq ty P (.int k a) (.int k b)=some (.bool (decide (b<=a))):=wW _ _ _
def Nq(_:k.signed=true)(a b:Int):bf .eql ty P (.int k a) (.int k b)=some (.bool (decide (a=b))):=oV _ _ _
def Oh(_:k.signed=true)(a b:Int):bf .neq ty P (.int k a) (.int k b)=some (.bool (!decide (a=b))):=Jx _ _
def Nr(_:k.signed=false)(a b:Nat):bf .lss ty P (.int k (a:Int)) (.int k (b:Int))=some (.bool (decide (a<b))):=MH _ _
def NK(_:k.signed=false)(a b:Nat):bf .leq ty P (.int k (a:Int)) (.int k (b:Int))=some (.bool (decide (a<=b))):=MN _ _
def N3(_:k.signed=false)(a b:Nat):bf .gtr ty P (.int k (a:Int)) (.int k (b:Int))=some (.bool (decide (b<a))):=Nh _ _
def N0(_:k.signed=false)(a b:Nat):bf .geq ty P (.int k (a:Int)) (.int k (b:Int))=some (.bool (decide (b<=a))):=OY _ _
def Oi(_:k.signed=false)(a b:Nat):bf .eql ty P (.int k (a:Int)) (.int k (b:Int))=some (.bool (decide (a=b))):=ML _ _
def No(_:k.signed=false)(a b:Nat):bf .neq ty P (.int k (a:Int)) (.int k (b:Int))=some (.bool (!decide (a=b))):=OD _ _
end
section
variable{E:Env}{n:Nat}{m0:V7}{fs:Fs}{ps ps':WB Pc}{ops:WD Oper}{os:WB Oper}{K:Tm->V7->Prop}{dr:Bool}
variable{ty ty' oty:Vt}{p:String}{af:WD Edge}{d:Nat}{dd:WA Nat}{o:Op}{a b r v:Vs}{x y c:Vu}
def Wo.kN(k:Wo dr E n ops K (⟨dd,o,ty,p,af,none⟩::os) m0 fs ps):Wo dr E n ops K (⟨dd,o,ty,p,af,none⟩::os) m0 fs ps:=k
def Wo.kG{g:Nat×Bool}(k:Wo dr E n ops K (⟨dd,o,ty,p,af,some g⟩::os) m0 fs ps):Wo dr E n ops K (⟨dd,o,ty,p,af,some g⟩::os) m0 fs ps:=k
def Has(ps:WB Pc)(q:Pc):Prop:=∃k,pk ps k=some q
def Has.z{q:Pc}:Has (q::ps) q:=⟨0,rfl⟩
def Has.s{q q':Pc}(h:Has ps q):Has (q'::ps) q:=by obtain⟨k,h⟩:=h; exact⟨k+1,h⟩
def Wo.SA(h:ev E fs x=some v)(hd:Nat.blt d n=true)(k:Wo dr E n ops K os m0 ((d,v)::fs) ps):Wo dr E n ops K (⟨some d,.move x,ty,p,af,none⟩::os) m0 fs ps:=VB (aW h) hd k
def Wo.SR(h:ev E fs x=some v)(hd:Nat.blt d n=true)(k:Wo dr E n ops K os m0 ((d,v)::fs) ps):Wo dr E n ops K (⟨some d,.assign x,ty,p,af,none⟩::os) m0 fs ps:=VB (cZ h) hd k
def Wo.SB{op:BinOp}(h:ev E fs x=some a)(h':ev E fs y=some b)(hr:bf op oty E.P a b=some r)(hd:Nat.blt d n=true)(k:Wo dr E n ops K os m0 ((d,r)::fs) ps):Wo dr E n ops K (⟨some d,.binOp op oty x y ty',ty,p,af,none⟩::os) m0 fs ps:=VB (aN h h' hr) hd k
def Wo.SN{f:Nat}(h:ev E fs x=some a)(hr:aM E.P oty a f=some r)(hd:Nat.blt d n=true)(k:Wo dr E n ops K os m0 ((d,r)::fs) ps):Wo dr E n ops K (⟨some d,.fieldAddr oty x f,ty,p,af,none⟩::os) m0 fs ps:=VB (bN h hr) hd k
def Wo.SP{ag:Bool}{sz b o:Nat}{cs:WB Vs}{tg:Tag}(ht:TyI E.P oty ag sz)(hx:ev E fs x=some (ptr b o))(hp:Has ps (.obj b (.cells cs tg)))(hv:yw ag sz cs o=some v)(hd:Nat.blt d n=true)(k:Wo dr E n ops K os m0 ((d,v)::fs) ps):Wo dr E n ops K (⟨some d,.load oty x,ty,p,af,none⟩::os) m0 fs ps:=by
 obtain⟨q,hp⟩:=hp;exact VB (bh ht hx hp hv) hd k
def Wo.Ri{ag:Bool}{sz b o w j c l:Nat}{es:Vp}{e:WB Vs}(ht:TyI E.P oty ag sz)(hx:ev E fs x=some (ptr b (o+j*w+c)))(hp:Has ps (.ro b o w l es))(he:es[j]? = some e)(hv:yw ag sz e c=some v)(hs:xO ag sz c w=true)(hd:Nat.blt d n=true)(k:Wo dr E n ops K os m0 ((d,v)::fs) ps):Wo dr E n ops K (⟨some d,.load oty x,ty,p,af,none⟩::os) m0 fs ps:=by
 obtain⟨q,hp⟩:=hp;exact VB (vK ht hx hp he hv hs) hd k
def Wo.R3{ag:Bool}{sz b w j c l:Nat}{es:Vp}{e:WB Vs}{tg:Tag}(ht:TyI E.P oty ag sz)(hx:ev E fs x=some (ptr b (j*w+c)))(hp:Has ps (.arr b w l es tg))(he:es[j]? = some e)(hv:yw ag sz e c=some v)(hs:xO ag sz c w=true)(hd:Nat.blt d n=true)(k:Wo dr E n ops K os m0 ((d,v)::fs) ps):Wo dr E n ops K (⟨some d,.load oty x,ty,p,af,none⟩::os) m0 fs ps:=by
 obtain⟨q,hp⟩:=hp;exact VB (Ap ht hx hp he hv hs) hd k
def Gq(ps:WB Pc)(q q':Pc)(ps':WB Pc):Prop:=∃k,pk ps k=some q/\da ps k q'=ps'
def Gq.z{q q':Pc}:Gq (q::ps) q q' (q'::ps):=⟨0,rfl,rfl⟩
def Gq.s{q q' r:Pc}(h:Gq ps q q' ps'):Gq (r::ps) q q' (r::ps'):=by obtain⟨k,h,h'⟩:=h; exact⟨k+1,h,by rw[<-h']; rfl⟩
def Wo.SE{ag:Bool}{sz b o:Nat}{cs cs':WB Vs}{tg:Tag}(ht:TyI E.P oty ag sz)(hx:ev E fs x=some (ptr b o))(hy:ev E fs y=some v)(hp:Gq ps (.obj b (.cells cs tg)) (.obj b (.cells cs' tg)) ps')(htg:C7 tg=true)(hv:KG cs o v sz=some cs')(k:Wo dr E n ops K os m0 fs ps'):Wo dr E n ops K (⟨none,.store oty x y,ty,p,af,none⟩::os) m0 fs ps:=by
 obtain⟨q,hp,rfl⟩:=hp;exact VV (eo ht hx hy hp htg hv) k
def Wo.SD{b:Bool}(hc:ev E fs c=some (.bool b))(hb:b=true)(h:ev E fs x=some v)(hd:Nat.blt d n=true)(k:Wo dr E n ops K os m0 ((d,v)::fs) ps):Wo dr E n ops K (⟨some d,.pick c x y,ty,p,af,none⟩::os) m0 fs ps:=VB (Pz hc hb h) hd k
def Wo.Sp{b:Bool}(hc:ev E fs c=some (.bool b))(hb:b=false)(h:ev E fs y=some v)(hd:Nat.blt d n=true)(k:Wo dr E n ops K os m0 ((d,v)::fs) ps):Wo dr E n ops K (⟨some d,.pick c x y,ty,p,af,none⟩::os) m0 fs ps:=VB (Pn hc hb h) hd k
def Wo.Sq(hc:ev E fs c=some (.bool true))(h:ev E fs x=some v)(hd:Nat.blt d n=true)(k:Wo dr E n ops K os m0 ((d,v)::fs) ps):Wo dr E n ops K (⟨some d,.pick c x y,ty,p,af,none⟩::os) m0 fs ps:=VB (PW hc h) hd k
def Wo.SM(hc:ev E fs c=some (.bool false))(h:ev E fs y=some v)(hd:Nat.blt d n=true)(k:Wo dr E n ops K os m0 ((d,v)::fs) ps):Wo dr E n ops K (⟨some d,.pick c x y,ty,p,af,none⟩::os) m0 fs ps:=VB (Qt hc h) hd k
def Wo.Sv{i:Nat}{vs:WD Vs}(h:ev E fs x=some (.tuple vs))(hr:vs[i]? = some r)(hd:Nat.blt d n=true)(k:Wo dr E n ops K os m0 ((d,r)::fs) ps):Wo dr E n ops K (⟨some d,.extract x i,ty,p,af,none⟩::os) m0 fs ps:=VB (O1 h hr) hd k
def Wo.Su{b:Bool}(h:ev E fs x=some (.bool b))(hd:Nat.blt d n=true)(k:Wo dr E n ops K os m0 ((d,.bool (!b))::fs) ps):Wo dr E n ops K (⟨some d,.unOp .not oty x,ty,p,af,none⟩::os) m0 fs ps:=VB (JL h rfl) hd k
def Wo.Ss{el:Vt}{len w b o i:Nat}{kd:IntKind}(ht:ArT E.P oty el len w)(h:ev E fs x=some (ptr b o))(h':ev E fs y=some (.int kd (i:Int)))(hi:i<len)(hd:Nat.blt d n=true)(k:Wo dr E n ops K os m0 ((d,ptr b (o+i*w))::fs) ps):Wo dr E n ops K (⟨some d,.indexAddr oty x y,ty,p,af,none⟩::os) m0 fs ps:=VB (Nx h h' (P2 ht hi)) hd k
def Wo.RN{elem:Vt}{b o w l cap:Nat}{i:Int}{kd:IntKind}(ht:SlT E.P oty elem w)(hx:ev E fs x=some (.slice (some ⟨b,o,none⟩) l cap))(hy:ev E fs y=some (.int kd i))(hi:0<=i/\i.toNat<l)(hd:Nat.blt d n=true)(k:Wo dr E n ops K os m0 ((d,ptr b (o+i.toNat*w+0))::fs) ps):Wo dr E n ops K (⟨some d,.indexAddr oty x y,ty,p,af,none⟩::os) m0 fs ps:=VB (oa ht hx hy hi) hd k
def Wo.RU{elem:Vt}{b w l cap:Nat}{i:Int}{kd:IntKind}(ht:SlT E.P oty elem w)(hx:ev E fs x=some (.slice (some ⟨b,0,none⟩) l cap))(hy:ev E fs y=some (.int kd i))(hi:0<=i/\i.toNat<l)(hd:Nat.blt d n=true)(k:Wo dr E n ops K os m0 ((d,ptr b (i.toNat*w+0))::fs) ps):Wo dr E n ops K (⟨some d,.indexAddr oty x y,ty,p,af,none⟩::os) m0 fs ps:=VB (pd ht hx hy hi) hd k
def yL(ps:WB Pc)(a:Vq):Prop:=∃k q,pk ps k=some q/\(dx a=q.qQ\/a=none)
def yL.z{q:Pc}{a:Vq}(h:dx a=q.qQ):yL (q::ps) a:=⟨0,q,rfl,.inl h⟩
def yL.s{q:Pc}{a:Vq}(h:yL ps a):yL (q::ps) a:=by obtain⟨k,r,h⟩:=h; exact⟨k+1,r,h⟩
def Wo.SH{l cap:Nat}{a:Vq}{ars:WD Vu}{elem:Vt}(hu:E.P.underlying oty=some (.slice elem))(ha:kP E fs ars.toList=some [.slice a l cap])(hp:yL ps a)(hd:Nat.blt d n=true)(k:Wo dr E n ops K os m0 ((d,.int .i64 (l:Int))::fs) ps):Wo dr E n ops K (⟨some d,.call ⟨.builtin .len,ars,#[oty]⟩,ty,p,af,none⟩::os) m0 fs ps:=by
 obtain⟨_,_,hp,hb⟩:=hp;exact VB (rQ hu ha hp hb) hd k
def Wo.zT{j:Nat}{q:Bool}(hd:(ops[j]?).bind (·.dst)=some d)(h:lk fs d=some (.bool q))(hq:q=true)(k:Wo dr E n ops K (⟨dd,o,ty,p,af,none⟩::os) m0 fs ps):Wo dr E n ops K (⟨dd,o,ty,p,af,some (j,true)⟩::os) m0 fs ps:=Wo.Sn (gg hd h (Lq hq)) k
def Wo.zF{j:Nat}{q:Bool}(hd:(ops[j]?).bind (·.dst)=some d)(h:lk fs d=some (.bool q))(hq:q=false)(k:Wo dr E n ops K (⟨dd,o,ty,p,af,none⟩::os) m0 fs ps):Wo dr E n ops K (⟨dd,o,ty,p,af,some (j,false)⟩::os) m0 fs ps:=Wo.Sn (gg hd h (sj hq)) k
def Wo.St{j d':Nat}{q:Bool}(hd:(ops[j]?).bind (·.dst)=some d')(h:lk fs d'=some (.bool q))(hq:q=false)(hd':Nat.blt d n=true)(k:Wo dr E n ops K os m0 ((d,undef)::fs) ps):Wo dr E n ops K (⟨some d,o,ty,p,af,some (j,true)⟩::os) m0 fs ps:=Wo.s (gg hd h (SK hq)) hd' k
def Wo.SQ{j d':Nat}{q:Bool}(hd:(ops[j]?).bind (·.dst)=some d')(h:lk fs d'=some (.bool q))(hq:q=true)(hd':Nat.blt d n=true)(k:Wo dr E n ops K os m0 ((d,undef)::fs) ps):Wo dr E n ops K (⟨some d,o,ty,p,af,some (j,false)⟩::os) m0 fs ps:=Wo.s (gg hd h (LG hq)) hd' k
def Wo.Sw{j d':Nat}{q:Bool}(hd:(ops[j]?).bind (·.dst)=some d')(h:lk fs d'=some undef)(hd':Nat.blt d n=true)(k:Wo dr E n ops K os m0 ((d,undef)::fs) ps):Wo dr E n ops K (⟨some d,o,ty,p,af,some (j,q)⟩::os) m0 fs ps:=Wo.s (gu hd h) hd' k
end
structure Bx(Q:Prop):Prop where
 v:Q
def wz{P Q:Prop}(k:Q)(h:Bx Q->P:=by
  intro h
  repeat first
   | refine VC ?_
   | refine VE ?_
   |(apply V0; exact rfl; first|assumption|exact rfl)
   |(apply Wk.lE; exact rfl; first|assumption|exact rfl)
   | refine Wk.skip ?_
   | refine Wk.ret ?_
   | refine Wk.exit ?_
   | refine VF ?_
   |(apply Wk.draw; kernel_rfl)
  repeat first
   |((first|refine Wo.kN ?_ |(refine Wo.kG ?_; first |(apply Wo.zT; exact rfl; exact rfl; first|assumption|with_reducible exact rfl) |(apply Wo.zF; exact rfl; exact rfl; first|assumption|with_reducible exact rfl))); first
    |(apply Wo.SA; exact rfl; exact rfl)
    |(apply Wo.SR; exact rfl; exact rfl)
    |(apply Wo.SB; exact rfl; exact rfl;(first |(apply O4; exact rfl) |(apply OM; exact rfl) |(apply NL; exact rfl) |(apply Nq; exact rfl) |(apply Oh; exact rfl) |(apply OW; exact rfl) |(apply OK; exact rfl) |(apply N4; exact rfl) |(apply Oi; exact rfl) |(apply No; exact rfl) |(apply Nr; exact rfl) |(apply NK; exact rfl) |(apply N0; exact rfl) |(apply N3; exact rfl) |(apply Jg; exact rfl) |(apply DD; exact rfl) |(apply B9; exact rfl) |(apply wj; exact rfl) |(apply ub_andn; exact rfl)); exact rfl)
    |(apply Wo.SN; exact rfl; exact FaC.t _ _; exact rfl)
    |(apply Wo.SP; exact TyC.t; exact rfl;(repeat first|exact Has.z|refine Has.s ?_); exact rfl; exact rfl)
    |(apply Wo.Ri; exact TyC.t; exact rfl;(repeat first|exact Has.z|refine Has.s ?_); exact gK (by assumption); exact rfl; exact rfl; exact rfl)
    |(apply Wo.R3; exact TyC.t; exact rfl;(repeat first|exact Has.z|refine Has.s ?_); exact gK (by assumption); exact rfl; exact rfl; exact rfl)
    |(apply Wo.SE; exact TyC.t; exact rfl; exact rfl;(repeat first|exact Gq.z|apply Gq.s); exact rfl; exact rfl)
    |(apply Wo.SD; exact rfl; assumption; exact rfl; exact rfl)
    |(apply Wo.Sp; exact rfl; assumption; exact rfl; exact rfl)
    |(apply Wo.Sq; exact rfl; exact rfl; exact rfl)
    |(apply Wo.SM; exact rfl; exact rfl; exact rfl)
    |(apply Wo.Sv; exact rfl; exact rfl; exact rfl)
    |(apply Wo.Su; exact rfl; exact rfl)
    |(apply Wo.Ss; exact ArC.t; exact rfl; exact rfl; decide; exact rfl)
    |(apply Wo.RU; exact SlC.t; exact rfl; exact rfl; assumption; exact rfl)
    |(apply Wo.RN; exact SlC.t; exact rfl; exact rfl; assumption; exact rfl)
    |(apply Wo.SH; exact UsC.t; exact rfl;(repeat first|exact yL.z rfl|refine yL.s ?_); exact rfl))
   |(refine Wo.kG ?_; first
    |(apply Wo.St; exact rfl; exact rfl;(first|assumption|with_reducible exact rfl); exact rfl)
    |(apply Wo.SQ; exact rfl; exact rfl;(first|assumption|with_reducible exact rfl); exact rfl)
    |(apply Wo.Sw; exact rfl; exact rfl; exact rfl))
  try refine VL ?_
  repeat first
   | refine VI ?_
   | refine At.te ?_
   | refine At.tr ?_
   | refine At.bn ?_
   | refine At.be ?_
   | refine At.br ?_
   | refine At.bx rfl ?_
  exact h.v):P:=h ⟨k⟩
def az{P Q:Prop}(k:Q)(h:Bx Q->P:=by intro h; refine wz ?_; refine wz ?_; exact h.v):P:=h ⟨k⟩
def fA{P Q:Prop}(k:Q)(h:Bx Q->P:=by intro h; refine wz ?_; refine wz ?_; refine wz ?_; exact h.v):P:=h ⟨k⟩
def QB{P Q:Prop}(k:Q)(h:Bx Q->P:=by intro h; refine wz ?_; refine wz ?_; refine wz ?_; refine wz ?_; exact h.v):P:=h ⟨k⟩
section
variable{E:Env}{n:Nat}{m0:V7}{fs:Fs}{ps:WB Pc}{fn:WJ}{ro:WA Nat}{c:Code}{Q:V8->Tm->V7->Prop}
def Wl(E:Env)(n:Nat)(fn:WJ)(ro:WA Nat)(c:Code)(Q:V8->Tm->V7->Prop)(m0:V7)(fs:Fs)(ps:WB Pc):Prop:=∀t m,Fr t fs->Hp m0 m ps->vh E n fn ro c Q t m
end
def bU{β:Type}{i:Int}{n:Nat}{k:WA β}{r:β}(h:gd (bG i n) k=some r):(0<=i/\i.toNat<n)/\k=some r:=⟨iF (ax h).1,(ax h).2⟩
section
variable{E:Env}{n:Nat}{m0:V7}{fs fs':Fs}{ps ps':WB Pc}{ops:WD Oper}{os:WB Oper}{K:Tm->V7->Prop}{dr:Bool}{fn:WJ}{ro:WA Nat}{c:Code}{Q:V8->Tm->V7->Prop}
variable{ty oty:Vt}{p:String}{af:WD Edge}{d:Nat}{g:WA (Nat×Bool)}{x:Vu}{v:Vs}
def ae{γ:Type}{G:γ->En}{e:V8}(g:γ)(ks:WB Nat)(he:e=(G g).e:=by rfl)(hs:sub fs (G g).fs:=by repeat first|exact sn|refine sc rfl ?_)(hn:k7 ks=true:=by rfl)(hp:au ps ks=some (G g).ps:=by rfl):At (nH m0 G) e m0 fs ps:=At.en g he hs (ai.au ks hn hp)
def ar{α:Type}{V:α->Vs}{N:α->WB Pc}{rs:WB ResultVar}{vs:WB Vs}(x:α)(ks:WB Nat)(hr:Res1 E fs ps rs vs:=by repeat first|exact .nil |(apply Res1.tmp; exact rfl) |(apply Res1.zc; exact TyC.t; exact rfl;(repeat first|exact Has.z|refine Has.s ?_); exact rfl))(hv:fg vs=V x:=by rfl)(hn:k7 ks=true:=by rfl)(hp:au ps ks=some (N x):=by rfl):At (lU E rs fun v m=>∃x,v=V x/\Hp m0 m (N x)) .ret m0 fs ps:=.ret hr fun _ hm=>⟨x,hv,hm.au ks hn hp⟩
def ap{ρ:Type}{δ:ρ->Type}(X:(r:ρ)->δ r->En)(r:ρ):δ r->En:=X r
def lo{σ ρ γ:Type}{δ:ρ->Type}{body:σ->WA (σ⊕ρ)}{X:(r:ρ)->δ r->En}{N:Nat}{s:σ}{r:ρ}(h:bH body N s=some r)(g:γ)(ks:WB Nat)(I:σ->γ->En)
  (hb:∀s g r,body s=some r->Wk E n fn ro c (match r with|.inl s'=>nH m0 (I s')|.inr r=>nH m0 (X r)) m0 (I s g).fs (I s g).ps)
  (hs:sub fs (I s g).fs:=by repeat first|exact sn|refine sc rfl ?_) (hd:k7 ks=true:=by rfl) (hp:au ps ks=some (I s g).ps:=by rfl)
  (hn:∀s g,(I s g).e=.normal:=by exact fun _ _=>rfl) (hx:∀r g,(X r g).e≠.normal:=by intro r d; first |(intro e; cases e; done) |(rcases r with r|r<;>first |(intro e; cases e; done) |(rcases r with r|r<;>first |(intro e; cases e; done) |(rcases r with r|r<;>intro e<;>cases e)))):Wk E n fn ro (.loop c) (nH m0 (ap X r)) m0 fs ps:=.Jt hs (ai.au ks hd hp) (Wk.loop body I X hb hn hx N s r h g)
def ct{ρ γ:Type}(F:ρ->γ->En)(r:ρ)(h:Wk E n fn ro c (nH m0 (ap F r)) m0 fs ps)(k:∀g,At Q (F r g).e m0 (F r g).fs (F r g).ps):Wk E n fn ro c Q m0 fs ps:=.cut h k
def wb(k:∀b,Wo dr E n ops K os m0 ((d,ptr b 0)::fs) (.obj b (.cells v.cells.toList .own)::ps))(h:ev E fs x=some v:=by rfl)(hd:Nat.blt d n=true:=by rfl):Wo dr E n ops K (⟨some d,.box oty x,ty,p,af,none⟩::os) m0 fs ps:=VN (Rl h) gn hd k
def wa{z:Vs}(hz:bK E.P oty=some z)(k:∀b,Wo dr E n ops K os m0 ((d,ptr b 0)::fs) (.obj b (.cells z.cells.toList .own)::ps))(hp:bw z=true:=by rfl)(hd:Nat.blt d n=true:=by rfl):Wo dr E n ops K (⟨some d,.alloc oty,ty,p,af,none⟩::os) m0 fs ps:=VN (HF hz hp) gn hd k
def cw{f:WJ}{F:Func}{args:WB Vs}{rs:WB ResultVar}{N:Nat}{R:Vs->V7->Prop}{m:V7}(hf:E.P.funcs[f]? = some F)(hm:Hp m0 m ps)(h:Wk E N f none c (lU E rs R) m0 (uZ args 0 []) ps)(hp:E.cQ f=none:=by rfl)(hb:F.body=some c:=by rfl)(hrs:F.results.toList=rs:=by rfl)(hN:max args.length F.ntmps=N:=by rfl):aB E f args m R:=hJ hp hf hb hrs hN hm h
variable{m:V7}{a:Vq}{cap w l:Nat}{es:Vp}
def Hp.q(h:Hp m0 m ps)(k:Nat){p:Pc}(hp:pk ps k=some p:=by rfl)(hi:IsRd p a cap w l es:=by first|exact .rd _ _ _ _ _|exact .sl _ _ _ _|exact .arr _ _ _ _ _):Rd m a cap w l es:=h.rd hp hi
def Hp.no(h:Hp m0 m ps)(k:Nat)(hp:pk ps k=some (.rd a cap w l es):=by rfl):∀b,dx a=some b->¬kL ps b:=h.Qp hp
variable{α:Type}{V:α->Vs}{N:α->WB Pc}{R:α->Pc}{f:Vu}{q:WJ}{ars:WD Vu}{ts:WD Vt}{args:WB Vs}{prs:WB (Nat×Nat)}{ss:WB Nk}
def wc(hg:sD ops fs g true)(hc:∀m,Hp m0 m ps->aB E q args m (fun v m'=>∃x,v=V x/\Hp m m' (N x)))(k:∀x,Wo dr E n ops K os m0 ((d,V x)::fs) (N x++ps))(hf:ev E fs f=some (.func (.func q) #[] #[]):=by rfl)(ha:kP E fs ars.toList=some args:=by rfl)(ho:∀x,xW (N x)=true:=by exact fun _=>rfl)(hd:Nat.blt d n=true:=by rfl):Wo dr E n ops K (⟨some d,.call ⟨.value f,ars,ts⟩,ty,p,af,g⟩::os) m0 fs ps:=VN (Ro hf ha hc ho) hg hd k
def wv(hg:sD ops fs g true)(hc:∀m,Hp m0 m ps->aB E q args m (fun v m'=>∃x,v=V x/\Hp m m' [R x,.gen (po (kL ps))]))(k:∀x,Wo dr E n ops K os m0 ((d,V x)::fs) (R x::ps))(hf:ev E fs f=some (.func (.func q) #[] #[]):=by rfl)(ha:kP E fs ars.toList=some args:=by rfl)(ho:∀x,jF [R x]=true:=by exact fun _=>rfl)(hd:Nat.blt d n=true:=by rfl):Wo dr E n ops K (⟨some d,.call ⟨.value f,ars,ts⟩,ty,p,af,g⟩::os) m0 fs ps:=VN (Gt (N:=fun x=>[R x]) hf ha hc ho) hg hd k
def nc(hg:sD ops fs g true)(hc:∀m,Hp m0 m ps->aB E q args m (fun v m'=>∃x,v=V x/\Hp m m' (N x)))(k:∀x,Wn E n ops prs K os (.call::ss) m0 ((d,V x)::fs) (N x++ps))(hf:ev E fs f=some (.func (.func q) #[] #[]):=by rfl)(ha:kP E fs ars.toList=some args:=by rfl)(ho:∀x,xW (N x)=true:=by exact fun _=>rfl)(hd:Nat.blt d n=true:=by rfl):Wn E n ops prs K (⟨some d,.call ⟨.value f,ars,ts⟩,ty,p,af,g⟩::os) ss m0 fs ps:=Wn.c (RY hf ha hc ho) hg hd k
def nv(hg:sD ops fs g true)(hc:∀m,Hp m0 m ps->aB E q args m (fun v m'=>∃x,v=V x/\Hp m m' [R x,.gen (po (kL ps))]))(k:∀x,Wn E n ops prs K os (.call::ss) m0 ((d,V x)::fs) (R x::ps))(hf:ev E fs f=some (.func (.func q) #[] #[]):=by rfl)(ha:kP E fs ars.toList=some args:=by rfl)(ho:∀x,jF [R x]=true:=by exact fun _=>rfl)(hd:Nat.blt d n=true:=by rfl):Wn E n ops prs K (⟨some d,.call ⟨.value f,ars,ts⟩,ty,p,af,g⟩::os) ss m0 fs ps:=Wn.c (Mc (N:=fun x=>[R x]) hf ha hc ho) hg hd k
end
end Go.Ab.W
namespace Go.Proofs.YtpkadoocdgdcfaaGreatDoor
section
open Go Go.Ab Go.Ab.W
set_option maxRecDepth 100000
namespace Nm
attribute [local irreducible] Wo Wk At Wn Od Ox bt bf
attribute [local irreducible] Tm.at Trie.set Trie.get V7.get V7.set V7.alloc V7.ww V7.kill
variable{p q pz:WA Prim}
def qn(n:Nat)(l1:WB (Int)):(WB (Nat)×Int)->WA ((WB (Nat)×Int) ⊕(WB (Nat))):=fun(l20,v21) =>
br (decide (v21<(l1.length:Int))) (
gd (bG v21 l1.length) (
ob (l1[v21.toNat]?) fun x39 =>
gd (bG v21 ((l1.length:Int).toNat)) (
ob (l20[v21.toNat]?) fun x42 =>
some (.inl ((l20.set v21.toNat (ui .u8 x39)),Vx (v21+1)))))) (
some (.inr l20))
def LS(n:Nat)(l1:WB (Int)):WA (WB (Nat)×Nat) :=
gd (decide (0<=(l1.length:Int))) (gd (lim ((l1.length:Int).toNat)) (
ob (
bH (qn n l1) n ((List.replicate (l1.length:Int).toNat (0:Nat)),0)) fun l34 =>
some (l34,(l1.length:Int).toNat)))
def Sd:(dm p q pz).P.underlying 39=some (.slice 3):=by kernel_rfl
def z5:bK (dm p q pz).P 5=some (.int .u8 ((0:Nat):Int)):=by kernel_rfl
def So:SlT (dm p q pz).P 39 3 1:=SlT.of (by kernel_rfl)
def AG:TyI (dm p q pz).P 3 false 1:=⟨by kernel_rfl,by kernel_rfl,by kernel_rfl⟩
def u3:(dm p q pz).P.underlying 3=some (.int .i64):=by kernel_rfl
def u5:(dm p q pz).P.underlying 5=some (.int .u8):=by kernel_rfl
def PH:SlT (dm p q pz).P 26 5 1:=SlT.of (by kernel_rfl)
def Qr:TyI (dm p q pz).P 5 false 1:=⟨by kernel_rfl,by kernel_rfl,by kernel_rfl⟩
def Ky(hE:EnvOk (dm p q pz))(n:Nat)(l1:WB (Int))(a2:Vq)(c3:Nat)(r:WB (Nat)×Nat)(hF:LS n l1=some r)(m:V7)(h4:Rd m a2 c3 1 l1.length (l1.map (eI .i64))){R:Vs->V7->Prop}(kN:∀g:Vq,Vk (dm p q pz) 24 70 none (Rz 3 (xL Tryz.f70)) (lU (dm p q pz) [.tmp 2] R) m ((fun(r:WB (Nat)×Nat) (g:Vq)=>match r,g with |(l47,n49),a48=>([(3,.slice a48 n49 n49)]:Fs)) r g) ((fun(r:WB (Nat)×Nat) (g:Vq)=>match r,g with |(l47,n49),a48=>([.sl a48 1 n49 (l47.map (eN .u8))]:WB Pc)) r g)) :
  Vk (dm p q pz) 24 70 none (xL Tryz.f70) (lU (dm p q pz) [.tmp 2] R) m (uZ [.slice a2 l1.length c3] 0 []) [.rd a2 c3 1 l1.length (l1.map (eI .i64))]:=by
 unfold LS at hF;refine Vk.seq hE ?_;refine VE ?_;refine VB (cZ rfl) rfl ?_;refine VL ?_;refine At.R8 ?_;refine Vk.seq hE ?_;refine VE ?_;refine VB (aW rfl) rfl ?_;refine VB (rQ (k:=0) Sd rfl rfl (.inl rfl)) rfl ?_;obtain⟨h5,hF⟩:=ax hF;obtain⟨h6,hF⟩:=ax hF;refine VN (jb (f:=eN .u8) (z0:=(0:Nat)) PH rfl h5 h6 z5 rfl rfl) gn rfl fun b7=>?_;refine VB (cZ rfl) rfl ?_;refine VL ?_;refine At.R8 ?_;refine Vk.seq hE ?_;refine VC ?_;refine VE ?_;refine VB (aW rfl) rfl ?_;refine VB (rQ (k:=1) Sd rfl rfl (.inl rfl)) rfl ?_;refine VB (aW rfl) rfl ?_;refine VL ?_;refine VI ?_;refine VF ?_;obtain⟨l34,h45,hF⟩:=aa hF;refine Wk.cut (G:=(fun(r:WB (Nat)) (g:WC)=>match r,g with|l34,_=>⟨(.exit 0),[(3,.slice (some ⟨b7,0,none⟩) ((l1.length:Int).toNat) ((l1.length:Int).toNat))],[.arr b7 1 ((l1.length:Int).toNat) (l34.map (eN .u8)) .own]⟩) l34) ?_ ?_
 refine Wk.Jt (fs':=[(3,.slice (some ⟨b7,0,none⟩) ((l1.length:Int).toNat) ((l1.length:Int).toNat)),(9,.slice a2 l1.length c3),(10,.int .i64 (l1.length:Int)),(11,.int .i64 0)]) (ps':=[.arr b7 1 ((l1.length:Int).toNat) ((List.replicate (l1.length:Int).toNat (0:Nat)).map (eN .u8)) .own,.rd a2 c3 1 l1.length (l1.map (eI .i64))]) (sc rfl (sc rfl (sc rfl (sc rfl sn)))) (ai.au [0,1] rfl rfl) ?_;refine Wk.loop (σ:=WB (Nat)×Int) (ρ:=WB (Nat)) (γ:=WC) (δ:=fun _=>WC) _ (fun(s:WB (Nat)×Int) (g:WC)=>match s,g with |(l20,v21),_=>⟨.normal,[(3,.slice (some ⟨b7,0,none⟩) ((l1.length:Int).toNat) ((l1.length:Int).toNat)),(9,.slice a2 l1.length c3),(10,.int .i64 (l1.length:Int)),(11,.int .i64 v21)],[.arr b7 1 ((l1.length:Int).toNat) (l20.map (eN .u8)) .own,.rd a2 c3 1 l1.length (l1.map (eI .i64))]⟩) (fun(r:WB (Nat)) (g:WC)=>match r,g with|l34,_=>⟨(.exit 0),[(3,.slice (some ⟨b7,0,none⟩) ((l1.length:Int).toNat) ((l1.length:Int).toNat))],[.arr b7 1 ((l1.length:Int).toNat) (l34.map (eN .u8)) .own]⟩) ?_ (fun _ _=>rfl) (fun r d=>by intro e; cases e) _ _ _ h45 ()
 clear hF h45;rintro⟨l20,v21⟩ ⟨⟩ r hF;unfold qn at hF;refine VC ?_;refine VE ?_;refine VB (aN rfl rfl (gZ _ _ _)) rfl ?_;refine VL ?_;refine VI ?_;refine VC ?_;rcases ah hF with⟨h35,hF⟩|⟨h35,hF⟩
 refine V0 rfl h35 ?_;refine Wk.skip ?_;refine VI ?_;refine VC ?_;refine VF ?_;refine VC ?_;refine VE ?_;refine VB (aW rfl) rfl ?_;obtain⟨h36,hF⟩:=ax hF;replace h36:=iF h36;refine VP (k:=1) rfl (aG h36) ?_;rintro b37 o38 rfl;refine VY (oa So rfl rfl h36) gn rfl ?_;obtain⟨x39,h40,hF⟩:=aa hF;refine VB (vK (k:=0) AG rfl rfl (gK h40) rfl rfl) rfl ?_;refine VB (cZ rfl) rfl ?_;refine VB (cZ rfl) rfl ?_;refine VL ?_;refine VI ?_;refine VE ?_;refine VB (aW rfl) rfl ?_;refine VB (aW rfl) rfl ?_;refine VB (aW rfl) rfl ?_;refine VB (iT rfl (uq (by rw[u3]; rfl) u5 rfl)) rfl ?_
 obtain⟨h41,hF⟩:=ax hF;replace h41:=iF h41;refine VY (pd PH rfl rfl h41) gn rfl ?_;obtain⟨x42,h43,hF⟩:=aa hF;refine VV (cX (k:=1) (x1:=x42) (x2:=ui .u8 x39) Qr rfl rfl rfl h43 rfl) ?_;refine VL ?_;refine At.bn ?_;refine VI ?_;refine VE ?_;refine VB (aN rfl rfl (dy _ _ _)) rfl ?_;refine VB (aW rfl) rfl ?_;refine VL ?_;cases hF;exact At.en () rfl (sc rfl (sc rfl (sc rfl (sc rfl sn)))) (ai.au [1,2] rfl rfl)
 refine Wk.lE rfl h35 ?_;refine Wk.exit ?_;refine At.te ?_;cases hF;exact At.en () rfl (sc rfl sn) (ai.au [0] rfl rfl)
 clear h45;rintro⟨⟩;refine At.be ?_;refine At.R8 ?_;cases hF;exact Vk.Jt (sc rfl sn) (ai.trans (ai.close (k:=0) rfl) (ai.au [0] rfl rfl)) (kN (some ⟨b7,0,none⟩))
end Nm
def Pm(l1:WB Int)(n0:Nat)(hl:l1.length<9223372036854775807):∀k i m,i+k=l1.length->k<m->bH (Nm.qn n0 l1) m ((l1.take i).map (ui .u8)++List.replicate k 0,(i:Int))=some (l1.map (ui .u8))
 | 0,i,m,h,hm=>by
  obtain⟨m,rfl⟩:∃k,m=k+1:=⟨m-1,by omega⟩
  have hi:i=l1.length:=by omega
  subst hi;rw[List.take_length,List.replicate_zero,T8];have e1:Nm.qn n0 l1 (l1.map (ui .u8),(l1.length:Int))=some (.inr (l1.map (ui .u8))):=by
   unfold Nm.qn
   dsimp only
   rw[Ta (show ¬(l1.length:Int)<(l1.length:Int) by omega)]; rfl
  simp only[bH,e1]
 | k+1,i,m,h,hm=>by
  obtain⟨m,rfl⟩:∃k,m=k+1:=⟨m-1,by omega⟩
  have hi:i<l1.length:=by omega
  have ih:=Pm l1 n0 hl k (i+1) m (by omega) (by omega)
  have e1:Nm.qn n0 l1 ((l1.take i).map (ui .u8)++List.replicate (k+1) 0,(i:Int))=some (.inl ((l1.take (i+1)).map (ui .u8)++List.replicate k 0,((i+1:Nat):Int))):=by
   unfold Nm.qn;have b1:bG (i:Int) l1.length=true:=by simp[bG]; omega
   have b2:bG (i:Int) ((l1.length:Int).toNat)=true:=by simp[bG]; omega
   have b3:((l1.take i).map (ui .u8)++List.replicate (k+1) 0)[i]? = some 0:=by
    rw[Tu (by simp; omega)]
    simp[show min i l1.length=i by omega]
   have b4:((l1.take i).map (ui .u8)++List.replicate (k+1) 0).set i (ui .u8 l1[i])=(l1.take (i+1)).map (ui .u8)++List.replicate k 0:=by
    rw[List.set_append_right _ _ (by simp; omega)]
    rw[List.take_succ_eq_append_getElem hi,List.map_append,Uk];simp[show min i l1.length=i by omega,Uh]
   have b5:Vx ((i:Int)+1)=((i+1:Nat):Int):=by
    rw[show Vx ((i:Int)+1)=(i:Int)+1 from wrap_i64 _ (by omega) (by omega)]; omega
   dsimp only
   rw[S4 (show(i:Int)<(l1.length:Int) by omega)]
   simp only[br,gd,ob,SS,b1,b2,b3,SU hi,b4,b5]
  simp only[bH,e1];exact ih
def Lb(l1:WB Int)(hl:lim l1.length=true)(hl2:l1.length<9223372036854775807)(n:Nat)(hn:l1.length<n):Nm.LS n l1=some (l1.map (ui .u8),l1.length):=by
 have h:=Pm l1 n hl2 l1.length 0 n (by omega) hn
 rw[List.take_zero,List.map_nil,Us] at h;unfold Nm.LS;simp only[gd,ob,SS,hl,Ue,decide_true,if_true];have h':bH (Nm.qn n l1) n (List.replicate l1.length 0,0)=some (l1.map (ui .u8)):=h;rw[h']
open Go.Ab.W
def bytesOf(l:WB Int):WB Int:=l.map fun x=>((ui .u8 x:Nat):Int)
def rT:∀l:WB Int,((l.map (ui .u8)).map (eN .u8)).flatten=(bytesOf l).map (Value.int .u8)
 | []=>rfl
 | a::l=>by
  have h:=rT l;simp only[Va,T4,bytesOf] at h ⊢;rw[h]; rfl
def I5{m:V7}{l:WB Int}{A:Vq}{R:Vs->V7->Prop}(hR:∀m1,Hp m m1 []->R (.string (A9 (bytesOf l))) m1):Vk mX 24 70 none (Rz 3 (xL Tryz.f70)) (lU mX [.tmp 2] R) m ([(3,.slice A l.length l.length)]:Fs) ([.sl A 1 l.length ((l.map (ui .u8)).map (eN .u8))]:WB Pc):=by
 refine Vk.Fo (Vk.region ?_);refine Vn.pre (os:=[_]) oL (VB (aW rfl) rfl (Wo.Rk (dr:=false) ?_));refine Vn.str (e:=5) (ns:=bytesOf l) (by kernel_rfl) (by kernel_rfl) (by kernel_rfl) rfl (fun m1 hm=>?_) rfl ?_
 have h:=hm.get (k:=0) rfl;rw[<-rT];rcases h with⟨h1,h2,rfl,_⟩|⟨b,tg,rfl,h1⟩
 have:l=[]:=Un h1;subst this; rfl
 exact h1.rd.cells
 refine Vn.of oL (VB (cZ rfl) rfl ?_);refine VL (Q:=fun _=>_) ?_
 show Vk mX 24 70 none _ _ m _ _
 refine Vk.of oL (Wk.ret ?_);exact VH (.tmp rfl .nil) fun m1 hm=>hR m1 ((ai.au [] rfl rfl) m1 hm)
def G7:Tag->Bool
 | .more k=>Nat.beq k 1
 | _=>true
def xh:WB Vs->WA (WB Int)
 | []=>some []
 | .int .i64 x::vs=>(xh vs).map (x::·)
 | _=>none
def qB:∀{vs:WB Vs} {l:WB Int},xh vs=some l->vs=l.map (.int .i64)
 | [],l,h=>by cases h; rfl
 | v::vs,l,h=>by
  unfold xh at h
  split at h
  rename_i e; cases e
  rename_i x vs' e;cases e;obtain⟨l',h1,rfl⟩:=Uz.1 h;rw[qB h1]; rfl
  cases h
def wO(args:WB Vs)(m:V7):WA (Vs×V7) :=
 match args with
 | [.slice (some ⟨b,o,none⟩) n c]=>match m.get b with
  | some (.cells cs tag)=>if Nat.ble n c &&(Nat.blt b m.next &&(G7 tag &&(lim n&&Nat.ble (o+n) cs.length))) then(xh ((cs.drop o).take n)).map fun l=>(.string (A9 (bytesOf l)),m) else none
  | _=>none
 | _=>none
def yS{args:WB Vs}{m m':V7}{v:Vs}(h:wO args m=some (v,m'))(pr:Bool){j:aJ}{w:Vw}{args':WB Vs}(hm:MR mX j m w)(hl:LR j args args'):dN Tryz.prog pr 70 args'.toArray w (fy mX j m w v m'):=by
 unfold wO at h
 split at h
 rename_i b o n c
 split at h
 rename_i cs tag hg
 split at h
 rename_i hc;obtain⟨l,h1,h2⟩:=Uz.1 h;cases h2;simp only[SW] at hc;obtain⟨c1,c2,c3,c4,c5⟩:=hc;have c5:=S6 c5;have c2:b<m.next:=S6 c2
 have hi:=qB h1;have hlen:l.length=n:=by
  have:=Up List.length hi;rw[TW,UU,Tw] at this; omega
 subst hlen;have hr:∀x,Rd { m with wl:=x} (some ⟨b,o,none⟩) c 1 l.length (l.map (eI .i64)):=fun x=>by
  refine⟨by rw[Tw],S6 c1,.inr (.inr ⟨b,o,rfl,c2,cs,tag,hg,fun sz e=>?_,fun i e he=>?_⟩)⟩
  subst e;exact S0 c3
  rw[Tn] at he;obtain⟨y,hy,rfl⟩:=Uz.1 he;have hil:=(Tc.1 hy).1;refine⟨?_,rfl⟩;have h3:((cs.drop o).take l.length)[i]? = some (.int .i64 y):=by rw[hi,Tn,hy]; rfl
  rw[UN,S7 hil,Um] at h3;rw[U9];have h4:o+i<cs.length:=by omega
  rw[UT h4,List.take_succ_cons,List.take_zero];rw[SU h4] at h3;rw[S3 h3]; rfl
 have hlm:l.length<9223372036854775807:=by
  have:l.length<=1073741824:=S6 c4;omega
 refine Bm (m:=m) (I3 (E:=mX) (c:=xL Tryz.f70) (m0:={ m with wl:=m.next}) (N:=24) (rs:=[.tmp 2]) (ps:=[.rd (some ⟨b,o,none⟩) c 1 l.length (l.map (eI .i64))]) oL Tryz.func70 rfl rfl rfl ((VG _).cr bS (hr _)) ?_) pr hm hl
 refine Nm.Ky oL (l.length+1) l _ c _ (Lb l c4 hlm _ (Uj _)) _ (hr _) fun g=>?_;refine I5 fun m1 hm1=>?_;have hn0:({ m with wl:=m.next}:V7).next=m.next:=rfl
 exact⟨⟨hm1.ext.next,fun b hb=>hm1.ext.same b hb,by have:=hm1.ext.wl; rw[hn0] at this; exact Tb (Nat.le_of_eq (Nat.min_self _).symm) this⟩,.inl ⟨rfl,rfl,rfl⟩⟩
 cases h
 cases h
 cases h
end
section
open Go Go.Ab
set_option maxRecDepth 100000
noncomputable abbrev HM:Env:=dm (some ⟨wm⟩) none (some ⟨wO⟩)
def vT{a b c a' b' c':WA Prim}{j:aJ}{m:V7}{w:Vw}{v:Vs}{m':V7}{v':Vs}{w':Vw}(h:fy (dm a b c) j m w v m' v' w'):fy (dm a' b' c') j m w v m' v' w':=by
 obtain⟨j',s,hv⟩:=h;exact⟨j',Sim.env (E:=dm a b c) (E':=dm a' b' c') rfl (fun e=>e) s,hv⟩
def J3:EnvOk HM:=tQ
 (fun c h args m v m' hr j w args' hm hl=>by cases h; exact cp (fun h=>h) (Ao hr true (MR.env (E:=HM) (E':=mX) rfl hm) hl) fun _ _=>vT)
 (fun c h=>by cases h)
 (fun c h args m v m' hr j w args' hm hl=>by cases h; exact cp (fun h=>h) (yS hr true (MR.env (E:=HM) (E':=mX) rfl hm) hl) fun _ _=>vT)
noncomputable def Rs:Hand:=hand HM lJ 1000
set_option maxHeartbeats 0 in
def Lu:F1 (pb HM Rs (fun _=>none) 14) pV=true:=by decide +kernel
set_option maxHeartbeats 0 in
def Jv:lX 18 (fS [0,0,1,1] 2 1)=true:=by decide +kernel
set_option maxHeartbeats 0 in
def Iv:lX 18 (fS [0,0,0,0] 1 4)=true:=by decide +kernel
set_option maxHeartbeats 0 in
def Hg:lX 31 nS=true:=by decide +kernel
set_option maxHeartbeats 0 in
def FA:lX 22 lT=true:=by decide +kernel
set_option maxHeartbeats 0 in
def MT:lX 75 (du 1 3)=true:=by decide +kernel
set_option maxHeartbeats 0 in
def M8:lX 75 (du 1 2)=true:=by decide +kernel
set_option maxHeartbeats 0 in
def M0:lX 75 (du 1 4)=true:=by decide +kernel
set_option maxHeartbeats 0 in
def Nv:lX 75 (du 3 4)=true:=by decide +kernel
set_option maxHeartbeats 0 in
def M1:lX 75 (du 1 1)=true:=by decide +kernel
set_option maxHeartbeats 0 in
def MO:lX 75 (du 0 1)=true:=by decide +kernel
set_option maxHeartbeats 0 in
def Oy:lX 75 (du 2 3)=true:=by decide +kernel
set_option maxHeartbeats 0 in
def P5:lX 29 (dF 1 2 true)=true:=by decide +kernel
set_option maxHeartbeats 0 in
def PJ:lX 29 (dF 1 1 false)=true:=by decide +kernel
set_option maxHeartbeats 0 in
def MC:lX 33 sV=true:=by decide +kernel
set_option maxHeartbeats 0 in
def Kt:lX 38 AK=true:=by decide +kernel
set_option maxHeartbeats 0 in
def KM:lX 38 Cl=true:=by decide +kernel
end
section
open Go Go.Ab
set_option maxRecDepth 100000
attribute [local irreducible] pb Case.run Case.fits
def QO{E:Env}(hE:EnvOk E)(hmono:¬E.mono){F:WJ->WA PSem}(hF:Oo E F){ND:WJ->WA FunN}(hN:Pd E ND){n:Nat}{f:WJ}{c:Case}(h:F1 (pb E (hand E F n) ND f) c=true):W.mJ E f (c.args.map (AV.val fun b=>b)) (c.small 1 fw) (c.Out (c.small 1 fw)):=by
 unfold F1 at h;have h1:=sG hE hmono (ou hF n) hN (f:=f) (args:=c.args.map (AV.val fun b=>b)) (m:=c.small 1 fw) (K:=fun v m=>c.H4 (c.small 1 fw) v m) h;intro j w args' hm hl;refine cp (fun h=>h) (h1 j w args' hm hl) ?_;rintro v' w' ⟨v1,m1,hq,hv⟩;exact⟨v1,m1,Case.vF hq,hv⟩
def CY(c:Case):Bool:=c.V.all (TV.ok c.T.length) &&(c.args.all (AV.ok (1+c.A.length)) &&(c.A.all (fun x=>x.1.all (SV.ok (1+c.A.length)))&&c.T.all fun x=>Nat.blt 0 x.2 &&(Nat.beq x.1.length (x.1.length/x.2*x.2) &&(Nat.ble (x.1.length/x.2) 9223372036854775807&&x.1.all (TV.ok c.T.length)))))
structure CaseOk(f:WJ)(c:Case):Prop where
 call:∀{args:WB Vs} {m m':V7} {v:Vs},c.run 1 gP args m=some (v,m')->∀(pr:Bool) {j:aJ} {w:Vw} {args':WB Vs},MR mX j m w->LR j args args'->dN Tryz.prog pr f args'.toArray w (fy mX j m w v m')
def HL{p q r:WA Prim}{f:WJ}{c:Case}(hg:CY c=true)(h:W.mJ (dm p q r) f (c.args.map (AV.val fun b=>b)) (c.small 1 fw) (c.Out (c.small 1 fw))):CaseOk f c:=⟨fun hr pr _ _ _ hm hl=>by
 unfold CY at hg;simp only[SW] at hg;obtain⟨h1,h2,h3,h4⟩:=hg;refine cp (fun h=>h) (Case.IB (E:=dm p q r) (gs:=fw) (tabB:=gP) (fun m ht=>s6 ht) (fun x hx=>?_) h1 h2 h3 h hr pr (MR.env (E:=mX) (E':=dm p q r) rfl hm) hl) fun _ _=>vT;have h5:=Tk.1 h4 x hx;simp only[SW] at h5;exact⟨S6 h5.1,S0 h5.2.1,S6 h5.2.2.1,h5.2.2.2⟩⟩
def Ec{E:Env}:Pd E fun _=>none:=fun h=>by cases h
def gR{f:WJ}{c:Case}(hg:CY c=true)(h:lX f c=true):CaseOk f c:=HL (p:=none) (q:=none) (r:=none) hg (QO oL AQ (p6 _ _ _) Ec h)
def ji:WB (WJ×Case):=[(14,pV),(18,fS [0,0,1,1] 2 1),(18,fS [0,0,0,0] 1 4),(31,nS),(22,lT),(29,dF 1 2 true),(29,dF 1 1 false),(33,sV),(38,AK),(38,Cl),(75,du 1 3),(75,du 1 2),(75,du 1 4),(75,du 3 4),(75,du 1 1),(75,du 0 1),(75,du 2 3)]
def wP:ji.all (fun x=>CY x.2)=true:=by decide +kernel
def tK:∀x∈ji,CaseOk x.1 x.2:=by
 intro x hx;have hg:=Tk.1 wP x hx;simp only[ji,Tt,List.not_mem_nil,or_false] at hx;rcases hx with rfl|rfl|rfl|rfl|rfl|rfl|rfl|rfl|rfl|rfl|rfl|rfl|rfl|rfl|rfl|rfl|rfl
 exact HL hg (QO J3 (fun h=>h) (p6 _ _ _) Ec Lu)
 exact gR hg Jv
 exact gR hg Iv
 exact gR hg Hg
 exact gR hg FA
 exact gR hg P5
 exact gR hg PJ
 exact gR hg MC
 exact gR hg Kt
 exact gR hg KM
 exact gR hg MT
 exact gR hg M8
 exact gR hg M0
 exact gR hg Nv
 exact gR hg M1
 exact gR hg MO
 exact gR hg Oy
def xC(args:WB Vs)(m:V7):WB Case->WA (Vs×V7)
 | []=>none
 | c::cs=>(c.run 1 gP args m).or (xC args m cs)
def vN{f:WJ}{args:WB Vs}{m m':V7}{v:Vs}:∀{cs:WB Case},(∀c∈cs,CaseOk f c)->xC args m cs=some (v,m')->∃c,CaseOk f c/\c.run 1 gP args m=some (v,m')
 | [],_,h=>by cases h
 | c::cs,hc,h=>by
  unfold xC at h;simp only[Option.or_eq_some_iff] at h;rcases h with h|⟨_,h⟩
  exact⟨c,hc c (T5 ..),h⟩
  exact vN (fun c h=>hc c (TB _ h)) h
def B5:WB Case:=[pV]
def Pj:WB Case:=[fS [0,0,1,1] 2 1,fS [0,0,0,0] 1 4]
def Dp:WB Case:=[nS]
def yp:WB Case:=[lT]
def G6:WB Case:=[dF 1 2 true,dF 1 1 false]
def J6:WB Case:=[sV]
def KF:WB Case:=[AK,Cl]
def GC:WB Case:=[du 1 3,du 1 2,du 1 4,du 3 4,du 1 1,du 0 1,du 2 3]
def oe(f:WJ):WB Case :=
 if f=75 then GC else if f=14 then B5 else if f=18 then Pj else if f=31 then Dp else if f=22 then yp else if f=29 then G6 else if f=33 then J6 else if f=38 then KF else[]
def Cg(f:WJ):∀c∈oe f,CaseOk f c:=by
 have key:∀(g:WJ) (l:WB Case),(∀c∈l,(g,c)∈ji)->∀c∈l,CaseOk g c:=fun g l h c hc=>tK (g,c) (h c hc);have sub:∀c,∀{g:WJ},(c∈oe g)->(g,c)∈ji:=by
  intro c g h;unfold oe at h
  repeat' split at h
  all_goals first
   |(rename_i e; subst e; simp only[GC,B5,Pj,Dp,yp,G6,J6,KF,Tt,List.not_mem_nil,or_false] at h; simp only[ji,Tt,U7]; rcases h with rfl|rfl|rfl|rfl|rfl|rfl|rfl<;>simp)
   |(rename_i e; subst e; simp only[GC,B5,Pj,Dp,yp,G6,J6,KF,Tt,List.not_mem_nil,or_false] at h; simp only[ji,Tt,U7]; rcases h with rfl|rfl<;>simp)
   |(rename_i e; subst e; simp only[GC,B5,Pj,Dp,yp,G6,J6,KF,Tt,List.not_mem_nil,or_false] at h; simp only[ji,Tt,U7]; subst h; simp)
   | cases h
 exact fun c hc=>tK (f,c) (sub c hc)
noncomputable def Jy (f:WJ):WA Prim:=if(oe f).isEmpty then mX.cQ f else some ⟨fun args m=>xC args m (oe f)⟩
noncomputable def zO:Env:={ mX with cQ:=Jy}
def LZ:EnvOk zO:=Cs (E:=mX) oL (pr:=Jy) fun f p hp=>by
 unfold Jy at hp
 split at hp
 exact .inl hp
 cases hp;refine .inr fun args m v m' h j w args' hm hl=>?_;obtain⟨c,h1,h2⟩:=vN (Cg f) h;exact h1.call h2 _ hm hl
def AN:Oo zO lJ:=by
 intro f S hS;unfold lJ at hS
 split at hS
 rename_i e; cases hS; subst e;exact⟨⟨dJ xf⟩,rfl,fun h=>my CF h⟩
 split at hS
 rename_i e; cases hS; subst e;exact⟨⟨dJ uk⟩,rfl,fun h=>my DR h⟩
 cases hS
end
section
open Go Go.Ab
set_option maxRecDepth 100000
set_option maxHeartbeats 0 in
def Cq:(hand zO lJ 1000).call 11 [] Sm (Pt 1)=true:=by decide +kernel
end
section
open Go Go.Ab Go.Ab.W
def FL:∃fuel m',run zO fuel (.call 11 [] Sm)=some (.val (.bool true) m')/\1<=m'.wl:=An (E:=zO) (F:=lJ) (n:=1000) (g:=1) AN Cq
def jD(args:WB Vs)(m:V7):WA (Vs×V7) :=
 match args with
 | []=>if gP m then some (.bool true,m) else none
 | _=>none
def wK{args:WB Vs}{m m':V7}{v:Vs}(h:jD args m=some (v,m')){j:aJ}{w:Vw}{args':WB Vs}(hm:MR mX j m w)(hl:LR j args args') :
  dN Tryz.prog true 11 args'.toArray w (fy mX j m w v m'):=by
 unfold jD at h
 split at h
 split at h
 rename_i ht;cases h;obtain⟨fuel,m0,h1,h2⟩:=FL;refine cp (fun _=>rfl) (ya (E:=zO) (gs:=fw) LZ qw h1 h2 rfl (MR.env (E:=mX) (E':=zO) rfl hm) (fun x c hx hg=>(s6 ht x c hx hg).1) hl) fun _ _ ⟨j',s,hv⟩=>⟨j',Sim.env (E:=zO) (E':=mX) rfl (fun e=>e) s,hv⟩
 cases h
 cases h
noncomputable abbrev al:Env:=dm none (some ⟨jD⟩) none
def JZ:EnvOk al:=tQ (fun c h=>by cases h)
 (fun c h args m v m' hr j w args' hm hl=>by cases h; exact cp (fun h=>h) (wK hr (MR.env (E:=al) (E':=mX) rfl hm) hl) fun _ _=>vT)
 (fun c h=>by cases h)
def M9(n:Nat)(r:Bool)(hF:RP n=some r)(m:V7)(hG:Gl m):aB al 11 [] m (fun v m'=>∃x:WC,v=.bool r/\Hp m m' []):=by
 cases hF;refine aB.cQ (p:=⟨jD⟩) rfl (v:=.bool true) (m':=m) ?_ ⟨(),rfl,VG m⟩;have ht:gP m=true:=by
  unfold gP;rw[hG.1];exact(by decide +kernel:uG (kK.map (.int .u8)) kK=true)
 show jD [] m=_
 simp only[jD,ht,if_true]
end
section
set_option maxRecDepth 100000
open Go Go.ChangeShapes Go.WideShapes Go.ChangeAt Go.WideMaps Go.WideElems Go.RowKit Go.Ab Go.Ab.W
def RH:Eb Tryz.prog 5 61=some [.int .u8,.sl 5]:=by kernel_rfl
def Rp:Eb Tryz.prog 5 5=some [.int .u8]:=by kernel_rfl
section
variable{H:Type}{enc:Vt×Vs->H}{W:Vw}{sp:Nat->Bool}{held:Bool}{v:Vs}{d:DataW H}{p:WB MemPlace}{base:Nat}
theorem Rq:∀(n:Nat) (cs:WB Vs) (x:DataW H×WB MemPlace),DataW.trod enc Tryz.prog W 0 sp held n 5 cs=some x->∃p:Nat,cs=eN .u8 p/\p<256:=by
 intro n cs x h;obtain⟨v1,cs,rfl,h1,h⟩:=eK (jV 5 5 _ Rp n _ x h);obtain rfl:=oO h;obtain⟨a,rfl,ha⟩:=wL h1;exact⟨a,rfl,ha⟩
theorem QP(hok:Value.okWide Tryz.prog W .any base 61 v)(hs:0<W.heap.size)(h:DataW.Trod enc Tryz.prog W 0 sp held 61 v d p):∃(x1:Nat) (l:WB Nat) (a:Vq) (c:Nat),
  VR (dH W) (.agg #[.int .u8 ((x1:Nat):Int),.slice a l.length c]) v/\x1<256/\(∀q∈l,q<256)/\l.length<=maxLen/\Rd (dE W) a c 1 l.length (l.map (eN .u8)):=by
 obtain⟨cs,rfl,_⟩:=okWide_struct (t:=61) (fs:=Tryz.prog.underlying 61 |>.elim #[] fun u=>match u with|.struct fs=>fs|_=>#[]) (by kernel_rfl) hok
 obtain⟨n,h⟩:=h;obtain⟨v1,r,hr,h1,h⟩:=eK (sT RH h);obtain⟨v2,r,rfl,h2,h⟩:=eK h;obtain rfl:=oO h;obtain⟨x1,rfl,g1⟩:=wL h1;obtain⟨a,c,l,e1,e2,e3,e4⟩:=Hw (f:=eN .u8) (w:=1) (by kernel_rfl) (by omega) hs (fun q=>rfl) Rq h2
 refine⟨x1,l,a,c,?_,g1,e3,e4,e2⟩;refine Jk (l:=[.int .u8 ((x1:Nat):Int),.slice a l.length c]) ?_;rw[hr];exact .cons (.int _ _) (.cons e1 (.nil _))
end
def Py:laidOutB Tryz.prog=true:=by kernel_rfl
def KN:mapsRowed Tryz.prog=true:=by kernel_rfl
def KS:sizedB Tryz.prog=true:=by kernel_rfl
def On{W:Vw}(h:laidMetH Tryz.prog sX W):Gl (dE W)/\0<W.heap.size:=by
 rw[MakeChecks.laidMetH_plain _ _ _ (by kernel_rfl)] at h
 obtain⟨ps,hL,_⟩:=h;have ht:(Tryz.prog.globals[0]?).map (·.type)=some 354:=by kernel_rfl
 obtain⟨c,ty,fz,h1,h2⟩:=EA (L:=kK) (k:=.u8) (N:=64) (t:=354) (e:=5) Rc ht (by kernel_rfl) (by kernel_rfl) (by kernel_rfl) (by kernel_rfl) rfl hL
 have hs:0<W.heap.size:=(Te.1 h1).1;refine⟨⟨?_,hs⟩,hs⟩;rw[oq h1,h2,List.map_map]
 congr 2
def Ez{H:Type}{enc:Vt×Vs->H}{f:WJ}{fn:Func}{s:ChangeSpec}{W:Vw}{args:WD Vs}{ds:WB (DataW H)}{before:WB MemPlace}{tb:Vt}{fresh handsOn:Bool}{absArgs:WB Vs}(hpr:al.cQ f=none)
  (hvars:s.vars=[]) (hres:fn.resultTypes.toList=[tb]) (hrs:fn.resultTypes.size=1) (htb:Tryz.prog.underlying tb=some .bool) (hpt:∀t∈fn.params.toList,t<Tryz.prog.types.size) (hfn:s.fn H ds ={ results:=[.lit (.bool true)],args:=ds,vars:=[]})
  (hW:DataW.Whole enc Tryz.prog fn.params.toList s.vars false W args.toList ds [] before) (hs:0<W.heap.size)
  (hl:LR (dH W) absArgs args.toList) (hc:aB al f absArgs (dE W) (fun v m'=>∃x:WC,v=.bool true/\Hp (dE W) m' [])) :
  Calls Tryz.prog f args W fun e W'=>∃v,e=.returned v/\s.post enc Tryz.prog fn false fresh handsOn false W args v W':=by
 obtain⟨v,m',⟨fuel,hrun⟩,_,rfl,hm'⟩:=hc;have hm:MR al (dH W) (dE W) W:=NA hs;have hcall:=callsIn_wide.1 (xF JZ hrun hpr hm hl);refine hcall.mono fun e W' ⟨v',he,j',sm,hv⟩=>?_;have hv':v'=.bool true:=eL rfl hv;subst hv';have hwl:(dE W).next<=m'.wl:=by
  have h1:=hm'.ext.wl;have h2:min (dE W).wl (dE W).next=(dE W).next:=Nat.min_self _
  omega
 exact⟨_,he,HH Py KN KS hvars hres hrs htb hpt hfn hW sm.calm (sm.grown hm hwl)⟩
end
section
open Go Go.Ab Go.Ab.W
def gm:WB Nat:=[0,1,2,2,3,3,3,3,4,4,4,4,4,4,4,4,5,5,5,5,5,5,5,5,5,5,5,5,5,5,5,5,6,6,6,6,6,6,6,6,6,6,6,6,6,6,6,6,6,6,6,6,6,6,6,6,6,6,6,6,6,6,6,6,7,7,7,7,7,7,7,7,7,7,7,7,7,7,7,7,7,7,7,7,7,7,7,7,7,7,7,7,7,7,7,7,7,7,7,7,7,7,7,7,7,7,7,7,7,7,7,7,7,7,7,7,7,7,7,7,7,7,7,7,7,7,7,7,8,8,8,8,8,8,8,8,8,8,8,8,8,8,8,8,8,8,8,8,8,8,8,8,8,8,8,8,8,8,8,8,8,8,8,8,8,8,8,8,8,8,8,8,8,8,8,8,8,8,8,8,8,8,8,8,8,8,8,8,8,8,8,8,8,8,8,8,8,8,8,8,8,8,8,8,8,8,8,8,8,8,8,8,8,8,8,8,8,8,8,8,8,8,8,8,8,8,8,8,8,8,8,8,8,8,8,8,8,8,8,8,8,8,8,8,8,8,8,8,8,8,8,8,8,8,8,8]
def su(n:Nat)(l1:WB (Int)):Int->WA (Int⊕Int):=fun v7 =>
ob (
br (decide (0<v7)) (
gd (bG (Vx (v7-1)) l1.length) (
ob (l1[(Vx (v7-1)).toNat]?) fun x69 =>
some (decide (x69=0)))) (
some false)) fun v64 =>
br (v64) (
some (.inl (Vx (v7-1)))) (
some (.inr v7))
def oA(n:Nat)(l1:WB (Int)):WA (WB Int) :=
ob (
bH (su n l1) n (l1.length:Int)) fun v41 =>
gd (okB 0 v41 l1.length) (
some ((l1.drop Vy).take ((v41:Int).toNat-Vy)))
def kv(n:Nat)(x1:Bool)(l2:WB (Int)):WA (Bool×WB Int) :=
ob (oA n l2) fun l9 =>
br (x1) (
some (decide (0<(l9.length:Int)),l9)) (
some (false,l9))
def Ma(n:Nat)(x1:Int):WA (Bool×WB Int) :=
ob (
br (decide (x1<0)) (
some (JY .u64 (ui .u64 x1))) (
some (ui .u64 x1))) fun v4 =>
ob (kv n (decide (x1<0)) ([Vx ((v4%4294967296:Nat):Int),Vx ((uw .u64 (v4/4294967296):Nat):Int)])) fun(r10,l11) =>
some (r10,l11)
def sS(n:Nat)(l1:WB (Int)):(Int×WB (Int)×Int)->WA ((Int×WB (Int)×Int) ⊕(Int×WB (Int))):=fun(v24,l25,v27) =>
br (decide (v27<(l1.length:Int))) (
gd (bG v27 l1.length) (
ob (l1[v27.toNat]?) fun x52 =>
ob (some (Int.tmod (Vx ((Vx (2*x52))+v24)) 4294967296)) fun y54 =>
gd (lim (l25++[y54]).length) (
ob (some (Vx (Int.tdiv (Vx ((Vx (2*x52))+v24)) 4294967296))) fun y59 =>
some (.inl (y59,(l25++[y54]),Vx (v27+1)))))) (
some (.inr (v24,l25)))
def Gb(n:Nat)(l1:WB (Int))(x6:Int):WA (WB Int) :=
ob (
bH (sS n l1) n (x6,([]:WB (Int)),0)) fun(v45,l46) =>
gd (lim (l46++[v45]).length) (
ob (oA n (l46++[v45])) fun l67 =>
some l67)
def nQ(n:Nat)(l1:WB (Int))(l5:WB (Int)):Int->WA (Int⊕Int⊕WC):=fun v11 =>
br (decide (0<=v11)) (
gd (bG v11 l1.length) (
ob (l1[v11.toNat]?) fun x32 =>
gd (bG v11 l5.length) (
ob (l5[v11.toNat]?) fun x37 =>
br (!decide (x32=x37)) (
gd (bG v11 l1.length) (
gd (bG v11 l5.length) (
some (.inr (.inl (Vx (x32-x37))))))) (
some (.inl (Vx (v11-1))))))) (
some (.inr (.inr ())))
def AM(n:Nat)(l1:WB (Int))(l5:WB (Int)):WA Int :=
br (!decide ((l1.length:Int)=(l5.length:Int))) (
some (Vx ((l1.length:Int)-(l5.length:Int)))) (
ob (α:=(Int)⊕WC) (
bH (nQ n l1 l5) n (Vx ((l1.length:Int)-1))) fun r43=>match r43 with
| .inl v27 =>
some v27
| .inr _ =>
some 0)
def sZ(n:Nat)(l1:WB (Int))(l6:WB (Int)):(WB (Int)×Int×Int)->WA ((WB (Int)×Int×Int) ⊕(WB (Int))):=fun(l2,v2,v0) =>
br (decide (v0<(l1.length:Int))) (
gd (bG v0 l1.length) (
ob (l1[v0.toNat]?) fun x3 =>
ob (
br (decide (v0<(l6.length:Int))) (
gd (bG v0 l6.length) (
ob (l6[v0.toNat]?) fun x4 =>
some (Vx ((Vx (x3-v2))-x4)))) (
some (Vx (x3-v2)))) fun v1 =>
ob (
br (decide (v1<0)) (
some (1,Vx (v1+4294967296))) (
some (0,v1))) fun(v4,v3) =>
gd (lim (l2++[v3]).length) (
some (.inl ((l2++[v3]),v4,Vx (v0+1)))))) (
some (.inr l2))
def ue(n:Nat)(l1:WB (Int))(l6:WB (Int)):WA (WB Int) :=
ob (
bH (sZ n l1 l6) n (([]:WB (Int)),0,0)) fun l2 =>
ob (oA n l2) fun l3 =>
some l3
def pQ(n:Nat)(v0:Int)(l1:WB (Int))(l6:WB (Int))(y2:Int):(WB (Int)×WB (Int)×Int)->WA ((WB (Int)×WB (Int)×Int) ⊕(WB (Int)×WB (Int))):=fun(l2,l4,v1) =>
br (decide (0<=v1)) (
ob (
gd (bG v0 l1.length) (
ob (l1[v0.toNat]?) fun x3 =>
ob (Gb n l4 (Int.tmod (Hr .i64 x3 v1.toNat) 2)) fun l3 =>
ob (AM n l3 l6) fun r0 =>
br (decide (0<=r0)) (
ob (ue n l3 l6) fun l7 =>
gd (bG v0 y2.toNat) (
ob (l2[v0.toNat]?) fun x4 =>
gd (bG v0 y2.toNat) (
some ((l2.set v0.toNat (Vx (x4+(Bz .i64 1 v1.toNat)))),l7)))) (
some (l2,l3)))) fun(l8,l9) =>
some (.inl (l8,l9,Vx (v1-1)))) (
some (.inr (l2,l4)))
def si(n:Nat)(l1:WB (Int))(l6:WB (Int))(y2:Int):(WB (Int)×WB (Int)×Int)->WA ((WB (Int)×WB (Int)×Int) ⊕(WB (Int)×WB (Int))):=fun(l2,l3,v0) =>
br (decide (0<=v0)) (
ob (
bH (pQ n v0 l1 l6 y2) n (l2,l3,31)) fun(l4,l7) =>
some (.inl (l4,l7,Vx (v0-1)))) (
some (.inr (l2,l3)))
def E2(n:Nat)(l1:WB (Int))(l6:WB (Int)):WA (WB Int×WB Int) :=
br (decide ((l1.length:Int)<=Vx ((l6.length:Int)-1))) (
gd (lim (([]:WB (Int))++l1).length) (
some ([],(([]:WB (Int))++l1)))) (
ob (some (Vx ((l1.length:Int)-(Vx ((l6.length:Int)-1))))) fun y2 =>
gd (decide (0<=y2)) (gd (lim y2.toNat) (
ob (some (Vx ((l1.length:Int)-(Vx ((l6.length:Int)-1))))) fun y3 =>
gd (okB y3 (l1.length:Int) l1.length) (
gd (lim (([]:WB (Int))++((l1.drop (y3:Int).toNat).take (((l1.length:Int):Int).toNat-(y3:Int).toNat))).length) (
ob (
bH (si n l1 l6 y2) n ((List.replicate y2.toNat (0:Int)),(([]:WB (Int))++((l1.drop (y3:Int).toNat).take (((l1.length:Int):Int).toNat-(y3:Int).toNat))),Vx ((y2.toNat:Int)-1))) fun(l2,l3) =>
ob (oA n l2) fun l4 =>
some (l4,l3))))))
def tB(n:Nat):(WB (Int)×WB (Int))->WA ((WB (Int)×WB (Int)) ⊕(WB (Int))):=fun(l26,l29) =>
br (decide (0<(l29.length:Int))) (
ob (E2 n l26 l29) fun(l53,l57) =>
some (.inl (l29,l57))) (
some (.inr l26))
def Fi(n:Nat)(x1:Bool)(l2:WB (Int))(x7:Bool)(l8:WB (Int)):WA (Bool×WB Int) :=
ob (
bH (tB n) n (l2,l8)) fun l48 =>
some (false,l48)
def Ft(n:Nat)(x1:Bool)(l2:WB (Int)):WA (Bool×WB Int) :=
ob (kv n (!x1) l2) fun(r10,l11) =>
some (r10,l11)
def sK(n:Nat)(l1:WB (Int))(l5:WB (Int)):(WB (Int)×Int×Int)->WA ((WB (Int)×Int×Int) ⊕(WB (Int))):=fun(l2,v1,v0) =>
ob (
br (decide (v0<(l1.length:Int))) (
some true) (
br (decide (v0<(l5.length:Int))) (
some true) (
some (decide (0<v1))))) fun v4 =>
br (v4) (
ob (
br (decide (v0<(l1.length:Int))) (
gd (bG v0 l1.length) (
ob (l1[v0.toNat]?) fun x3 =>
some (Vx (v1+x3)))) (
some v1)) fun v3 =>
ob (
br (decide (v0<(l5.length:Int))) (
gd (bG v0 l5.length) (
ob (l5[v0.toNat]?) fun x4 =>
some (Vx (v3+x4)))) (
some v3)) fun v2 =>
gd (lim (l2++[Int.tmod v2 4294967296]).length) (
some (.inl ((l2++[Int.tmod v2 4294967296]),Vx (Int.tdiv v2 4294967296),Vx (v0+1))))) (
some (.inr l2))
def FM(n:Nat)(l1:WB (Int))(l5:WB (Int)):WA (WB Int) :=
ob (
bH (sK n l1 l5) n (([]:WB (Int)),0,0)) fun l2 =>
some l2
def vU(n:Nat)(x1:Bool)(l2:WB (Int))(x7:Bool)(l8:WB (Int)):WA (Bool×WB Int) :=
br ((x1==x7)) (
ob (FM n l2 l8) fun l18 =>
ob (kv n x1 l18) fun(r22,l23) =>
some (r22,l23)) (
ob (AM n l2 l8) fun r28 =>
br (decide (0<=r28)) (
ob (ue n l2 l8) fun l31 =>
ob (kv n x1 l31) fun(r36,l37) =>
some (r36,l37)) (
ob (ue n l8 l2) fun l42 =>
ob (kv n x7 l42) fun(r47,l48) =>
some (r47,l48)))
def HW(n:Nat)(x1:Bool)(l2:WB (Int))(x7:Bool)(l8:WB (Int)):WA (Bool×WB Int) :=
ob (Ft n x7 l8) fun(r17,l18) =>
ob (vU n x1 l2 r17 l18) fun(r23,l24) =>
some (r23,l24)
def Fg(n:Nat)(x1:Bool)(l8:WB (Int))(x3:Bool)(l3:WB (Int)):WA (Bool×WB Int×Bool×WB Int) :=
ob (E2 n l8 l3) fun(l9,l10) =>
ob (kv n (!(x1==x3)) l9) fun(r0,l2) =>
ob (kv n x1 l10) fun(r1,l4) =>
ob (
br (r1) (
ob (vU n r1 l4 false l3) fun(r3,l7) =>
br (x3) (
ob (Ma n 1) fun(r4,l11) =>
ob (vU n r0 l2 r4 l11) fun(r5,l12) =>
some (r5,l12,r3,l7)) (
ob (Ma n 1) fun(r6,l13) =>
ob (HW n r0 l2 r6 l13) fun(r7,l14) =>
some (r7,l14,r3,l7))) (
some (r0,l2,r1,l4))) fun(v0,l15,v1,l16) =>
some (v0,l15,v1,l16)
def Ct(n:Nat)(x1:Bool)(l2:WB (Int))(x7:Bool)(l8:WB (Int)):WA (Bool×WB Int×Bool×WB Int) :=
ob (Fi n x1 l2 x7 l8) fun(r17,l18) =>
ob (
br (x7) (
ob (Ft n r17 l18) fun(r36,l37) =>
some (r36,l37)) (
some (r17,l18))) fun(v30,l31) =>
ob (Fg n x1 l2 v30 l31) fun(r44,l45,r49,l50) =>
ob (Fg n x7 l8 v30 l31) fun(r57,l58,r62,l63) =>
some (r44,l45,r57,l58)
def zD(n:Nat)(x1:Int)(x2:Int):WA (Bool×WB Int×Bool×WB Int) :=
ob (Ma n x1) fun(r5,l6) =>
ob (Ma n x2) fun(r11,l12) =>
ob (Ct n r5 l6 r11 l12) fun(r17,l18,r22,l23) =>
some (r17,l18,r22,l23)
def uD(n:Nat)(l2:WB (Int)):(WB (Nat)×Int)->WA ((WB (Nat)×Int) ⊕(WB (Nat))):=fun(l3,v0) =>
br (decide (v0<(l2.length:Int))) (
gd (bG (Vx (Int.tdiv v0 2)) 8) (
ob (l3[(Vx (Int.tdiv v0 2)).toNat]?) fun x3 =>
gd (bG v0 l2.length) (
ob (l2[v0.toNat]?) fun x4 =>
gd (decide (0<=Vx (32*(Int.tmod v0 2)))) (
ob (some (eT .u64 (ui .u64 x4) (Vx (32*(Int.tmod v0 2))).toNat)) fun y2 =>
gd (bG (Vx (Int.tdiv v0 2)) 8) (
some (.inl ((l3.set ((Vx (Int.tdiv v0 2)).toNat) (uw .u64 (x3+y2))),Vx (v0+1)))))))) (
some (.inr l3))
def O7(n:Nat)(x1:Bool)(l2:WB (Int)):WA (Nat×Nat×Nat×Nat×Nat×Nat×Nat×Nat×Int) :=
gd (decide ((0:Int)<=16)) (gd (lim ((16:Int).toNat)) (
gd (bG 15 ((16:Int).toNat)) (
ob ((List.replicate (16:Int).toNat (0:Int))[(15:Int).toNat]?) fun x11 =>
ob (AM n l2 ((List.replicate (16:Int).toNat (0:Int)).set ((15:Int).toNat) 2147483648)) fun r0 =>
ob (
br (decide (0<r0)) (
some true) (
br (decide (r0=0)) (
some (!x1)) (
some false))) fun v0 =>
br (v0) (
some (0,0,0,0,0,0,0,0,6)) (
ob (
br (x1) (
gd (decide ((0:Int)<=17)) (gd (lim ((17:Int).toNat)) (
gd (bG 16 ((17:Int).toNat)) (
ob ((List.replicate (17:Int).toNat (0:Int))[(16:Int).toNat]?) fun x12 =>
ob (ue n ((List.replicate (17:Int).toNat (0:Int)).set ((16:Int).toNat) 1) l2) fun l3 =>
some l3)))) (
some l2)) fun l4 =>
ob (
bH (uD n l4) n (([0,0,0,0,0,0,0,0]:WB (Nat)),0)) fun l7 =>
ob (KV l7) fun(x3,x4,x5,x6,x7,x8,x9,x10) =>
some (x3,x4,x5,x6,x7,x8,x9,x10,0)))))
def AR(n:Nat)(x1:Bool)(l2:WB (Int))(x6:Bool)(l7:WB (Int)):WA (Nat×Nat×Nat×Nat×Nat×Nat×Nat×Nat×Nat×Nat×Nat×Nat×Nat×Nat×Nat×Nat×Int) :=
ob (O7 n x1 l2) fun(r14,r15,r16,r17,r18,r19,r20,r21,r22) =>
ob (O7 n x6 l7) fun(r25,r26,r27,r28,r29,r30,r31,r32,r33) =>
ob (
br (!decide (r22=0)) (
some true) (
some (!decide (r33=0)))) fun v42 =>
br (v42) (
some (0,0,0,0,0,0,0,0,0,0,0,0,0,0,0,0,6)) (
some (r14,r15,r16,r17,r18,r19,r20,r21,r25,r26,r27,r28,r29,r30,r31,r32,0))
def P4(n:Nat)(x1:Int)(x2:Int):WA (Nat×Nat×Nat×Nat×Nat×Nat×Nat×Nat×Nat×Nat×Nat×Nat×Nat×Nat×Nat×Nat×Int) :=
br (decide (x2=0)) (
some (0,0,0,0,0,0,0,0,0,0,0,0,0,0,0,0,7)) (
ob (zD n x1 x2) fun(r6,l7,r11,l12) =>
ob (AR n r6 l7 r11 l12) fun(r17,r18,r19,r20,r21,r22,r23,r24,r25,r26,r27,r28,r29,r30,r31,r32,r33) =>
some (r17,r18,r19,r20,r21,r22,r23,r24,r25,r26,r27,r28,r29,r30,r31,r32,r33))
def vG(n:Nat)(v1:Int)(v2:Int)(l2:WB (Nat)):(WB (Int)×Int×Int)->WA ((WB (Int)×Int×Int) ⊕(WB (Int)×Int)):=fun(l3,v4,v0) =>
br (decide (v0<v1)) (
ob (
br (decide (Vx ((Vx (v1*v2))+v0)<(l2.length:Int))) (
gd (bG (Vx ((Vx (v1*v2))+v0)) l2.length) (
ob (l2[(Vx ((Vx (v1*v2))+v0)).toNat]?) fun x3 =>
some (Vx ((x3%6:Nat):Int)))) (
some 0)) fun v3 =>
gd (lim (l3++[v3]).length) (
some (.inl ((l3++[v3]),Vx (v4+v3),Vx (v0+1))))) (
some (.inr (l3,v4)))
def uT(n:Nat)(v1:Int)(l3:WB (Int))(l4:WB (Int))(v2:Int):(WB WQ×Int)->WA ((WB WQ×Int) ⊕(WB WQ)):=fun(l2,v0) =>
br (decide (v0<v1)) (
gd (bG v0 l3.length) (
ob (l4[v0.toNat]?) fun x3 =>
ob (P4 n x3 v2) fun(r0,r1,r3,r4,r5,r6,r7,r8,r9,r10,r11,r12,r13,r14,r15,r16,r17) =>
gd (lim (l2++[(r0,r1,r3,r4,r5,r6,r7,r8,r9,r10,r11,r12,r13,r14,r15,r16)]).length) (
some (.inl ((l2++[(r0,r1,r3,r4,r5,r6,r7,r8,r9,r10,r11,r12,r13,r14,r15,r16)]),Vx (v0+1)))))) (
some (.inr l2))
def vo(n:Nat)(l7:WB (Nat)):(Int×WB (WB WQ)×Int)->WA ((Int×WB (WB WQ)×Int) ⊕(WB (WB WQ))):=fun(v1,l3,v0) =>
br (decide (v0<v1)) (
ob (
bH (vG n v1 v0 l7) n (([]:WB (Int)),0,0)) fun(l2,v2) =>
ob (
br (decide (v2=0)) (
gd (bG v0 l2.length) (
ob (l2[v0.toNat]?) fun x3 =>
some ((l2.set v0.toNat 1),1))) (
some (l2,v2))) fun(l8,v3) =>
ob (
bH (uT n v1 l2 l8 v3) n (([]:WB WQ),0)) fun l4 =>
gd (lim (l3++([l4]:WB (WB WQ))).length) (
some (.inl (v1,(l3++([l4]:WB (WB WQ))),Vx (v0+1))))) (
some (.inr l3))
def PU(n:Nat)(x1:Nat)(l2:WB (Nat)):WA (WB (WB WQ)) :=
ob (
bH (vo n l2) n (Vx (1+(Vx ((x1%4:Nat):Int))),([]:WB (WB WQ)),0)) fun l3 =>
some l3
def L5(n:Nat):(WB (Nat)×Int)->WA ((WB (Nat)×Int) ⊕(WB (Nat))):=fun(l40,v41) =>
br (decide (v41<8)) (
gd (bG v41 8) (
ob (l40[v41.toNat]?) fun x52 =>
some (.inl ((l40.set v41.toNat 18446744073709551615),Vx (v41+1))))) (
some (.inr l40))
def Rv(n:Nat)(x1:Int):WA WR :=
ob (
br (decide (x1<0)) (
ob (
bH (L5 n) n (([ui .u64 x1,0,0,0,0,0,0,0]:WB (Nat)),1)) fun l49 =>
some l49) (
some ([ui .u64 x1,0,0,0,0,0,0,0]:WB (Nat)))) fun l30 =>
ob (KV l30) fun(x59,x60,x61,x62,x63,x64,x65,x66) =>
some (x59,x60,x61,x62,x63,x64,x65,x66)
def px(n:Nat):(WB (Nat)×WB (Nat)×Nat×Int)->WA ((WB (Nat)×WB (Nat)×Nat×Int) ⊕(WB (Nat)×Nat)):=fun(l36,l37,v38,v39) =>
br (decide (v39<8)) (
gd (bG v39 8) (
ob (l36[v39.toNat]?) fun x60 =>
gd (bG v39 8) (
ob (l37[v39.toNat]?) fun x63 =>
ob (Ji n x60 x63 v38) fun(r66,r67) =>
gd (bG v39 8) (
some (.inl ((l36.set v39.toNat r66),l37,r67,Vx (v39+1))))))) (
some (.inr (l36,v38)))
def Js(n:Nat)(x1:Nat)(x2:Nat)(x3:Nat)(x4:Nat)(x5:Nat)(x6:Nat)(x7:Nat)(x8:Nat)(x9:Nat)(x10:Nat)(x11:Nat)(x12:Nat)(x13:Nat)(x14:Nat)(x15:Nat)(x16:Nat):WA (Nat×Nat×Nat×Nat×Nat×Nat×Nat×Nat×Nat) :=
ob (
bH (px n) n (([x1,x2,x3,x4,x5,x6,x7,x8]:WB (Nat)),([x9,x10,x11,x12,x13,x14,x15,x16]:WB (Nat)),0,0)) fun(l56,v57) =>
ob (KV l56) fun(x72,x73,x74,x75,x76,x77,x78,x79) =>
some (x72,x73,x74,x75,x76,x77,x78,x79,v57)
def Gk(n:Nat)(x1:Nat)(x2:Nat)(x3:Nat)(x4:Nat)(x5:Nat)(x6:Nat)(x7:Nat)(x8:Nat):WA (Bool×Nat×Nat×Nat×Nat×Nat×Nat×Nat×Nat) :=
ob (
br (decide (cG .u64 x8 63=1)) (
ob (Js n 0 0 0 0 0 0 0 0 x1 x2 x3 x4 x5 x6 x7 x8) fun(r34,r35,r36,r37,r38,r39,r40,r41,r42) =>
some (decide (cG .u64 x8 63=1),r34,r35,r36,r37,r38,r39,r40,r41)) (
some (decide (cG .u64 x8 63=1),x1,x2,x3,x4,x5,x6,x7,x8))) fun(v23,v24,v25,v26,v27,v28,v29,v30,v31) =>
some (v23,v24,v25,v26,v27,v28,v29,v30,v31)
def nY(n:Nat)(l2:WB (Nat)):Int->WA (Int⊕Int):=fun v9 =>
ob (
br (decide (0<v9)) (
gd (bG (Vx (v9-1)) l2.length) (
ob (l2[(Vx (v9-1)).toNat]?) fun x71 =>
some (decide (x71=0)))) (
some false)) fun v66 =>
br (v66) (
some (.inl (Vx (v9-1)))) (
some (.inr v9))
def mG(n:Nat)(x1:Bool)(l2:WB (Nat)):WA (Bool×WB Nat) :=
ob (
bH (nY n l2) n (l2.length:Int)) fun v43 =>
br (x1) (
gd (okB 0 v43 l2.length) (
some (decide (0<v43),((l2.drop Vy).take ((v43:Int).toNat-Vy))))) (
gd (okB 0 v43 l2.length) (
some (false,((l2.drop Vy).take ((v43:Int).toNat-Vy)))))
def L1(n:Nat)(x1:Nat)(x2:Nat)(x3:Nat)(x4:Nat)(x5:Nat)(x6:Nat)(x7:Nat)(x8:Nat):WA (Bool×WB Nat) :=
ob (Gk n x1 x2 x3 x4 x5 x6 x7 x8) fun(r12,r13,r14,r15,r16,r17,r18,r19,r20) =>
gd (lim (([]:WB (Nat))++[r13,r14,r15,r16,r17,r18,r19,r20]).length) (
ob (mG n r12 (([]:WB (Nat))++[r13,r14,r15,r16,r17,r18,r19,r20])) fun(r26,l27) =>
some (r26,l27))
def Kw(n:Nat)(x1:Int):WA (Bool×WB Nat) :=
ob (Rv n x1) fun(r4,r5,r6,r7,r8,r9,r10,r11) =>
ob (L1 n r4 r5 r6 r7 r8 r9 r10 r11) fun(r13,l14) =>
some (r13,l14)
def Im(n:Nat)(x1:Nat)(x2:Nat)(x3:Nat)(x4:Nat)(x5:Nat)(x6:Nat)(x7:Nat)(x8:Nat)(x9:Nat)(x10:Nat)(x11:Nat)(x12:Nat)(x13:Nat)(x14:Nat)(x15:Nat)(x16:Nat):WA WT :=
ob (L1 n x1 x2 x3 x4 x5 x6 x7 x8) fun(r20,l21) =>
ob (L1 n x9 x10 x11 x12 x13 x14 x15 x16) fun(r26,l27) =>
some (r20,l21,r26,l27)
def CE(n:Nat)(x1:Bool)(l2:WB (Nat)):WA Int :=
br (x1) (
some (-1)) (
br (decide ((l2.length:Int)=0)) (
some 0) (
some 1))
def HD(n:Nat)(x1:Nat):WA Int :=
ob (
br (decide (4294967296<=x1)) (
some (cG .u64 x1 32,32)) (
some (x1,0))) fun(v3,v4) =>
ob (
br (decide (65536<=v3)) (
some (cG .u64 v3 16,Vx (v4+16))) (
some (v3,v4))) fun(v9,v10) =>
ob (
br (decide (256<=v9)) (
some (cG .u64 v9 8,Vx (v10+8))) (
some (v9,v10))) fun(v15,v16) =>
gd (bG ((uw .u8 v15:Nat):Int) 256) (
ob (gm[((uw .u8 v15:Nat):Int).toNat]?) fun y22 =>
some (Vx (v16+(Vx ((y22:Nat):Int)))))
def AU(n:Nat)(x1:Nat):WA Int :=
ob (HD n x1) fun r3 =>
some (Vx (64-r3))
def sI(n:Nat):WR->WA (WR ⊕(Nat×Nat×Nat×Nat×Nat×Nat×Nat)):=fun(v20,v21,v22,v23,v24,v25,v26,v27) =>
ob (
br (decide (4294967296<=v26)) (
some true) (
some (decide (uw .u64 ((uw .u64 (4294967296*v27))+v24)<uw .u64 (v26*v23))))) fun v63 =>
br (v63) (
br (decide (4294967296<=uw .u64 (v27+v22))) (
some (.inr (v20,v21,v22,v23,v24,v25,iS .u64 v26 1))) (
some (.inl (v20,v21,v22,v23,v24,v25,iS .u64 v26 1,uw .u64 (v27+v22))))) (
some (.inr (v20,v21,v22,v23,v24,v25,v26)))
def fJ(n:Nat)(v3:Nat)(v4:Nat)(v2:Nat):(Nat×Nat)->WA ((Nat×Nat)⊕Nat):=fun(v1,v0) =>
ob (
br (decide (4294967296<=v0)) (
some true) (
some (decide (uw .u64 ((uw .u64 (4294967296*v1))+v3)<uw .u64 (v0*v4))))) fun v5 =>
br (v5) (
br (decide (4294967296<=uw .u64 (v1+v2))) (
some (.inr (iS .u64 v0 1))) (
some (.inl (uw .u64 (v1+v2),iS .u64 v0 1)))) (
some (.inr v0))
def IK(n:Nat)(x1:Nat)(x2:Nat)(x3:Nat):WA (Nat×Nat) :=
br (decide (x3=0)) (
none) (
br (decide (x3<=x1)) (
none) (
br (decide (x1=0)) (
gd (decide (0<x3)) (
gd (decide (0<x3)) (
some (uw .u64 (x2/x3),x2%x3)))) (
ob (AU n x3) fun r0 =>
ob (some (uw .u64 (uw .u64 (eT .u64 x1 (ui .u64 r0)) ||| uw .u64 (cG .u64 x2 (iS .u64 64 (ui .u64 r0)))))) fun y2 =>
gd (decide (0<cG .u64 (eT .u64 x3 (ui .u64 r0)) 32)) (
ob (some (uw .u64 ((uw .u64 (y2/(cG .u64 (eT .u64 x3 (ui .u64 r0)) 32)))*(cG .u64 (eT .u64 x3 (ui .u64 r0)) 32)))) fun y4 =>
ob (
bH (sI n) n (eT .u64 x3 (ui .u64 r0),ui .u64 r0,cG .u64 (eT .u64 x3 (ui .u64 r0)) 32,uw .u64 (uw .u64 (eT .u64 x3 (ui .u64 r0)) &&& uw .u64 4294967295),cG .u64 (eT .u64 x2 (ui .u64 r0)) 32,uw .u64 (uw .u64 (eT .u64 x2 (ui .u64 r0)) &&& uw .u64 4294967295),uw .u64 (y2/(cG .u64 (eT .u64 x3 (ui .u64 r0)) 32)),iS .u64 y2 y4)) fun(v1,v5,v0,v6,v7,v2,v3) =>
ob (some (iS .u64 (uw .u64 ((uw .u64 (y2*4294967296))+v7)) (uw .u64 (v3*v1)))) fun y3 =>
gd (decide (0<v0)) (
ob (
bH (fJ n v2 v6 v0) n (iS .u64 y3 (uw .u64 ((uw .u64 (y3/v0))*v0)),uw .u64 (y3/v0))) fun v4 =>
ob (some (iS .u64 (uw .u64 ((uw .u64 (y3*4294967296))+v2)) (uw .u64 (v4*v1)))) fun y5 =>
some (uw .u64 ((uw .u64 (v3*4294967296))+v4),cG .u64 y5 v5))))))
def FT(n:Nat)(l1:WB (Nat)):WA Int :=
br (decide ((l1.length:Int)=0)) (
some 0) (
gd (bG (Vx ((l1.length:Int)-1)) l1.length) (
ob (l1[(Vx ((l1.length:Int)-1)).toNat]?) fun x9 =>
ob (AU n x9) fun r12 =>
some (Vx ((Vx (64*(l1.length:Int)))-r12))))
def pn(n:Nat)(l1:WB (Nat))(x3:Int):(WB (Nat)×Nat×Int)->WA ((WB (Nat)×Nat×Int) ⊕(WB (Nat)×Nat)):=fun(l2,n2,v0) =>
br (decide (v0<(l1.length:Int))) (
ob (
gd (bG v0 l1.length) (
ob (l1[v0.toNat]?) fun x4 =>
gd (bG (Vx (v0+(Vx (Int.tdiv x3 64)))) n2) (
ob (l2[(Vx (v0+(Vx (Int.tdiv x3 64)))).toNat]?) fun x5 =>
gd (decide (0<=Int.tmod x3 64)) (
ob (some (uw .u64 (uw .u64 x5 ||| uw .u64 (eT .u64 x4 (Int.tmod x3 64).toNat)))) fun y2 =>
gd (bG (Vx (v0+(Vx (Int.tdiv x3 64)))) n2) (
br (decide (0<Int.tmod x3 64)) (
ob (some (Vx ((Vx (v0+(Vx (Int.tdiv x3 64))))+1))) fun y3 =>
gd (decide (0<=Vx (64-(Int.tmod x3 64)))) (
gd (bG y3 n2) (
ob ((l2.set ((Vx (v0+(Vx (Int.tdiv x3 64)))).toNat) y2)[y3.toNat]?) fun x6 =>
some ((l2.set ((Vx (v0+(Vx (Int.tdiv x3 64)))).toNat) y2).set y3.toNat (cG .u64 x4 (Vx (64-(Int.tmod x3 64))).toNat))))) (
some (l2.set ((Vx (v0+(Vx (Int.tdiv x3 64)))).toNat) y2))))))) fun l3 =>
some (.inl (l3,n2,Vx (v0+1)))) (
some (.inr (l2,n2)))
def GX(n:Nat)(l1:WB (Nat))(x3:Int):WA (WB Nat) :=
ob (some (Vx ((l1.length:Int)+(Vx (Int.tdiv x3 64))))) fun y2 =>
gd (decide (0<=Vx (y2+1))) (gd (lim ((Vx (y2+1)).toNat)) (
ob (
bH (pn n l1 x3) n ((List.replicate (Vx (y2+1)).toNat (0:Nat)),(Vx (y2+1)).toNat,0)) fun(l2,n2) =>
ob (mG n false l2) fun(r0,l3) =>
some l3))
def lK(n:Nat)(l1:WB (Nat))(l5:WB (Nat)):Int->WA (Int⊕Int⊕WC):=fun v11 =>
br (decide (0<=v11)) (
gd (bG v11 l1.length) (
ob (l1[v11.toNat]?) fun x33 =>
gd (bG v11 l5.length) (
ob (l5[v11.toNat]?) fun x38 =>
br (decide (x33<x38)) (
some (.inr (.inl (-1)))) (
gd (bG v11 l1.length) (
gd (bG v11 l5.length) (
br (decide (x38<x33)) (
some (.inr (.inl 1))) (
some (.inl (Vx (v11-1)))))))))) (
some (.inr (.inr ())))
def FH(n:Nat)(l1:WB (Nat))(l5:WB (Nat)):WA Int :=
br (!decide ((l1.length:Int)=(l5.length:Int))) (
some (Vx ((l1.length:Int)-(l5.length:Int)))) (
ob (α:=(Int)⊕WC) (
bH (lK n l1 l5) n (Vx ((l1.length:Int)-1))) fun r45=>match r45 with
| .inl v28 =>
some v28
| .inr _ =>
some 0)
def pI(n:Nat)(l1:WB (Nat))(l5:WB (Nat)):(WB (Nat)×Nat×Int)->WA ((WB (Nat)×Nat×Int) ⊕(WB (Nat))):=fun(l2,v1,v0) =>
br (decide (v0<(l1.length:Int))) (
gd (bG v0 l1.length) (
ob (l1[v0.toNat]?) fun x3 =>
ob (
br (decide (v0<(l5.length:Int))) (
gd (bG v0 l5.length) (
ob (l5[v0.toNat]?) fun x4 =>
some x4)) (
some 0)) fun v2 =>
ob (Ji n x3 v2 v1) fun(r0,r1) =>
gd (bG v0 ((l1.length:Int).toNat)) (
ob (l2[v0.toNat]?) fun x5 =>
some (.inl ((l2.set v0.toNat r0),r1,Vx (v0+1)))))) (
some (.inr l2))
def FK(n:Nat)(l1:WB (Nat))(l5:WB (Nat)):WA (WB Nat) :=
gd (decide (0<=(l1.length:Int))) (gd (lim ((l1.length:Int).toNat)) (
ob (
bH (pI n l1 l5) n ((List.replicate (l1.length:Int).toNat (0:Nat)),0,0)) fun l2 =>
some l2))
def pO(n:Nat)(l1:WB (Nat))(l6:WB (Nat)):(WB (Nat)×Nat×Int)->WA ((WB (Nat)×Nat×Int) ⊕(WB (Nat)×Nat)):=fun(l37,v38,v39) =>
br (decide (0<=v39)) (
gd (bG v39 l1.length) (
ob (l1[v39.toNat]?) fun x67 =>
gd (bG 0 l6.length) (
ob (l6[Vy]?) fun x72 =>
ob (IK n v38 x67 x72) fun(r75,r76) =>
gd (bG v39 ((l1.length:Int).toNat)) (
ob (l37[v39.toNat]?) fun x78 =>
some (.inl ((l37.set v39.toNat r75),r76,Vx (v39-1))))))) (
some (.inr (l37,v38)))
def jt(n:Nat)(l6:WB (Nat))(l1:WB (Nat)):(WB (Nat)×WB (Nat)×Int)->WA ((WB (Nat)×WB (Nat)×Int) ⊕(WB (Nat)×WB (Nat))):=fun(l2,l3,v0) =>
br (decide (0<=v0)) (
ob (
ob (GX n l6 v0) fun l4 =>
ob (FH n l3 l4) fun r0 =>
br (decide (0<=r0)) (
ob (FK n l3 l4) fun l7 =>
ob (mG n false l7) fun(r1,l8) =>
gd (bG (Vx (Int.tdiv v0 64)) ((l1.length:Int).toNat)) (
ob (l2[(Vx (Int.tdiv v0 64)).toNat]?) fun x3 =>
gd (decide (0<=Int.tmod v0 64)) (
ob (some (uw .u64 (uw .u64 x3 ||| uw .u64 (eT .u64 1 (Int.tmod v0 64).toNat)))) fun y2 =>
gd (bG (Vx (Int.tdiv v0 64)) ((l1.length:Int).toNat)) (
some ((l2.set ((Vx (Int.tdiv v0 64)).toNat) y2),l8))))) (
some (l2,l3))) fun(l9,l10) =>
some (.inl (l9,l10,Vx (v0-1)))) (
some (.inr (l2,l3)))
def zd(n:Nat)(l1:WB (Nat))(l6:WB (Nat)):WA (WB Nat×WB Nat) :=
gd (decide (0<=(l1.length:Int))) (gd (lim ((l1.length:Int).toNat)) (
br (decide ((l6.length:Int)=1)) (
ob (
bH (pO n l1 l6) n ((List.replicate (l1.length:Int).toNat (0:Nat)),0,Vx ((l1.length:Int)-1))) fun(l2,v0) =>
ob (mG n false ([v0])) fun(r3,l3) =>
some (l2,l3)) (
ob (FT n l1) fun r0 =>
ob (FT n l6) fun r1 =>
ob (
bH (jt n l6 l1) n ((List.replicate (l1.length:Int).toNat (0:Nat)),l1,Vx (r0-r1))) fun(l4,l7) =>
some (l4,l7))))
def rM(n:Nat):(WB (Nat)×WB (Nat))->WA ((WB (Nat)×WB (Nat)) ⊕(WB (Nat))):=fun(l26,l29) =>
br (decide (0<(l29.length:Int))) (
ob (zd n l26 l29) fun(l53,l57) =>
some (.inl (l29,l57))) (
some (.inr l26))
def E6(n:Nat)(x1:Bool)(l2:WB (Nat))(x7:Bool)(l8:WB (Nat)):WA (Bool×WB Nat) :=
ob (
bH (rM n) n (l2,l8)) fun l48 =>
some (false,l48)
def Cp(n:Nat)(x1:Bool)(l2:WB (Nat)):WA (Bool×WB Nat) :=
ob (mG n (!x1) l2) fun(r10,l11) =>
some (r10,l11)
def nR(n:Nat)(l2:WB (Nat))(l3:WB (Nat)):(WB (Nat)×Nat×Nat×Int)->WA ((WB (Nat)×Nat×Nat×Int) ⊕(WB (Nat)×Nat×Nat)):=fun(l4,n2,v1,v0) =>
br (decide (v0<(l2.length:Int))) (
gd (bG v0 l2.length) (
ob (l2[v0.toNat]?) fun x3 =>
ob (
br (decide (v0<(l3.length:Int))) (
gd (bG v0 l3.length) (
ob (l3[v0.toNat]?) fun x4 =>
some x4)) (
some 0)) fun v2 =>
ob (Ew n x3 v2 v1) fun(r0,r1) =>
gd (bG v0 n2) (
ob (l4[v0.toNat]?) fun x5 =>
some (.inl ((l4.set v0.toNat r0),n2,r1,Vx (v0+1)))))) (
some (.inr (l4,n2,v1)))
def HE(n:Nat)(l1:WB (Nat))(l5:WB (Nat)):WA (WB Nat) :=
ob (
br (decide ((l1.length:Int)<(l5.length:Int))) (
some (l5,l1)) (
some (l1,l5))) fun(l2,l4) =>
gd (decide (0<=Vx ((l2.length:Int)+1))) (gd (lim ((Vx ((l2.length:Int)+1)).toNat)) (
ob (
bH (nR n l2 l4) n ((List.replicate (Vx ((l2.length:Int)+1)).toNat (0:Nat)),(Vx ((l2.length:Int)+1)).toNat,0,0)) fun(l3,n2,v0) =>
gd (bG (l2.length:Int) n2) (
ob (l3[(l2.length:Int).toNat]?) fun x3 =>
some (l3.set ((l2.length:Int).toNat) v0))))
def wU(n:Nat)(x1:Bool)(l2:WB (Nat))(x7:Bool)(l8:WB (Nat)):WA (Bool×WB Nat) :=
br ((x1==x7)) (
ob (HE n l2 l8) fun l18 =>
ob (mG n x1 l18) fun(r22,l23) =>
some (r22,l23)) (
ob (
ob (FH n l2 l8) fun r39 =>
br (decide (r39<0)) (
some (x7,l8,x1,l2)) (
some (x1,l2,x7,l8))) fun(v30,l31,v34,l35) =>
ob (FK n l31 l35) fun l44 =>
ob (mG n v30 l44) fun(r48,l49) =>
some (r48,l49))
def GM(n:Nat)(x1:Bool)(l2:WB (Nat))(x7:Bool)(l8:WB (Nat)):WA (Bool×WB Nat) :=
ob (Cp n x7 l8) fun(r17,l18) =>
ob (wU n x1 l2 r17 l18) fun(r23,l24) =>
some (r23,l24)
def FE(n:Nat)(x1:Bool)(l2:WB (Nat))(x6:Bool)(l7:WB (Nat)):WA Int :=
ob (GM n x1 l2 x6 l7) fun(r14,l15) =>
ob (CE n r14 l15) fun r20 =>
some r20
def EL(n:Nat)(x1:Nat)(x2:Nat)(x3:Nat)(x4:Nat)(x5:Nat)(x6:Nat)(x7:Nat)(x8:Nat)(x9:Nat)(x10:Nat)(x11:Nat)(x12:Nat)(x13:Nat)(x14:Nat)(x15:Nat)(x16:Nat):WA Int :=
ob (Kw n 1) fun(r19,l20) =>
ob (Im n x1 x2 x3 x4 x5 x6 x7 x8 x9 x10 x11 x12 x13 x14 x15 x16) fun(r26,l27,r31,l32) =>
ob (
ob (CE n r31 l32) fun r76 =>
br (decide (r76<=0)) (
some true) (
ob (E6 n r26 l27 r31 l32) fun(r79,l80) =>
ob (FE n r79 l80 r19 l20) fun r85 =>
some (!decide (r85=0)))) fun v74 =>
br (v74) (
some 20) (
some 0)
def GD(n:Nat)(x1:Nat)(x2:Nat)(x3:Nat)(x4:Nat)(x5:Nat)(x6:Nat)(x7:Nat)(x8:Nat)(x9:Nat)(x10:Nat)(x11:Nat)(x12:Nat)(x13:Nat)(x14:Nat)(x15:Nat)(x16:Nat):WA Bool :=
ob (EL n x1 x2 x3 x4 x5 x6 x7 x8 x9 x10 x11 x12 x13 x14 x15 x16) fun r19 =>
br (!decide (r19=0)) (
some true) (
ob (Im n x1 x2 x3 x4 x5 x6 x7 x8 x9 x10 x11 x12 x13 x14 x15 x16) fun(r22,l23,r27,l28) =>
ob (CE n r22 l23) fun r33 =>
some (decide (r33<0)))
def HQ(n:Nat)(x1:Bool)(l2:WB (Nat)):WA WT :=
ob (Kw n 1) fun(r10,l11) =>
some (x1,l2,r10,l11)
def xr(n:Nat)(x1:Int):WA WT :=
ob (Kw n x1) fun(r4,l5) =>
ob (HQ n r4 l5) fun(r10,l11,r15,l16) =>
some (r10,l11,r15,l16)
def GR(n:Nat)(x1:Nat)(x2:Nat):WA (Nat×Nat) :=
ob (some (uw .u64 ((uw .u64 (uw .u64 x1 &&& uw .u64 4294967295))*(uw .u64 (uw .u64 x2 &&& uw .u64 4294967295))))) fun y3 =>
ob (some (uw .u64 ((cG .u64 x1 32)*(uw .u64 (uw .u64 x2 &&& uw .u64 4294967295))))) fun y5 =>
ob (some (uw .u64 (uw .u64 (uw .u64 (y5+(cG .u64 y3 32))) &&& uw .u64 4294967295))) fun y7 =>
ob (some (uw .u64 ((uw .u64 (uw .u64 x1 &&& uw .u64 4294967295))*(cG .u64 x2 32)))) fun y9 =>
ob (some (uw .u64 ((uw .u64 ((cG .u64 x1 32)*(cG .u64 x2 32)))+(cG .u64 (uw .u64 (y5+(cG .u64 y3 32))) 32)))) fun y11 =>
some (uw .u64 (y11+(cG .u64 (uw .u64 (y7+y9)) 32)),uw .u64 (x1*x2))
def pS(n:Nat)(l5:WB (Nat))(x3:Nat)(v1:Int)(n2:Nat):(WB (Nat)×Nat×Int)->WA ((WB (Nat)×Nat×Int) ⊕(WB (Nat)×Nat)):=fun(l2,v2,v0) =>
br (decide (v0<(l5.length:Int))) (
gd (bG v0 l5.length) (
ob (l5[v0.toNat]?) fun x4 =>
ob (GR n x3 x4) fun(r0,r1) =>
gd (bG (Vx (v1+v0)) n2) (
ob (l2[(Vx (v1+v0)).toNat]?) fun x5 =>
ob (Ew n x5 r1 0) fun(r3,r4) =>
ob (Ew n r3 v2 0) fun(r5,r6) =>
gd (bG (Vx (v1+v0)) n2) (
some (.inl ((l2.set ((Vx (v1+v0)).toNat) r5),uw .u64 ((uw .u64 (r0+r4))+r6),Vx (v0+1))))))) (
some (.inr (l2,v2)))
def qd(n:Nat)(l1:WB (Nat))(l5:WB (Nat)):(WB (Nat)×Nat×Int)->WA ((WB (Nat)×Nat×Int) ⊕(WB (Nat)×Nat)):=fun(l2,n2,v0) =>
br (decide (v0<(l1.length:Int))) (
gd (bG v0 l1.length) (
ob (l1[v0.toNat]?) fun x3 =>
ob (
bH (pS n l5 x3 v0 n2) n (l2,0,0)) fun(l3,v1) =>
gd (bG (Vx (v0+(l5.length:Int))) n2) (
ob (l3[(Vx (v0+(l5.length:Int))).toNat]?) fun x4 =>
some (.inl ((l3.set ((Vx (v0+(l5.length:Int))).toNat) v1),n2,Vx (v0+1)))))) (
some (.inr (l2,n2)))
def HT(n:Nat)(l1:WB (Nat))(l5:WB (Nat)):WA (WB Nat) :=
gd (decide (0<=Vx ((l1.length:Int)+(l5.length:Int)))) (gd (lim ((Vx ((l1.length:Int)+(l5.length:Int))).toNat)) (
ob (
bH (qd n l1 l5) n ((List.replicate (Vx ((l1.length:Int)+(l5.length:Int))).toNat (0:Nat)),(Vx ((l1.length:Int)+(l5.length:Int))).toNat,0)) fun(l2,n2) =>
some l2))
def FW(n:Nat)(x1:Bool)(l2:WB (Nat))(x7:Bool)(l8:WB (Nat)):WA (Bool×WB Nat) :=
ob (HT n l2 l8) fun l17 =>
ob (mG n (!(x1==x7)) l17) fun(r21,l22) =>
some (r21,l22)
def FB(n:Nat)(x1:Bool)(l2:WB (Nat))(x7:Bool)(l8:WB (Nat)):WA WT :=
ob (zd n l2 l8) fun(l18,l22) =>
ob (mG n (!(x1==x7)) l18) fun(r27,l28) =>
ob (mG n x1 l22) fun(r33,l34) =>
ob (
br (r33) (
ob (wU n r33 l34 false l8) fun(r65,l66) =>
ob (wU n r27 l28 (!x7) ([1])) fun(r73,l74) =>
some (r73,l74,r65,l66)) (
some (r27,l28,r33,l34))) fun(v54,l55,v58,l59) =>
some (v54,l55,v58,l59)
def EV(n:Nat)(x1:Bool)(l2:WB (Nat))(x7:Bool)(l8:WB (Nat)):WA WT :=
ob (E6 n x1 l2 x7 l8) fun(r17,l18) =>
ob (FB n x1 l2 r17 l18) fun(r24,l25,r29,l30) =>
ob (FB n x7 l8 r17 l18) fun(r37,l38,r42,l43) =>
ob (
br (r37) (
ob (Cp n r24 l25) fun(r72,l73) =>
ob (Cp n r37 l38) fun(r78,l79) =>
some (r72,l73,r78,l79)) (
some (r24,l25,r37,l38))) fun(v62,l63,v66,l67) =>
some (v62,l63,v66,l67)
def E9(n:Nat)(x1:Bool)(l2:WB (Nat))(x7:Bool)(l8:WB (Nat))(x13:Bool)(l14:WB (Nat))(x19:Bool)(l20:WB (Nat)):WA WT :=
ob (FW n x1 l2 x19 l20) fun(r29,l30) =>
ob (FW n x13 l14 x7 l8) fun(r35,l36) =>
ob (wU n r29 l30 r35 l36) fun(r41,l42) =>
ob (FW n x7 l8 x19 l20) fun(r47,l48) =>
ob (EV n r41 l42 r47 l48) fun(r53,l54,r58,l59) =>
some (r53,l54,r58,l59)
def Jh(n:Nat)(x1:Bool)(l2:WB (Nat))(x6:Bool)(l7:WB (Nat))(x11:Bool)(l12:WB (Nat))(x16:Bool)(l17:WB (Nat)):WA Int :=
ob (FW n x1 l2 x16 l17) fun(r24,l25) =>
ob (FW n x11 l12 x6 l7) fun(r30,l31) =>
ob (FE n r24 l25 r30 l31) fun r36 =>
some r36
def sU(n:Nat)(l1:WB WQ):Int->WA (Int⊕Int⊕WC):=fun v0 =>
br (decide (v0<(l1.length:Int))) (
gd (bG v0 l1.length) (
ob (l1[v0.toNat]?) fun(x3,x4,x5,x6,x7,x8,x9,x10,x11,x12,x14,x15,x16,x17,x18,x19) =>
ob (GD n x3 x4 x5 x6 x7 x8 x9 x10 x11 x12 x14 x15 x16 x17 x18 x19) fun r0 =>
br (r0) (
some (.inr (.inl v0))) (
some (.inl (Vx (v0+1)))))) (
some (.inr (.inr ())))
def pq(n:Nat)(l1:WB WQ):(Bool×WB (Nat)×Bool×WB (Nat)×Int)->WA ((Bool×WB (Nat)×Bool×WB (Nat)×Int) ⊕(Bool×WB (Nat)×Bool×WB (Nat))):=fun(v1,l2,v2,l3,v0) =>
br (decide (v0<(l1.length:Int))) (
gd (bG v0 l1.length) (
ob (l1[v0.toNat]?) fun(x3,x4,x5,x6,x7,x8,x9,x10,x11,x12,x14,x15,x16,x17,x18,x19) =>
ob (Im n x3 x4 x5 x6 x7 x8 x9 x10 x11 x12 x14 x15 x16 x17 x18 x19) fun(r0,l4,r1,l7) =>
ob (E9 n v1 l2 v2 l3 r0 l4 r1 l7) fun(r3,l8,r4,l9) =>
some (.inl (r3,l8,r4,l9,Vx (v0+1))))) (
some (.inr (v1,l2,v2,l3)))
def rV(n:Nat)(l1:WB WQ):WA Bool :=
ob (
ob (α:=Int) (
ob (α:=(Int)⊕WC) (
bH (sU n l1) n 0) fun r0=>match r0 with
| .inl v0 =>
some v0
| .inr _ =>
some (-1)) fun v1 =>
some (decide (0<=v1))) fun v2 =>
br (v2) (
some false) (
ob (
ob (xr n 0) fun(r1,l2,r3,l3) =>
ob (
bH (pq n l1) n (r1,l2,r3,l3,0)) fun(v3,l4,v4,l7) =>
some (v3,l4,v4,l7)) fun(v5,l8,v6,l9) =>
ob (xr n 1) fun(r4,l10,r5,l11) =>
ob (Jh n v5 l8 v6 l9 r4 l10 r5 l11) fun r6 =>
some (decide (r6=0)))
def kQ(n:Nat)(l1:WB (WB WQ)):Int->WA (Int⊕WC⊕WC):=fun v21 =>
br (decide (v21<(l1.length:Int))) (
gd (bG v21 l1.length) (
ob (l1[v21.toNat]?) fun l79 =>
ob (
br (!decide ((l79.length:Int)=(l1.length:Int))) (
some true) (
ob (rV n l79) fun r89 =>
some (!r89))) fun v86 =>
br (v86) (
some (.inr (.inl ()))) (
some (.inl (Vx (v21+1)))))) (
some (.inr (.inr ())))
def Me(n:Nat)(l1:WB (WB WQ)):WA Int :=
ob (
br (decide ((l1.length:Int)<1)) (
some true) (
some (decide (60<(l1.length:Int))))) fun v15 =>
br (v15) (
some 330) (
ob (α:=(WC)⊕WC) (
bH (kQ n l1) n 0) fun r94=>match r94 with
| .inl _ =>
some 330
| .inr _ =>
some 0)
def vi(n:Nat)(l3:WB WQ)(v1:Int)(l1:WB (WB WQ)):(WB (Nat)×Int)->WA ((WB (Nat)×Int) ⊕(WB (Nat))):=fun(l2,v0) =>
br (decide (v0<(l3.length:Int))) (
ob (
gd (bG v0 l3.length) (
ob (l3[v0.toNat]?) fun(x3,x4,x5,x6,x7,x8,x9,x10,x11,x12,x14,x15,x16,x17,x18,x19) =>
ob (Im n x3 x4 x5 x6 x7 x8 x9 x10 x11 x12 x14 x15 x16 x17 x18 x19) fun(r0,l4,r3,l8) =>
ob (CE n r0 l4) fun r1 =>
br (decide (0<r1)) (
gd (bG v1 ((l1.length:Int).toNat)) (
ob (l2[v1.toNat]?) fun x20 =>
gd (decide (0<=v0)) (
gd (bG v1 ((l1.length:Int).toNat)) (
some (l2.set v1.toNat (uw .u64 (uw .u64 x20 ||| uw .u64 (eT .u64 1 v0.toNat)))))))) (
some l2))) fun l7 =>
some (.inl (l7,Vx (v0+1)))) (
some (.inr l2))
def vj(n:Nat)(l1:WB (WB WQ)):(WB (Nat)×Int)->WA ((WB (Nat)×Int) ⊕(WB (Nat))):=fun(l2,v0) =>
br (decide (v0<(l1.length:Int))) (
gd (bG v0 l1.length) (
ob (l1[v0.toNat]?) fun l3 =>
gd (decide (0<=v0)) (
gd (bG v0 ((l1.length:Int).toNat)) (
ob (l2[v0.toNat]?) fun x3 =>
ob (
bH (vi n l3 v0 l1) n ((l2.set v0.toNat (eT .u64 1 v0.toNat)),0)) fun l4 =>
some (.inl (l4,Vx (v0+1))))))) (
some (.inr l2))
def sx(n:Nat)(l1:WB (WB WQ))(v1:Int):(WB (Nat)×Int)->WA ((WB (Nat)×Int) ⊕(WB (Nat))):=fun(l2,v0) =>
br (decide (v0<(l1.length:Int))) (
ob (
gd (bG v0 ((l1.length:Int).toNat)) (
ob (l2[v0.toNat]?) fun x3 =>
gd (decide (0<=v1)) (
br (decide (uw .u64 (uw .u64 (cG .u64 x3 v1.toNat) &&& uw .u64 1)=1)) (
gd (bG v0 ((l1.length:Int).toNat)) (
gd (bG v1 ((l1.length:Int).toNat)) (
ob (l2[v1.toNat]?) fun x4 =>
gd (bG v0 ((l1.length:Int).toNat)) (
some (l2.set v0.toNat (uw .u64 (uw .u64 x3 ||| uw .u64 x4))))))) (
some l2)))) fun l3 =>
some (.inl (l3,Vx (v0+1)))) (
some (.inr l2))
def vy(n:Nat)(l1:WB (WB WQ)):(WB (Nat)×Int)->WA ((WB (Nat)×Int) ⊕(WB (Nat))):=fun(l2,v0) =>
br (decide (v0<(l1.length:Int))) (
ob (
bH (sx n l1 v0) n (l2,0)) fun l3 =>
some (.inl (l3,Vx (v0+1)))) (
some (.inr l2))
def rJ(n:Nat)(v0:Int)(l1:WB (WB WQ))(l3:WB (Nat)):(WB (Int)×Int)->WA ((WB (Int)×Int) ⊕(WB (Int))):=fun(l2,v1) =>
br (decide (v1<v0)) (
ob (
ob (
gd (bG v0 ((l1.length:Int).toNat)) (
ob (l3[v0.toNat]?) fun x3 =>
gd (decide (0<=v1)) (
br (decide (uw .u64 (uw .u64 (cG .u64 x3 v1.toNat) &&& uw .u64 1)=1)) (
gd (bG v1 ((l1.length:Int).toNat)) (
ob (l3[v1.toNat]?) fun x4 =>
gd (decide (0<=v0)) (
some (decide (uw .u64 (uw .u64 (cG .u64 x4 v0.toNat) &&& uw .u64 1)=1))))) (
some false)))) fun v2 =>
br (v2) (
gd (bG v1 ((l1.length:Int).toNat)) (
ob (l2[v1.toNat]?) fun x5 =>
gd (bG v0 ((l1.length:Int).toNat)) (
ob (l2[v0.toNat]?) fun x6 =>
some (l2.set v0.toNat x5)))) (
some l2)) fun l4 =>
some (.inl (l4,Vx (v1+1)))) (
some (.inr l2))
def qy(n:Nat)(l1:WB (WB WQ))(l4:WB (Nat)):(WB (Int)×Int×Int)->WA ((WB (Int)×Int×Int) ⊕(WB (Int))):=fun(l2,v1,v0) =>
br (decide (v0<(l1.length:Int))) (
ob (
gd (bG v0 ((l1.length:Int).toNat)) (
ob (l2[v0.toNat]?) fun x4 =>
ob (
bH (rJ n v0 l1 l4) n ((l2.set v0.toNat v1),0)) fun l3 =>
gd (bG v0 ((l1.length:Int).toNat)) (
ob (l3[v0.toNat]?) fun x3 =>
br (decide (x3=v1)) (
some (l3,Vx (v1+1))) (
some (l3,v1))))) fun(l7,v2) =>
some (.inl (l7,v2,Vx (v0+1)))) (
some (.inr l2))
def NG(n:Nat)(l1:WB (WB WQ)):WA (WB Int×Int) :=
ob (Me n l1) fun r0 =>
br (!decide (r0=0)) (
some ([],r0)) (
gd (decide (0<=(l1.length:Int))) (gd (lim ((l1.length:Int).toNat)) (
ob (
bH (vj n l1) n ((List.replicate (l1.length:Int).toNat (0:Nat)),0)) fun l2 =>
ob (
bH (vy n l1) n (l2,0)) fun l3 =>
gd (decide (0<=(l1.length:Int))) (gd (lim ((l1.length:Int).toNat)) (
ob (
bH (qy n l1 l3) n ((List.replicate (l1.length:Int).toNat (0:Int)),0,0)) fun l4 =>
some (l4,0))))))
def gJ(n:Nat):(WB (Nat)×WB (Nat)×Int)->WA ((WB (Nat)×WB (Nat)×Int)⊕Int⊕WC):=fun(l32,l33,v34) =>
br (decide (0<=v34)) (
gd (bG v34 8) (
ob (l32[v34.toNat]?) fun x52 =>
gd (bG v34 8) (
ob (l33[v34.toNat]?) fun x55 =>
br (!decide (x52=x55)) (
gd (bG v34 8) (
gd (bG v34 8) (
br (decide (x52<x55)) (
some (.inr (.inl (-1)))) (
some (.inr (.inl 1)))))) (
some (.inl (l32,l33,Vx (v34-1))))))) (
some (.inr (.inr ())))
def HU(n:Nat)(x1:Nat)(x2:Nat)(x3:Nat)(x4:Nat)(x5:Nat)(x6:Nat)(x7:Nat)(x8:Nat)(x9:Nat)(x10:Nat)(x11:Nat)(x12:Nat)(x13:Nat)(x14:Nat)(x15:Nat)(x16:Nat):WA Int :=
ob (α:=(Int)⊕WC) (
bH (gJ n) n (([x1,x2,x3,x4,x5,x6,x7,x8]:WB (Nat)),([x9,x10,x11,x12,x13,x14,x15,x16]:WB (Nat)),7)) fun r62=>match r62 with
| .inl v49 =>
some v49
| .inr _ =>
some 0
def HR(n:Nat)(x1:Bool)(x2:Nat)(x3:Nat)(x4:Nat)(x5:Nat)(x6:Nat)(x7:Nat)(x8:Nat)(x9:Nat):WA (Nat×Nat×Nat×Nat×Nat×Nat×Nat×Nat×Int) :=
ob (HU n x2 x3 x4 x5 x6 x7 x8 x9 0 0 0 0 0 0 0 9223372036854775808) fun r24 =>
ob (
br (decide (0<r24)) (
some true) (
br (decide (r24=0)) (
some (!x1)) (
some false))) fun v27 =>
br (v27) (
some (0,0,0,0,0,0,0,0,6)) (
ob (
br (x1) (
ob (Js n 0 0 0 0 0 0 0 0 x2 x3 x4 x5 x6 x7 x8 x9) fun(r54,r55,r56,r57,r58,r59,r60,r61,r62) =>
some (r54,r55,r56,r57,r58,r59,r60,r61)) (
some (x2,x3,x4,x5,x6,x7,x8,x9))) fun(v44,v45,v46,v47,v48,v49,v50,v51) =>
some (v44,v45,v46,v47,v48,v49,v50,v51,0))
def Pl(n:Nat)(x1:Bool)(l2:WB (Nat)):WA (Nat×Nat×Nat×Nat×Nat×Nat×Nat×Nat×Int) :=
br (decide (8<(l2.length:Int))) (
some (0,0,0,0,0,0,0,0,6)) (
gd (decide ((l2:WB (Nat)).length<=8)) (
ob (KV ((l2:WB (Nat))++([0,0,0,0,0,0,0,0]:WB (Nat)).drop (l2:WB (Nat)).length)) fun(x12,x13,x14,x15,x16,x17,x18,x19) =>
ob (HR n x1 x12 x13 x14 x15 x16 x17 x18 x19) fun(r21,r22,r23,r24,r25,r26,r27,r28,r29) =>
some (r21,r22,r23,r24,r25,r26,r27,r28,r29)))
def Cc(n:Nat)(x1:Bool)(l2:WB (Nat))(x6:Bool)(l7:WB (Nat)):WA (Nat×Nat×Nat×Nat×Nat×Nat×Nat×Nat×Nat×Nat×Nat×Nat×Nat×Nat×Nat×Nat×Int) :=
ob (Pl n x1 l2) fun(r14,r15,r16,r17,r18,r19,r20,r21,r22) =>
ob (Pl n x6 l7) fun(r25,r26,r27,r28,r29,r30,r31,r32,r33) =>
ob (
br (!decide (r22=0)) (
some true) (
some (!decide (r33=0)))) fun v42 =>
br (v42) (
some (0,0,0,0,0,0,0,0,0,0,0,0,0,0,0,0,6)) (
some (r14,r15,r16,r17,r18,r19,r20,r21,r25,r26,r27,r28,r29,r30,r31,r32,0))
end
end Go.Proofs.YtpkadoocdgdcfaaGreatDoor
namespace Go.Ab.W
open Go Go.Ab
def iw{a:Nat}(h:a<2 ^ 64):uw .u64 a=a:=TA h
def Hc{a b:Nat}(ha:a<2 ^ 64)(hb:b<2 ^ 64):uw .u64 (uw .u64 a &&& uw .u64 b)=a &&& b:=by
 rw[iw ha,iw hb,iw (TT Nat.and_le_left ha)]
def JQ{a b:Nat}(ha:a<2 ^ 64)(hb:b<2 ^ 64):uw .u64 (uw .u64 a ||| uw .u64 b)=a ||| b:=by
 rw[iw ha,iw hb,iw (Nat.or_lt_two_pow ha hb)]
def I6{a k:Nat}(h:k<=64):cG .u64 a k=a >>> k:=by
 unfold cG;rw[T3 (show k<=IntKind.bits .u64 from h),Nat.shiftRight_eq_div_pow]
end Go.Ab.W
