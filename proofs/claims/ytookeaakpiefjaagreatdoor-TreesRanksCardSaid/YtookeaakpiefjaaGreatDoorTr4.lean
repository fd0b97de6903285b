/- A part of the proof. -/
import Derived.Test.YtookeaakpiefjaaGreatDoorTr3
section
namespace Go.Ab.W
open Go Go.Ab
attribute [local irreducible] Tm.at Trie.set Trie.get AMem.get AMem.set AMem.alloc AMem.ww AMem.kill
section
variable {α : Type}
def Mm:List α→Option (α × α × α × α × α × α × α × α)
 | [a,b,c,d,e,f,g,h]=>some (a,b,c,d,e,f,g,h)
 | _=>none
theorem oK {xs:List α} {a b c d e f g h:α} (hx:Mm xs=some (a,b,c,d,e,f,g,h)):xs = [a,b,c,d,e,f,g,h]:=by
 unfold Mm at hx
 split at hx
 ·cases hx; rfl
 ·cases hx
end
section
variable {E : Env} {n : Nat} {m0 m : AMem} {fs : Fs} {ps : List Pc} {x y z : Operand} {ty : TypeId}
theorem ak.qn {α:Type} {xs:List α} {f:α→List Value} {k b w l:Nat} {cs:List Value} (hp:pk ps k=some (.obj b (.cells cs .own))) (hx:cs=(xs.map f).flatten) (hl:xs.length=l) (he:Enc f w) (h0:Nat.blt 0 w=true):ak m0 ps (bO ps k (.arr b w l (xs.map f) .own)):=fun m h=>by
 subst hx;exact h.put hp rfl rfl rfl (Nat.le_refl _) h.ext ⟨(h.get hp).1,(h.get hp).2.1,(h.get hp).2.2,by rw[List.length_map]; exact hl,fun e hm=>by obtain⟨x,_,rfl⟩:=List.mem_map.1 hm; exact he.1 x,.inl rfl,by rwa[Nat.blt_eq] at h0⟩ fun _ _ _=>rfl
theorem ak.vK {α:Type} {xs ys:List α} {f:α→List Value} {k b w l:Nat} {cs:List Value} {tg:Tag} (hp:pk ps k=some (.arr b w l (xs.map f) tg)) (hx:xs=ys) (hc:(ys.map f).flatten=cs):ak m0 ps (bO ps k (.obj b (.cells cs tg))):=fun m h=>by
 subst hx hc;exact h.put hp rfl rfl rfl (Nat.le_refl _) h.ext ⟨(h.get hp).1,(h.get hp).2.1,(h.get hp).2.2.1⟩ fun _ _ _=>rfl
theorem ku {el:TypeId} {b len w:Nat} {i:Int} {kd:IntKind} (h:ArT E.P ty el len w) (hx:ev E fs x=some (ptr b 0)) (hy:ev E fs y=some (.int kd i)) (hi:0≤i∧i.toNat<len):Od E m0 fs ps (.indexAddr ty x y) (ptr b (i.toNat*w+0)) ps:=by
 obtain⟨j,rfl⟩:=Int.eq_ofNat_of_zero_le hi.1;have hj:j<len:=by simpa using hi.2
 refine iD hx hy ?_;rw[ja h (b:=b) (o:=0) hj];simp
end
section
variable {E : Env} {n : Nat} {m0 m : AMem} {fs : Fs} {ps : List Pc}
theorem Hp.gL {m0 m:AMem} {l0:List Pc} {H:Nat→Prop} {a:Option Addr} {cap w l:Nat} {es:List (List Value)} (h:Hp m0 m (l0++[.gen (oA H)])) (ho:(l0.all Pc.I9)=true) (hr:Rd m a cap w l es) (ha:∀b,ek a=some b→¬H b):Hp m0 m (.rd a cap w l es::(l0++[.gen (oA H)])) :=
 ⟨h.ext,fun p hp=>by
  rcases List.mem_cons.1 hp with rfl|hp
  ·exact hr
  ·exact h.ok p hp,List.pairwise_cons.2 ⟨fun q hq=>⟨fun b a=>a.elim (fun a=>by cases a.1) fun a=>a.elim,fun b h1 h2=>by
   rcases List.mem_append.1 hq with hq|hq
   ·exact absurd h1 (Pc.DJ (List.all_eq_true.1 ho q hq) b)
   ·rw[List.mem_singleton.1 hq] at h1;rcases h1 with h1|h1
    ·cases h1.1
    ·exact ha b (h2.elim id fun h=>h.elim) h1⟩,h.apart⟩⟩
def nX (l:List Pc):Bool:=l.all Pc.bound
theorem LG {α:Type} {V:α→Value} {N:α→List Pc} {f:Operand} {g:FuncId} {ars:Array Operand} {ts:Array TypeId} {args:List Value} (hf:ev E fs f=some (.func (.func g) #[] #[])) (ha:gj E fs ars.toList=some args) (hc:∀m,Hp m0 m ps→ax E g args m (fun v m'=>∃x,v=V x∧Hp m m' (N x++[.gen (oA (xD ps))]))) (ho:∀x,nX (N x)=true):Ox E m0 fs ps (.call ⟨.value f,ars,ts⟩) V (fun x=>N x++ps) :=
 jh hf ha fun m hm=>by
  simp only[List.nil_append,List.append_nil];exact(hc m hm).mono fun v m' ⟨x,e,h⟩=>⟨x,e,hm.IX h fun p hp=>List.all_eq_true.1 (ho x) p hp⟩
theorem LZ {α:Type} {V:α→Value} {N:α→List Pc} {f:Operand} {g:FuncId} {ars:Array Operand} {ts:Array TypeId} {args:List Value} (hf:ev E fs f=some (.func (.func g) #[] #[])) (ha:gj E fs ars.toList=some args) (hc:∀m,Hp m0 m ps→ax E g args m (fun v m'=>∃x,v=V x∧Hp m m' (N x++[.gen (oA (xD ps))]))) (ho:∀x,nX (N x)=true):Oc E m0 fs ps (.call ⟨.value f,ars,ts⟩) V (fun x=>N x++ps) :=
 fun t m hfr hm hwl=>⟨fun b hb=>(by simp[aH] at hb),fun K hK=>by
  show jl E (aj E t f) (bg E t ars.toList) m _
  rw[hfr.ev hf,hfr.gj ha,nK];refine(hc m hm).mono fun v m' ⟨x,e,h⟩=>?_;rw[e];refine hK x m' (hm.IX h fun p hp=>List.all_eq_true.1 (ho x) p hp) ?_;have:=h.ext.wl;omega⟩
end
section
variable {E : Env} {n : Nat} {m0 : AMem} {fs : Fs} {ps : List Pc} {ops : Array Oper} {os : List Oper} {dr : Bool}
theorem Wo.bJ {K:Tm→AMem→Prop} {α:Type} {f:α→List Value} {k w l cap:Nat} {a:Option Addr} {xs:List α} (hp:pk ps k=some (.rd a cap w l (xs.map f))) (h:l=xs.length→Wo dr E n ops K os m0 fs ps):Wo dr E n ops K os m0 fs ps:=by
 have key:∀m,Hp m0 m ps→l=xs.length:=fun m hm=>AN hm hp;cases dr with
 | false=>exact fun t m hf hm=>h (key m hm) t m hf hm
 | true=>exact fun t m w hf hm hw=>h (key m hm) t m w hf hm hw
theorem Wn.bJ {prs:List (Nat × Nat)} {K:Tm→AMem→Prop} {ss:List Nk} {α:Type} {f:α→List Value} {k w l cap:Nat} {a:Option Addr} {xs:List α} (hp:pk ps k=some (.rd a cap w l (xs.map f))) (h:l=xs.length→Wn E n ops prs K os ss m0 fs ps):Wn E n ops prs K os ss m0 fs ps :=
 fun t m ns hf hm hn=>h (AN hm hp) t m ns hf hm hn
end
section
variable {E : Env} {m0 : AMem} {fs : Fs} {ps : List Pc} {ty : TypeId}
theorem PW {α:Type} {f:α→List Value} {elem t0:TypeId} {w k c0 l l1:Nat} {a a0:Option Addr} {xs ys:List α} {ars:Array Operand} (he:Enc f w) (ht:SlT E.P ty elem w) (h2:∃e0,E.P.underlying t0=some (.slice e0)) (ha:gj E fs ars.toList=some [.slice a l l,.slice a0 l1 c0]) (hp:pk ps k=some (.sl a w l (xs.map f))) (hr:∀m,Hp m0 m ps→Rd m a0 c0 w l1 (ys.map f)) (hl:gY (xs++ys).length=true) :
  Ox E m0 fs ps (.call ⟨.builtin .append,ars,#[ty,t0]⟩) (fun a':Option Addr=>.slice a' (xs++ys).length (xs++ys).length) (fun a'=>bO ps k (.sl a' w (xs++ys).length ((xs++ys).map f))):=fun t m hf hm=>⟨fun b hb=>(by simp[aH] at hb),fun K hK=>by
 have h0:l=xs.length:=by
  have:=hm.get hp;rcases this with⟨h3,h0,_⟩|⟨b,tg,_,h0⟩
  ·rw[h3,List.map_eq_nil_iff.1 h0]; rfl
  ·have:=h0.2.2.2.1; rw[List.length_map] at this; exact this.symm
 have h4:l1=ys.length:=by
  have:=(hr m hm).1; rw[List.length_map] at this; exact this.symm
 have e0:l+l1=(xs++ys).length:=by rw[h0,h4,List.length_append]
 obtain⟨a',m',h5,h1⟩:=pX (n:=l) ht h2 hm hp (hr m hm) (he.vL ys) (he.jg ys) (by rw[e0]; exact hl)
 have:aQ E.P .append #[ty,t0] [.slice a l l,.slice a0 l1 c0] m=some (.slice a' (l+l1) (l+l1),m'):=h5;rw[Go.Ab.dF (hf.gj ha) this];have e1:xs.map f++ys.map f=(xs++ys).map f:=List.map_append.symm;rw[e1,e0] at h1;rw[e0];exact hK a' m' h1⟩
end
section
theorem nR (c:Value) (cs:List Value) (o:Nat) (vs:List Value):aC (c::cs) (o+1) vs=c::aC cs o vs:=by cases vs<;>rfl
theorem eT:∀(cs:List Value) (o:Nat),aC cs o []=cs
 | [],0=>rfl
 | _::_,0=>rfl
 | [],_+1=>rfl
 | c::cs,o+1=>by rw[nR,eT cs o]
theorem qf {f:Nat→List Value} {v:Nat→Value} (hf:∀x,f x = [v x]):∀{ys xs zs:List Nat},ys++xs.drop ys.length=zs→ys.length≤xs.length→aC (xs.map f).flatten 0 (ys.map f).flatten=(zs.map f).flatten
 | [],xs,zs,h,_=>by
  rw[List.nil_append,List.length_nil,List.drop_zero] at h;rw[h];exact eT _ 0
 | y::ys,[],zs,_,hl=>by simp at hl
 | y::ys,x::xs,zs,h,hl=>by
  have ih:=qf hf (ys:=ys) (xs:=xs) (zs:=ys++xs.drop ys.length) rfl (by simpa using hl)
  subst h;simp only[List.map_cons,List.flatten_cons,hf,List.cons_append,List.nil_append,List.length_cons,List.drop_succ_cons] at ih ⊢
  show v y::aC _ 0 _=_
  rw[ih]
theorem Pu {f:Nat→List Value} {v:Nat→Value} (hf:∀x,f x = [v x]) {c:Value} {ys xs zs:List Nat} (h:ys++xs.drop ys.length=zs) (hl:ys.length≤xs.length):aC (c::(xs.map f).flatten) 1 (ys.map f).flatten=c::(zs.map f).flatten:=by
 rw[show(1:Nat)=0+1 from rfl,nR,qf hf h hl]
variable {E : Env} {m0 : AMem} {fs : Fs} {ps : List Pc} {ty : TypeId}
theorem Qf {f:Nat→List Value} {elem t0:TypeId} {k b o q c0 l1:Nat} {a0:Option Addr} {cs cs':List Value} {ys:List Nat} {ars:Array Operand} (he:Enc f 1) (ht:SlT E.P ty elem 1) (ha:gj E fs ars.toList=some [.slice (some ⟨b,o,none⟩) q q,.slice a0 l1 c0]) (hp:pk ps k=some (.obj b (.cells cs .own))) (hr:∀m,Hp m0 m ps→Rd m a0 c0 1 l1 (ys.map f)) (hq:decide (ys.length≤q)=true) (ho:Nat.ble (o+q) cs.length=true) (hs:aC cs o (ys.map f).flatten=cs') :
  Od E m0 fs ps (.call ⟨.builtin .copy,ars,#[ty,t0]⟩) (.int .i64 (ys.length:Int)) (bO ps k (.obj b (.cells cs' .own))):=fun t m hf hm=>⟨fun b hb=>(by simp[aH] at hb),fun K hK=>by
 have h0:l1=ys.length:=by
  have:=(hr m hm).1; rw[List.length_map] at this; exact this.symm
 have hq':=of_decide_eq_true hq;have ho':=Nat.le_of_ble_eq_true ho;have hc:=(hr m hm).cells;have hmin:min l1 q=l1:=by omega
 have hone:aX (ys.map f).flatten=true:=by
  unfold aX;rw[List.all_eq_true];intro x hx;obtain⟨e,h3,h4⟩:=List.mem_flatten.1 hx;exact List.all_eq_true.1 (he.jg ys e h3) x h4
 have hlen:(ys.map f).flatten.length=ys.length:=by
  clear hs hr hq hK h0 hq' hc hone
  induction ys with
  | nil=>rfl
  | cons x l ih=>rw[List.map_cons,List.flatten_cons,List.length_append,ih,he.1 x,List.length_cons]; omega
 have hg:=(hm.get hp).2.2;have hsrc:cG (aw E.P elem) (.slice a0 l1 c0) (min l1 q) m=some (ys.map f).flatten:=by rw[ht.size,hmin]; exact hc
 cases hy:ys with
 | nil =>
  subst hy;have e0:cs'=cs:=by rw[←hs]; exact eT cs o
  have h1:min l1 q=0:=by rw[hmin,h0]; rfl
  have:aQ E.P .copy #[ty,t0] [.slice (some ⟨b,o,none⟩) q q,.slice a0 l1 c0] m=some (.int .i64 0,m):=by
   show td E.P ty _ _ m=_
   unfold td;rw[h1] at hsrc;simp only[ht.und,ht.known,Bool.not_true,Bool.false_eq_true,if_false,h1,hsrc,hone]
  rw[Go.Ab.dF (hf.gj ha) this];exact hK m (by rw[e0]; exact hm.put hp rfl rfl rfl (Nat.le_refl _) hm.ext (hm.get hp) fun _ _ _=>rfl)
 | cons y y2 =>
  have h2:min l1 q=y2.length+1:=by rw[hmin,h0,hy]; rfl
  have hst:m.cO b o (ys.map f).flatten=some (m.set b (.cells cs' .own)):=by
   have hne:(ys.map f).flatten≠[]:=fun e=>by rw[e,hy] at hlen; cases hlen
   unfold AMem.cO
   split
   ·rename_i e; exact absurd e hne
   ·rw[hg];simp only[hlen];rw[if_pos (by omega),hs]
  have:aQ E.P .copy #[ty,t0] [.slice (some ⟨b,o,none⟩) q q,.slice a0 l1 c0] m=some (.int .i64 (ys.length:Int),m.set b (.cells cs' .own)):=by
   show td E.P ty _ _ m=_
   unfold td;rw[h2] at hsrc;simp only[ht.und,ht.known,Bool.not_true,Bool.false_eq_true,if_false,h2,hsrc,hone,hst,Option.map_some];rw[hy]; rfl
  rw[Go.Ab.dF (hf.gj ha) this];have hw:Hp m0 (m.set b (.cells cs' .own)) (bO ps k (.obj b (.cells cs' .own))):=hm.write (o':=.cells cs' .own) (p':=.obj b (.cells cs' .own)) hp rfl rfl rfl rfl ⟨(hm.get hp).1,by rw[AMem.next_set]; exact(hm.get hp).2.1,by rw[AMem.bB,if_pos rfl]⟩
  exact hK _ hw⟩
end
end Go.Ab.W
end
section
namespace Go.Ab.W
open Go Go.Ab
section
variable {α : Type}
def xz (m:AMem) (R:Nat→Prop) (w:Nat) (f:α→List Value) (cs:List Value) (L:List (List α)):Prop :=
 cs.length=L.length∧∀(i:Nat) (l:List α),L[i]? = some l→∃a c,cs[i]? = some (.slice a l.length c)∧Rd m a c w l.length (l.map f)∧∀b,ek a=some b→R b
theorem xz.di {m m':AMem} {R:Nat→Prop} {w:Nat} {f:α→List Value} {cs:List Value} {L:List (List α)} (h:xz m R w f cs L) (hn:m.next≤m'.next) (hg:∀b,R b→b<m.next→m'.get b=m.get b):xz m' R w f cs L :=
 ⟨h.1,fun i l hi=>by
  obtain⟨a,c,h1,h2,h3⟩:=h.2 i l hi;exact⟨a,c,h1,h2.di hn fun b hb hlt=>hg b (h3 b hb) hlt,h3⟩⟩
def tY (a:Option Addr) (n:Nat) (R:Nat→Prop) (w:Nat) (f:α→List Value) (L:List (List α)):GPc where
 ow b:=ek a=some b∨R b
 rd _:=False
 P m:=((n=0∧a=none∧L = [])∨∃b cs tg,a=some ⟨b,0,none⟩∧b<m.next∧m.get b=some (.cells cs tg)∧(tg = .own∨tg = .more 1)∧n=L.length∧xz m R w f cs L)∧(∀b,R b→b<m.next)∧∀b,R b→ek a≠some b
 st m m' h hn hg:=by
  refine⟨?_,fun b hb=>Nat.lt_of_lt_of_le (h.2.1 b hb) hn,h.2.2⟩;rcases h.1 with h1|⟨b,cs,tg,rfl,h2,h3,h4,h5,h6⟩
  ·exact .inl h1
  ·refine .inr ⟨b,cs,tg,rfl,Nat.lt_of_lt_of_le h2 hn,?_,h4,h5,h6.di hn fun b' hb' hlt=>hg b' (.inl (.inr hb')) hlt⟩;rw[hg b (.inl (.inl rfl)) h2]; exact h3
 lt m b h hb:=by
  rcases hb with(hb|hb) | hb
  ·rcases h.1 with⟨_,rfl,_⟩|⟨b',cs,tg,rfl,h2,_⟩
   ·cases hb
   ·cases hb; exact h2
  ·exact h.2.1 b hb
  ·exact hb.elim
def Pe (a:Option Addr) (n _:Nat) (R:Nat→Prop) (w:Nat) (f:α→List Value) (L:List (List α)):GPc where
 ow _:=False
 rd b:=ek a=some b∨R b
 P m:=((n=0∧a=none∧L = [])∨∃b cs tg,a=some ⟨b,0,none⟩∧b<m.next∧m.get b=some (.cells cs tg)∧n=L.length∧xz m R w f cs L)∧∀b,R b→b<m.next
 st m m' h hn hg:=by
  refine⟨?_,fun b hb=>Nat.lt_of_lt_of_le (h.2 b hb) hn⟩;rcases h.1 with h1|⟨b,cs,tg,rfl,h2,h3,h5,h6⟩
  ·exact .inl h1
  ·refine .inr ⟨b,cs,tg,rfl,Nat.lt_of_lt_of_le h2 hn,?_,h5,h6.di hn fun b' hb' hlt=>hg b' (.inr (.inr hb')) hlt⟩;rw[hg b (.inr (.inl rfl)) h2]; exact h3
 lt m b h hb:=by
  rcases hb with hb|hb|hb
  ·exact hb.elim
  ·rcases h.1 with⟨_,rfl,_⟩|⟨b',cs,tg,rfl,h2,_⟩
   ·cases hb
   ·cases hb; exact h2
  ·exact h.2 b hb
end
section
variable {α : Type} {E : Env} {m0 m : AMem} {fs : Fs} {ps : List Pc} {f : α → List Value} {w : Nat}
theorem ak.QE:ak m0 ps (.gen (tY none 0 (fun _=>False) w f ([]:List (List α)))::ps):=fun m h =>
 ⟨h.ext,fun p hp=>by
  rcases List.mem_cons.1 hp with rfl|hp
  ·exact⟨⟨.inl ⟨rfl,rfl,rfl⟩,fun _ h=>h.elim,fun _ h=>h.elim⟩,fun _ b hb=>hb.elim (fun h=>by cases h) fun h=>h.elim⟩
  ·exact h.ok p hp,List.pairwise_cons.2 ⟨fun q _=>⟨fun b h1 _=>h1.elim (fun h=>by cases h.1) fun h=>h.elim (fun h=>by cases h) fun h=>h.elim,fun b _ h2=>h2.elim (fun h=>by cases h) fun h=>h.elim (fun h=>h.elim (fun h=>by cases h) fun h=>h.elim) fun h=>h.elim⟩,h.apart⟩⟩
theorem ak.zY {k n:Nat} {a:Option Addr} {R:Nat→Prop} {L:List (List α)} (hp:pk ps k=some (.gen (tY a n R w f L))):ak m0 ps (bO ps k (.gen (Pe a n n R w f L))):=fun m h=>by
 have hP:=(h.get hp).1;refine h.Q5 hp (fun b hb=>hb.elim (fun h=>by cases h.1) fun h=>h.elim) (fun b hb=>.inl (hb.elim (fun h=>by cases h) fun h=>h.elim (fun h=>h.elim) fun h=>.inr (.inl h))) (Nat.le_refl _) h.ext ⟨⟨?_,hP.2.1⟩,fun _ b hb=>hb.elim⟩ (fun _ _ _=>rfl)
 rcases hP.1 with h1|⟨b,cs,tg,h1,h2,h3,_,h5,h6⟩
 ·exact .inl h1
 ·exact .inr ⟨b,cs,tg,h1,h2,h3,h5,h6⟩
theorem sw {k n:Nat} {a:Option Addr} {R:Nat→Prop} {L:List (List α)} (h:Hp m0 m ps) (hp:pk ps k=some (.gen (tY a n R w f L))):n=L.length:=by
 rcases(h.get hp).1.1 with⟨rfl,_,rfl⟩|⟨_,_,_,_,_,_,_,h5,_⟩
 ·rfl
 ·exact h5
variable {x : Operand} {ty : TypeId}
theorem Mg {k n cap i b off:Nat} {R:Nat→Prop} {L:List (List α)} {l:List α} (ht:TyI E.P ty false 1) (hx:ev E fs x=some (ptr b off)) (ho:off=i) (hp:pk ps k=some (.gen (Pe (some ⟨b,0,none⟩) n cap R w f L))) (hl:L[i]? = some l) :
  Ox E m0 fs ps (.load ty x) (fun r:Option Addr × Nat=>.slice r.1 l.length r.2) (fun r=>.rd r.1 r.2 w l.length (l.map f)::ps):=by
 intro t m hf hm;subst ho;have hP:=(hm.get hp).1;rcases hP.1 with⟨_,h1,_⟩|⟨b',cs,tg,h1,h2,h3,h5,h6⟩
 ·cases h1
 ·cases h1;obtain⟨a,c,h7,h8,h9⟩:=h6.2 off l hl;have hx':aj E t x=some (ptr b off):=hf.ev hx;refine⟨fun b' hb'=>?_,fun K hK=>?_⟩
  ·simp only[aH,hx',Option.bind_some] at hb';cases hb'; exact h2
  ·have hld:cf E.P ty (ptr b off) m=some (.slice a l.length c):=rD ht.known ht.agg h3 h7;rw[Go.Ab.po hx' hld];refine hK (a,c) m (hm.LX hp (fun b hb=>hb.elim (fun h=>by cases h.1) fun h=>h.elim) h8 (fun b hb=>hb.elim (fun h=>by cases h.1) fun h=>h.elim) fun b hb=>?_)
   rcases hb with hb|hb
   ·exact .inr (.inr (.inr (h9 b hb)))
   ·exact hb.elim
theorem ak.QL {k b:Nat} {a:Option Addr} {l:List α} (hp:pk ps k=some (.sl a w l.length (l.map f))):ak m0 (.arr b 1 1 [[.slice a l.length l.length]] .own::ps) (bO ps k (.gen (tY (some ⟨b,0,none⟩) 1 (fun b'=>ek a=some b') w f [l]))):=fun m h=>by
 have h0:=h.ok _ (List.mem_cons_self ..);have hk:Pc.ok m0.next m (.sl a w l.length (l.map f)):=h.ok _ (List.mem_cons_of_mem _ (ft hp))
 have ha:=(List.pairwise_cons.1 h.apart).1;have hrd:Rd m a l.length w l.length (l.map f):=Pc.Lh hk (.sl ..);have how:∀b',Pc.ow (.gen (tY (some ⟨b,0,none⟩) 1 (fun b'=>ek a=some b') w f [l])) b'→b'=b∨ek a=some b':=fun b' hb=>hb.elim (fun h=>by cases h.1) fun h=>h.elim (fun h=>by cases h; exact .inl rfl) .inr
 have hany:∀b',Pc.any (.gen (tY (some ⟨b,0,none⟩) 1 (fun b'=>ek a=some b') w f [l])) b'→b'=b∨ek a=some b':=fun b' hb=>hb.elim (fun h=>by cases h) fun h=>h.elim (fun h=>h.elim (fun h=>by cases h; exact .inl rfl) .inr) fun h=>h.elim
 refine⟨h.ext,fun p hpm=>?_,cK hp (fun r hr hap=>⟨fun b' h1 h2=>?_,fun b' h1 h2=>?_⟩) (List.pairwise_cons.1 h.apart).2⟩
 ·rcases lS hpm with hpm|rfl
  ·exact h.ok p (List.mem_cons_of_mem _ hpm)
  ·refine⟨⟨.inr ⟨b,_,.own,rfl,h0.2.1,h0.2.2.1,.inl rfl,rfl,rfl,fun i x hi=>?_⟩,fun b' hb=>Pc.eL hk (.inl hb),fun b' hb e=>?_⟩,fun _ b' hb=>?_⟩
   ·cases i with
    | zero=>cases hi; exact⟨a,l.length,rfl,hrd,fun _ h=>h⟩
    | succ i=>simp at hi
   ·cases e;exact(ha _ (ft hp)).1 b (.inl ⟨rfl,rfl⟩) (.inl hb)
   ·rcases how b' (.inr hb) with rfl|hb
    ·exact h0.1
    ·exact Pc.jj hk rfl (.inl ⟨rfl,hb⟩)
 ·rcases how b' h1 with rfl|h1
  ·exact(ha r hr).1 b' (.inl ⟨rfl,rfl⟩) h2
  ·exact hap.1 b' (.inl ⟨rfl,h1⟩) h2
 ·rcases hany b' h2 with rfl|h2
  ·exact(ha r hr).2 b' h1 (.inl rfl)
  ·exact hap.2 b' h1 (.inl h2)
theorem vn {k n cap:Nat} {a:Option Addr} {ars:Array Operand} {p:Pc} {elem:TypeId} (hu:E.P.underlying ty=some (.slice elem)) (ha:gj E fs ars.toList=some [.slice a n cap]) (hp:pk ps k=some p) (hb:∀b,ek a=some b→p.any b) :
  Od E m0 fs ps (.call ⟨.builtin .len,ars,#[ty]⟩) (.int .i64 (n:Int)) ps :=
 fun t m hf h=>⟨fun b hb'=>by
  simp only[aH,hf.gj ha] at hb';have hab:eA (.slice a n cap)=ek a:=by cases a<;>rfl
  rw[hab] at hb';exact Pc.eL (h.get hp) (hb b hb'),fun K hK=>by
  have:aQ E.P .len #[ty] [.slice a n cap] m=some (.int .i64 (n:Int),m):=by
   have ht:(#[ty]:Array TypeId)[0]? = some ty:=rfl;simp only[aQ,ht,Option.bind_some,hu]
  rw[Go.Ab.dF (hf.gj ha) this]; exact hK m h⟩
theorem GN {a:Option Addr} {n:Nat} {R:Nat→Prop} {L:List (List α)}:∀b,ek a=some b→Pc.any (.gen (tY a n R w f L)) b:=fun _ h=>.inr (.inl (.inl h))
theorem C6 {k n cap:Nat} {a:Option Addr} {R:Nat→Prop} {L:List (List α)} (h:Hp m0 m ps) (hp:pk ps k=some (.gen (Pe a n cap R w f L))) (h0:0<n):∃b,a=some ⟨b,0,none⟩:=by
 rcases(h.get hp).1.1 with⟨h1,_⟩|⟨b,_,_,h1,_⟩
 ·omega
 ·exact⟨b,h1⟩
variable {N : Nat} {ops : Array Oper} {os : List Oper} {dr : Bool}
theorem Wo.Hn {K:Tm→AMem→Prop} {k n cap:Nat} {a:Option Addr} {R:Nat→Prop} {L:List (List α)} (hp:pk ps k=some (.gen (Pe a n cap R w f L))) (h0:0<n) (h:∀b,a=some ⟨b,0,none⟩→Wo dr E N ops K os m0 fs ps):Wo dr E N ops K os m0 fs ps:=by
 cases dr with
 | false=>exact fun t m hf hm=>(C6 hm hp h0).elim fun b e=>h b e t m hf hm
 | true=>exact fun t m w hf hm hw=>(C6 hm hp h0).elim fun b e=>h b e t m w hf hm hw
theorem Wo.vc {K:Tm→AMem→Prop} {k n:Nat} {a:Option Addr} {R:Nat→Prop} {L:List (List α)} (hp:pk ps k=some (.gen (tY a n R w f L))) (h:n=L.length→Wo dr E N ops K os m0 fs ps):Wo dr E N ops K os m0 fs ps:=by
 cases dr with
 | false=>exact fun t m hf hm=>h (sw hm hp) t m hf hm
 | true=>exact fun t m w hf hm hw=>h (sw hm hp) t m w hf hm hw
def w9 (R:Nat→Prop) (w:Nat) (f:α→List Value) (cs:List Value) (L:List (List α)):GPc where
 ow b:=R b
 rd _:=False
 P m:=xz m R w f cs L∧∀b,R b→b<m.next
 st _ _ h hn hg:=⟨h.1.di hn fun b hb hlt=>hg b (.inl hb) hlt,fun b hb=>Nat.lt_of_lt_of_le (h.2 b hb) hn⟩
 lt _ b h hb:=hb.elim (h.2 b) fun h=>h.elim
theorem sY:∀(cs:List Value),(cs.map fun c=>[c]).flatten=cs
 | []=>rfl
 | c::cs=>by rw[List.map_cons,List.flatten_cons,sY cs]; rfl
theorem Hp.Nv {k n:Nat} {a:Option Addr} {R:Nat→Prop} {cs:List Value} {L:List (List α)} (h:Hp m0 m (.gen (w9 R w f cs L)::ps)) (hp:pk ps k=some (.sl a 1 n (cs.map fun c=>[c]))):Hp m0 m (bO ps k (.gen (tY a n R w f L))):=by
 have h0:=h.ok _ (List.mem_cons_self ..);have hk:Pc.ok m0.next m (.sl a 1 n (cs.map fun c=>[c])):=h.ok _ (List.mem_cons_of_mem _ (ft hp))
 have ha:=(List.pairwise_cons.1 h.apart).1;have how:∀b',Pc.ow (.gen (tY a n R w f L)) b'→ek a=some b'∨R b':=fun b' hb=>hb.elim (fun h=>by cases h.1) id
 have hany:∀b',Pc.any (.gen (tY a n R w f L)) b'→ek a=some b'∨R b':=fun b' hb=>hb.elim (fun h=>by cases h) fun h=>h.elim id fun h=>h.elim
 refine⟨h.ext,fun p hpm=>?_,cK hp (fun r hr hap=>⟨fun b' h1 h2=>?_,fun b' h1 h2=>?_⟩) (List.pairwise_cons.1 h.apart).2⟩
 ·rcases lS hpm with hpm|rfl
  ·exact h.ok p (List.mem_cons_of_mem _ hpm)
  ·refine⟨⟨?_,h0.1.2,fun b' hb e=>(ha _ (ft hp)).1 b' (.inr hb) (.inl e)⟩,fun _ b' hb=>?_⟩
   ·rcases hk with⟨h1,h2,h3,_⟩|⟨b,tg,rfl,h1⟩
    ·have hc:cs = []:=List.map_eq_nil_iff.1 h2;refine .inl ⟨h1,h3,?_⟩;have:=h0.1.1.1;rw[hc] at this;exact List.length_eq_zero_iff.1 this.symm
    ·refine .inr ⟨b,cs,tg,rfl,h1.2.1,?_,h1.2.2.2.2.2.1,?_,h0.1.1⟩
     ·rw[h1.2.2.1,sY]
     ·have:=h1.2.2.2.1;rw[List.length_map,h0.1.1.1] at this;exact this.symm
   ·rcases how b' (.inr hb) with hb|hb
    ·exact Pc.jj hk rfl (.inl ⟨rfl,hb⟩)
    ·exact h0.2 rfl b' hb
 ·rcases how b' h1 with h1|h1
  ·exact hap.1 b' (.inl ⟨rfl,h1⟩) h2
  ·exact(ha r hr).1 b' (.inr h1) h2
 ·rcases hany b' h2 with h2|h2
  ·exact hap.2 b' h1 (.inl h2)
  ·exact(ha r hr).2 b' h1 (.inr (.inl h2))
theorem Hp.CT {k n:Nat} {a:Option Addr} {R:Nat→Prop} {L:List (List α)} (h:Hp m0 m ps) (hp:pk ps k=some (.gen (tY a n R w f L))):∃cs:List Value,Hp m0 m (.gen (w9 R w f cs L)::bO ps k (.sl a 1 n (cs.map fun c=>[c]))):=by
 have hk:=h.get hp;have key:∃cs:List Value,xz m R w f cs L∧Pc.ok m0.next m (.sl a 1 n (cs.map fun c=>[c])):=by
  rcases hk.1.1 with⟨h1,h2,h3⟩|⟨b,cs,tg,h1,h2,h3,h4,h5,h6⟩
  ·exact⟨[],⟨by rw[h3]; rfl,fun i l hi=>by rw[h3] at hi; simp at hi⟩,.inl ⟨h1,rfl,h2,by decide⟩⟩
  ·exact⟨cs,h6,.inr ⟨b,tg,h1,hk.2 rfl b (.inl (by rw[h1]; rfl)),h2,by rw[sY]; exact h3,by rw[List.length_map,h6.1,h5],fun e he=>by obtain⟨c,_,rfl⟩:=List.mem_map.1 he; rfl,h4,by decide⟩⟩
 obtain⟨cs,h1,h2⟩:=key;refine⟨cs,h.ext,fun p hpm=>?_,List.pairwise_cons.2 ⟨fun r hr=>?_,cK hp (fun r _ hap=>⟨fun b' e1 e2=>?_,fun b' e1 e2=>?_⟩) h.apart⟩⟩
 ·rcases List.mem_cons.1 hpm with rfl|hpm
  ·exact⟨⟨h1,hk.1.2.1⟩,fun _ b hb=>hk.2 rfl b (.inr hb)⟩
  ·rcases lS hpm with hpm|rfl
   ·exact h.ok p hpm
   ·exact h2
 ·rcases lN hp h.apart hr with rfl|⟨_,hap⟩
  ·exact⟨fun b e1 e2=>hk.1.2.2 b (e1.elim (fun e=>by cases e.1) id) (e2.elim id fun e=>e.elim),fun b e1 e2=>hk.1.2.2 b (e2.elim (fun e=>by cases e) fun e=>e.elim id fun e=>e.elim) (e1.elim (fun e=>e.2) fun e=>e.elim)⟩
  ·exact⟨fun b e1 e2=>hap.2 b (.inr (.inr (e1.elim (fun e=>by cases e.1) id))) e2,fun b e1 e2=>hap.1 b e1 (.inr (.inl (.inr (e2.elim (fun e=>by cases e) fun e=>e.elim id fun e=>e.elim))))⟩
 ·exact hap.1 b' (e1.elim (fun e=>.inr (.inl e.2)) fun e=>e.elim) e2
 ·exact hap.2 b' e1 (e2.elim (fun e=>.inr (.inl (.inl e))) fun e=>e.elim)
end
end Go.Ab.W
end
section
namespace Go.Ab.W
open Go Go.Ab
attribute [local irreducible] Tm.at Trie.set Trie.get AMem.get AMem.set AMem.alloc AMem.ww AMem.kill
theorem vj:∀(l:List Pc) (k:Nat) (p q:Pc),bO (bO l k p) k q=bO l k q:=by
 intro l
 induction l with
 | nil=>intro k p q; rfl
 | cons a l ih =>
  intro k p q;cases k with
  | zero=>rfl
  | succ k=>rw[dE,dE,dE,ih]
theorem CD:∀{l:List Pc} {k:Nat} {p:Pc} (q:Pc),pk l k=some p→pk (bO l k q) k=some q:=by
 intro l
 induction l with
 | nil=>intro k p q h; simp[pk] at h
 | cons a l ih =>
  intro k p q h;cases k with
  | zero=>rfl
  | succ k=>rw[dE,ff]; rw[ff] at h; exact ih q h
section
variable {α : Type} {E : Env} {m0 m : AMem} {fs : Fs} {ps : List Pc} {f : α → List Value} {w : Nat} {ty : TypeId}
theorem Hp.Pm {a b c:Pc} (h:Hp m0 m (a::b::c::ps)):Hp m0 m (a::b::ps) :=
 ⟨h.ext,fun p hp=>h.ok p (by rcases List.mem_cons.1 hp with rfl|hp; exact List.mem_cons_self .. ; rcases List.mem_cons.1 hp with rfl|hp; exact List.mem_cons_of_mem _ (List.mem_cons_self ..); exact List.mem_cons_of_mem _ (List.mem_cons_of_mem _ (List.mem_cons_of_mem _ hp))),h.apart.sublist (.cons_cons _ (.cons_cons _ (.cons _ (List.Sublist.refl _))))⟩
theorem Hp.Gu {R1 R2:Nat→Prop} {cs1 cs2:List Value} {L1 L2:List (List α)} (h:Hp m0 m (.gen (w9 R1 w f cs1 L1)::.gen (w9 R2 w f cs2 L2)::ps)):Hp m0 m (.gen (w9 (fun b=>R1 b∨R2 b) w f (cs1++cs2) (L1++L2))::ps):=by
 have h1:=h.ok _ (List.mem_cons_self ..);have h2:=h.ok _ (List.mem_cons_of_mem _ (List.mem_cons_self ..));have ha:=List.pairwise_cons.1 h.apart;have hb:=List.pairwise_cons.1 ha.2;refine⟨h.ext,fun p hp=>?_,List.pairwise_cons.2 ⟨fun r hr=>⟨fun b e1 e2=>?_,fun b e1 e2=>?_⟩,hb.2⟩⟩
 ·rcases List.mem_cons.1 hp with rfl|hp
  ·refine⟨⟨⟨by rw[List.length_append,List.length_append,h1.1.1.1,h2.1.1.1],fun i l hi=>?_⟩,fun b hb=>hb.elim (h1.1.2 b) (h2.1.2 b)⟩,fun hf b hb=>hb.elim (h1.2 hf b) (h2.2 hf b)⟩
   by_cases hlt:i<L1.length
   ·rw[List.getElem?_append_left hlt] at hi;obtain⟨a,c,e1,e2,e3⟩:=h1.1.1.2 i l hi;exact⟨a,c,by rw[List.getElem?_append_left (by rw[h1.1.1.1]; exact hlt)]; exact e1,e2,fun b hb=>.inl (e3 b hb)⟩
   ·rw[List.getElem?_append_right (by omega)] at hi
    obtain⟨a,c,e1,e2,e3⟩:=h2.1.1.2 _ l hi;exact⟨a,c,by rw[List.getElem?_append_right (by rw[h1.1.1.1]; omega),h1.1.1.1]; exact e1,e2,fun b hb=>.inr (e3 b hb)⟩
  ·exact h.ok p (List.mem_cons_of_mem _ (List.mem_cons_of_mem _ hp))
 ·rcases e1 with e1|e1
  ·cases e1.1
  ·rcases e1 with e1|e1
   ·exact(ha.1 r (List.mem_cons_of_mem _ hr)).1 b (.inr e1) e2
   ·exact(hb.1 r hr).1 b (.inr e1) e2
 ·rcases e2 with e2|e2|e2
  ·cases e2
  ·rcases e2 with e2|e2
   ·exact(ha.1 r (List.mem_cons_of_mem _ hr)).2 b e1 (.inr (.inl e2))
   ·exact(hb.1 r hr).2 b e1 (.inr (.inl e2))
  ·exact e2.elim
theorem xz.one {R:Nat→Prop} {cs:List Value} {L:List (List α)} (h:xz m R w f cs L):jg (cs.map fun c=>[c]):=fun e he=>by
 obtain⟨c,hc,rfl⟩:=List.mem_map.1 he;obtain⟨i,hi,rfl⟩:=List.mem_iff_getElem.1 hc;obtain⟨a,cap,h1,_⟩:=h.2 i (L[i]'(by rw[←h.1]; exact hi)) (by simp)
 rw[List.getElem?_eq_getElem hi] at h1;rw[Option.some.inj h1]; rfl
theorem Ok {elem ty2:TypeId} {k n1 n2:Nat} {a1 a2:Option Addr} {R1 R2:Nat→Prop} {L1 L2:List (List α)} {ars:Array Operand} (ht:SlT E.P ty elem 1) (ht2:∃e2,E.P.underlying ty2=some (.slice e2)) (ha:gj E fs ars.toList=some [.slice a1 n1 n1,.slice a2 n2 n2]) (hp:pk ps k=some (.gen (tY a1 n1 R1 w f L1))) (hl:gY (L1++L2).length=true) :
  Ox E m0 fs (.gen (tY a2 n2 R2 w f L2)::ps) (.call ⟨.builtin .append,ars,#[ty,ty2]⟩) (fun r:Option Addr × (Nat→Prop)=>.slice r.1 (L1++L2).length (L1++L2).length) (fun r=>bO ps k (.gen (tY r.1 (L1++L2).length r.2 w f (L1++L2)))):=fun t m hf hm=>⟨fun b hb=>(by simp[aH] at hb),fun K hK=>by
 have e2:=sw hm (k:=0) rfl;have e1:=sw hm (k:=k+1) hp;obtain⟨cs2,h2⟩:=hm.CT (k:=0) rfl;obtain⟨cs1,h1⟩:=h2.CT (k:=k+2) hp;have hsl:=h1.ok _ (List.mem_cons_of_mem _ (List.mem_cons_of_mem _ (List.mem_cons_self ..)));have hin:=h1.ok _ (List.mem_cons_of_mem _ (List.mem_cons_self ..));have hrd:Rd m a2 n2 1 n2 (cs2.map fun c=>[c]):=Pc.Lh hsl (.sl ..);obtain⟨a',m',q1,q2⟩:=pX (n:=n1) (k:=k+3) ht ht2 h1 (CD (l:=ps) _ hp) hrd (fun e he=>by obtain⟨c,_,rfl⟩:=List.mem_map.1 he; rfl) hin.1.1.one (by rw[e1,e2,←List.length_append]; exact hl)
 have hb:aQ E.P .append #[ty,ty2] [.slice a1 n1 n1,.slice a2 n2 n2] m=some (.slice a' (n1+n2) (n1+n2),m'):=q1;rw[Go.Ab.dF (hf.gj ha) hb];have hn:n1+n2=(L1++L2).length:=by rw[e1,e2,List.length_append]
 have q3:Hp m0 m' (.gen (w9 R1 w f cs1 L1)::.gen (w9 R2 w f cs2 L2)::.sl a2 1 n2 (cs2.map fun c=>[c])::bO ps k (.sl a' 1 (n1+n2) ((cs1.map fun c=>[c])++cs2.map fun c=>[c]))):=by
  have q2':Hp m0 m' (.gen (w9 R1 w f cs1 L1)::.gen (w9 R2 w f cs2 L2)::.sl a2 1 n2 (cs2.map fun c=>[c])::bO (bO ps k (.sl a1 1 n1 (cs1.map fun c=>[c]))) k (.sl a' 1 (n1+n2) ((cs1.map fun c=>[c])++cs2.map fun c=>[c]))):=q2;rwa[vj] at q2'
 have q4:=(q3.Pm.Gu).Nv (k:=k) (a:=a') (n:=n1+n2) (by rw[List.map_append]; exact CD _ hp)
 rw[vj,hn] at q4;rw[hn];exact hK (a',_) m' q4⟩
theorem Dx {β:Type} {V:β→Value} {N:β→List Pc} {fo:Operand} {g:FuncId} {ars:Array Operand} {ts:Array TypeId} {args:List Value} (hf:ev E fs fo=some (.func (.func g) #[] #[])) (ha:gj E fs ars.toList=some args) (hc:∀m,Hp m0 m ps→ax E g args m (fun v m'=>∃x,v=V x∧Hp m m' (N x))) (ho:∀x,∀p ∈ N x,p.bound=true∧∀b,p.any b→p.ow b):Ox E m0 fs ps (.call ⟨.value fo,ars,ts⟩) V (fun x=>N x++ps) :=
 jh hf ha fun m hm=>by
  simp only[List.nil_append,List.append_nil];exact(hc m hm).mono fun v m' ⟨x,e,h⟩=>⟨x,e,hm.Ce h (fun p hp=>(ho x p hp).1) fun p hp b hb=>.inl (Pc.jj (h.ok p hp) (ho x p hp).1 ((ho x p hp).2 b hb))⟩
theorem QM {β:Type} {V:β→Value} {N:β→List Pc} {fo:Operand} {g:FuncId} {ars:Array Operand} {ts:Array TypeId} {args:List Value} (hf:ev E fs fo=some (.func (.func g) #[] #[])) (ha:gj E fs ars.toList=some args) (hc:∀m,Hp m0 m ps→ax E g args m (fun v m'=>∃x,v=V x∧Hp m m' (N x))) (ho:∀x,∀p ∈ N x,p.bound=true∧∀b,p.any b→p.ow b):Oc E m0 fs ps (.call ⟨.value fo,ars,ts⟩) V (fun x=>N x++ps) :=
 fun t m hfr hm hwl=>⟨fun b hb=>(by simp[aH] at hb),fun K hK=>by
  show jl E (aj E t fo) (bg E t ars.toList) m _
  rw[hfr.ev hf,hfr.gj ha,nK];refine(hc m hm).mono fun v m' ⟨x,e,h⟩=>?_;rw[e];refine hK x m' (hm.Ce h (fun p hp=>(ho x p hp).1) fun p hp b hb=>.inl (Pc.jj (h.ok p hp) (ho x p hp).1 ((ho x p hp).2 b hb))) ?_;have:=h.ext.wl;omega⟩
theorem k7 {a:Option Addr} {n:Nat} {R:Nat→Prop} {L:List (List α)}:∀p ∈ [Pc.gen (tY a n R w f L)],p.bound=true∧∀b,p.any b→p.ow b:=fun p hp=>by
 rw[List.mem_singleton.1 hp];exact⟨rfl,fun b hb=>hb.elim (fun h=>by cases h) fun h=>.inr (h.elim id fun h=>h.elim)⟩
theorem qP {β:Type} {V:β→Value} {N:β→List Pc} {x:Operand} {b off:Nat} (hx:ev E fs x=some (ptr b off)) (hb:∀m,Hp m0 m ps→b<m.next) (h:∀m,Hp m0 m ps→∃z,cf E.P ty (ptr b off) m=some (V z)∧Hp m0 m (N z)):Ox E m0 fs ps (.load ty x) V N :=
 fun t m hf hm=>⟨fun b' hb'=>by
  have hx':aj E t x=some (ptr b off):=hf.ev hx;simp only[aH,hx',Option.bind_some] at hb';cases hb'; exact hb m hm,fun K hK=>by
  obtain⟨z,h1,h2⟩:=h m hm;rw[Go.Ab.po (hf.ev hx) h1]; exact hK z m h2⟩
theorem sE {elem:TypeId} {len:Nat} {parts:Array (Nat × Operand)} {vs:List (Nat × Value)} {es:List (List Value)} (ht:SlT E.P ty elem w) (h:FB E fs parts.toList=some vs) (hf:QU E.P elem w len vs=some es.flatten) (hl:Nat.beq es.length len=true) (hw:IJ w es=true) :
  Ox E m0 fs ps (.buildSlice ty len parts) (fun b=>.slice (some ⟨b,0,none⟩) len len) (fun b=>.obj b (.cells es.flatten .own)::ps):=fun t m hfr hm=>⟨(kH ht h hf hl hw t m hfr hm).1,fun K hK=>(kH ht h hf hl hw t m hfr hm).2 K fun b m' hm'=>hK b m' ⟨hm'.ext,fun p hp=>by
  have h0:=hm'.ok _ (List.mem_cons_self ..);rcases List.mem_cons.1 hp with rfl|hp
  ·exact⟨h0.1,h0.2.1,h0.2.2.1⟩
  ·exact hm'.ok p (List.mem_cons_of_mem _ hp),List.pairwise_cons.2 ⟨fun r hr=>(List.pairwise_cons.1 hm'.apart).1 r hr,(List.pairwise_cons.1 hm'.apart).2⟩⟩⟩
theorem ak.Nm {k b n:Nat} {cs:List Value} {es:List (List Value)} (hp:pk ps k=some (.obj b (.cells cs .own))) (hcs:es.flatten=cs) (hn:Nat.beq es.length n=true) (hw:IJ w es=true) (h0:Nat.blt 0 w=true):ak m0 ps (bO ps k (.sl (some ⟨b,0,none⟩) w n es)):=fun m h=>by
 have hk:=h.get hp;exact h.put hp rfl rfl rfl (Nat.le_refl _) h.ext (.inr ⟨b,.own,rfl,hk.1,hk.2.1,by rw[hcs]; exact hk.2.2,Nat.eq_of_beq_eq_true hn,xN hw,.inl rfl,by rwa[Nat.blt_eq] at h0⟩) fun _ _ _=>rfl
theorem zJ {elem ty2:TypeId} {k k2 n n2 n3:Nat} {a a2:Option Addr} {es es2 es3:List (List Value)} {ars:Array Operand} (ht:SlT E.P ty elem w) (ht2:∃e2,E.P.underlying ty2=some (.slice e2)) (ha:gj E fs ars.toList=some [.slice a n n,.slice a2 n2 n2]) (hp:pk ps k=some (.sl a w n es)) (hp2:pk ps k2=some (.sl a2 w n2 es2)) (hw2:IJ w es2=true) (ho:(es2.all fun e=>e.all mB)=true) (h3:es++es2=es3) (hn:n+n2=n3) (hl:gY n3=true) :
  Ox E m0 fs ps (.call ⟨.builtin .append,ars,#[ty,ty2]⟩) (fun a':Option Addr=>.slice a' n3 n3) (fun a'=>bO ps k (.sl a' w n3 es3)):=by
 subst h3 hn;exact QR ht ht2 ha hp hp2 (.sl ..) (xN hw2) (fun e he=>List.all_eq_true.1 ho e he) hl
theorem Rw {P:Program} {sz b n j k:Nat} {es:List (List Value)} {tg:Tag} {e:List Value} {v:Value} (hm:Hp m0 m ps) (ht:TyI P ty true sz) (hp:pk ps k=some (.arr b w n es tg)) (he:es[j]? = some e) (hv:yW true sz e 0=some v) (hs:yr true sz 0 w=true):cf P ty (ptr b (j*w+0)) m=some v:=by
 have hs:=rC hs;have:=md (P:=P) ht (yd.Lw (hm.get hp)) he hv hs.1 hs.2;rwa[Nat.zero_add] at this
end
section
variable {α : Type} {E : Env} {n : Nat} {m0 m : AMem} {fs : Fs} {ps : List Pc} {f : α → List Value} {w : Nat} {ops : Array Oper} {os : List Oper} {prs : List (Nat × Nat)} {K : Tm → AMem → Prop} {ss : List Nk}
theorem Wn.vc {k l:Nat} {a:Option Addr} {R:Nat→Prop} {L:List (List α)} (hp:pk ps k=some (.gen (tY a l R w f L))) (h:l=L.length→Wn E n ops prs K os ss m0 fs ps):Wn E n ops prs K os ss m0 fs ps :=
 fun t m ns hf hm hn=>h (sw hm hp) t m ns hf hm hn
end
def Dd (m:AMem) (RW:Nat→Prop) (rb:Nat) (row:List (Bool × List Nat)):Prop :=
 rb<m.next∧∃vs,m.get rb=some (.cells vs .own)∧vs.length=row.length*2∧∀(j:Nat) (x:Bool × List Nat),row[j]? = some x→vs[j*2]? = some (.bool x.1)∧∃a c,vs[j*2+1]? = some (.slice a x.2.length c)∧Rd m a c 1 x.2.length (x.2.map (eN .u64))∧∀b,ek a=some b→RW b
theorem Dd.di {m m':AMem} {RW RW':Nat→Prop} {rb:Nat} {row:List (Bool × List Nat)} (h:Dd m RW rb row) (hn:m.next≤m'.next) (hg:∀b,(b=rb∨RW b)→b<m.next→m'.get b=m.get b) (hs:∀b,RW b→RW' b):Dd m' RW' rb row:=by
 obtain⟨h1,vs,h2,h3,h4⟩:=h;refine⟨Nat.lt_of_lt_of_le h1 hn,vs,by rw[hg rb (.inl rfl) h1]; exact h2,h3,fun j x hx=>?_⟩
 obtain⟨g1,a,c,g2,g3,g4⟩:=h4 j x hx;exact⟨g1,a,c,g2,g3.di hn fun b hb hlt=>hg b (.inr (g4 b hb)) hlt,fun b hb=>hs b (g4 b hb)⟩
def xQ (ρ:Nat→Nat) (L:List (List (Bool × List Nat))) (x:Nat):Prop:=∃i row,L[i]? = some row∧row≠[]∧x=ρ i
structure MatAt (m:AMem) (b n:Nat) (ρ:Nat→Nat) (RW:Nat→Prop) (L:List (List (Bool × List Nat))):Prop where
 lt:b<m.next
 len:n=L.length
 cells:∃cs,m.get b=some (.cells cs .own)∧cs.length=n∧∀(i:Nat) (row:List (Bool × List Nat)),L[i]? = some row→(row = []∧cs[i]? = some (.slice none 0 0))∨(row≠[]∧cs[i]? = some (.slice (some ⟨ρ i,0,none⟩) row.length row.length))
 rows:∀(i:Nat) (row:List (Bool × List Nat)),L[i]? = some row→row≠[]→Dd m RW (ρ i) row
 rw:∀x,RW x→x<m.next∧x≠b∧¬xQ ρ L x
 out:∀(i:Nat) (row:List (Bool × List Nat)),L[i]? = some row→row≠[]→ρ i≠b
 inj:∀(i j:Nat) (row row':List (Bool × List Nat)),L[i]? = some row→L[j]? = some row'→row≠[]→row'≠[]→ρ i=ρ j→i=j
def oi (b n:Nat) (ρ:Nat→Nat) (RW:Nat→Prop) (L:List (List (Bool × List Nat))):GPc where
 ow x:=x=b∨xQ ρ L x
 rd x:=RW x
 P m:=MatAt m b n ρ RW L
 st m m' h hn hg:=by
  refine⟨Nat.lt_of_lt_of_le h.lt hn,h.len,?_,fun i row hi hne=>(h.rows i row hi hne).di hn (fun x hx hlt=>?_) fun _ h=>h,fun x hx=>⟨Nat.lt_of_lt_of_le (h.rw x hx).1 hn,(h.rw x hx).2⟩,h.out,h.inj⟩
  ·obtain⟨cs,h1,h2⟩:=h.cells;exact⟨cs,by rw[hg b (.inl (.inl rfl)) h.lt]; exact h1,h2⟩
  ·rcases hx with rfl|hx
   ·exact hg _ (.inl (.inr ⟨i,row,hi,hne,rfl⟩)) hlt
   ·exact hg _ (.inr hx) hlt
 lt m x h hx:=by
  rcases hx with(rfl|⟨i,row,h1,h2,rfl⟩) | hx
  ·exact h.lt
  ·exact(h.rows i row h1 h2).1
  ·exact(h.rw x hx).1
theorem qY {b n:Nat} {ρ:Nat→Nat} {RW:Nat→Prop} {L:List (List (Bool × List Nat))}:∀x,ek (some ⟨b,0,none⟩)=some x→Pc.any (.gen (oi b n ρ RW L)) x:=fun x h=>by cases h; exact .inr (.inl (.inl rfl))
section
variable {E : Env} {m0 m : AMem} {fs : Fs} {ps : List Pc} {x y : Operand} {ty : TypeId} {b n : Nat} {ρ : Nat → Nat} {RW : Nat → Prop} {L : List (List (Bool × List Nat))}
theorem py (v:Value):∀n:Nat,(List.replicate n [v]).flatten=List.replicate n v
 | 0=>rfl
 | n+1=>by rw[List.replicate_succ,List.flatten_cons,py v n,List.replicate_succ]; rfl
theorem ak.PI:ak m0 (.arr b 1 n (List.replicate n [.slice none 0 0]) .own::ps) (.gen (oi b n (fun _=>0) (fun _=>False) (List.replicate n []))::ps):=fun m h=>by
 have h0:yd m0.next m b 1 n (List.replicate n [.slice none 0 0]) .own:=h.ok _ (List.mem_cons_self ..)
 have hno:∀x,¬xQ (fun _=>0) (List.replicate n []) x:=fun x ⟨i,row,h1,h2,_⟩=>h2 (List.eq_of_mem_replicate (List.mem_of_getElem? h1));have ha:=List.pairwise_cons.1 h.apart;refine⟨h.ext,fun p hp=>?_,List.pairwise_cons.2 ⟨fun r hr=>⟨fun z h1 h2=>?_,fun z h1 h2=>?_⟩,ha.2⟩⟩
 ·rcases List.mem_cons.1 hp with rfl|hp
  ·refine⟨⟨h0.2.1,by simp,⟨_,h0.2.2.1,by rw[py]; simp,fun i row hi=>.inl ⟨List.eq_of_mem_replicate (List.mem_of_getElem? hi),?_⟩⟩,fun i row hi hne=>absurd (List.eq_of_mem_replicate (List.mem_of_getElem? hi)) hne,fun x hx=>hx.elim,fun i row hi hne=>absurd (List.eq_of_mem_replicate (List.mem_of_getElem? hi)) hne,fun i j row row' hi _ hne=>absurd (List.eq_of_mem_replicate (List.mem_of_getElem? hi)) hne⟩,fun _ z hz=>?_⟩
   ·have hlt:=(List.getElem?_eq_some_iff.1 hi).1;rw[py,List.getElem?_replicate,if_pos (by simpa using hlt)]
   ·rcases hz with rfl|hz
    ·exact h0.1
    ·exact absurd hz (hno z)
  ·exact h.ok p (List.mem_cons_of_mem _ hp)
 ·rcases h1 with h1|h1
  ·cases h1.1
  ·rcases h1 with rfl|h1
   ·exact(ha.1 r hr).1 _ (.inl ⟨rfl,rfl⟩) h2
   ·exact absurd h1 (hno z)
 ·rcases h2 with h2|h2
  ·cases h2
  ·rcases h2 with(rfl|h2) | h2
   ·exact(ha.1 r hr).2 _ h1 (.inl rfl)
   ·exact absurd h2 (hno z)
   ·exact h2.elim
theorem DB (l:Nat):∀j,j<l→(List.replicate l [Value.bool false,.slice none 0 0]).flatten[j*2]? = some (.bool false)∧(List.replicate l [Value.bool false,.slice none 0 0]).flatten[j*2+1]? = some (.slice none 0 0):=by
 induction l with
 | zero=>intro j h; cases h
 | succ l ih =>
  intro j hj;rw[List.replicate_succ,List.flatten_cons];cases j with
  | zero=>exact⟨rfl,rfl⟩
  | succ j =>
   have:=ih j (by omega)
   refine⟨?_,?_⟩
   ·rw[show(j+1)*2=j*2+2 by omega]; exact this.1
   ·rw[show(j+1)*2+1=(j*2+1)+2 by omega]; exact this.2
theorem Hg (l:Nat):(List.replicate l [Value.bool false,.slice none 0 0]).flatten.length=l*2:=by
 induction l with
 | zero=>rfl
 | succ l ih=>rw[List.replicate_succ,List.flatten_cons,List.length_append,ih]; simp only[List.length_cons,List.length_nil]; omega
theorem at_set {α:Type} {l:List α} {i j:Nat} {v x:α} (h:(l.set i v)[j]? = some x):(i=j∧x=v∧j<l.length)∨(i≠j∧l[j]? = some x):=by
 rw[List.getElem?_set] at h
 by_cases e:i=j
 ·rw[if_pos e] at h
  split at h
  ·exact .inl ⟨e,(Option.some.inj h).symm,by omega⟩
  ·cases h
 ·rw[if_neg e] at h; exact .inr ⟨e,h⟩
theorem Jb {k l i off rb:Nat} {r0:List (Bool × List Nat)} (ht:TyI E.P ty false 1) (hx:ev E fs x=some (ptr b off)) (ho:off=i) (hy:ev E fs y=some (.slice (some ⟨rb,0,none⟩) l l)) (hp:pk ps k=some (.gen (oi b n ρ RW L))) (he:L[i]? = some r0) (hl:0<l) :
  Od E m0 fs (.arr rb 2 l (List.replicate l [.bool false,.slice none 0 0]) .own::ps) (.store ty x y) undef (bO ps k (.gen (oi b n (fun j=>if j=i then rb else ρ j) RW (L.set i (List.replicate l (false,[])))))):=fun t m hf h=>⟨fun b' hb'=>(by simp[aH] at hb'),fun K hK=>by
 subst ho;have hk:=h.get (k:=k+1) hp;have hP:MatAt m b n ρ RW L:=hk.1;have h0:yd m0.next m rb 2 l (List.replicate l [.bool false,.slice none 0 0]) .own:=h.ok _ (List.mem_cons_self ..)
 have ha:=(List.pairwise_cons.1 h.apart).1;have hak:=ha _ (ft hp);have hi:off<L.length:=(List.getElem?_eq_some_iff.1 he).1;obtain⟨cs,c1,c0,c2⟩:=hP.cells;have hst:dp E.P ty (ptr b off) (.slice (some ⟨rb,0,none⟩) l l) m=some (m.set b (.cells (cs.set off (.slice (some ⟨rb,0,none⟩) l l)) .own)):=GO ht.known ht.size rfl c1 (by rw[c0,hP.len]; exact hi)
 have e:=Go.Ab.wC (t:=t) (E:=E) (hf.ev hx) (hf.ev hy) hst K;rw[e];have hrbb:rb≠b:=fun e=>hak.1 rb (.inl ⟨rfl,rfl⟩) (.inr (.inl (.inl e)));have hrbm:¬xQ ρ L rb:=fun g=>hak.1 rb (.inl ⟨rfl,rfl⟩) (.inr (.inl (.inr g)));have hrbw:¬RW rb:=fun g=>hak.1 rb (.inl ⟨rfl,rfl⟩) (.inr (.inr g));have hget:∀z,z≠b→(m.set b (.cells (cs.set off (.slice (some ⟨rb,0,none⟩) l l)) .own)).get z=m.get z:=fun z hz=>by rw[AMem.bB,if_neg hz]
 have hnext:(m.set b (.cells (cs.set off (.slice (some ⟨rb,0,none⟩) l l)) .own)).next=m.next:=AMem.next_set ..
 have hne:(List.replicate l ((false,[]):Bool × List Nat))≠[]:=by
  intro e;have:=congrArg List.length e;simp at this; omega
 have hmr:∀z,xQ (fun j=>if j=off then rb else ρ j) (L.set off (List.replicate l (false,[]))) z→z=rb∨xQ ρ L z:=fun z ⟨j,row,g1,g0,g3⟩=>by
  rcases at_set g1 with⟨e0,_,_⟩|⟨e0,g2⟩
  ·simp only[if_pos e0.symm] at g3; exact .inl g3
  ·simp only[if_neg (fun e:j=off=>e0 e.symm)] at g3; exact .inr ⟨j,row,g2,g0,g3⟩
 refine hK _ ⟨h.ext.set (Pc.jj hk rfl (.inr (.inl rfl))) _,fun p hpm=>?_,cK hp (fun r hr hap=>⟨fun z g1 g0=>?_,fun z g1 g0=>?_⟩) (List.pairwise_cons.1 h.apart).2⟩
 ·rcases lN hp (List.pairwise_cons.1 h.apart).2 hpm with rfl|⟨hpm,hap⟩
  ·refine⟨⟨by rw[hnext]; exact hP.lt,by rw[List.length_set]; exact hP.len,⟨_,by rw[AMem.bB,if_pos rfl],by rw[List.length_set]; exact c0,fun j row hj=>?_⟩,fun j row hj hne'=>?_,fun z hz=>⟨by rw[hnext]; exact(hP.rw z hz).1,(hP.rw z hz).2.1,fun g=>?_⟩,fun j row hj hne'=>?_,fun j j' row row' hj hj' h1 h2 heq=>?_⟩,fun _ z hz=>?_⟩
   ·rcases at_set hj with⟨e0,rfl,_⟩|⟨e0,g2⟩
    ·subst e0;refine .inr ⟨hne,?_⟩;rw[List.getElem?_set_self (by rw[c0,hP.len]; exact hi)]
     simp
    ·rw[List.getElem?_set_ne e0];simp only[if_neg (fun e:j=off=>e0 e.symm)];exact c2 j row g2
   ·rcases at_set hj with⟨e0,rfl,_⟩|⟨e0,g2⟩
    ·subst e0;simp only[if_true];refine⟨by rw[hnext]; exact h0.2.1,_,by rw[hget rb hrbb]; exact h0.2.2.1,by rw[Hg]; simp,fun j x hx=>?_⟩
     have hjl:j<l:=by have:=(List.getElem?_eq_some_iff.1 hx).1; simpa using this
     have hx':x=(false,[]):=List.eq_of_mem_replicate (List.mem_of_getElem? hx);subst hx';exact⟨(DB l j hjl).1,none,0,(DB l j hjl).2,Rd.nil _ _,fun _ h=>by cases h⟩
    ·simp only[if_neg (fun e:j=off=>e0 e.symm)];exact(hP.rows j row g2 hne').di (by rw[hnext]; exact Nat.le_refl _) (fun z hz _=>hget z (fun e=>by
      rcases hz with hz|hz
      ·exact hP.out j row g2 hne' (by rw[←hz]; exact e)
      ·exact(hP.rw z hz).2.1 e)) fun _ h=>h
   ·rcases hmr z g with rfl|g
    ·exact hrbw hz
    ·exact(hP.rw z hz).2.2 g
   ·rcases at_set hj with⟨e0,_,_⟩|⟨e0,g2⟩
    ·simp only[if_pos e0.symm]; exact hrbb
    ·simp only[if_neg (fun e:j=off=>e0 e.symm)]; exact hP.out j row g2 hne'
   ·rcases at_set hj with⟨e0,_,_⟩|⟨e0,g2⟩<;>rcases at_set hj' with⟨e1,_,_⟩|⟨e1,g4⟩
    ·exact e0.symm.trans e1
    ·simp only[if_pos e0.symm,if_neg (fun e:j'=off=>e1 e.symm)] at heq;exact absurd ⟨j',row',g4,h2,heq⟩ hrbm
    ·simp only[if_neg (fun e:j=off=>e0 e.symm),if_pos e1.symm] at heq;exact absurd ⟨j,row,g2,h1,heq.symm⟩ hrbm
    ·simp only[if_neg (fun e:j=off=>e0 e.symm),if_neg (fun e:j'=off=>e1 e.symm)] at heq;exact hP.inj j j' row row' g2 g4 h1 h2 heq
   ·rcases hz with rfl|hz
    ·exact Pc.jj hk rfl (.inr (.inl rfl))
    ·rcases hmr z hz with rfl|hz
     ·exact h0.1
     ·exact Pc.jj hk rfl (.inr (.inr hz))
  ·exact Pc.fE (h.ok p (List.mem_cons_of_mem _ hpm)) (by rw[hnext]; exact Nat.le_refl _) fun z hz _=>hget z fun e=>hap.2 z (.inr (.inl e)) hz
 ·rcases g1 with g1|g1
  ·cases g1.1
  ·rcases g1 with rfl|g1
   ·exact hap.1 _ (.inr (.inl rfl)) g0
   ·rcases hmr z g1 with rfl|g1
    ·exact(ha r hr).1 _ (.inl ⟨rfl,rfl⟩) g0
    ·exact hap.1 _ (.inr (.inr g1)) g0
 ·rcases g0 with g0|g0
  ·cases g0
  ·rcases g0 with(rfl|g0) | g0
   ·exact hap.2 _ g1 (.inr (.inl (.inl rfl)))
   ·rcases hmr z g0 with rfl|g0
    ·exact(ha r hr).2 _ g1 (.inl rfl)
    ·exact hap.2 _ g1 (.inr (.inl (.inr g0)))
   ·exact hap.2 _ g1 (.inr (.inr g0))⟩
theorem dx {k i off:Nat} {row:List (Bool × List Nat)} (ht:TyI E.P ty false 1) (hx:ev E fs x=some (ptr b off)) (ho:off=i) (hp:pk ps k=some (.gen (oi b n ρ RW L))) (he:L[i]? = some row) (hl:0<row.length) :
  Ox E m0 fs ps (.load ty x) (fun r:{ rb:Nat // ρ i=rb}=>.slice (some ⟨r.1,0,none⟩) row.length row.length) (fun _=>ps):=fun t m hf h=>by
 subst ho;have hP:MatAt m b n ρ RW L:=(h.get hp).1;obtain⟨cs,c1,c2,c3⟩:=hP.cells;have hne:row≠[]:=fun e=>by rw[e] at hl; cases hl
 have hc:cs[off]? = some (.slice (some ⟨ρ off,0,none⟩) row.length row.length):=((c3 off row he).resolve_left fun g=>hne g.1).2;refine⟨fun b' hb'=>?_,fun K hK=>?_⟩
 ·have hx':aj E t x=some (ptr b off):=hf.ev hx;simp only[aH,hx',Option.bind_some] at hb';cases hb'; exact hP.lt
 ·rw[Go.Ab.po (hf.ev hx) (rD ht.known ht.agg c1 hc)];exact hK ⟨ρ off,rfl⟩ m h
theorem iY {k i j off rb:Nat} {row:List (Bool × List Nat)} {e:Bool} {w:List Nat} (ht:TyI E.P ty true 2) (hx:ev E fs x=some (ptr rb off)) (ho:off=j*2+0) (hp:pk ps k=some (.gen (oi b n ρ RW L))) (he:L[i]? = some row) (hrb:ρ i=rb) (hj:row[j]? = some (e,w)) :
  Ox E m0 fs ps (.load ty x) (fun r:Option Addr × Nat=>.agg #[.bool e,.slice r.1 w.length r.2]) (fun r=>.rd r.1 r.2 1 w.length (w.map (eN .u64))::ps):=fun t m hf h=>by
 subst ho hrb;have hk:=h.get hp;have hP:MatAt m b n ρ RW L:=hk.1;have hne:row≠[]:=fun e=>by rw[e] at hj; simp at hj
 obtain⟨h1,vs,h2,h3,h4⟩:=hP.rows i row he hne;obtain⟨g1,a,c,g2,g3,g4⟩:=h4 j (e,w) hj;refine⟨fun b' hb'=>?_,fun K hK=>?_⟩
 ·have hx':aj E t x=some (ptr (ρ i) (j*2+0)):=hf.ev hx;simp only[aH,hx',Option.bind_some] at hb';cases hb'; exact h1
 ·have htk:(vs.drop (j*2+0)).take 2 = [.bool e,.slice a w.length c]:=by
   refine List.ext_getElem? fun i=>?_;rw[List.getElem?_take];rcases i with _|_|i
   ·rw[if_pos (by decide),List.getElem?_drop]; exact g1
   ·rw[if_pos (by decide),List.getElem?_drop]; exact g2
   ·rw[if_neg (by omega)]; rfl
  have hld:cf E.P ty (ptr (ρ i) (j*2+0)) m=some (.agg #[.bool e,.slice a w.length c]):=DG ht.known ht.agg ht.size h2 htk rfl;rw[Go.Ab.po (hf.ev hx) hld];refine hK (a,c) m ⟨h.ext,fun p hpm=>?_,List.pairwise_cons.2 ⟨fun r hr=>⟨fun z a1 _=>?_,fun z a1 a2=>?_⟩,h.apart⟩⟩
  ·rcases List.mem_cons.1 hpm with rfl|hpm
   ·exact g3
   ·exact h.ok p hpm
  ·exact a1.elim (fun a1=>by cases a1.1) fun a1=>a1.elim
  ·have hz:RW z:=g4 z (a2.elim id fun a2=>a2.elim);obtain⟨k',hk'⟩:=pF hr
   by_cases hkk:k=k'
   ·subst hkk;rw[hp] at hk';cases hk';rcases a1 with a1|a1
    ·cases a1.1
    ·exact a1.elim (hP.rw z hz).2.1 (hP.rw z hz).2.2
   ·exact(ig h.apart hp hk' hkk).2 z a1 (.inr (.inr hz))
theorem sd {k k2 i j off rb c:Nat} {row:List (Bool × List Nat)} {e:Bool} {a:Option Addr} {w:List Nat} {p1:Pc} (ht:TyI E.P ty true 2) (hx:ev E fs x=some (ptr rb off)) (ho:off=j*2+0) (hy:ev E fs y=some (.agg #[.bool e,.slice a w.length c])) (hp:pk ps k=some (.gen (oi b n ρ RW L))) (he:L[i]? = some row) (hrb:ρ i=rb) (hj:Nat.blt j row.length=true) (hw:(pk ps k2=some p1∧p1 = .rd a c 1 w.length (w.map (eN .u64)))∨(a=none∧w = [])) :
  Od E m0 fs ps (.store ty x y) undef (bO ps k (.gen (oi b n ρ (fun z=>RW z∨ek a=some z) (L.set i (row.set j (e,w)))))):=fun t m hf h=>⟨fun b' hb'=>(by simp[aH] at hb'),fun K hK=>by
 subst ho hrb;have hj:j<row.length:=by rwa[Nat.blt_eq] at hj
 have hk:=h.get hp;have hP:MatAt m b n ρ RW L:=hk.1;have hne:row≠[]:=fun e=>by rw[e] at hj; cases hj
 have hrd:∃c',Rd m a c' 1 w.length (w.map (eN .u64))∧(a≠none→c'=c):=by
  rcases hw with⟨hw,rfl⟩|⟨rfl,rfl⟩
  ·exact⟨c,h.get hw,fun _=>rfl⟩
  ·exact⟨0,Rd.nil _ _,fun g=>absurd rfl g⟩
 have haw:∀z,ek a=some z→z<m.next∧¬Pc.ow (.gen (oi b n ρ RW L)) z∧∀r ∈ ps,¬r.ow z:=by
  rcases hw with⟨hw,rfl⟩|⟨rfl,_⟩
  ·intro z hz;have hno:∀r ∈ ps,¬r.ow z:=fun r hr g=>by
    obtain⟨k',hk'⟩:=pF hr
    by_cases hkk:k2=k'
    ·subst hkk; rw[hw] at hk'; cases hk';exact g.elim (fun g=>by cases g.1) fun g=>g.elim
    ·exact(ig h.apart hw hk' hkk).2 z g (.inl hz)
   exact⟨Rd.lt (h.get hw) hz,hno _ (ft hp),hno⟩
  ·intro z hz; cases hz
 obtain⟨h0,vs,h1,h2,h3⟩:=hP.rows i row he hne;have hcs:(Value.agg #[.bool e,.slice a w.length c]).cells=#[.bool e,.slice a w.length c]:=rfl;have hst:dp E.P ty (ptr (ρ i) (j*2+0)) (.agg #[.bool e,.slice a w.length c]) m=some (m.set (ρ i) (.cells (aC vs (j*2+0) [.bool e,.slice a w.length c]) .own)):=As ht.known (by rw[ht.size]; rfl) rfl (by rw[hcs]; simp) h1 (by rw[hcs]; simp only[List.length_cons,List.length_nil]; omega)
 have e2:=Go.Ab.wC (t:=t) (E:=E) (hf.ev hx) (hf.ev hy) hst K;rw[e2];have hnext:(m.set (ρ i) (.cells (aC vs (j*2+0) [.bool e,.slice a w.length c]) .own)).next=m.next:=AMem.next_set ..
 have hget:∀z,z≠ρ i→(m.set (ρ i) (.cells (aC vs (j*2+0) [.bool e,.slice a w.length c]) .own)).get z=m.get z:=fun z hz=>by rw[AMem.bB,if_neg hz]
 have hself:xQ ρ L (ρ i):=⟨i,row,he,hne,rfl⟩;have hmr:∀z,xQ ρ (L.set i (row.set j (e,w))) z↔xQ ρ L z:=fun z=>by
  constructor
  ·rintro⟨q,r,q2,q3,q1⟩;rcases at_set q2 with⟨e0,_,_⟩|⟨e0,q0⟩
   ·subst e0; rw[q1]; exact hself
   ·exact⟨q,r,q0,q3,q1⟩
  ·rintro⟨q,r,q2,q3,q1⟩
   by_cases e0:i=q
   ·subst e0;refine⟨i,row.set j (e,w),by rw[List.getElem?_set_self (List.getElem?_eq_some_iff.1 he).1],fun g=>?_,q1⟩
    have:=congrArg List.length g;rw[List.length_set] at this;simp at this;exact hne this
   ·exact⟨q,r,by rw[List.getElem?_set_ne e0]; exact q2,q3,q1⟩
 have h4:row.set j (e,w)≠[]:=fun g=>by
  have:=congrArg List.length g;rw[List.length_set] at this;simp at this;exact hne this
 have hap:∀z,ek a=some z→z≠ρ i:=fun z hz g=>(haw z hz).2.1 (.inr (.inr (g ▸ hself)));refine hK _ ⟨h.ext.set (Pc.jj hk rfl (.inr (.inr hself))) _,fun p hpm=>?_,cK hp (fun r hr hapr=>⟨fun z g1 g0=>?_,fun z g1 g0=>?_⟩) h.apart⟩
 ·rcases lN hp h.apart hpm with rfl|⟨hpm,h5⟩
  ·refine⟨⟨by rw[hnext]; exact hP.lt,by rw[List.length_set]; exact hP.len,?_,fun q r hq hr=>?_,fun z hz=>?_,fun q r hq hr=>?_,fun q q' r r' hq hq' hr hr' heq=>?_⟩,fun _ z hz=>?_⟩
   ·obtain⟨cs,c1,c2,c0⟩:=hP.cells;refine⟨cs,by rw[hget b fun g=>hP.out i row he hne g.symm]; exact c1,c2,fun q r hq=>?_⟩
    rcases at_set hq with⟨e0,rfl,_⟩|⟨e0,q0⟩
    ·subst e0;exact .inr ⟨h4,by rw[List.length_set]; exact((c0 i row he).resolve_left fun g=>hne g.1).2⟩
    ·exact c0 q r q0
   ·rcases at_set hq with⟨e0,rfl,_⟩|⟨e0,q0⟩
    ·subst e0;refine⟨by rw[hnext]; exact h0,_,by rw[AMem.bB,if_pos rfl],by rw[cd,h2,List.length_set],fun q v hv=>?_⟩
     rcases at_set hv with⟨e1,rfl,q4⟩|⟨e1,q4⟩
     ·subst e1;obtain⟨c',r1,r2⟩:=hrd;refine⟨by rw[bt,if_pos ⟨by omega,by simp only[List.length_cons,List.length_nil]; omega,by omega⟩]; simp,a,c,by rw[bt,if_pos ⟨by omega,by simp only[List.length_cons,List.length_nil]; omega,by omega⟩]; simp,?_,fun z hz=>.inr hz⟩
      have r0:Rd (m.set (ρ i) (.cells (aC vs (j*2+0) [.bool e,.slice a w.length c]) .own)) a c' 1 w.length (w.map (eN .u64)):=r1.di (by rw[hnext]; exact Nat.le_refl _) fun z hz _=>hget z (hap z hz)
      cases a with
      | none =>
       have r3:w.length=0:=by
        rcases r0.2.2 with⟨_,g⟩|⟨_,_,g,_⟩|⟨_,_,g,_⟩
        ·exact g
        ·cases g
        ·cases g
       exact⟨r0.1,by show w.length≤c; omega,.inl ⟨rfl,r3⟩⟩
      | some ad=>rw[r2 (by simp)] at r0; exact r0
     ·obtain⟨s0,a',c',s1,s3,s2⟩:=h3 q v q4;refine⟨by rw[bt,if_neg (by simp only[List.length_cons,List.length_nil]; omega)]; exact s0,a',c',by rw[bt,if_neg (by simp only[List.length_cons,List.length_nil]; omega)]; exact s1,s3.di (by rw[hnext]; exact Nat.le_refl _) (fun z hz _=>hget z fun g=>(hP.rw z (s2 z hz)).2.2 (g ▸ hself)),fun z hz=>.inl (s2 z hz)⟩
    ·refine(hP.rows q r q0 hr).di (by rw[hnext]; exact Nat.le_refl _) (fun z hz _=>hget z fun g=>?_) fun z hz=>.inl hz
     rcases hz with rfl|hz
     ·exact e0 (hP.inj q i r row q0 he hr hne g).symm
     ·exact(hP.rw z hz).2.2 (g ▸ hself)
   ·rcases hz with hz|hz
    ·exact⟨by rw[hnext]; exact(hP.rw z hz).1,(hP.rw z hz).2.1,fun g=>(hP.rw z hz).2.2 ((hmr z).1 g)⟩
    ·exact⟨by rw[hnext]; exact(haw z hz).1,fun g=>(haw z hz).2.1 (.inr (.inl g)),fun g=>(haw z hz).2.1 (.inr (.inr ((hmr z).1 g)))⟩
   ·rcases at_set hq with⟨e0,_,_⟩|⟨e0,q0⟩
    ·subst e0; exact hP.out i row he hne
    ·exact hP.out q r q0 hr
   ·have fix:∀q r,(L.set i (row.set j (e,w)))[q]? = some r→r≠[]→∃r',L[q]? = some r'∧r'≠[]:=fun q r hq hr=>by
     rcases at_set hq with⟨e0,_,_⟩|⟨e0,q0⟩
     ·subst e0; exact⟨row,he,hne⟩
     ·exact⟨r,q0,hr⟩
    obtain⟨s,s0,s1⟩:=fix q r hq hr;obtain⟨s',s1',s2'⟩:=fix q' r' hq' hr';exact hP.inj q q' s s' s0 s1' s1 s2' heq
   ·rcases hz with rfl|hz
    ·exact Pc.jj hk rfl (.inr (.inl rfl))
    ·exact Pc.jj hk rfl (.inr (.inr ((hmr z).1 hz)))
  ·exact Pc.fE (h.ok p hpm) (by rw[hnext]; exact Nat.le_refl _) fun z hz _=>hget z fun g=>h5.2 z (.inr (.inr (g ▸ hself))) hz
 ·rcases g1 with g1|g1
  ·cases g1.1
  ·rcases g1 with rfl|g1
   ·exact hapr.1 _ (.inr (.inl rfl)) g0
   ·exact hapr.1 _ (.inr (.inr ((hmr z).1 g1))) g0
 ·rcases g0 with g0|g0
  ·cases g0
  ·rcases g0 with(rfl|g0) | (g0|g0)
   ·exact hapr.2 _ g1 (.inr (.inl (.inl rfl)))
   ·exact hapr.2 _ g1 (.inr (.inl (.inr ((hmr z).1 g0))))
   ·exact hapr.2 _ g1 (.inr (.inr g0))
   ·exact(haw z g0).2.2 r hr g1⟩
end
abbrev kI:Int→Value:=fun n=>.int .i64 n
abbrev vB:Bool→Value:=fun b=>.bool b
def Fq (m:AMem) (H:Nat→Prop) (bo:Option Nat) (xs:List (Int × Bool)):Prop:=(bo=none∧xs = [])∨∃b,bo=some b∧H b∧m.get b=some (.map (xs.map (eM kI vB)))
theorem Fq.nil {m:AMem} {H:Nat→Prop}:Fq m H none []:=.inl ⟨rfl,rfl⟩
def PA (H:Nat→Prop) (M:List (Option Nat × List (Int × Bool))):GPc where
 ow:=H
 rd:=fun _=>False
 P m:=(∀b,H b→b<m.next)∧∀p ∈ M,Fq m H p.1 p.2
 fr:=true
 st m m' h hn hg:=⟨fun b hb=>Nat.lt_of_lt_of_le (h.1 b hb) hn,fun p hp=>(h.2 p hp).imp id fun⟨b,h1,h2,h3⟩=>⟨b,h1,h2,by rw[hg b (.inl h2) (h.1 b h2)]; exact h3⟩⟩
 lt m b h hb:=hb.elim (h.1 b) fun h=>h.elim
section
variable {E : Env} {m0 m : AMem} {fs : Fs} {ps : List Pc} {x y z : Operand} {ty : TypeId} {H : Nat → Prop} {M : List (Option Nat × List (Int × Bool))}
theorem Hp.vm {l0:List Pc} (h:Hp m0 m (l0++[.gen (oA H)])) (hM:∀p ∈ M,Fq m H p.1 p.2):Hp m0 m (l0++[.gen (PA H M)]):=by
 have ha:=List.pairwise_append.1 h.apart;refine⟨h.ext,fun p hp=>?_,List.pairwise_append.2 ⟨ha.1,List.pairwise_singleton ..,fun p hp q hq=>?_⟩⟩
 ·rcases List.mem_append.1 hp with hp|hp
  ·exact h.ok p (List.mem_append_left _ hp)
  ·rw[List.mem_singleton.1 hp];have h0:Pc.ok m0.next m (.gen (oA H)):=h.ok _ (List.mem_append_right _ (List.mem_singleton.2 rfl))
   exact⟨⟨h0.1,hM⟩,fun h=>by cases h⟩
 ·rw[List.mem_singleton.1 hq];have h1:Pc.apart p (.gen (oA H)):=ha.2.2 p hp _ (List.mem_singleton.2 rfl);exact⟨fun b a c=>h1.1 b a c,fun b a c=>h1.2 b a c⟩
theorem Hp.SD {l0:List Pc} {bo bo':Option Nat} {xs xs':List (Int × Bool)} (h:Hp m0 m (l0++[.gen (oA H)])) (h1:Fq m H bo xs) (h2:Fq m H bo' xs'):Hp m0 m (l0++[.gen (PA H [(bo,xs),(bo',xs')])]):=h.vm fun p hp=>by
 rcases List.mem_cons.1 hp with rfl|hp
 ·exact h1
 ·rw[List.mem_singleton.1 hp]; exact h2
theorem ak.RU {k:Nat} (hp:pk ps k=some (.gen (PA H M))):ak m0 ps (bO ps k (.gen (oA H))):=fun m h =>
 h.Q5 hp (fun b hb=>.inl hb) (fun b hb=>.inl hb) (Nat.le_refl _) h.ext ⟨(h.get hp).1.1,fun h=>by cases h⟩ fun _ _ _=>rfl
theorem Hp.Q7 {k b:Nat} {xs:List (Int × Bool)} (h:Hp m0 m ps) (hp:pk ps k=some (.obj b (.map (xs.map (eM kI vB))))):Fq m (xD ps) (some b) xs:=.inr ⟨b,rfl,⟨_,ft hp,.inl ⟨rfl,rfl⟩⟩,(h.get hp).2.2⟩
theorem Ml {kt et k q:Nat} {bo:Option Nat} {xs:List (Int × Bool)} {i:Int} {v:Bool} (hu:E.P.underlying ty=some (.map kt et)) (hk:KeyE E.P kt kI) (hz:bq E.P et=some (.bool false)) (hx:ev E fs x=some (.map bo)) (hy:ev E fs y=some (.int .i64 i)) (hp:pk ps k=some (.gen (PA H M))) (hq:M[q]? = some (bo,xs)) (hv:some ((bY xs i).getD false)=some v) :
  Od E m0 fs ps (.lookup ty x y false) (.bool v) ps:=by
 cases hv;intro t m hf h;have hM:=(h.get hp).1.2 _ (List.mem_of_getElem? hq);rcases hM with⟨h1,h2⟩|⟨b,h1,h2,h3⟩
 ·simp only at h1 h2;subst h1 h2;exact PV (vE:=vB) (z0:=false) (k:=i) hu hk hz rfl hx hy t m hf h
 ·simp only at h1 h3;subst h1;refine⟨fun b' hb'=>?_,fun K hK=>?_⟩
  ·simp only[aH,hf.ev hx] at hb';cases hb'; exact(h.get hp).1.1 b h2
  ·have:=yX (c:=false) (k:=i) (vE:=vB) (z0:=false) hu hk hz rfl h3;unfold bf;simp only[j7,cB,hf.ev hx,hf.ev hy,this,Option.map_some];exact hK m h
theorem PL {elem:TypeId} {i:Int} (ht:SlT E.P ty elem 1) (hx:ev E fs x=some (.int .i64 i)) (hi:decide (0≤i)=true) (hl:gY i.toNat=true) (hz:bq E.P elem=some (.slice none 0 0)) :
  Ox E m0 fs ps (.makeSlice ty x x) (fun b=>.slice (some ⟨b,0,none⟩) i.toNat i.toNat) (fun b=>.gen (oi b i.toNat (fun _=>0) (fun _=>False) (List.replicate i.toNat []))::ps):=fun t m hf hm =>
 have h:=Nf (m0:=m0) (ps:=ps) ht hx (Int.toNat_of_nonneg (of_decide_eq_true hi)).symm hl hz rfl t m hf hm
 ⟨h.1,fun K hK=>h.2 K fun b m' hm'=>hK b m' (ak.PI m' hm')⟩
theorem PX {elem:TypeId} {i:Int} (ht:SlT E.P ty elem 2) (hx:ev E fs x=some (.int .i64 i)) (hi:decide (0≤i)=true) (hl:gY i.toNat=true) (hz:bq E.P elem=some (.agg #[.bool false,.slice none 0 0])) :
  Ox E m0 fs ps (.makeSlice ty x x) (fun b=>.slice (some ⟨b,0,none⟩) i.toNat i.toNat) (fun b=>.arr b 2 i.toNat (List.replicate i.toNat [.bool false,.slice none 0 0]) .own::ps) :=
 Nf (m0:=m0) (ps:=ps) ht hx (Int.toNat_of_nonneg (of_decide_eq_true hi)).symm hl hz rfl
theorem oB {α β:Type} {kE:α→Value} {vE:β→Value}:∀(xs:List (α × β)) (i:Nat),(xs.map (eM kE vE)).eraseIdx i=(xs.eraseIdx i).map (eM kE vE)
 | [],_=>rfl
 | _::_,0=>rfl
 | x::xs,i+1=>by rw[List.map_cons,List.eraseIdx_cons_succ,oB xs i,List.eraseIdx_cons_succ,List.map_cons]
theorem PO {α β:Type} [DecidableEq α] {kt et b q:Nat} {ty2:TypeId} {kE:α→Value} {vE:β→Value} {xs:List (α × β)} {k:α} {ars:Array Operand} (hu:E.P.underlying ty=some (.map kt et)) (hk:KeyE E.P kt kE) (ha:gj E fs ars.toList=some [.map (some b),kE k]) (hp:pk ps q=some (.obj b (.map (xs.map (eM kE vE))))) :
  Od E m0 fs ps (.call ⟨.builtin .delete,ars,#[ty,ty2]⟩) (.tuple #[]) (bO ps q (.obj b (.map ((vQ xs k).map (eM kE vE))))) :=
 fun t m hf h=>⟨fun b' hb'=>by simp[aH] at hb',fun K hK=>by
  have hg:=(h.get hp).2.2;have hdel:∃m',aQ E.P .delete #[ty,ty2] [.map (some b),kE k] m=some (.tuple #[],m')∧Hp m0 m' (bO ps q (.obj b (.map ((vQ xs k).map (eM kE vE))))):=by
   have ht:(#[ty,ty2]:Array TypeId)[0]? = some ty:=rfl;simp only[aQ,ht,oJ,hu,hg,hk.ok,if_true,mu hk,vQ];cases hfd:bW k xs 0 with
   | none =>
    refine⟨m,rfl,?_⟩;have:bO ps q (.obj b (.map (xs.map (eM kE vE))))=ps:=by
     have:∀(l:List Pc) (k:Nat) (p:Pc),pk l k=some p→bO l k p=l:=by
      intro l
      induction l with
      | nil=>intro k p h; simp[pk] at h
      | cons q l ih =>
       intro k p h;cases k with
       | zero=>rw[iV] at h; rw[fG,Option.some.inj h]
       | succ k=>rw[ff] at h; rw[dE,ih k p h]
     exact this ps q _ hp
    rw[this]; exact h
   | some p =>
    refine⟨_,rfl,?_⟩;exact h.write hp rfl rfl rfl rfl ⟨(h.get hp).1,by rw[AMem.next_set]; exact(h.get hp).2.1,by rw[AMem.bB,if_pos rfl,oB]⟩
  obtain⟨m',h1,h2⟩:=hdel;rw[Go.Ab.dF (hf.gj ha) h1];exact hK m' h2⟩
end
end Go.Ab.W
end
section
namespace Go.Proofs.YtookeaakpiefjaaGreatDoor
open Go Go.Ab Go.Ab.W
def vD:List Value→List Int→Bool
 | [],[]=>true
 | .int .u8 n::vs,k::ks=>n == k && vD vs ks
 | _,_=>false
theorem si:∀{vs:List Value} {ks:List Int},vD vs ks=true→vs=ks.map (.int .u8)
 | [],[],_=>rfl
 | [],_::_,h=>by cases h
 | v::vs,[],h=>by simp[vD] at h
 | v::vs,k::ks,h=>by
  unfold vD at h
  split at h
  ·rename_i e _; cases e
  ·rename_i n vs' k' ks' e1 e2;cases e1; cases e2;simp only[Bool.and_eq_true,beq_iff_eq] at h;rw[h.1,si h.2]; rfl
  ·cases h
def zv (m:AMem):Bool :=
 match m.get 0 with
 | some (.cells cs .ro)=>vD cs ez
 | _=>false
theorem AO {m:AMem} (h:zv m=true):m.get 0=some (.cells (ez.map (.int .u8)) .ro):=by
 unfold zv at h
 split at h
 ·rename_i cs hg; rw[hg,si h]
 ·cases h
theorem zB:∀x c,yj x=some c→c.all aO=true:=by
 intro x c h;unfold yj at h
 split at h
 ·cases h;rw[List.all_map];exact List.all_eq_true.2 fun x _=>rfl
 ·cases h
theorem E6:∃fuel m',run DW fuel (.call 8 [] R7)=some (.val (.bool true) m')∧1≤m'.wl:=yk (E:=DW) (F:=wZ) (n:=1000) (g:=1) EU AX
def jr (args:List Value) (m:AMem):Option (Value × AMem) :=
 match args with
 | []=>if zv m then some (.bool true,m) else none
 | _=>none
theorem xf {args:List Value} {m m':AMem} {v:Value} (h:jr args m=some (v,m')) {j:aU} {w:World} {args':List Value} (hm:MR DW j m w) (hl:LR j args args') :
  jK DW.P (DW.cP 8).isSome 8 args'.toArray w (my DW j m w v m'):=by
 unfold jr at h
 split at h
 ·split at h
  ·rename_i ht;cases h;obtain⟨fuel,m0,h1,h2⟩:=E6;refine xu (E:=DW) (gs:=yj) Mc zB h1 h2 rfl hm (fun x c hx hg=>?_) hl;have hx:x<1:=hx;have:x=0:=by omega
   subst this;simp only[yj,if_true,Option.some.injEq] at hg;rw[←hg]; exact AO ht
  ·cases h
 ·cases h
def H0 (f:FuncId):Option Prim:=if f=8 then some ⟨jr⟩ else J0 f
noncomputable def ai:Env:={ P:=Tryz.prog,glob:=1,cP:=H0}
theorem KX:EnvOk ai:=AY (E:=DW) Mc (pr:=H0) fun f p hp=>by
 unfold H0 at hp
 split at hp
 ·rename_i e;cases hp;subst e;exact .inr fun args m v m' h j w args' hm hl=>xf h hm hl
 ·exact .inl hp
def Gl (m:AMem):Prop:=m.get 0=some (.cells (ez.map (.int .u8)) .ro)∧0<m.next
theorem Gl.ext {m m':AMem} (h:Gl m) (e:Ext m m'):Gl m':=⟨by rw[e.same 0 h.2]; exact h.1,Nat.lt_of_lt_of_le h.2 e.next⟩
def F8 (_:Nat):Option Bool:=some true
theorem QY (n:Nat) (r:Bool) (hF:F8 n=some r) (m:AMem) (hG:Gl m):ax ai 8 [] m (fun v m'=>∃_:Unit,v = .bool r∧Hp m m' []):=by
 cases hF;refine ax.cP (p:=⟨jr⟩) rfl (v:=.bool true) (m':=m) ?_ ⟨(),rfl,Hp.start m⟩;have ht:zv m=true:=by
  unfold zv;rw[hG.1];exact(by decide +kernel:vD (ez.map (.int .u8)) ez=true)
 show jr [] m=_
 simp only[jr,ht,if_true]
end Go.Proofs.YtookeaakpiefjaaGreatDoor
end
section
namespace Go.Proofs.YtookeaakpiefjaaGreatDoor
set_option maxRecDepth 100000
open Go Go.ChangeShapes Go.WideShapes Go.ChangeAt Go.WideMaps Go.WideElems Go.RowKit Go.Ab Go.Ab.W
theorem RN:D5 Tryz.prog 5 25=some [.int .u8,.int .u8,.int .u16,.sl 141]:=by kernel_rfl
theorem Pl:D5 Tryz.prog 5 141=some [.int .u8,.int .u8]:=by kernel_rfl
theorem Rz:D5 Tryz.prog 5 28=some [.int .u8,.int .i64,.int .u64]:=by kernel_rfl
theorem St:D5 Tryz.prog 5 3=some [.int .i64]:=by kernel_rfl
theorem R3:Tryz.prog.underlying 3=some (.int .i64):=by kernel_rfl
theorem RS:Tryz.prog.underlying 5=some (.int .u8):=by kernel_rfl
theorem Qc:Tryz.prog.underlying 26=some (.int .u64):=by kernel_rfl
theorem RB:Tryz.prog.underlying 49=some (.slice 3):=by kernel_rfl
section
variable {H : Type} {enc : TypeId × Value → H} {W : World} {sp : Nat → Bool} {held : Bool} {v : Value} {d : DataW H} {p : List MemPlace} {base : Nat}
theorem BO {P:Program} {t1 t2 t3 t4 t5 t6:TypeId} {args:Array Value} {ds:List (DataW H)} {ps:List MemPlace} (h:DataW.TrodAll enc P W base sp held [t1,t2,t3,t4,t5,t6] args.toList ds ps) :
  ∃v1 v2 v3 v4 v5 v6 d1 d2 d3 d4 d5 d6 p1 p2 p3 p4 p5 p6,args=#[v1,v2,v3,v4,v5,v6]∧ds = [d1,d2,d3,d4,d5,d6]∧ps=p1++p2++p3++p4++p5++p6∧DataW.Trod enc P W base sp held t1 v1 d1 p1∧DataW.Trod enc P W base sp held t2 v2 d2 p2∧DataW.Trod enc P W base sp held t3 v3 d3 p3∧DataW.Trod enc P W base sp held t4 v4 d4 p4∧DataW.Trod enc P W base sp held t5 v5 d5 p5∧DataW.Trod enc P W base sp held t6 v6 d6 p6:=by
 obtain⟨v1,w1,d1,e1,p1,q1,hargs,rfl,rfl,h1,g1⟩:=trodAll_cons h;obtain⟨v2,w2,d2,e2,p2,q2,rfl,rfl,rfl,h2,g2⟩:=trodAll_cons g1;obtain⟨v3,w3,d3,e3,p3,q3,rfl,rfl,rfl,h3,g3⟩:=trodAll_cons g2;obtain⟨v4,w4,d4,e4,p4,q4,rfl,rfl,rfl,h4,g4⟩:=trodAll_cons g3;obtain⟨v5,w5,d5,e5,p5,q5,rfl,rfl,rfl,h5,g5⟩:=trodAll_cons g4;obtain⟨v6,w6,d6,e6,p6,q6,rfl,rfl,rfl,h6,g6⟩:=trodAll_cons g5;obtain⟨rfl,rfl,rfl⟩:=trodAll_nil g6;exact⟨v1,v2,v3,v4,v5,v6,d1,d2,d3,d4,d5,d6,p1,p2,p3,p4,p5,p6,by cases args; simp_all,rfl,by simp,h1,h2,h3,h4,h5,h6⟩
theorem MG:∀(n:Nat) (cs:List Value) (x:DataW H × List MemPlace),DataW.trod enc Tryz.prog W 0 sp held n 141 cs=some x→∃p:Nat × Nat,cs=eP (eN .u8) (eN .u8) p∧p.1<256∧p.2<256:=by
 intro n cs x h;obtain⟨v1,cs,rfl,h1,h⟩:=dn (oU 5 141 _ Pl n _ x h);obtain⟨v2,cs,rfl,h2,h⟩:=dn h;obtain rfl:=oT h;obtain⟨a,rfl,ha⟩:=pK h1;obtain⟨b,rfl,hb⟩:=pK h2;exact⟨(a,b),rfl,ha,hb⟩
theorem Rm:∀(n:Nat) (cs:List Value) (x:DataW H × List MemPlace),DataW.trod enc Tryz.prog W 0 sp held n 3 cs=some x→∃p:Int,cs=eI .i64 p∧(-9223372036854775808≤p∧p≤9223372036854775807):=by
 intro n cs x h;obtain⟨v1,cs,rfl,h1,h⟩:=dn (oU 5 3 _ St n _ x h);obtain rfl:=oT h;obtain⟨a,rfl,ha⟩:=xA h1;exact⟨a,rfl,ha⟩
theorem PJ (hok:Value.okWide Tryz.prog W .any base 25 v) (hs:0<W.heap.size) (h:DataW.Trod enc Tryz.prog W 0 sp held 25 v d p):∃(x1 x2 x3:Nat) (l:List (Nat × Nat)) (a:Option Addr) (c:Nat),
  VR (fi W) (.agg #[.int .u8 ((x1:Nat):Int),.int .u8 ((x2:Nat):Int),.int .u16 ((x3:Nat):Int),.slice a l.length c]) v∧x1<256∧x2<256∧x3<65536∧(∀q ∈ l,q.1<256∧q.2<256)∧l.length≤maxLen∧Rd (eh W) a c 2 l.length (l.map (eP (eN .u8) (eN .u8))):=by
 obtain⟨cs,rfl,_⟩:=okWide_struct (t:=25) (fs:=Tryz.prog.underlying 25 |>.elim #[] fun u=>match u with | .struct fs=>fs|_=>#[]) (by kernel_rfl) hok
 obtain⟨n,h⟩:=h;obtain⟨v1,r,hr,h1,h⟩:=dn (tR RN h);obtain⟨v2,r,rfl,h2,h⟩:=dn h;obtain⟨v3,r,rfl,h3,h⟩:=dn h;obtain⟨v4,r,rfl,h4,h⟩:=dn h;obtain rfl:=oT h;obtain⟨x1,rfl,g1⟩:=pK h1;obtain⟨x2,rfl,g2⟩:=pK h2;obtain⟨x3,rfl,g3⟩:=Lm h3;obtain⟨a,c,l,e1,e2,e3,e4⟩:=ID (f:=eP (eN .u8) (eN .u8)) (w:=2) (by kernel_rfl) (by omega) hs (fun q=>rfl) MG h4
 refine⟨x1,x2,x3,l,a,c,?_,g1,g2,g3,e3,e4,e2⟩;refine HM (l:=[.int .u8 ((x1:Nat):Int),.int .u8 ((x2:Nat):Int),.int .u16 ((x3:Nat):Int),.slice a l.length c]) ?_;rw[hr];exact .cons (.int _ _) (.cons (.int _ _) (.cons (.int _ _) (.cons e1 (.nil _))))
theorem P3 (hok:Value.okWide Tryz.prog W .any base 28 v) (h:DataW.Trod enc Tryz.prog W 0 sp held 28 v d p):∃(x9:Nat) (x10:Int) (x11:Nat),
  VR (fi W) (.agg #[.int .u8 ((x9:Nat):Int),.int .i64 x10,.int .u64 ((x11:Nat):Int)]) v∧x9<256∧(-9223372036854775808≤x10∧x10≤9223372036854775807)∧x11<2 ^ 64:=by
 obtain⟨cs,rfl,_⟩:=okWide_struct (t:=28) (fs:=Tryz.prog.underlying 28 |>.elim #[] fun u=>match u with | .struct fs=>fs|_=>#[]) (by kernel_rfl) hok
 obtain⟨n,h⟩:=h;obtain⟨v1,r,hr,h1,h⟩:=dn (tR Rz h);obtain⟨v2,r,rfl,h2,h⟩:=dn h;obtain⟨v3,r,rfl,h3,h⟩:=dn h;obtain rfl:=oT h;obtain⟨x9,rfl,g1⟩:=pK h1;obtain⟨x10,rfl,g2⟩:=xA h2;obtain⟨x11,rfl,g3⟩:=DK h3;refine⟨x9,x10,x11,?_,g1,g2,g3⟩;refine HM (l:=[.int .u8 ((x9:Nat):Int),.int .i64 x10,.int .u64 ((x11:Nat):Int)]) ?_;rw[hr];exact LR.plain rfl
theorem Qq (hok:Value.okWide Tryz.prog W .any base 26 v) (h:DataW.Trod enc Tryz.prog W 0 sp held 26 v d p):∃n:Nat,v = .int .u64 ((n:Nat):Int)∧n<2 ^ 64:=by
 obtain⟨k,rfl⟩:=okWide_int Qc hok;obtain⟨n,h⟩:=h;obtain⟨m,e,_,hw⟩:=DataW.trod_int Qc h;exact DK (enc:=enc) (P:=Tryz.prog) (W:=W) (base:=0) (sp:=sp) (held:=held) ⟨m,by cases e; rfl,hw⟩
theorem Re (hok:Value.okWide Tryz.prog W .any base 3 v) (h:DataW.Trod enc Tryz.prog W 0 sp held 3 v d p):∃n:Int,v = .int .i64 n∧-9223372036854775808≤n∧n≤9223372036854775807:=by
 obtain⟨k,rfl⟩:=okWide_int R3 hok;obtain⟨n,h⟩:=h;obtain⟨m,e,_,hw⟩:=DataW.trod_int R3 h;exact xA (enc:=enc) (P:=Tryz.prog) (W:=W) (base:=0) (sp:=sp) (held:=held) ⟨m,by cases e; rfl,hw⟩
theorem RO (hok:Value.okWide Tryz.prog W .any base 5 v) (h:DataW.Trod enc Tryz.prog W 0 sp held 5 v d p):∃n:Nat,v = .int .u8 ((n:Nat):Int)∧n<256:=by
 obtain⟨k,rfl⟩:=okWide_int RS hok;obtain⟨n,h⟩:=h;obtain⟨m,e,_,hw⟩:=DataW.trod_int RS h;exact pK (enc:=enc) (P:=Tryz.prog) (W:=W) (base:=0) (sp:=sp) (held:=held) ⟨m,by cases e; rfl,hw⟩
theorem Qb (hok:Value.okWide Tryz.prog W .any base 49 v) (hs:0<W.heap.size) (h:DataW.Trod enc Tryz.prog W 0 sp held 49 v d p):∃(l:List Int) (a:Option Addr) (c:Nat),
  VR (fi W) (.slice a l.length c) v∧(∀q ∈ l,-9223372036854775808≤q∧q≤9223372036854775807)∧l.length≤maxLen∧Rd (eh W) a c 1 l.length (l.map (eI .i64)):=by
 obtain⟨a0,n0,c0,rfl⟩:=okWide_slice RB hok;obtain⟨n,h⟩:=h;have h1:=oU 5 49 [.sl 3] (by kernel_rfl) n _ _ h
 obtain⟨v1,r,hr,h1,_⟩:=dn h1;cases hr;obtain⟨a,c,l,e1,e2,e3,e4⟩:=ID (f:=eI .i64) (w:=1) (by kernel_rfl) (by omega) hs (fun q=>rfl) Rm h1
 exact⟨l,a,c,e1,e3,e4,e2⟩
end
theorem PK:laidOutB Tryz.prog=true:=by kernel_rfl
theorem Kx:mapsRowed Tryz.prog=true:=by kernel_rfl
theorem K0:sizedB Tryz.prog=true:=by kernel_rfl
theorem Oo {W:World} (h:laidMetH Tryz.prog rL W):Gl (eh W)∧0<W.heap.size:=by
 rw[MakeChecks.laidMetH_plain _ _ _ (by kernel_rfl)] at h
 obtain⟨ps,hL,_⟩:=h;have ht:(Tryz.prog.globals[0]?).map (·.type)=some 182:=by kernel_rfl
 obtain⟨c,ty,fz,h1,h2⟩:=Fb (L:=ez) (k:=.u8) (N:=64) (t:=182) (e:=5) Rk ht (by kernel_rfl) (by kernel_rfl) (by kernel_rfl) (by kernel_rfl) rfl hL
 have hs:0<W.heap.size:=(Array.getElem?_eq_some_iff.1 h1).1;refine⟨⟨?_,hs⟩,hs⟩;rw[nW h1,h2,List.map_map]
 congr 2
theorem Fe {H:Type} {enc:TypeId × Value→H} {f:FuncId} {fn:Func} {s:ChangeSpec} {W:World} {args:Array Value} {ds:List (DataW H)} {before:List MemPlace} {tb:TypeId} {fresh handsOn:Bool} {absArgs:List Value} (hpr:ai.cP f=none)
  (hvars:s.vars = []) (hres:fn.resultTypes.toList = [tb]) (hrs:fn.resultTypes.size=1) (htb:Tryz.prog.underlying tb=some .bool) (hpt:∀t ∈ fn.params.toList,t<Tryz.prog.types.size) (hfn:s.fn H ds = { results:=[.lit (.bool true)],args:=ds,vars:=[]})
  (hW:DataW.Whole enc Tryz.prog fn.params.toList s.vars false W args.toList ds [] before) (hs:0<W.heap.size)
  (hl:LR (fi W) absArgs args.toList) (hc:ax ai f absArgs (eh W) (fun v m'=>∃_:Unit,v = .bool true∧Hp (eh W) m' [])) :
  Calls Tryz.prog f args W fun e W'=>∃v,e = .returned v∧s.post enc Tryz.prog fn false fresh handsOn false W args v W':=by
 obtain⟨v,m',⟨fuel,hrun⟩,_,rfl,hm'⟩:=hc;have hm:MR ai (fi W) (eh W) W:=On hs;have hcall:=callsIn_wide.1 (wO KX hrun hpr hm hl);refine hcall.mono fun e W' ⟨v',he,j',sm,hv⟩=>?_;have hv':v' = .bool true:=dX rfl hv;subst hv';have hwl:(eh W).next≤m'.wl:=by
  have h1:=hm'.ext.wl;have h2:min (eh W).wl (eh W).next=(eh W).next:=Nat.min_self _
  omega
 exact⟨_,he,Hu PK Kx K0 hvars hres hrs htb hpt hfn hW sm.calm (sm.grown hm hwl)⟩
end Go.Proofs.YtookeaakpiefjaaGreatDoor
end
section
namespace Go.Proofs.YtookeaakpiefjaaGreatDoor
open Go Go.Ab Go.Ab.W
def Ed (_:Nat) (x y c:Nat):Option (Nat × Nat):=gd (decide (c≤1)) (some ((x+y+c)%18446744073709551616,(x+y+c)/18446744073709551616))
def Jd (_:Nat) (x y c:Nat):Option (Nat × Nat):=gd (decide (c≤1)) (some ((x+18446744073709551616-y-c)%18446744073709551616,if x<y+c then 1 else 0))
theorem uU {V:Nat→Nat→Nat→Value} {x y c:Nat} (hc:c≤1) (m:AMem):dQ V [.int .u64 ((x:Nat):Int),.int .u64 ((y:Nat):Int),.int .u64 ((c:Nat):Int)] m=some (V x y c,m):=by
 show(if Nat.ble c 1 then some (V x y c,m) else none)=_
 rw[Nat.ble_eq_true_of_le hc]; rfl
theorem xT (n:Nat) (x y c:Nat) (r:Nat × Nat) (hF:Ed n x y c=some r) (m:AMem) :
  ax ai 155 [.int .u64 ((x:Nat):Int),.int .u64 ((y:Nat):Int),.int .u64 ((c:Nat):Int)] m (fun v m'=>∃_:Unit,v = .tuple #[.int .u64 ((r.1:Nat):Int),.int .u64 ((r.2:Nat):Int)]∧Hp m m' []):=by
 obtain⟨hc,hF⟩:=au hF;have hr:=Option.some.inj hF;subst hr;exact ax.cP (p:=⟨dQ zy⟩) rfl (uU (of_decide_eq_true hc) m) ⟨(),rfl,.start m⟩
theorem Dp (n:Nat) (x y c:Nat) (r:Nat × Nat) (hF:Jd n x y c=some r) (m:AMem) :
  ax ai 148 [.int .u64 ((x:Nat):Int),.int .u64 ((y:Nat):Int),.int .u64 ((c:Nat):Int)] m (fun v m'=>∃_:Unit,v = .tuple #[.int .u64 ((r.1:Nat):Int),.int .u64 ((r.2:Nat):Int)]∧Hp m m' []):=by
 obtain⟨hc,hF⟩:=au hF;have hr:=Option.some.inj hF;subst hr;exact ax.cP (p:=⟨dQ wg⟩) rfl (uU (of_decide_eq_true hc) m) ⟨(),by
  show wg x y c=_
  unfold wg
  split<;>rfl,.start m⟩
end Go.Proofs.YtookeaakpiefjaaGreatDoor
end
section
namespace Go.Ab
open Go
theorem J9 (y w:Nat):∀x,x<2 ^ w→y=2 ^ w-1-x→x &&& y=0:=by
 intro x hx hy;apply Nat.eq_of_testBit_eq;intro i;rw[Nat.testBit_and,hy,show 2 ^ w-1-x=2 ^ w-(x+1) by omega,Nat.testBit_two_pow_sub_succ hx,Nat.zero_testBit]
 by_cases hi:i<w
 ·simp[hi]
 ·simp[hi]
theorem KP (a b:Nat):(2*a) &&& (2*b)=2*(a &&& b):=by
 apply Nat.eq_of_testBit_eq;intro i;rw[Nat.testBit_and];cases i with
 | zero=>simp
 | succ i=>rw[Nat.testBit_succ,Nat.testBit_succ,Nat.testBit_succ,show 2*a/2=a by omega,show 2*b/2=b by omega,show 2*(a &&& b)/2=a &&& b by omega,Nat.testBit_and]
theorem Jy (a b:Nat):(2*a+1) &&& (2*b+1)=2*(a &&& b)+1:=by
 apply Nat.eq_of_testBit_eq;intro i;rw[Nat.testBit_and];cases i with
 | zero=>simp
 | succ i=>rw[Nat.testBit_succ,Nat.testBit_succ,Nat.testBit_succ,show(2*a+1)/2=a by omega,show(2*b+1)/2=b by omega,show(2*(a &&& b)+1)/2=a &&& b by omega,Nat.testBit_and]
theorem Cz:∀(w x:Nat),0<x→x<2 ^ w→∃k,k<w∧x &&& (2 ^ w-x)=2 ^ k∧∃q,x=2 ^ k*(2*q+1)
 | 0,x,h0,h1=>by simp at h1; omega
 | w+1,x,h0,h1=>by
  rw[Nat.pow_succ] at h1 ⊢;rcases Nat.mod_two_eq_zero_or_one x with h|h
  ·obtain⟨y,rfl⟩:∃y,x=2*y:=⟨x/2,by omega⟩
   obtain⟨k,hk,h2,q,h3⟩:=Cz w y (by omega) (by omega)
   refine⟨k+1,by omega,?_,q,?_⟩
   ·rw[show 2 ^ w*2-2*y=2*(2 ^ w-y) by omega,KP,h2,Nat.pow_succ]; omega
   ·rw[h3,Nat.pow_succ,Nat.mul_comm (2 ^ k) 2,Nat.mul_assoc]
  ·obtain⟨y,rfl⟩:∃y,x=2*y+1:=⟨x/2,by omega⟩
   refine⟨0,by omega,?_,y,by simp⟩
   rw[show 2 ^ w*2-(2*y+1)=2*(2 ^ w-1-y)+1 by omega,Jy,J9 _ w y (by omega) rfl]
def tz (x:Nat):Nat:=if x=0 then 64 else Nat.log2 (x &&& (2 ^ 64-x))
theorem sN {x:Nat} (h0:0<x) (h1:x<2 ^ 64):tz x<64∧x &&& (2 ^ 64-x)=2 ^ tz x∧∃q,x=2 ^ tz x*(2*q+1):=by
 obtain⟨k,hk,h2,h3⟩:=Cz 64 x h0 h1;have:tz x=k:=by unfold tz; rw[if_neg (by omega),h2,Nat.log2_two_pow]
 rw[this]; exact⟨hk,h2,h3⟩
end Go.Ab
end
section
namespace Go.Proofs.YtookeaakpiefjaaGreatDoor
open Go Go.Ab
set_option maxRecDepth 10000
theorem Si:Tryz.prog.underlying 3=some (.int .i64):=by kernel_rfl
theorem SB:Tryz.prog.underlying 5=some (.int .u8):=by kernel_rfl
theorem Qr:Tryz.prog.underlying 182=some (.array 64 5):=by kernel_rfl
theorem RZ:known Tryz.prog 5=true:=by kernel_rfl
theorem Sh:aw Tryz.prog 5=1:=by kernel_rfl
theorem Sl:dP Tryz.prog 5=false:=by kernel_rfl
theorem Ob:∀k:Fin 64,(ez.map (Value.int .u8))[(2 ^ k.val*285870213051353865%2 ^ 64) >>> 58]?.map (fun v=>match v with | .int .u8 n=>decide (n=k.val) | _=>false)=some true:=by decide +kernel
theorem NI (k:Nat) (hk:k<64):(ez.map (Value.int .u8))[(2 ^ k*285870213051353865%2 ^ 64) >>> 58]? = some (.int .u8 (k:Int)):=by
 have:=Ob ⟨k,hk⟩;cases h:(ez.map (Value.int .u8))[(2 ^ k*285870213051353865%2 ^ 64) >>> 58]? with
 | none=>rw[h] at this; cases this
 | some v =>
  rw[h] at this;simp only[Option.map_some,Option.some.injEq] at this
  split at this
  ·rw[of_decide_eq_true this]
  ·cases this
def uF (x:Nat):Nat:=2 ^ 64-x
def sZ (x y:Nat):Nat:=x*y%2 ^ 64
theorem LD (x:Nat) (h0:0<x) (h1:x<2 ^ 64):zx .neg (.int .u64 (x:Int))=some (.int .u64 ((uF x:Nat):Int)):=by
 simp only[zx,uF];have:IntKind.u64.wrap (0-(x:Int))=((2 ^ 64-x:Nat):Int):=by
  unfold IntKind.wrap IntKind.bits IntKind.signed;simp only[Bool.false_and,Bool.false_eq_true,if_false];omega
 rw[this]
theorem Jn {ty:TypeId} {P:Program} (x:Nat):aW .mul ty P (.int .u64 (x:Int)) (.int .u64 285870213051353865)=some (.int .u64 ((sZ x 285870213051353865:Nat):Int)):=by
 simp only[aW,if_true,sZ];have:IntKind.u64.wrap ((x:Int)*285870213051353865)=((x*285870213051353865%2 ^ 64:Nat):Int):=by
  unfold IntKind.wrap IntKind.bits IntKind.signed;simp only[Bool.false_and,Bool.false_eq_true,if_false];omega
 rw[this]
theorem JY {ty:TypeId} {P:Program} (x:Nat):aW .shr ty P (.int .u64 (x:Int)) (.int .u64 58)=some (.int .u64 ((x >>> 58:Nat):Int)):=E3 x 58 .u64 (by omega)
theorem Jc {ty:TypeId} {P:Program} (x:Nat) (h0:0<x) (h1:x<2 ^ 64):aW .and ty P (.int .u64 (x:Int)) (.int .u64 ((uF x:Nat):Int))=some (.int .u64 ((2 ^ tz x:Nat):Int)):=by
 rw[vh x (uF x) h1 (by unfold uF; omega)]
 unfold uF;rw[(sN h0 h1).2.1]
theorem Ku (k:Nat) (_:k<64):bp Tryz.prog 182 (ptr 0 0) (.int .u64 ((sZ (2 ^ k) 285870213051353865 >>> 58:Nat):Int))=some (ptr 0 (sZ (2 ^ k) 285870213051353865 >>> 58)):=by
 have hlt:sZ (2 ^ k) 285870213051353865 >>> 58<64:=by
  rw[Nat.shiftRight_eq_div_pow];have:sZ (2 ^ k) 285870213051353865<2 ^ 64:=Nat.mod_lt _ (by omega)
  omega
 rw[GM Qr RZ Sh hlt];simp
def IH (k:Nat):Nat:=sZ (2 ^ k) 285870213051353865
def CI (k:Nat):Nat:=IH k >>> 58
theorem Oe {ty:TypeId} {P:Program} (k:Nat):aW .mul ty P (.int .u64 ((2 ^ k:Nat):Int)) (.int .u64 285870213051353865)=some (.int .u64 ((IH k:Nat):Int)):=Jn _
theorem OU {ty:TypeId} {P:Program} (k:Nat):aW .shr ty P (.int .u64 ((IH k:Nat):Int)) (.int .u64 58)=some (.int .u64 ((CI k:Nat):Int)):=JY _
theorem M5 (k:Nat) (hk:k<64):bp Tryz.prog 182 (ptr 0 0) (.int .u64 ((CI k:Nat):Int))=some (ptr 0 (CI k)):=Ku k hk
theorem H6 (n:Nat) (h:n<2 ^ 63):ep Tryz.prog 5 3 (.int .u8 (n:Int))=some (.int .i64 (n:Int)):=by
 simp only[ep,SB,Si];rw[wrap_i64 _ (by omega) (by omega)]
theorem Jv (k:Nat) (hk:k<64) {m:AMem} (hm:m.get 0=some (.cells (ez.map (.int .u8)) .ro)):cf Tryz.prog 5 (ptr 0 (CI k)) m=some (.int .u8 (k:Int)):=rD RZ Sl hm (NI k hk)
theorem F5 (x:Nat) (hx:x<2 ^ 64) (m:AMem) (hm:m.get 0=some (.cells (ez.map (.int .u8)) .ro)):ax ai 82 [.int .u64 (x:Int)] m (fun v m'=>v = .int .i64 (tz x:Int)∧m'=m):=by
 refine ax.Fl (N:=14) (rs:=[.tmp 2]) rfl Tryz.func82 rfl rfl rfl ?_;simp only[ofList_cons,ofList_nil]
 (repeat refine aT.seq ?_); refine aT.rE fun K hK=>?_
 refine iO rfl (ot (tP _ _)) (oe rfl) ?_;refine hK _ _ ?_; clear hK K; try simp only[jm]
 (repeat refine aT.seq ?_); refine aT.rE fun K hK=>?_
 refine iO rfl (wm (gU (by repeat first | (apply dz; rfl) | exact eJ _ _ _|assumption))) (oe rfl) ?_
 refine iO rfl (yg (gU (by repeat first | (apply dz; rfl) | exact eJ _ _ _|assumption)) (tP _ _) (oI _ _ _)) (oe rfl) ?_
 refine hK _ _ ?_; clear hK K; try simp only[jm]
 by_cases h0:x=0
 ·refine aT.cond (c:=true) ((gU (by repeat first | (apply dz; rfl) | exact eJ _ _ _|assumption)).trans (by rw[h0]; rfl)) (fun _=>?_) (fun h=>by cases h)
  (repeat refine aT.seq ?_); refine aT.rE fun K hK=>?_
  refine iO rfl (ot (tP _ _)) (oe rfl) ?_;refine hK _ _ ?_; clear hK K; try simp only[jm]
  refine aT.ret ?_; simp only[H4,FP,BF,bL,uA,eH,Option.map_some,at_set,Nat.reduceEqDiff,reduceIte];rw[h0];exact⟨by trivial,by trivial⟩
 ·have hp:0<x:=by omega
  have hk:=(sN hp hx).1;refine aT.cond (c:=false) ((gU (by repeat first | (apply dz; rfl) | exact eJ _ _ _|assumption)).trans (by rw[decide_eq_false (by omega)])) (fun h=>by cases h) (fun _=>?_)
  refine aT.skip ?_;rw[jm]
  (repeat refine aT.seq ?_); refine aT.rE fun K hK=>?_
  refine iO rfl (wm (gU (by repeat first | (apply dz; rfl) | exact eJ _ _ _|assumption))) (oe rfl) ?_
  refine iO rfl (wm (gU (by repeat first | (apply dz; rfl) | exact eJ _ _ _|assumption))) (oe rfl) ?_
  refine iO rfl (BL (gU (by repeat first | (apply dz; rfl) | exact eJ _ _ _|assumption)) (LD x hp hx)) (oe rfl) ?_
  refine iO rfl (yg (gU (by repeat first | (apply dz; rfl) | exact eJ _ _ _|assumption)) (gU (by repeat first | (apply dz; rfl) | exact eJ _ _ _|assumption)) (Jc x hp hx)) (oe rfl) ?_
  refine iO rfl (yg (gU (by repeat first | (apply dz; rfl) | exact eJ _ _ _|assumption)) (tP _ _) (Oe _)) (oe rfl) ?_
  refine iO rfl (yg (gU (by repeat first | (apply dz; rfl) | exact eJ _ _ _|assumption)) (tP _ _) (OU _)) (oe rfl) ?_
  refine iO rfl (qw rfl (gU (by repeat first | (apply dz; rfl) | exact eJ _ _ _|assumption)) (M5 _ hk)) (oe rfl) ?_
  refine iO rfl (po (gU (by repeat first | (apply dz; rfl) | exact eJ _ _ _|assumption)) (Jv _ hk hm)) (oe rfl) ?_
  refine iO rfl (IP (gU (by repeat first | (apply dz; rfl) | exact eJ _ _ _|assumption)) (H6 _ (Nat.lt_trans hk (by decide)))) (oe rfl) ?_
  refine iO rfl (ot (gU (by repeat first | (apply dz; rfl) | exact eJ _ _ _|assumption))) (oe rfl) ?_
  refine hK _ _ ?_; clear hK K; try simp only[jm]
  refine aT.ret ?_; simp only[H4,FP,BF,bL,uA,eH,Option.map_some,at_set,Nat.reduceEqDiff,reduceIte];exact⟨by trivial,by trivial⟩
end Go.Proofs.YtookeaakpiefjaaGreatDoor
end
section
namespace Go.Proofs.YtookeaakpiefjaaGreatDoor
open Go Go.Ab Go.Ab.W
set_option maxRecDepth 10000
set_option maxHeartbeats 4000000
attribute [local irreducible] Tm.at Trie.set Trie.get AMem.get AMem.set AMem.alloc AMem.ww AMem.kill
def QN (_:Nat) (x:Nat):Option Int:=gd (decide (x<2 ^ 64)) (some (tz x:Int))
def Qz (_:Nat) (l:List (Int × Int)):Option (List (Int × Int)):=gd (gY l.length) (some l)
def PY (_:Nat) (l:List Int):Option (List Int):=gd (gY l.length) (some l)
theorem Mf {P:Program} {ty e l c l' c':Nat} (hu:P.underlying ty=some (.slice e)):aW .eql ty P (.slice none l c) (.slice none l' c')=some (.bool true):=by
 simp only[aW,Op.maxDepth,k8,hu,Option.map_some,Option.isNone_none]
theorem Mh {P:Program} {ty e l c l' c':Nat} {A:Addr} (hu:P.underlying ty=some (.slice e)):aW .eql ty P (.slice (some A) l c) (.slice none l' c')=some (.bool false):=by
 simp only[aW,Op.maxDepth,k8,hu,Option.map_some]
theorem Ol:ai.P.underlying 32=some (.slice 43):=by kernel_rfl
theorem NY:SlT ai.P 32 43 2:=SlT.of (by kernel_rfl)
theorem Ro:bq ai.P 43=some (.agg #[.int .i64 0,.int .i64 0]):=by kernel_rfl
theorem OK:ai.P.underlying 49=some (.slice 3):=by kernel_rfl
theorem Nz:SlT ai.P 49 3 1:=SlT.of (by kernel_rfl)
theorem Ss:bq ai.P 3=some (.int .i64 0):=by kernel_rfl
theorem Rd.Dh {m:AMem} {cap w n:Nat} {es:List (List Value)} (h:Rd m none cap w n es):n=0:=by
 rcases h.2.2 with⟨_,h⟩|⟨_,_,h,_⟩|⟨_,_,h,_⟩
 ·exact h
 ·cases h
 ·cases h
theorem OB (n:Nat) (l:List (Int × Int)) (a:Option Addr) (c:Nat) (r:List (Int × Int)) (hF:Qz n l=some r) (m:AMem) (h:Rd m a c 2 l.length (l.map (eP (eI .i64) (eI .i64)))):ax ai 31 [.slice a l.length c] m (fun v m'=>∃x:Option Addr × Nat,v = .slice x.1 x.2 x.2∧Hp m m' [.sl x.1 2 x.2 (r.map (eP (eI .i64) (eI .i64)))]):=by
 unfold Qz at hF;obtain⟨hl,hF⟩:=au hF;cases hF;cases a with
 | none =>
  have h0:=Rd.Dh h;have:l = []:=List.length_eq_zero_iff.1 h0;subst this;refine bQ (m0:=m) (ps:=[]) (N:=8) (rs:=[.tmp 2]) rfl Tryz.func31 rfl rfl rfl (Hp.start m) ?_;refine Wk.seq ?_;refine Wk.region ?_;refine Wo.od (cl rfl) rfl ?_;refine Wo.nil ?_;refine At.tn ?_;refine Wk.seq ?_;refine Wk.seq ?_;refine Wk.region ?_;refine Wo.od (aF rfl) rfl ?_;refine Wo.od (aG rfl rfl (Mf Ol)) rfl ?_;refine Wo.nil ?_;refine At.tn ?_;refine Wk.eQ rfl rfl ?_;refine Wk.seq ?_;refine Wk.region ?_;refine Wo.od (cl rfl) rfl ?_;refine Wo.nil ?_;refine At.tn ?_;refine Wk.ret ?_;refine At.tr ?_;exact At.ret (.tmp rfl .nil) fun m' hm=>⟨(none,0),rfl,(ak.nil 2 rfl) m' hm⟩
 | some A =>
  refine bQ (m0:=m) (ps:=[.rd (some A) c 2 l.length (l.map (eP (eI .i64) (eI .i64)))]) (N:=8) (rs:=[.tmp 2]) rfl Tryz.func31 rfl rfl rfl ((Hp.start m).eW rfl h) ?_;refine Wk.seq ?_;refine Wk.region ?_;refine Wo.od (cl rfl) rfl ?_;refine Wo.nil ?_;refine At.tn ?_;refine Wk.seq ?_;refine Wk.seq ?_;refine Wk.region ?_;refine Wo.od (aF rfl) rfl ?_;refine Wo.od (aG rfl rfl (Mh Ol)) rfl ?_;refine Wo.nil ?_;refine At.tn ?_;refine Wk.mY rfl rfl ?_;refine Wk.skip ?_;refine At.tn ?_;refine Wk.seq ?_;refine Wk.region ?_;refine Wo.x (kH (es:=([]:List (Int × Int)).map (eP (eI .i64) (eI .i64))) NY rfl (ia NY Ro rfl rfl) rfl rfl) gn rfl fun b=>?_;refine Wo.od (aF rfl) rfl ?_;refine Wo.cZ (ak.close (k:=0) rfl) ?_;refine Wo.x (lO (k:=0) (k2:=1) (xs:=([]:List (Int × Int))) (ys:=l) (RT (AS .i64) (AS .i64)) NY ⟨_,Ol⟩ rfl rfl rfl (.rd _ _ _ _ _) hl) gn rfl fun a2=>?_;refine Wo.od (cl rfl) rfl ?_;refine Wo.nil ?_;refine At.tn ?_;refine Wk.ret ?_;exact At.ret (.tmp rfl .nil) fun m' hm=>⟨(a2,l.length),rfl,(ak.aP [0] rfl rfl) m' hm⟩
theorem MA (n:Nat) (l:List Int) (a:Option Addr) (c:Nat) (r:List Int) (hF:PY n l=some r) (m:AMem) (h:Rd m a c 1 l.length (l.map (eI .i64))):ax ai 19 [.slice a l.length c] m (fun v m'=>∃x:Option Addr × Nat,v = .slice x.1 x.2 x.2∧Hp m m' [.sl x.1 1 x.2 (r.map (eI .i64))]):=by
 unfold PY at hF;obtain⟨hl,hF⟩:=au hF;cases hF;cases a with
 | none =>
  have h0:=Rd.Dh h;have:l = []:=List.length_eq_zero_iff.1 h0;subst this;refine bQ (m0:=m) (ps:=[]) (N:=8) (rs:=[.tmp 2]) rfl Tryz.func19 rfl rfl rfl (Hp.start m) ?_;refine Wk.seq ?_;refine Wk.region ?_;refine Wo.od (cl rfl) rfl ?_;refine Wo.nil ?_;refine At.tn ?_;refine Wk.seq ?_;refine Wk.seq ?_;refine Wk.region ?_;refine Wo.od (aF rfl) rfl ?_;refine Wo.od (aG rfl rfl (Mf OK)) rfl ?_;refine Wo.nil ?_;refine At.tn ?_;refine Wk.eQ rfl rfl ?_;refine Wk.seq ?_;refine Wk.region ?_;refine Wo.od (cl rfl) rfl ?_;refine Wo.nil ?_;refine At.tn ?_;refine Wk.ret ?_;refine At.tr ?_;exact At.ret (.tmp rfl .nil) fun m' hm=>⟨(none,0),rfl,(ak.nil 1 rfl) m' hm⟩
 | some A =>
  refine bQ (m0:=m) (ps:=[.rd (some A) c 1 l.length (l.map (eI .i64))]) (N:=8) (rs:=[.tmp 2]) rfl Tryz.func19 rfl rfl rfl ((Hp.start m).eW rfl h) ?_;refine Wk.seq ?_;refine Wk.region ?_;refine Wo.od (cl rfl) rfl ?_;refine Wo.nil ?_;refine At.tn ?_;refine Wk.seq ?_;refine Wk.seq ?_;refine Wk.region ?_;refine Wo.od (aF rfl) rfl ?_;refine Wo.od (aG rfl rfl (Mh OK)) rfl ?_;refine Wo.nil ?_;refine At.tn ?_;refine Wk.mY rfl rfl ?_;refine Wk.skip ?_;refine At.tn ?_;refine Wk.seq ?_;refine Wk.region ?_;refine Wo.x (kH (es:=([]:List Int).map (eI .i64)) Nz rfl (ia Nz Ss rfl rfl) rfl rfl) gn rfl fun b=>?_;refine Wo.od (aF rfl) rfl ?_;refine Wo.cZ (ak.close (k:=0) rfl) ?_;refine Wo.x (lO (k:=0) (k2:=1) (xs:=([]:List Int)) (ys:=l) (AS .i64) Nz ⟨_,OK⟩ rfl rfl rfl (.rd _ _ _ _ _) hl) gn rfl fun a2=>?_;refine Wo.od (cl rfl) rfl ?_;refine Wo.nil ?_;refine At.tn ?_;refine Wk.ret ?_;exact At.ret (.tmp rfl .nil) fun m' hm=>⟨(a2,l.length),rfl,(ak.aP [0] rfl rfl) m' hm⟩
theorem OH (n x:Nat) (r:Int) (hF:QN n x=some r) (m:AMem) (hG:Gl m):ax ai 82 [.int .u64 ((x:Nat):Int)] m (fun v m'=>∃_:Unit,v = .int .i64 r∧Hp m m' []):=by
 unfold QN at hF;obtain⟨hx,hF⟩:=au hF;cases hF;exact(F5 x (of_decide_eq_true hx) m hG.1).mono fun v m' h=>⟨(),h.1,by rw[h.2]; exact Hp.start m⟩
end Go.Proofs.YtookeaakpiefjaaGreatDoor
end
section
namespace Go.Proofs.YtookeaakpiefjaaGreatDoor
open Go Go.Ab Go.Ab.W
set_option maxRecDepth 10000
def fJ:List Nat:=[0,1,2,2,3,3,3,3,4,4,4,4,4,4,4,4,5,5,5,5,5,5,5,5,5,5,5,5,5,5,5,5,6,6,6,6,6,6,6,6,6,6,6,6,6,6,6,6,6,6,6,6,6,6,6,6,6,6,6,6,6,6,6,6,7,7,7,7,7,7,7,7,7,7,7,7,7,7,7,7,7,7,7,7,7,7,7,7,7,7,7,7,7,7,7,7,7,7,7,7,7,7,7,7,7,7,7,7,7,7,7,7,7,7,7,7,7,7,7,7,7,7,7,7,7,7,7,7,8,8,8,8,8,8,8,8,8,8,8,8,8,8,8,8,8,8,8,8,8,8,8,8,8,8,8,8,8,8,8,8,8,8,8,8,8,8,8,8,8,8,8,8,8,8,8,8,8,8,8,8,8,8,8,8,8,8,8,8,8,8,8,8,8,8,8,8,8,8,8,8,8,8,8,8,8,8,8,8,8,8,8,8,8,8,8,8,8,8,8,8,8,8,8,8,8,8,8,8,8,8,8,8,8,8,8,8,8,8,8,8,8,8,8,8,8,8,8,8,8,8,8,8,8,8,8,8]
def yh (_:Nat) (l1:List (Nat × Nat)) (y2:Int) (v1:Int) (v2:Int):(Bool × Int)→Option ((Bool × Int) ⊕ (Bool)):=fun(v3,v0) =>
ob (
br (decide (v0<(l1.length:Int))) (
some (decide (v0<3))) (
some false)) fun v4 =>
br (v4) (
ob (
gd (bz v0 l1.length) (
ob (l1[v0.toNat]?) fun(x3,x4) =>
gd (decide (y2≠0)) (
gd (bz v0 l1.length) (
gd (decide (y2≠0)) (
br (v3) (
some true) (
br (decide (Int.tmod (IntKind.wrap .i64 ((x3:Nat):Int)) y2=v1)) (
br (decide (Int.tmod (IntKind.wrap .i64 ((x4:Nat):Int)) y2=v2)) (
some true) (
br (decide (Int.tmod (IntKind.wrap .i64 ((x3:Nat):Int)) y2=v2)) (
some (decide (Int.tmod (IntKind.wrap .i64 ((x4:Nat):Int)) y2=v1))) (
some false))) (
br (decide (Int.tmod (IntKind.wrap .i64 ((x3:Nat):Int)) y2=v2)) (
some (decide (Int.tmod (IntKind.wrap .i64 ((x4:Nat):Int)) y2=v1))) (
some false)))))))) fun v5 =>
some (.inl (v5,IntKind.wrap .i64 (v0+1)))) (
some (.inr v3))
def zM (n:Nat) (y2:Int) (v1:Int) (v3:Int) (x3:Nat) (l2:List (Nat × Nat)):(List (Int × Int) × Int × Int)→Option ((List (Int × Int) × Int × Int) ⊕ (List (Int × Int) × Int)):=fun(l1,v2,v0) =>
br (decide (v0<y2)) (
ob (
ob (
br (decide (v0=IntKind.wrap .i64 (v1+v3))) (
some true) (
br (decide (v0=IntKind.wrap .i64 (v1+1))) (
gd (decide (v3≠0)) (
some (!decide (Int.tmod v0 v3=0)))) (
some false))) fun v4 =>
ob (
br (v4) (
ob (
ob (
br (decide (Int.tmod v2 2=1)) (
ob (some (bH .u16 x3 (ui .u64 (Int.tmod (IntKind.wrap .i64 (Int.tdiv v2 2)) 16)))) fun y3 =>
some (decide (uw .u16 (uw .u16 y3 &&& uw .u16 1)=1))) (
some false)) fun v6 =>
br (v6) (
some false) (
some v4)) fun v7 =>
some (IntKind.wrap .i64 (v2+1),v7)) (
some (v2,v4))) fun(v5,v8) =>
ob (
bE (yh n l2 y2 v1 v0) n (v8,0)) fun v9 =>
br (v9) (
gd (gY (l1++[(v1,v0)]).length) (
some ((l1++[(v1,v0)]),v5))) (
some (l1,v5))) fun(l3,v10) =>
some (.inl (l3,v10,IntKind.wrap .i64 (v0+1)))) (
some (.inr (l1,v2)))
def ym (n:Nat) (y2:Int) (x3:Nat) (l2:List (Nat × Nat)):(Int × List (Int × Int) × Int × Int)→Option ((Int × List (Int × Int) × Int × Int) ⊕ (List (Int × Int))):=fun(v1,l1,v2,v0) =>
br (decide (v0<y2)) (
ob (
bE (zM n y2 v0 v1 x3 l2) n (l1,v2,IntKind.wrap .i64 (v0+1))) fun(l3,v3) =>
some (.inl (v1,l3,v3,IntKind.wrap .i64 (v0+1)))) (
some (.inr l1))
def PH (n:Nat) (x1:Nat) (x2:Nat) (x3:Nat) (l1:List (Nat × Nat)):Option (Int × List (Int × Int)) :=
ob (some (IntKind.wrap .i64 ((IntKind.wrap .i64 (1+(IntKind.wrap .i64 ((x1%4:Nat):Int))))*(IntKind.wrap .i64 (1+(IntKind.wrap .i64 ((x2%3:Nat):Int))))))) fun y2 =>
ob (
bE (ym n y2 x3 l1) n (IntKind.wrap .i64 (1+(IntKind.wrap .i64 ((x1%4:Nat):Int))),([]:List (Int × Int)),0,0)) fun l2 =>
some (y2,l2)
def Fh (_:Nat) (x1:Nat) (x2:Int):Option (Bool) :=
some (decide (uw .u64 (uw .u64 (bH .u64 x1 (ui .u64 x2)) &&& uw .u64 1)=1))
def zA (n:Nat) (x1:Nat):(Int × Int)→Option ((Int × Int) ⊕ (Int)):=fun(v4,v5) =>
br (decide (v5<64)) (
ob (
ob (Fh n x1 v5) fun r25 =>
br (r25) (
some (IntKind.wrap .i64 (v4+1))) (
some v4)) fun v23 =>
some (.inl (v23,IntKind.wrap .i64 (v5+1)))) (
some (.inr v4))
def JE (n:Nat) (x1:Nat):Option (Int) :=
ob (
bE (zA n x1) n (0,0)) fun v18 =>
some v18
def yH (_:Nat) (x1:Int):Option (Nat) :=
some (gz .u64 1 (ui .u64 x1))
def rN (n:Nat) (x1:Int) (x6:Nat):(Nat × Int)→Option ((Nat × Int) ⊕ (Nat)):=fun(v10,v11) =>
ob (
br (decide (v11<x1)) (
ob (JE n v10) fun r64 =>
some (decide (r64<9))) (
some false)) fun v61 =>
br (v61) (
ob (
ob (Fh n x6 v11) fun r75 =>
br (r75) (
ob (yH n v11) fun r78 =>
some (uw .u64 (uw .u64 v10 ||| uw .u64 r78))) (
some v10)) fun v73 =>
some (.inl (v73,IntKind.wrap .i64 (v11+1)))) (
some (.inr v10))
def LV (n:Nat) (x1:Int) (_:List (Int × Int)) (x6:Nat):Option (Nat) :=
ob (
bE (rN n x1 x6) n (0,0)) fun v47 =>
some v47
def PC (n:Nat) (x1:Nat) (x2:Int) (x3:Nat) (x4:Int) (l5:List (Int × Int)) (x9:Nat):Option (Int × List (Int × Int) × Nat) :=
ob (Qz n l5) fun l14 =>
ob (
br (decide (x1%6=0)) (
some (x9,x2,l14)) (
br (decide (x1%6=1)) (
br (decide (0<(l14.length:Int))) (
gd (decide (0<ui .u64 (l14.length:Int))) (
ob (some (IntKind.wrap .i64 (((ui .u64 x2)%(ui .u64 (l14.length:Int)):Nat):Int))) fun y47 =>
gd (bz y47 l14.length) (
ob (l14[y47.toNat]?) fun(x53,x54) =>
gd (bz y47 l14.length) (
gd (bz y47 l14.length) (
gd (bz y47 l14.length) (
ob ((l14.set y47.toNat (x54,x54))[y47.toNat]?) fun(x60,_) =>
some (x9,x4,((l14.set y47.toNat (x54,x54)).set y47.toNat (x60,x53))))))))) (
some (x9,x4,l14))) (
br (decide (x1%6=2)) (
some (uw .u64 (uw .u64 x9 ||| uw .u64 x3),x4,l14)) (
br (decide (x1%6=3)) (
some (0,x4,l14)) (
some (x9,x4,l14)))))) fun(v40,v41,l42) =>
some (v41,l42,v40)
def tV (_:Nat) (l1:List (Int × Int)) (x1:Int):Int→Option ((Int) ⊕ ((Unit) ⊕ (Unit))):=fun v0 =>
br (decide (v0<(l1.length:Int))) (
gd (bz v0 l1.length) (
ob (l1[v0.toNat]?) fun(x3,x4) =>
gd (bz v0 l1.length) (
ob (
br (decide (x3<0)) (
some true) (
br (decide (x4≤x3)) (
some true) (
some (decide (x1≤x4))))) fun v1 =>
br (v1) (
some (.inr (.inl ()))) (
ob (
br (decide (0<v0)) (
gd (bz (IntKind.wrap .i64 (v0-1)) l1.length) (
ob (l1[(IntKind.wrap .i64 (v0-1)).toNat]?) fun(x5,x6) =>
br (decide (x3<x5)) (
some true) (
gd (bz (IntKind.wrap .i64 (v0-1)) l1.length) (
br (decide (x5=x3)) (
gd (bz (IntKind.wrap .i64 (v0-1)) l1.length) (
some (decide (x4≤x6)))) (
some false))))) (
some false)) fun v2 =>
br (v2) (
some (.inr (.inl ()))) (
some (.inl (IntKind.wrap .i64 (v0+1)))))))) (
some (.inr (.inr ())))
def Mj (n:Nat) (x1:Int) (l1:List (Int × Int)):Option (Int) :=
ob (
br (decide (x1<1)) (
some true) (
br (decide (64<x1)) (
some true) (
some (decide (200<(l1.length:Int)))))) fun v0 =>
br (v0) (
some 180) (
ob (α:=(Unit) ⊕ (Unit)) (
bE (tV n l1 x1) n 0) fun r0=>match r0 with
| .inl _ =>
some 180
| .inr _ =>
some 0)
def Gh (n:Nat) (x1:Int) (l2:List (Int × Int)) (x6:Nat):Option (Int) :=
ob (Mj n x1 l2) fun r9 =>
br (!decide (r9=0)) (
some r9) (
ob (
br (decide (x1<64)) (
some (!decide (bH .u64 x6 (ui .u64 x1)=0))) (
some false)) fun v18 =>
br (v18) (
some 2) (
some 0))
def LP (n:Nat) (x1:Int) (l2:List (Int × Int)) (x6:Nat):Option (Int) :=
ob (Mj n x1 l2) fun r9 =>
br (!decide (r9=0)) (
some r9) (
br (decide (x6=0)) (
some 2) (
ob (Gh n x1 l2 x6) fun r13 =>
some r13))
def Pk (n:Nat) (_:Int) (l2:List (Int × Int)) (x6:Nat) (x7:Int):Option (Bool) :=
br (decide (0≤x7)) (
br (decide (x7<(l2.length:Int))) (
gd (bz x7 l2.length) (
ob (l2[x7.toNat]?) fun(x14,x15) =>
ob (Fh n x6 x14) fun r18 =>
br (r18) (
gd (bz x7 l2.length) (
ob (Fh n x6 x15) fun r22 =>
some r22)) (
some false))) (
some false)) (
some false)
def uz (n:Nat) (l1:List (Int)) (l2:List (Int × Int)):(Nat × Int)→Option ((Nat × Int) ⊕ (Nat)):=fun(v0,v1) =>
br (decide (v1<(l1.length:Int))) (
ob (
gd (bz v1 l1.length) (
ob (l1[v1.toNat]?) fun x3 =>
gd (bz x3 l2.length) (
ob (l2[x3.toNat]?) fun(x4,x5) =>
gd (bz v1 l1.length) (
gd (bz x3 l2.length) (
ob (
ob (Fh n v0 x4) fun r0 =>
br (r0) (
some true) (
ob (Fh n v0 x5) fun r1 =>
some r1)) fun v2 =>
br (v2) (
ob (yH n x4) fun r2 =>
ob (yH n x5) fun r3 =>
ob (some (uw .u64 (uw .u64 (uw .u64 (uw .u64 v0 ||| uw .u64 r2)) ||| uw .u64 r3))) fun y2 =>
some y2) (
some v0)))))) fun v3 =>
some (.inl (v3,IntKind.wrap .i64 (v1+1)))) (
some (.inr v0))
def yE (n:Nat) (l1:List (Int)) (l2:List (Int × Int)):(Nat × Int)→Option ((Nat × Int) ⊕ (Nat)):=fun(v0,v1) =>
br (decide (v1<64)) (
ob (
bE (uz n l1 l2) n (v0,0)) fun v2 =>
some (.inl (v2,IntKind.wrap .i64 (v1+1)))) (
some (.inr v0))
def M1 (n:Nat) (_:Int) (l1:List (Int × Int)) (l2:List (Int)) (x3:Int):Option (Nat) :=
ob (yH n x3) fun r0 =>
ob (
bE (yE n l2 l1) n (r0,0)) fun v0 =>
some v0
def pQ (n:Nat) (l1:List (Int × Int)) (x1:Int) (x3:Nat) (l2:List (Int)) (r0:Int→(List (Int × Int))→Nat→(List Int)→Option (List (List Int))):(List (List (Int)) × Int)→Option ((List (List (Int)) × Int) ⊕ (List (List (Int)))):=fun(l3,v0) =>
br (decide (v0<(l1.length:Int))) (
ob (
ob (
ob (Pk n x1 l1 x3 v0) fun r1 =>
br (!r1) (
some true) (
gd (bz v0 l1.length) (
ob (l1[v0.toNat]?) fun(x4,x5) =>
ob (M1 n x1 l1 l2 x4) fun r2 =>
gd (bz v0 l1.length) (
ob (Fh n r2 x5) fun r3 =>
some r3)))) fun v1 =>
br (v1) (
some l3) (
gd (gY (([]:List (Int))++l2).length) (
gd (gY ((([]:List (Int))++l2)++[v0]).length) (
ob (r0 x1 l1 x3 ((([]:List (Int))++l2)++[v0])) fun l4 =>
gd (gY (l3++l4).length) (
some (l3++l4)))))) fun l5 =>
some (.inl (l5,IntKind.wrap .i64 (v0+1)))) (
some (.inr l3))
def kQ (n:Nat) (r0:Int→(List (Int × Int))→Nat→(List (Int))→Option (List (List Int))) (x1:Int) (l2:List (Int × Int)) (x3:Nat) (l1:List (Int)):Option (List (List Int)) :=
ob (JE n x3) fun r1 =>
br (decide ((l1.length:Int)=IntKind.wrap .i64 (r1-1))) (
gd (gY (([]:List (Int))++l1).length) (
some ([(([]:List (Int))++l1)]))) (
ob (
br (decide (0<(l1.length:Int))) (
gd (bz (IntKind.wrap .i64 ((l1.length:Int)-1)) l1.length) (
ob (l1[(IntKind.wrap .i64 ((l1.length:Int)-1)).toNat]?) fun x4 =>
some (IntKind.wrap .i64 (x4+1)))) (
some 0)) fun v0 =>
ob (
bE (pQ n l2 x1 x3 l1 r0) n (([]:List (List (Int))),v0)) fun l3 =>
some l3)
def qE (n:Nat):Nat→Int→(List (Int × Int))→Nat→(List (Int))→Option (List (List Int))
 | 0=>fun _ _ _ _=>none
 | k+1=>kQ n (qE n k)
def JM (n:Nat):Int→(List (Int × Int))→Nat→(List (Int))→Option (List (List Int)):=qE n n
def Ky (n:Nat) (x1:Int) (l2:List (Int × Int)) (x6:Nat):Option (List (List Int)) :=
ob (JM n x1 l2 x6 []) fun l9 =>
some l9
def fx (_:Nat) (l1:List (Int)):Int→Option ((Int) ⊕ (Int)):=fun v7 =>
ob (
br (decide (0<v7)) (
gd (bz (IntKind.wrap .i64 (v7-1)) l1.length) (
ob (l1[(IntKind.wrap .i64 (v7-1)).toNat]?) fun x69 =>
some (decide (x69=0)))) (
some false)) fun v64 =>
br (v64) (
some (.inl (IntKind.wrap .i64 (v7-1)))) (
some (.inr v7))
def rK (n:Nat) (l1:List (Int)):Option (List Int) :=
ob (
bE (fx n l1) n (l1.length:Int)) fun v41 =>
gd (okB 0 v41 l1.length) (
some ((l1.drop (0:Int).toNat).take ((v41:Int).toNat-(0:Int).toNat)))
def om (n:Nat) (x1:Bool) (l2:List (Int)):Option (Bool × List Int) :=
ob (rK n l2) fun l9 =>
br (x1) (
some (decide (0<(l9.length:Int)),l9)) (
some (false,l9))
def A3 (n:Nat) (x1:Int):Option (Bool × List Int) :=
ob (
br (decide (x1<0)) (
some (Al .u64 (ui .u64 x1))) (
some (ui .u64 x1))) fun v4 =>
ob (om n (decide (x1<0)) ([IntKind.wrap .i64 ((v4%4294967296:Nat):Int),IntKind.wrap .i64 ((uw .u64 (v4/4294967296):Nat):Int)])) fun(r10,l11) =>
some (r10,l11)
def jb (_:Nat) (l1:List (Int)) (l5:List (Int)):Int→Option ((Int) ⊕ ((Int) ⊕ (Unit))):=fun v11 =>
br (decide (0≤v11)) (
gd (bz v11 l1.length) (
ob (l1[v11.toNat]?) fun x32 =>
gd (bz v11 l5.length) (
ob (l5[v11.toNat]?) fun x37 =>
br (!decide (x32=x37)) (
gd (bz v11 l1.length) (
gd (bz v11 l5.length) (
some (.inr (.inl (IntKind.wrap .i64 (x32-x37))))))) (
some (.inl (IntKind.wrap .i64 (v11-1))))))) (
some (.inr (.inr ())))
def j8 (n:Nat) (l1:List (Int)) (l5:List (Int)):Option (Int) :=
br (!decide ((l1.length:Int)=(l5.length:Int))) (
some (IntKind.wrap .i64 ((l1.length:Int)-(l5.length:Int)))) (
ob (α:=(Int) ⊕ (Unit)) (
bE (jb n l1 l5) n (IntKind.wrap .i64 ((l1.length:Int)-1))) fun r43=>match r43 with
| .inl v27 =>
some v27
| .inr _ =>
some 0)
def ic (_:Nat) (l1:List (Int)) (l2:List (Int)):(List (Int) × Int × Int)→Option ((List (Int) × Int × Int) ⊕ (List (Int))):=fun(l3,v2,v0) =>
br (decide (v0<(l1.length:Int))) (
gd (bz v0 l1.length) (
ob (l1[v0.toNat]?) fun x3 =>
ob (
br (decide (v0<(l2.length:Int))) (
gd (bz v0 l2.length) (
ob (l2[v0.toNat]?) fun x4 =>
some (IntKind.wrap .i64 ((IntKind.wrap .i64 (x3-v2))-x4)))) (
some (IntKind.wrap .i64 (x3-v2)))) fun v1 =>
ob (
br (decide (v1<0)) (
some (1,IntKind.wrap .i64 (v1+4294967296))) (
some (0,v1))) fun(v4,v3) =>
gd (gY (l3++[v3]).length) (
some (.inl ((l3++[v3]),v4,IntKind.wrap .i64 (v0+1)))))) (
some (.inr l3))
def qD (n:Nat) (l1:List (Int)) (l2:List (Int)):Option (List Int) :=
ob (
bE (ic n l1 l2) n (([]:List (Int)),0,0)) fun l3 =>
ob (rK n l3) fun l4 =>
some l4
def jt (_:Nat) (l1:List (Int)):(List (Nat) × Int)→Option ((List (Nat) × Int) ⊕ (List (Nat))):=fun(l2,v0) =>
br (decide (v0<(l1.length:Int))) (
gd (bz (IntKind.wrap .i64 (Int.tdiv v0 2)) 8) (
ob (l2[(IntKind.wrap .i64 (Int.tdiv v0 2)).toNat]?) fun x3 =>
gd (bz v0 l1.length) (
ob (l1[v0.toNat]?) fun x4 =>
gd (decide (0≤IntKind.wrap .i64 (32*(Int.tmod v0 2)))) (
ob (some (gz .u64 (ui .u64 x4) (IntKind.wrap .i64 (32*(Int.tmod v0 2))).toNat)) fun y2 =>
gd (bz (IntKind.wrap .i64 (Int.tdiv v0 2)) 8) (
some (.inl ((l2.set ((IntKind.wrap .i64 (Int.tdiv v0 2)).toNat) (uw .u64 (x3+y2))),IntKind.wrap .i64 (v0+1)))))))) (
some (.inr l2))
def Kh (n:Nat) (x1:Bool) (l1:List (Int)):Option (Nat × Nat × Nat × Nat × Nat × Nat × Nat × Nat × Int) :=
gd (decide ((0:Int)≤16)) (gd (gY ((16:Int).toNat)) (
gd (bz 15 ((16:Int).toNat)) (
ob ((List.replicate (16:Int).toNat (0:Int))[(15:Int).toNat]?) fun _ =>
ob (j8 n l1 ((List.replicate (16:Int).toNat (0:Int)).set ((15:Int).toNat) 2147483648)) fun r0 =>
ob (
br (decide (0<r0)) (
some true) (
br (decide (r0=0)) (
some (!x1)) (
some false))) fun v0 =>
br (v0) (
some (0,0,0,0,0,0,0,0,6)) (
ob (
br (x1) (
gd (decide ((0:Int)≤17)) (gd (gY ((17:Int).toNat)) (
gd (bz 16 ((17:Int).toNat)) (
ob ((List.replicate (17:Int).toNat (0:Int))[(16:Int).toNat]?) fun _ =>
ob (qD n ((List.replicate (17:Int).toNat (0:Int)).set ((16:Int).toNat) 1) l1) fun l2 =>
some l2)))) (
some l1)) fun l3 =>
ob (
bE (jt n l3) n (([0,0,0,0,0,0,0,0]:List (Nat)),0)) fun l4 =>
ob (Mm l4) fun(x3,x4,x5,x6,x7,x8,x9,x10) =>
some (x3,x4,x5,x6,x7,x8,x9,x10,0)))))
def xY (n:Nat) (x1:Int):Option (Nat × Nat × Nat × Nat × Nat × Nat × Nat × Nat) :=
ob (A3 n x1) fun(r4,l5) =>
ob (Kh n r4 l5) fun(r10,r11,r12,r13,r14,r15,r16,r17,_) =>
some (r10,r11,r12,r13,r14,r15,r16,r17)
def P6 (n:Nat) (x1:Int) (l2:List (Int × Int)) (x6:Nat):Option (Nat × Nat × Nat × Nat × Nat × Nat × Nat × Nat × Int) :=
ob (LP n x1 l2 x6) fun r10 =>
br (!decide (r10=0)) (
some (0,0,0,0,0,0,0,0,r10)) (
ob (Ky n x1 l2 x6) fun l13 =>
ob (xY n (l13.length:Int)) fun(r18,r19,r20,r21,r22,r23,r24,r25) =>
some (r18,r19,r20,r21,r22,r23,r24,r25,0))
def lz (_:Nat):(List (Nat) × List (Int) × Int)→Option ((List (Nat) × List (Int) × Int) ⊕ (List (Int))):=fun(l20,l21,v23) =>
br (decide (v23<8)) (
gd (bz v23 8) (
ob (l20[v23.toNat]?) fun x40 =>
gd (bz v23 8) (
gd (gY (l21++[IntKind.wrap .i64 ((x40%4294967296:Nat):Int),IntKind.wrap .i64 ((uw .u64 (x40/4294967296):Nat):Int)]).length) (
some (.inl (l20,(l21++[IntKind.wrap .i64 ((x40%4294967296:Nat):Int),IntKind.wrap .i64 ((uw .u64 (x40/4294967296):Nat):Int)]),IntKind.wrap .i64 (v23+1))))))) (
some (.inr l21))
def A7 (n:Nat) (x1:Nat) (x2:Nat) (x3:Nat) (x4:Nat) (x5:Nat) (x6:Nat) (x7:Nat) (x8:Nat):Option (List Int) :=
ob (
bE (lz n) n (([x1,x2,x3,x4,x5,x6,x7,x8]:List (Nat)),([]:List (Int)),0)) fun l36 =>
some l36
def MF (n:Nat) (x1:Nat) (x2:Nat) (x3:Nat) (x4:Nat) (x5:Nat) (x6:Nat) (x7:Nat) (x8:Nat):Option (Bool × List Int) :=
ob (A7 n x1 x2 x3 x4 x5 x6 x7 x8) fun l12 =>
br (decide (x8<9223372036854775808)) (
ob (om n false l12) fun(r17,l18) =>
some (r17,l18)) (
gd (decide ((0:Int)≤17)) (gd (gY ((17:Int).toNat)) (
gd (bz 16 ((17:Int).toNat)) (
ob ((List.replicate (17:Int).toNat (0:Int))[(16:Int).toNat]?) fun _ =>
ob (rK n l12) fun l30 =>
ob (qD n ((List.replicate (17:Int).toNat (0:Int)).set ((16:Int).toNat) 1) l30) fun l35 =>
ob (om n true l35) fun(r40,l41) =>
some (r40,l41)))))
def EB (n:Nat) (x1:Bool) (l2:List (Int)):Option (Bool × List Int) :=
ob (om n (!x1) l2) fun(r10,l11) =>
some (r10,l11)
def xV (_:Nat) (l1:List (Int)) (l2:List (Int)):(List (Int) × Int × Int)→Option ((List (Int) × Int × Int) ⊕ (List (Int))):=fun(l3,v1,v0) =>
ob (
br (decide (v0<(l1.length:Int))) (
some true) (
br (decide (v0<(l2.length:Int))) (
some true) (
some (decide (0<v1))))) fun v4 =>
br (v4) (
ob (
br (decide (v0<(l1.length:Int))) (
gd (bz v0 l1.length) (
ob (l1[v0.toNat]?) fun x3 =>
some (IntKind.wrap .i64 (v1+x3)))) (
some v1)) fun v3 =>
ob (
br (decide (v0<(l2.length:Int))) (
gd (bz v0 l2.length) (
ob (l2[v0.toNat]?) fun x4 =>
some (IntKind.wrap .i64 (v3+x4)))) (
some v3)) fun v2 =>
gd (gY (l3++[Int.tmod v2 4294967296]).length) (
some (.inl ((l3++[Int.tmod v2 4294967296]),IntKind.wrap .i64 (Int.tdiv v2 4294967296),IntKind.wrap .i64 (v0+1))))) (
some (.inr l3))
def FV (n:Nat) (l1:List (Int)) (l2:List (Int)):Option (List Int) :=
ob (
bE (xV n l1 l2) n (([]:List (Int)),0,0)) fun l3 =>
some l3
def B2 (n:Nat) (x1:Bool) (l2:List (Int)) (x7:Bool) (l8:List (Int)):Option (Bool × List Int) :=
br ((x1 == x7)) (
ob (FV n l2 l8) fun l18 =>
ob (om n x1 l18) fun(r22,l23) =>
some (r22,l23)) (
ob (j8 n l2 l8) fun r28 =>
br (decide (0≤r28)) (
ob (qD n l2 l8) fun l31 =>
ob (om n x1 l31) fun(r36,l37) =>
some (r36,l37)) (
ob (qD n l8 l2) fun l42 =>
ob (om n x7 l42) fun(r47,l48) =>
some (r47,l48)))
def yY (n:Nat) (x1:Bool) (l2:List (Int)) (x7:Bool) (l8:List (Int)):Option (Bool × List Int) :=
ob (EB n x7 l8) fun(r17,l18) =>
ob (B2 n x1 l2 r17 l18) fun(r23,l24) =>
some (r23,l24)
def qF (n:Nat) (x1:Bool) (l2:List (Int)) (x6:Bool) (l7:List (Int)):Option (Int) :=
ob (yY n x1 l2 x6 l7) fun(r14,l15) =>
br (r14) (
some (-1)) (
br (decide (0<(l15.length:Int))) (
some 1) (
some 0))
def lA (_:Nat) (l1:List (Int)):(Nat × Int)→Option ((Nat × Int) ⊕ (Nat)):=fun(v1,v0) =>
br (decide (0≤v0)) (
gd (bz v0 l1.length) (
ob (l1[v0.toNat]?) fun x3 =>
some (.inl (uw .u64 ((uw .u64 (v1*4294967296))+(ui .u64 x3)),IntKind.wrap .i64 (v0-1))))) (
some (.inr v1))
def Nl (n:Nat) (x1:Bool) (l1:List (Int)):Option (Int × Int) :=
ob (
ob (A3 n (-9223372036854775808)) fun(r0,l2) =>
ob (qF n x1 l1 r0 l2) fun r1 =>
br (decide (r1<0)) (
some true) (
ob (A3 n 9223372036854775807) fun(r2,l3) =>
ob (qF n x1 l1 r2 l3) fun r3 =>
some (decide (0<r3)))) fun v1 =>
br (v1) (
some (0,6)) (
ob (
bE (lA n l1) n (0,IntKind.wrap .i64 ((l1.length:Int)-1))) fun v0 =>
ob (
br (x1) (
some (Al .u64 v0)) (
some v0)) fun v2 =>
some (IntKind.wrap .i64 ((v2:Nat):Int),0))
def Fk (n:Nat) (x1:Nat) (x2:Nat) (x3:Nat) (x4:Nat) (x5:Nat) (x6:Nat) (x7:Nat) (x8:Nat):Option (Int × Int) :=
ob (MF n x1 x2 x3 x4 x5 x6 x7 x8) fun(r11,l12) =>
ob (Nl n r11 l12) fun(r17,r18) =>
some (r17,r18)
def LK (n:Nat) (x1:Int) (l2:List (Int × Int)) (x7:Nat) (x8:Nat) (x9:Nat) (x10:Nat) (x11:Nat) (x12:Nat) (x13:Nat) (x14:Nat) (x15:Nat):Option (List Int × Int) :=
ob (LP n x1 l2 x7) fun r19 =>
br (!decide (r19=0)) (
some ([],r19)) (
ob (Ky n x1 l2 x7) fun l22 =>
ob (Fk n x8 x9 x10 x11 x12 x13 x14 x15) fun(r27,r28) =>
ob (
br (!decide (r28=0)) (
some true) (
br (decide (r27<0)) (
some true) (
some (decide ((l22.length:Int)≤r27))))) fun v39 =>
br (v39) (
some ([],2)) (
gd (bz r27 l22.length) (
ob (l22[r27.toNat]?) fun l47 =>
some (l47,0))))
def Ev (_:Nat) (x1:Int):Option (Bool) :=
some (!decide (x1=x1))
def Gw (n:Nat) (x1:Int) (x2:Int):Option (Int) :=
ob (Ev n x1) fun r4 =>
ob (Ev n x2) fun r6 =>
br (r4) (
br (r6) (
some 0) (
some (-1))) (
br (r6) (
some 1) (
br (decide (x1<x2)) (
some (-1)) (
br (decide (x2<x1)) (
some 1) (
some 0))))
def la (n:Nat) (l1:List (Int)) (l5:List (Int)):Int→Option ((Int) ⊕ ((Int) ⊕ (Unit))):=fun v10 =>
br (decide (v10<(l1.length:Int))) (
gd (bz v10 l1.length) (
ob (l1[v10.toNat]?) fun x32 =>
br (decide ((l5.length:Int)≤v10)) (
some (.inr (.inl 1))) (
gd (bz v10 l5.length) (
ob (l5[v10.toNat]?) fun x38 =>
ob (Gw n x32 x38) fun r41 =>
br (!decide (r41=0)) (
some (.inr (.inl r41))) (
some (.inl (IntKind.wrap .i64 (v10+1)))))))) (
some (.inr (.inr ())))
def Iu (n:Nat) (l1:List (Int)) (l5:List (Int)):Option (Int) :=
ob (α:=(Int) ⊕ (Unit)) (
bE (la n l1 l5) n 0) fun r44=>match r44 with
| .inl v27 =>
some v27
| .inr _ =>
br (decide ((l1.length:Int)<(l5.length:Int))) (
some (-1)) (
some 0)
def nC (n:Nat) (l1:List (Int × Int)) (x1:Int):(Int × Int × Int)→Option ((Int × Int × Int) ⊕ ((Unit) ⊕ (Unit))):=fun(v1,v2,v0) =>
br (decide (v0<(l1.length:Int))) (
gd (bz v0 l1.length) (
ob (l1[v0.toNat]?) fun(x3,x4) =>
ob (
br (decide (x3<0)) (
some true) (
br (decide (x4≤x3)) (
some true) (
br (decide (x1≤x4)) (
some true) (
ob (Iu n [v1,v2] [x3,x4]) fun r0 =>
some (decide (0≤r0)))))) fun v3 =>
br (v3) (
some (.inr (.inl ()))) (
some (.inl (x3,x4,IntKind.wrap .i64 (v0+1)))))) (
some (.inr (.inr ())))
def FL (n:Nat) (x1:Int) (l1:List (Int × Int)):Option (Int) :=
ob (
br (decide (x1<1)) (
some true) (
br (decide (64<x1)) (
some true) (
some (decide (200<(l1.length:Int)))))) fun v0 =>
br (v0) (
some 180) (
ob (α:=(Unit) ⊕ (Unit)) (
bE (nC n l1 x1) n (-1,-1,0)) fun r0=>match r0 with
| .inl _ =>
some 180
| .inr _ =>
some 0)
def ET (_:Nat) (x1:Nat):Option (Int) :=
ob (
br (decide (4294967296≤x1)) (
some (bH .u64 x1 32,32)) (
some (x1,0))) fun(v3,v4) =>
ob (
br (decide (65536≤v3)) (
some (bH .u64 v3 16,IntKind.wrap .i64 (v4+16))) (
some (v3,v4))) fun(v9,v10) =>
ob (
br (decide (256≤v9)) (
some (bH .u64 v9 8,IntKind.wrap .i64 (v10+8))) (
some (v9,v10))) fun(v15,v16) =>
gd (bz ((uw .u8 v15:Nat):Int) 256) (
ob (fJ[((uw .u8 v15:Nat):Int).toNat]?) fun y22 =>
some (IntKind.wrap .i64 (v16+(IntKind.wrap .i64 ((y22:Nat):Int)))))
def N6 (n:Nat) (x1:Int) (l2:List (Int × Int)) (x6:Nat):Option (Int) :=
ob (FL n x1 l2) fun r9 =>
br (!decide (r9=0)) (
some r9) (
ob (
br (decide (x6=0)) (
some true) (
ob (ET n x6) fun r27 =>
some (decide (x1<r27)))) fun v24 =>
br (v24) (
some 2) (
some 0))
def zl (_:Nat):(List (Int) × Int)→Option ((List (Int) × Int) ⊕ (List (Int))):=fun(l12,v13) =>
br (decide (v13<((64:Int).toNat:Int))) (
gd (bz v13 ((64:Int).toNat)) (
ob (l12[v13.toNat]?) fun _ =>
some (.inl ((l12.set v13.toNat v13),IntKind.wrap .i64 (v13+1))))) (
some (.inr l12))
def Pj (n:Nat):Option (List Int) :=
gd (decide ((0:Int)≤64)) (gd (gY ((64:Int).toNat)) (
ob (
bE (zl n) n ((List.replicate (64:Int).toNat (0:Int)),0)) fun l21 =>
some l21))
def I6 (_:Nat) (x1:Nat) (x2:Int) (x3:Int):Option (Bool) :=
gd (decide (0≤x2)) (
br (decide (uw .u64 (uw .u64 (bH .u64 x1 x2.toNat) &&& uw .u64 1)=1)) (
gd (decide (0≤x3)) (
some (decide (uw .u64 (uw .u64 (bH .u64 x1 x3.toNat) &&& uw .u64 1)=1)))) (
some false))
def gp (_:Nat) (l1:List (Int)):Int→Option ((Int) ⊕ (Int)):=fun v7 =>
gd (bz v7 l1.length) (
ob (l1[v7.toNat]?) fun x20 =>
br (!decide (x20=v7)) (
gd (bz v7 l1.length) (
some (.inl x20))) (
some (.inr v7)))
def Av (n:Nat) (l1:List (Int)) (x5:Int):Option (Int) :=
ob (
bE (gp n l1) n x5) fun v16 =>
some v16
def QS (_:Nat) (x1:Nat):Option (Int) :=
ob (some (uw .u64 ((uw .u64 (uw .u64 (bH .u64 x1 1) &&& uw .u64 6148914691236517205))+(uw .u64 (uw .u64 x1 &&& uw .u64 6148914691236517205))))) fun y2 =>
ob (some (uw .u64 ((uw .u64 (uw .u64 (bH .u64 y2 2) &&& uw .u64 3689348814741910323))+(uw .u64 (uw .u64 y2 &&& uw .u64 3689348814741910323))))) fun y4 =>
ob (some (uw .u64 (uw .u64 (uw .u64 ((bH .u64 y4 4)+y4)) &&& uw .u64 1085102592571150095))) fun y6 =>
ob (some (uw .u64 ((uw .u64 (y6+(bH .u64 y6 8)))+(bH .u64 (uw .u64 (y6+(bH .u64 y6 8))) 16)))) fun y8 =>
ob (some (GK .i64 (IntKind.wrap .i64 ((uw .u64 (y8+(bH .u64 y8 32)):Nat):Int)) 127)) fun y10 =>
some y10
def mJ (n:Nat) (l3:List (Int)) (l2:List (Int × Int)) (x6:Nat):(List (Int) × Nat × Int × Int)→Option ((List (Int) × Nat × Int × Int) ⊕ ((Unit) ⊕ (Unit))):=fun(l1,n0,v1,v0) =>
br (decide (v0<(l3.length:Int))) (
gd (bz v0 l3.length) (
ob (l3[v0.toNat]?) fun x3 =>
ob (
br (decide (x3≤v1)) (
some (l1,n0,true)) (
br (decide ((l2.length:Int)≤x3)) (
some (l1,n0,true)) (
gd (bz x3 l2.length) (
ob (l2[x3.toNat]?) fun(x4,x5) =>
ob (I6 n x6 x4 x5) fun r2 =>
br (!r2) (
some (l1,n0,true)) (
gd (bz x3 l2.length) (
ob (
ob (Av n l1 x4) fun r0 =>
ob (Av n l1 x5) fun r1 =>
gd (bz (ma r0 r1) l1.length) (
ob (l1[(ma r0 r1).toNat]?) fun _ =>
some (!decide (r0=r1),(l1.set ((ma r0 r1).toNat) (mi r0 r1))))) fun(v2,l4) =>
some (l4,l1.length,!v2))))))) fun(l5,n1,v3) =>
br (v3) (
some (.inr (.inl ()))) (
some (.inl (l5,n1,x3,IntKind.wrap .i64 (v0+1)))))) (
some (.inr (.inr ())))
def Mx (n:Nat) (x1:Int) (l1:List (Int × Int)) (x3:Nat) (l2:List (Int)):Option (Int) :=
ob (N6 n x1 l1 x3) fun r0 =>
br (!decide (r0=0)) (
some r0) (
ob (Pj n) fun l3 =>
ob (α:=(Unit) ⊕ (Unit)) (
bE (mJ n l2 l1 x3) n (l3,l3.length,-1,0)) fun r1=>match r1 with
| .inl _ =>
some 300
| .inr _ =>
ob (QS n x3) fun r2 =>
br (!decide ((l2.length:Int)=IntKind.wrap .i64 (r2-1))) (
some 300) (
some 0))
def nF (_:Nat) (l1:List (Int)) (x5:Int):Int→Option ((Int) ⊕ ((Int) ⊕ (Unit))):=fun v7 =>
br (decide (v7<(l1.length:Int))) (
gd (bz v7 l1.length) (
ob (l1[v7.toNat]?) fun x21 =>
br (decide (x5=x21)) (
some (.inr (.inl v7))) (
some (.inl (IntKind.wrap .i64 (v7+1)))))) (
some (.inr (.inr ())))
def Kq (n:Nat) (l1:List (Int)) (x5:Int):Option (Int) :=
ob (α:=(Int) ⊕ (Unit)) (
bE (nF n l1 x5) n 0) fun r25=>match r25 with
| .inl v16 =>
some v16
| .inr _ =>
some (-1)
def PU (n:Nat) (l1:List (Int)) (x5:Int):Option (Bool) :=
ob (Kq n l1 x5) fun r7 =>
some (decide (0≤r7))
def uI (n:Nat) (x1:Nat):Int→Option ((Int) ⊕ (Int)):=fun v3 =>
ob (Fh n x1 v3) fun r10 =>
br (!r10) (
some (.inl (IntKind.wrap .i64 (v3+1)))) (
some (.inr v3))
def Py (n:Nat) (x1:Nat):Option (Int) :=
ob (
bE (uI n x1) n 0) fun v8 =>
some v8
def sT (n:Nat) (l1:List (Int)) (x1:Int) (l2:List (Int × Int)) (x4:Nat):Int→Option ((Int) ⊕ ((Unit) ⊕ (Unit))):=fun v0 =>
br (decide (v0<(l1.length:Int))) (
ob (
gd (bz v0 l1.length) (
ob (l1[v0.toNat]?) fun x3 =>
ob (Pk n x1 l2 x4 x3) fun r0 =>
br (!r0) (
some true) (
br (decide (0<v0)) (
gd (bz v0 l1.length) (
gd (bz (IntKind.wrap .i64 (v0-1)) l1.length) (
ob (l1[(IntKind.wrap .i64 (v0-1)).toNat]?) fun x5 =>
some (decide (x3≤x5))))) (
some false)))) fun v1 =>
br (v1) (
some (.inr (.inl ()))) (
some (.inl (IntKind.wrap .i64 (v0+1))))) (
some (.inr (.inr ())))
def Q4 (n:Nat) (x1:Int) (l2:List (Int × Int)) (x3:Nat) (l1:List (Int)):Option (Bool) :=
ob (α:=(Unit) ⊕ (Unit)) (
bE (sT n l1 x1 l2 x3) n 0) fun r0=>match r0 with
| .inl _ =>
some false
| .inr _ =>
ob (JE n x3) fun r1 =>
br (decide ((l1.length:Int)=IntKind.wrap .i64 (r1-1))) (
ob (Py n x3) fun r2 =>
ob (M1 n x1 l2 l1 r2) fun r3 =>
some (decide (r3=x3))) (
some false)
def LN (n:Nat) (x1:Int) (l2:List (Int × Int)) (x6:Nat) (l7:List (Int)):Option (Int) :=
ob (LP n x1 l2 x6) fun r13 =>
br (!decide (r13=0)) (
some r13) (
ob (Q4 n x1 l2 x6 l7) fun r16 =>
br (!r16) (
some 300) (
some 0))
def uN (_:Nat) (l1:List (Int)) (l5:List (Int)):Int→Option ((Int) ⊕ ((Unit) ⊕ (Unit))):=fun v11 =>
br (decide (v11<(l1.length:Int))) (
gd (bz v11 l1.length) (
ob (l1[v11.toNat]?) fun x29 =>
gd (bz v11 l5.length) (
ob (l5[v11.toNat]?) fun x34 =>
br (!decide (x29=x34)) (
some (.inr (.inl ()))) (
some (.inl (IntKind.wrap .i64 (v11+1))))))) (
some (.inr (.inr ())))
def NN (n:Nat) (l1:List (Int)) (l5:List (Int)):Option (Bool) :=
br (!decide ((l1.length:Int)=(l5.length:Int))) (
some false) (
ob (α:=(Unit) ⊕ (Unit)) (
bE (uN n l1 l5) n 0) fun r38=>match r38 with
| .inl _ =>
some false
| .inr _ =>
some true)
def Ma (_:Nat):(List (Nat) × Int)→Option ((List (Nat) × Int) ⊕ (List (Nat))):=fun(l40,v41) =>
br (decide (v41<8)) (
gd (bz v41 8) (
ob (l40[v41.toNat]?) fun _ =>
some (.inl ((l40.set v41.toNat 18446744073709551615),IntKind.wrap .i64 (v41+1))))) (
some (.inr l40))
def RC (n:Nat) (x1:Int):Option (Nat × Nat × Nat × Nat × Nat × Nat × Nat × Nat) :=
ob (
br (decide (x1<0)) (
ob (
bE (Ma n) n (([ui .u64 x1,0,0,0,0,0,0,0]:List (Nat)),1)) fun l49 =>
some l49) (
some ([ui .u64 x1,0,0,0,0,0,0,0]:List (Nat)))) fun l30 =>
ob (Mm l30) fun(x59,x60,x61,x62,x63,x64,x65,x66) =>
some (x59,x60,x61,x62,x63,x64,x65,x66)
def gr (n:Nat):(List (Nat) × List (Nat) × Nat × Int)→Option ((List (Nat) × List (Nat) × Nat × Int) ⊕ (List (Nat) × Nat)):=fun(l36,l37,v38,v39) =>
br (decide (v39<8)) (
gd (bz v39 8) (
ob (l36[v39.toNat]?) fun x60 =>
gd (bz v39 8) (
ob (l37[v39.toNat]?) fun x63 =>
ob (Jd n x60 x63 v38) fun(r66,r67) =>
gd (bz v39 8) (
some (.inl ((l36.set v39.toNat r66),l37,r67,IntKind.wrap .i64 (v39+1))))))) (
some (.inr (l36,v38)))
def Fa (n:Nat) (x1:Nat) (x2:Nat) (x3:Nat) (x4:Nat) (x5:Nat) (x6:Nat) (x7:Nat) (x8:Nat) (x9:Nat) (x10:Nat) (x11:Nat) (x12:Nat) (x13:Nat) (x14:Nat) (x15:Nat) (x16:Nat):Option (Nat × Nat × Nat × Nat × Nat × Nat × Nat × Nat × Nat) :=
ob (
bE (gr n) n (([x1,x2,x3,x4,x5,x6,x7,x8]:List (Nat)),([x9,x10,x11,x12,x13,x14,x15,x16]:List (Nat)),0,0)) fun(l56,v57) =>
ob (Mm l56) fun(x72,x73,x74,x75,x76,x77,x78,x79) =>
some (x72,x73,x74,x75,x76,x77,x78,x79,v57)
def PF (n:Nat) (x1:Nat) (x2:Nat) (x3:Nat) (x4:Nat) (x5:Nat) (x6:Nat) (x7:Nat) (x8:Nat):Option (Bool × Nat × Nat × Nat × Nat × Nat × Nat × Nat × Nat) :=
ob (
br (decide (bH .u64 x8 63=1)) (
ob (Fa n 0 0 0 0 0 0 0 0 x1 x2 x3 x4 x5 x6 x7 x8) fun(r34,r35,r36,r37,r38,r39,r40,r41,_) =>
some (decide (bH .u64 x8 63=1),r34,r35,r36,r37,r38,r39,r40,r41)) (
some (decide (bH .u64 x8 63=1),x1,x2,x3,x4,x5,x6,x7,x8))) fun(v23,v24,v25,v26,v27,v28,v29,v30,v31) =>
some (v23,v24,v25,v26,v27,v28,v29,v30,v31)
def eO (_:Nat) (l2:List (Nat)):Int→Option ((Int) ⊕ (Int)):=fun v9 =>
ob (
br (decide (0<v9)) (
gd (bz (IntKind.wrap .i64 (v9-1)) l2.length) (
ob (l2[(IntKind.wrap .i64 (v9-1)).toNat]?) fun x71 =>
some (decide (x71=0)))) (
some false)) fun v66 =>
br (v66) (
some (.inl (IntKind.wrap .i64 (v9-1)))) (
some (.inr v9))
def kC (n:Nat) (x1:Bool) (l2:List (Nat)):Option (Bool × List Nat) :=
ob (
bE (eO n l2) n (l2.length:Int)) fun v43 =>
br (x1) (
gd (okB 0 v43 l2.length) (
some (decide (0<v43),((l2.drop (0:Int).toNat).take ((v43:Int).toNat-(0:Int).toNat))))) (
gd (okB 0 v43 l2.length) (
some (false,((l2.drop (0:Int).toNat).take ((v43:Int).toNat-(0:Int).toNat)))))
def JG (n:Nat) (x1:Nat) (x2:Nat) (x3:Nat) (x4:Nat) (x5:Nat) (x6:Nat) (x7:Nat) (x8:Nat):Option (Bool × List Nat) :=
ob (PF n x1 x2 x3 x4 x5 x6 x7 x8) fun(r12,r13,r14,r15,r16,r17,r18,r19,r20) =>
gd (gY (([]:List (Nat))++[r13,r14,r15,r16,r17,r18,r19,r20]).length) (
ob (kC n r12 (([]:List (Nat))++[r13,r14,r15,r16,r17,r18,r19,r20])) fun(r26,l27) =>
some (r26,l27))
def wX (n:Nat) (x1:Int):Option (Bool × List Nat) :=
ob (RC n x1) fun(r4,r5,r6,r7,r8,r9,r10,r11) =>
ob (JG n r4 r5 r6 r7 r8 r9 r10 r11) fun(r13,l14) =>
some (r13,l14)
def nb (n:Nat) (l1:List (Nat)) (l2:List (Nat)):(List (Nat) × Nat × Nat × Int)→Option ((List (Nat) × Nat × Nat × Int) ⊕ (List (Nat) × Nat × Nat)):=fun(l3,n0,v1,v0) =>
br (decide (v0<(l1.length:Int))) (
gd (bz v0 l1.length) (
ob (l1[v0.toNat]?) fun x3 =>
ob (
br (decide (v0<(l2.length:Int))) (
gd (bz v0 l2.length) (
ob (l2[v0.toNat]?) fun x4 =>
some x4)) (
some 0)) fun v2 =>
ob (Ed n x3 v2 v1) fun(r0,r1) =>
gd (bz v0 n0) (
ob (l3[v0.toNat]?) fun _ =>
some (.inl ((l3.set v0.toNat r0),n0,r1,IntKind.wrap .i64 (v0+1)))))) (
some (.inr (l3,n0,v1)))
def IC (n:Nat) (l2:List (Nat)) (l3:List (Nat)):Option (List Nat) :=
ob (
br (decide ((l2.length:Int)<(l3.length:Int))) (
some (l3,l2)) (
some (l2,l3))) fun(l1,l5) =>
gd (decide (0≤IntKind.wrap .i64 ((l1.length:Int)+1))) (gd (gY ((IntKind.wrap .i64 ((l1.length:Int)+1)).toNat)) (
ob (
bE (nb n l1 l5) n ((List.replicate (IntKind.wrap .i64 ((l1.length:Int)+1)).toNat (0:Nat)),(IntKind.wrap .i64 ((l1.length:Int)+1)).toNat,0,0)) fun(l4,n0,v0) =>
gd (bz (l1.length:Int) n0) (
ob (l4[(l1.length:Int).toNat]?) fun _ =>
some (l4.set ((l1.length:Int).toNat) v0))))
def k9 (_:Nat) (l1:List (Nat)) (l5:List (Nat)):Int→Option ((Int) ⊕ ((Int) ⊕ (Unit))):=fun v11 =>
br (decide (0≤v11)) (
gd (bz v11 l1.length) (
ob (l1[v11.toNat]?) fun x33 =>
gd (bz v11 l5.length) (
ob (l5[v11.toNat]?) fun x38 =>
br (decide (x33<x38)) (
some (.inr (.inl (-1)))) (
gd (bz v11 l1.length) (
gd (bz v11 l5.length) (
br (decide (x38<x33)) (
some (.inr (.inl 1))) (
some (.inl (IntKind.wrap .i64 (v11-1)))))))))) (
some (.inr (.inr ())))
def EC (n:Nat) (l1:List (Nat)) (l5:List (Nat)):Option (Int) :=
br (!decide ((l1.length:Int)=(l5.length:Int))) (
some (IntKind.wrap .i64 ((l1.length:Int)-(l5.length:Int)))) (
ob (α:=(Int) ⊕ (Unit)) (
bE (k9 n l1 l5) n (IntKind.wrap .i64 ((l1.length:Int)-1))) fun r45=>match r45 with
| .inl v28 =>
some v28
| .inr _ =>
some 0)
def pS (n:Nat) (l1:List (Nat)) (l2:List (Nat)):(List (Nat) × Nat × Int)→Option ((List (Nat) × Nat × Int) ⊕ (List (Nat))):=fun(l3,v1,v0) =>
br (decide (v0<(l1.length:Int))) (
gd (bz v0 l1.length) (
ob (l1[v0.toNat]?) fun x3 =>
ob (
br (decide (v0<(l2.length:Int))) (
gd (bz v0 l2.length) (
ob (l2[v0.toNat]?) fun x4 =>
some x4)) (
some 0)) fun v2 =>
ob (Jd n x3 v2 v1) fun(r0,r1) =>
gd (bz v0 ((l1.length:Int).toNat)) (
ob (l3[v0.toNat]?) fun _ =>
some (.inl ((l3.set v0.toNat r0),r1,IntKind.wrap .i64 (v0+1)))))) (
some (.inr l3))
def D9 (n:Nat) (l1:List (Nat)) (l2:List (Nat)):Option (List Nat) :=
gd (decide (0≤(l1.length:Int))) (gd (gY ((l1.length:Int).toNat)) (
ob (
bE (pS n l1 l2) n ((List.replicate (l1.length:Int).toNat (0:Nat)),0,0)) fun l3 =>
some l3))
def pB (n:Nat) (x1:Bool) (l2:List (Nat)) (x7:Bool) (l8:List (Nat)):Option (Bool × List Nat) :=
br ((x1 == x7)) (
ob (IC n l2 l8) fun l18 =>
ob (kC n x1 l18) fun(r22,l23) =>
some (r22,l23)) (
ob (
ob (EC n l2 l8) fun r39 =>
br (decide (r39<0)) (
some (x7,l8,x1,l2)) (
some (x1,l2,x7,l8))) fun(v30,l31,_,l35) =>
ob (D9 n l31 l35) fun l44 =>
ob (kC n v30 l44) fun(r48,l49) =>
some (r48,l49))
def Ot (_:Nat) (x1:Bool) (l2:List (Nat)):Option (Int) :=
br (x1) (
some (-1)) (
br (decide ((l2.length:Int)=0)) (
some 0) (
some 1))
def G3 (_:Nat) (x1:Nat) (x2:Nat):Option (Nat × Nat) :=
ob (some (uw .u64 ((uw .u64 (uw .u64 x1 &&& uw .u64 4294967295))*(uw .u64 (uw .u64 x2 &&& uw .u64 4294967295))))) fun y3 =>
ob (some (uw .u64 ((bH .u64 x1 32)*(uw .u64 (uw .u64 x2 &&& uw .u64 4294967295))))) fun y5 =>
ob (some (uw .u64 (uw .u64 (uw .u64 (y5+(bH .u64 y3 32))) &&& uw .u64 4294967295))) fun y7 =>
ob (some (uw .u64 ((uw .u64 (uw .u64 x1 &&& uw .u64 4294967295))*(bH .u64 x2 32)))) fun y9 =>
ob (some (uw .u64 ((uw .u64 ((bH .u64 x1 32)*(bH .u64 x2 32)))+(bH .u64 (uw .u64 (y5+(bH .u64 y3 32))) 32)))) fun y11 =>
some (uw .u64 (y11+(bH .u64 (uw .u64 (y7+y9)) 32)),uw .u64 (x1*x2))
def pL (n:Nat) (l1:List (Nat)) (x3:Nat) (v1:Int) (n0:Nat):(List (Nat) × Nat × Int)→Option ((List (Nat) × Nat × Int) ⊕ (List (Nat) × Nat)):=fun(l2,v2,v0) =>
br (decide (v0<(l1.length:Int))) (
gd (bz v0 l1.length) (
ob (l1[v0.toNat]?) fun x4 =>
ob (G3 n x3 x4) fun(r0,r1) =>
gd (bz (IntKind.wrap .i64 (v1+v0)) n0) (
ob (l2[(IntKind.wrap .i64 (v1+v0)).toNat]?) fun x5 =>
ob (Ed n x5 r1 0) fun(r2,r3) =>
ob (Ed n r2 v2 0) fun(r4,r5) =>
gd (bz (IntKind.wrap .i64 (v1+v0)) n0) (
some (.inl ((l2.set ((IntKind.wrap .i64 (v1+v0)).toNat) r4),uw .u64 ((uw .u64 (r0+r3))+r5),IntKind.wrap .i64 (v0+1))))))) (
some (.inr (l2,v2)))
def ph (n:Nat) (l2:List (Nat)) (l1:List (Nat)):(List (Nat) × Nat × Int)→Option ((List (Nat) × Nat × Int) ⊕ (List (Nat) × Nat)):=fun(l3,n0,v0) =>
br (decide (v0<(l2.length:Int))) (
gd (bz v0 l2.length) (
ob (l2[v0.toNat]?) fun x3 =>
ob (
bE (pL n l1 x3 v0 n0) n (l3,0,0)) fun(l4,v1) =>
gd (bz (IntKind.wrap .i64 (v0+(l1.length:Int))) n0) (
ob (l4[(IntKind.wrap .i64 (v0+(l1.length:Int))).toNat]?) fun _ =>
some (.inl ((l4.set ((IntKind.wrap .i64 (v0+(l1.length:Int))).toNat) v1),n0,IntKind.wrap .i64 (v0+1)))))) (
some (.inr (l3,n0)))
def FG (n:Nat) (l1:List (Nat)) (l2:List (Nat)):Option (List Nat) :=
gd (decide (0≤IntKind.wrap .i64 ((l1.length:Int)+(l2.length:Int)))) (gd (gY ((IntKind.wrap .i64 ((l1.length:Int)+(l2.length:Int))).toNat)) (
ob (
bE (ph n l1 l2) n ((List.replicate (IntKind.wrap .i64 ((l1.length:Int)+(l2.length:Int))).toNat (0:Nat)),(IntKind.wrap .i64 ((l1.length:Int)+(l2.length:Int))).toNat,0)) fun(l3,_) =>
some l3))
def Ef (n:Nat) (x1:Bool) (l2:List (Nat)) (x7:Bool) (l8:List (Nat)):Option (Bool × List Nat) :=
ob (FG n l2 l8) fun l17 =>
ob (kC n (!(x1 == x7)) l17) fun(r21,l22) =>
some (r21,l22)
def Fz (n:Nat) (x1:Bool) (l2:List (Nat)):Option (Bool × List Nat) :=
ob (kC n (!x1) l2) fun(r10,l11) =>
some (r10,l11)
def OY (n:Nat) (x1:Bool) (l2:List (Nat)) (x7:Bool) (l8:List (Nat)):Option (Bool × List Nat) :=
ob (Fz n x7 l8) fun(r17,l18) =>
ob (pB n x1 l2 r17 l18) fun(r23,l24) =>
some (r23,l24)
def ED (n:Nat) (x1:Nat):Option (Int) :=
ob (ET n x1) fun r3 =>
some (IntKind.wrap .i64 (64-r3))
def rG (_:Nat):(Nat × Nat × Nat × Nat × Nat × Nat × Nat × Nat)→Option ((Nat × Nat × Nat × Nat × Nat × Nat × Nat × Nat) ⊕ (Nat × Nat × Nat × Nat × Nat × Nat × Nat)):=fun(v20,v21,v22,v23,v24,v25,v26,v27) =>
ob (
br (decide (4294967296≤v26)) (
some true) (
some (decide (uw .u64 ((uw .u64 (4294967296*v27))+v24)<uw .u64 (v26*v23))))) fun v63 =>
br (v63) (
br (decide (4294967296≤uw .u64 (v27+v22))) (
some (.inr (v20,v21,v22,v23,v24,v25,iE .u64 v26 1))) (
some (.inl (v20,v21,v22,v23,v24,v25,iE .u64 v26 1,uw .u64 (v27+v22))))) (
some (.inr (v20,v21,v22,v23,v24,v25,v26)))
def e9 (_:Nat) (v3:Nat) (v4:Nat) (v2:Nat):(Nat × Nat)→Option ((Nat × Nat) ⊕ (Nat)):=fun(v1,v0) =>
ob (
br (decide (4294967296≤v0)) (
some true) (
some (decide (uw .u64 ((uw .u64 (4294967296*v1))+v3)<uw .u64 (v0*v4))))) fun v5 =>
br (v5) (
br (decide (4294967296≤uw .u64 (v1+v2))) (
some (.inr (iE .u64 v0 1))) (
some (.inl (uw .u64 (v1+v2),iE .u64 v0 1)))) (
some (.inr v0))
def FQ (n:Nat) (x1:Nat) (x2:Nat) (x3:Nat):Option (Nat × Nat) :=
br (decide (x3=0)) (
none) (
br (decide (x3≤x1)) (
none) (
br (decide (x1=0)) (
gd (decide (0<x3)) (
gd (decide (0<x3)) (
some (uw .u64 (x2/x3),x2%x3)))) (
ob (ED n x3) fun r0 =>
ob (some (uw .u64 (uw .u64 (gz .u64 x1 (ui .u64 r0)) ||| uw .u64 (bH .u64 x2 (iE .u64 64 (ui .u64 r0)))))) fun y2 =>
gd (decide (0<bH .u64 (gz .u64 x3 (ui .u64 r0)) 32)) (
ob (some (uw .u64 ((uw .u64 (y2/(bH .u64 (gz .u64 x3 (ui .u64 r0)) 32)))*(bH .u64 (gz .u64 x3 (ui .u64 r0)) 32)))) fun y4 =>
ob (
bE (rG n) n (gz .u64 x3 (ui .u64 r0),ui .u64 r0,bH .u64 (gz .u64 x3 (ui .u64 r0)) 32,uw .u64 (uw .u64 (gz .u64 x3 (ui .u64 r0)) &&& uw .u64 4294967295),bH .u64 (gz .u64 x2 (ui .u64 r0)) 32,uw .u64 (uw .u64 (gz .u64 x2 (ui .u64 r0)) &&& uw .u64 4294967295),uw .u64 (y2/(bH .u64 (gz .u64 x3 (ui .u64 r0)) 32)),iE .u64 y2 y4)) fun(v1,v5,v0,v6,v7,v2,v3) =>
ob (some (iE .u64 (uw .u64 ((uw .u64 (y2*4294967296))+v7)) (uw .u64 (v3*v1)))) fun y3 =>
gd (decide (0<v0)) (
ob (
bE (e9 n v2 v6 v0) n (iE .u64 y3 (uw .u64 ((uw .u64 (y3/v0))*v0)),uw .u64 (y3/v0))) fun v4 =>
ob (some (iE .u64 (uw .u64 ((uw .u64 (y3*4294967296))+v2)) (uw .u64 (v4*v1)))) fun y5 =>
some (uw .u64 ((uw .u64 (v3*4294967296))+v4),bH .u64 y5 v5))))))
def JL (n:Nat) (l1:List (Nat)):Option (Int) :=
br (decide ((l1.length:Int)=0)) (
some 0) (
gd (bz (IntKind.wrap .i64 ((l1.length:Int)-1)) l1.length) (
ob (l1[(IntKind.wrap .i64 ((l1.length:Int)-1)).toNat]?) fun x9 =>
ob (ED n x9) fun r12 =>
some (IntKind.wrap .i64 ((IntKind.wrap .i64 (64*(l1.length:Int)))-r12))))
def Ib (_:Nat) (l2:List (Nat)) (x3:Int):(List (Nat) × Nat × Int)→Option ((List (Nat) × Nat × Int) ⊕ (List (Nat) × Nat)):=fun(l1,n0,v0) =>
br (decide (v0<(l2.length:Int))) (
ob (
gd (bz v0 l2.length) (
ob (l2[v0.toNat]?) fun x4 =>
gd (bz (IntKind.wrap .i64 (v0+(IntKind.wrap .i64 (Int.tdiv x3 64)))) n0) (
ob (l1[(IntKind.wrap .i64 (v0+(IntKind.wrap .i64 (Int.tdiv x3 64)))).toNat]?) fun x5 =>
gd (decide (0≤Int.tmod x3 64)) (
ob (some (uw .u64 (uw .u64 x5 ||| uw .u64 (gz .u64 x4 (Int.tmod x3 64).toNat)))) fun y2 =>
gd (bz (IntKind.wrap .i64 (v0+(IntKind.wrap .i64 (Int.tdiv x3 64)))) n0) (
br (decide (0<Int.tmod x3 64)) (
ob (some (IntKind.wrap .i64 ((IntKind.wrap .i64 (v0+(IntKind.wrap .i64 (Int.tdiv x3 64))))+1))) fun y3 =>
gd (decide (0≤IntKind.wrap .i64 (64-(Int.tmod x3 64)))) (
gd (bz y3 n0) (
ob ((l1.set ((IntKind.wrap .i64 (v0+(IntKind.wrap .i64 (Int.tdiv x3 64)))).toNat) y2)[y3.toNat]?) fun _ =>
some ((l1.set ((IntKind.wrap .i64 (v0+(IntKind.wrap .i64 (Int.tdiv x3 64)))).toNat) y2).set y3.toNat (bH .u64 x4 (IntKind.wrap .i64 (64-(Int.tmod x3 64))).toNat))))) (
some (l1.set ((IntKind.wrap .i64 (v0+(IntKind.wrap .i64 (Int.tdiv x3 64)))).toNat) y2))))))) fun l3 =>
some (.inl (l3,n0,IntKind.wrap .i64 (v0+1)))) (
some (.inr (l1,n0)))
def M7 (n:Nat) (l1:List (Nat)) (x3:Int):Option (List Nat) :=
ob (some (IntKind.wrap .i64 ((l1.length:Int)+(IntKind.wrap .i64 (Int.tdiv x3 64))))) fun y2 =>
gd (decide (0≤IntKind.wrap .i64 (y2+1))) (gd (gY ((IntKind.wrap .i64 (y2+1)).toNat)) (
ob (
bE (Ib n l1 x3) n ((List.replicate (IntKind.wrap .i64 (y2+1)).toNat (0:Nat)),(IntKind.wrap .i64 (y2+1)).toNat,0)) fun(l2,_) =>
ob (kC n false l2) fun(_,l3) =>
some l3))
def pI (n:Nat) (l1:List (Nat)) (l6:List (Nat)):(List (Nat) × Nat × Int)→Option ((List (Nat) × Nat × Int) ⊕ (List (Nat) × Nat)):=fun(l37,v38,v39) =>
br (decide (0≤v39)) (
gd (bz v39 l1.length) (
ob (l1[v39.toNat]?) fun x67 =>
gd (bz 0 l6.length) (
ob (l6[(0:Int).toNat]?) fun x72 =>
ob (FQ n v38 x67 x72) fun(r75,r76) =>
gd (bz v39 ((l1.length:Int).toNat)) (
ob (l37[v39.toNat]?) fun _ =>
some (.inl ((l37.set v39.toNat r75),r76,IntKind.wrap .i64 (v39-1))))))) (
some (.inr (l37,v38)))
def GS (n:Nat) (l5:List (Nat)) (l3:List (Nat)):(List (Nat) × List (Nat) × Int)→Option ((List (Nat) × List (Nat) × Int) ⊕ (List (Nat) × List (Nat))):=fun(l1,l2,v0) =>
br (decide (0≤v0)) (
ob (
ob (M7 n l5 v0) fun l4 =>
ob (EC n l2 l4) fun r0 =>
br (decide (0≤r0)) (
ob (D9 n l2 l4) fun l6 =>
ob (kC n false l6) fun(_,l7) =>
gd (bz (IntKind.wrap .i64 (Int.tdiv v0 64)) ((l3.length:Int).toNat)) (
ob (l1[(IntKind.wrap .i64 (Int.tdiv v0 64)).toNat]?) fun x3 =>
gd (decide (0≤Int.tmod v0 64)) (
ob (some (uw .u64 (uw .u64 x3 ||| uw .u64 (gz .u64 1 (Int.tmod v0 64).toNat)))) fun y2 =>
gd (bz (IntKind.wrap .i64 (Int.tdiv v0 64)) ((l3.length:Int).toNat)) (
some ((l1.set ((IntKind.wrap .i64 (Int.tdiv v0 64)).toNat) y2),l7))))) (
some (l1,l2))) fun(l8,l9) =>
some (.inl (l8,l9,IntKind.wrap .i64 (v0-1)))) (
some (.inr (l1,l2)))
def G9 (n:Nat) (l1:List (Nat)) (l2:List (Nat)):Option (List Nat × List Nat) :=
gd (decide (0≤(l1.length:Int))) (gd (gY ((l1.length:Int).toNat)) (
br (decide ((l2.length:Int)=1)) (
ob (
bE (pI n l1 l2) n ((List.replicate (l1.length:Int).toNat (0:Nat)),0,IntKind.wrap .i64 ((l1.length:Int)-1))) fun(l3,v0) =>
ob (kC n false ([v0])) fun(_,l4) =>
some (l3,l4)) (
ob (JL n l1) fun r0 =>
ob (JL n l2) fun r1 =>
ob (
bE (GS n l2 l1) n ((List.replicate (l1.length:Int).toNat (0:Nat)),l1,IntKind.wrap .i64 (r0-r1))) fun(l5,l6) =>
some (l5,l6))))
def IN (n:Nat) (x1:Bool) (l2:List (Nat)) (x7:Bool) (l8:List (Nat)):Option (Bool × List Nat × Bool × List Nat) :=
ob (G9 n l2 l8) fun(l18,l22) =>
ob (kC n (!(x1 == x7)) l18) fun(r27,l28) =>
ob (kC n x1 l22) fun(r33,l34) =>
ob (
br (r33) (
ob (pB n r33 l34 false l8) fun(r65,l66) =>
ob (pB n r27 l28 (!x7) ([1])) fun(r73,l74) =>
some (r73,l74,r65,l66)) (
some (r27,l28,r33,l34))) fun(v54,l55,v58,l59) =>
some (v54,l55,v58,l59)
def ld (n:Nat) (l2:List (Int × Int)) (x5:Nat) (l4:List (Int × Bool)):(Int × List (Int) × Nat)→Option ((Int × List (Int) × Nat) ⊕ ((Bool × List (Nat) × List (Int) × Nat) ⊕ (List (Int) × Nat))):=fun(v0,l1,n0) =>
br (decide (v0<(l2.length:Int))) (
gd (bz v0 l2.length) (
ob (l2[v0.toNat]?) fun(x3,x4) =>
ob (α:=(Bool × List (Nat) × List (Int) × Nat) ⊕ (List (Int) × Nat)) (
ob (I6 n x5 x3 x4) fun r2 =>
br (r2) (
ob (α:=(Bool × List (Nat) × List (Int) × Nat) ⊕ (List (Int) × Nat)) (
ob (
ob (some ((bY l4 v0).getD false)) fun y2 =>
br (y2) (
ob (
ob (Av n l1 x3) fun r0 =>
ob (Av n l1 x4) fun r1 =>
gd (bz (ma r0 r1) l1.length) (
ob (l1[(ma r0 r1).toNat]?) fun _ =>
some (!decide (r0=r1),(l1.set ((ma r0 r1).toNat) (mi r0 r1))))) fun(v1,l5) =>
some (l5,l1.length,!v1)) (
some (l1,n0,false))) fun(l3,n1,v2) =>
br (v2) (
ob (wX n 0) fun(r3,l6) =>
some (.inl (r3,l6,l3,n1))) (
some (.inr (l3,n1)))) fun r4=>match r4 with
| .inl (v3,l7,l8,n2) =>
some (.inl (v3,l7,l8,n2))
| .inr (l9,n4) =>
some (.inr (l9,n4))) (
some (.inr (l1,n0)))) fun r5=>match r5 with
| .inl (v4,l10,l11,n5) =>
some (.inr (.inl (v4,l10,l11,n5)))
| .inr (l12,n6) =>
some (.inl (IntKind.wrap .i64 (v0+1),l12,n6)))) (
some (.inr (.inr (l1,n0))))
def yq (_:Nat) (n0:Nat) (l2:List (Int)):(Int × List (Int × Int))→Option ((Int × List (Int × Int)) ⊕ (Int × List (Int × Int))):=fun(v0,l1) =>
gd (bz v0 n0) (
ob (l2[v0.toNat]?) fun x3 =>
br (!decide (x3=v0)) (
gd (bz v0 n0) (
some (.inl (x3,l1)))) (
some (.inr (v0,l1))))
def FI (_:Nat) (n0:Nat) (l1:List (Int)):Int→Option ((Int) ⊕ (Int)):=fun v0 =>
gd (bz v0 n0) (
ob (l1[v0.toNat]?) fun x3 =>
br (!decide (x3=v0)) (
gd (bz v0 n0) (
some (.inl x3))) (
some (.inr v0)))
def qq (n:Nat) (x3:Nat) (n0:Nat) (l2:List (Int)) (v1:Int):(List (Int × Int) × Int)→Option ((List (Int × Int) × Int) ⊕ (List (Int × Int))):=fun(l1,v0) =>
br (decide (v0<64)) (
ob (
ob (
gd (decide (0≤v0)) (
br (decide (uw .u64 (uw .u64 (bH .u64 x3 v0.toNat) &&& uw .u64 1)=1)) (
ob (
ob (
bE (FI n n0 l2) n v0) fun v2 =>
some v2) fun v3 =>
br (decide (v3=v0)) (
some (!decide (v0=v1))) (
some false)) (
some false))) fun v4 =>
br (v4) (
ob (some (l1.length)) fun y2 =>
some (cH l1 v0 (y2:Int))) (
some l1)) fun l3 =>
some (.inl (l3,IntKind.wrap .i64 (v0+1)))) (
some (.inr l1))
def tL (_:Nat) (y3:Nat) (l2:List (Int × Int)):(List (List (Bool × List Nat)) × Int)→Option ((List (List (Bool × List Nat)) × Int) ⊕ (List (List (Bool × List Nat)))):=fun(l1,v0) =>
br (decide (v0<((y3:Int).toNat:Int))) (
ob (some (l2.length)) fun y2 =>
gd (decide (0≤(y2:Int))) (gd (gY ((y2:Int).toNat)) (
gd (bz v0 ((y3:Int).toNat)) (
ob (l1[v0.toNat]?) fun _ =>
gd (decide (0<(y2:Int).toNat)) (
some (.inl ((l1.set v0.toNat (List.replicate ((y2:Int).toNat) (false,[]))),IntKind.wrap .i64 (v0+1)))))))) (
some (.inr l1))
def Dg (_:Nat) (n0:Nat) (l1:List (Int)):Int→Option ((Int) ⊕ (Int)):=fun v0 =>
gd (bz v0 n0) (
ob (l1[v0.toNat]?) fun x3 =>
br (!decide (x3=v0)) (
gd (bz v0 n0) (
some (.inl x3))) (
some (.inr v0)))
def C1 (_:Nat) (n0:Nat) (l1:List (Int)):Int→Option ((Int) ⊕ (Int)):=fun v0 =>
gd (bz v0 n0) (
ob (l1[v0.toNat]?) fun x3 =>
br (!decide (x3=v0)) (
gd (bz v0 n0) (
some (.inl x3))) (
some (.inr v0)))
def uO (n:Nat) (l10:List (Int × Int)) (x5:Nat) (n0:Nat) (l15:List (Int)) (l16:List (Int × Bool)) (l1:List (Int × Int)) (y2:Nat):(Int × List (List (Bool × List Nat)))→Option ((Int × List (List (Bool × List Nat))) ⊕ (List (List (Bool × List Nat)))):=fun(v2,l2) =>
br (decide (v2<(l10.length:Int))) (
gd (bz v2 l10.length) (
ob (l10[v2.toNat]?) fun(x3,x4) =>
ob (
ob (I6 n x5 x3 x4) fun r0 =>
br (r0) (
ob (
ob (
ob (
bE (Dg n n0 l15) n x3) fun v3 =>
some v3) fun v0 =>
ob (
ob (
bE (C1 n n0 l15) n x4) fun v4 =>
some v4) fun v1 =>
ob (
ob (some ((bY l16 v2).getD false)) fun y11 =>
br (y11) (
some true) (
some (decide (v0=v1)))) fun v5 =>
br (v5) (
some l2) (
ob (
ob (some ((bY l1 v0).getD (0:Int),(bY l1 v0).isSome)) fun(y3,y12) =>
ob (some ((bY l1 v0).getD (0:Int),(bY l1 v0).isSome)) fun(y4,y13) =>
ob (
br (y12) (
some y13) (
some false)) fun v6 =>
br (v6) (
gd (bz y3 ((y2:Int).toNat)) (
ob (l2[y3.toNat]?) fun l3 =>
gd (decide (0<l3.length)) (
gd (bz y3 ((y2:Int).toNat)) (
ob (l2[y3.toNat]?) fun l11 =>
gd (decide (0<l11.length)) (
gd (bz y4 l11.length) (
ob (l11[y4.toNat]?) fun(x6,l17) =>
ob (wX n 1) fun(r1,l18) =>
ob (pB n x6 l17 r1 l18) fun(r2,l19) =>
gd (bz y4 l3.length) (
gd (Nat.blt y4.toNat l3.length) (
some (l2.set y3.toNat (l3.set y4.toNat (r2,l19))))))))))) (
some l2)) fun l4 =>
ob (
ob (some ((bY l1 v1).getD (0:Int),(bY l1 v1).isSome)) fun(y5,y14) =>
ob (some ((bY l1 v1).getD (0:Int),(bY l1 v1).isSome)) fun(y6,y15) =>
ob (
br (y14) (
some y15) (
some false)) fun v7 =>
br (v7) (
gd (bz y5 ((y2:Int).toNat)) (
ob (l4[y5.toNat]?) fun l5 =>
gd (decide (0<l5.length)) (
gd (bz y5 ((y2:Int).toNat)) (
ob (l4[y5.toNat]?) fun l12 =>
gd (decide (0<l12.length)) (
gd (bz y6 l12.length) (
ob (l12[y6.toNat]?) fun(x7,l20) =>
ob (wX n 1) fun(r3,l21) =>
ob (pB n x7 l20 r3 l21) fun(r4,l22) =>
gd (bz y6 l5.length) (
gd (Nat.blt y6.toNat l5.length) (
some (l4.set y5.toNat (l5.set y6.toNat (r4,l22))))))))))) (
some l4)) fun l6 =>
ob (
ob (some ((bY l1 v0).getD (0:Int),(bY l1 v0).isSome)) fun(y7,y16) =>
ob (some ((bY l1 v1).getD (0:Int),(bY l1 v1).isSome)) fun(y8,y17) =>
ob (
br (y16) (
some y17) (
some false)) fun v8 =>
br (v8) (
gd (bz y7 ((y2:Int).toNat)) (
ob (l6[y7.toNat]?) fun l7 =>
gd (decide (0<l7.length)) (
gd (bz y7 ((y2:Int).toNat)) (
ob (l6[y7.toNat]?) fun l13 =>
gd (decide (0<l13.length)) (
gd (bz y8 l13.length) (
ob (l13[y8.toNat]?) fun(x8,l23) =>
ob (wX n (-1)) fun(r5,l24) =>
ob (pB n x8 l23 r5 l24) fun(r6,l25) =>
gd (bz y8 l7.length) (
gd (Nat.blt y8.toNat l7.length) (
some (l6.set y7.toNat (l7.set y8.toNat (r6,l25))))))))))) (
some l6)) fun l8 =>
ob (
ob (some ((bY l1 v1).getD (0:Int),(bY l1 v1).isSome)) fun(y9,y18) =>
ob (some ((bY l1 v0).getD (0:Int),(bY l1 v0).isSome)) fun(y10,y19) =>
ob (
br (y18) (
some y19) (
some false)) fun v9 =>
br (v9) (
gd (bz y9 ((y2:Int).toNat)) (
ob (l8[y9.toNat]?) fun l9 =>
gd (decide (0<l9.length)) (
gd (bz y9 ((y2:Int).toNat)) (
ob (l8[y9.toNat]?) fun l14 =>
gd (decide (0<l14.length)) (
gd (bz y10 l14.length) (
ob (l14[y10.toNat]?) fun(x9,l26) =>
ob (wX n (-1)) fun(r7,l27) =>
ob (pB n x9 l26 r7 l27) fun(r8,l28) =>
gd (bz y10 l9.length) (
gd (Nat.blt y10.toNat l9.length) (
some (l8.set y9.toNat (l9.set y10.toNat (r8,l28))))))))))) (
some l8)) fun l29 =>
some l29)) fun l30 =>
some l30) (
some l2)) fun l31 =>
some (.inl (IntKind.wrap .i64 (v2+1),l31)))) (
some (.inr l2))
def tT (n:Nat) (y2:Nat) (v2:Int) (v1:Int) (x3:Bool) (l6:List Nat) (v3:Bool) (l7:List (Nat)):(List (List (Bool × List Nat)) × Int)→Option ((List (List (Bool × List Nat)) × Int) ⊕ (List (List (Bool × List Nat)))):=fun(l1,v0) =>
br (decide (v0<((y2:Int).toNat:Int))) (
gd (bz v2 ((y2:Int).toNat)) (
ob (l1[v2.toNat]?) fun l3 =>
gd (decide (0<l3.length)) (
gd (bz v0 l3.length) (
ob (l3[v0.toNat]?) fun(x4,l8) =>
gd (bz v1 ((y2:Int).toNat)) (
ob (l1[v1.toNat]?) fun l4 =>
gd (decide (0<l4.length)) (
gd (bz v1 l4.length) (
ob (l4[v1.toNat]?) fun(x5,l9) =>
ob (Ef n x4 l8 x5 l9) fun(r0,l10) =>
gd (bz v1 ((y2:Int).toNat)) (
ob (l1[v1.toNat]?) fun l5 =>
gd (decide (0<l5.length)) (
gd (bz v0 l5.length) (
ob (l5[v0.toNat]?) fun(x6,l11) =>
ob (Ef n x3 l6 x6 l11) fun(r1,l12) =>
ob (OY n r0 l10 r1 l12) fun(r2,l13) =>
gd (bz v2 ((y2:Int).toNat)) (
ob (l1[v2.toNat]?) fun l2 =>
gd (decide (0<l2.length)) (
ob (IN n r2 l13 v3 l7) fun(r3,l14,_,_) =>
gd (bz v0 l2.length) (
gd (Nat.blt v0.toNat l2.length) (
some (.inl ((l1.set v2.toNat (l2.set v0.toNat (r3,l14))),IntKind.wrap .i64 (v0+1))))))))))))))))) (
some (.inr l1))
def pw (n:Nat) (y2:Nat) (v1:Int) (v2:Bool) (l3:List (Nat)):(List (List (Bool × List Nat)) × Int)→Option ((List (List (Bool × List Nat)) × Int) ⊕ (List (List (Bool × List Nat)))):=fun(l1,v0) =>
br (decide (v0<((y2:Int).toNat:Int))) (
gd (bz v0 ((y2:Int).toNat)) (
ob (l1[v0.toNat]?) fun l2 =>
gd (decide (0<l2.length)) (
gd (bz v1 l2.length) (
ob (l2[v1.toNat]?) fun(x3,l4) =>
ob (
bE (tT n y2 v0 v1 x3 l4 v2 l3) n (l1,v1)) fun l5 =>
some (.inl (l5,IntKind.wrap .i64 (v0+1))))))) (
some (.inr l1))
def jf (n:Nat) (y2:Nat):(List (List (Bool × List Nat)) × Bool × List (Nat) × Int)→Option ((List (List (Bool × List Nat)) × Bool × List (Nat) × Int) ⊕ ((Bool × List (Nat)) ⊕ (Bool × List (Nat)))):=fun(l3,v1,l4,v0) =>
br (decide (v0<((y2:Int).toNat:Int))) (
gd (bz v0 ((y2:Int).toNat)) (
ob (l3[v0.toNat]?) fun l1 =>
gd (decide (0<l1.length)) (
gd (bz v0 l1.length) (
ob (l1[v0.toNat]?) fun(x3,l6) =>
ob (Ot n x3 l6) fun r0 =>
br (decide (r0=0)) (
ob (wX n 0) fun(r1,l7) =>
some (.inr (.inl (r1,l7)))) (
ob (
bE (pw n y2 v0 v1 l4) n (l3,IntKind.wrap .i64 (v0+1))) fun l5 =>
gd (bz v0 ((y2:Int).toNat)) (
ob (l5[v0.toNat]?) fun l2 =>
gd (decide (0<l2.length)) (
gd (bz v0 l2.length) (
ob (l2[v0.toNat]?) fun(x4,l8) =>
some (.inl (l5,x4,l8,IntKind.wrap .i64 (v0+1))))))))))) (
some (.inr (.inr (v1,l4))))
def Bn (n:Nat) (_:Int) (l3:List (Int × Int)) (x3:Nat) (l5:List (Int × Bool)) (l6:List (Int × Bool)):Option (Bool × List Nat) :=
ob (Pj n) fun l4 =>
ob (
some ()) fun _ =>
ob (α:=(Bool × List (Nat) × List (Int) × Nat) ⊕ (List (Int) × Nat)) (
ob (α:=(Bool × List (Nat) × List (Int) × Nat) ⊕ (List (Int) × Nat)) (
bE (ld n l3 x3 l5) n (0,l4,l4.length)) fun r0=>match r0 with
| .inl (v0,l7,l8,n1) =>
some (.inl (v0,l7,l8,n1))
| .inr (l9,n2) =>
some (.inr (l9,n2))) fun r1=>match r1 with
| .inl (v1,l10,_,_) =>
some (v1,l10)
| .inr (l1,n0) =>
ob (QN n x3) fun r2 =>
ob (
ob (
bE (yq n n0 l1) n (r2,([]:List (Int × Int)))) fun(v2,l11) =>
some (v2,l11)) fun(v3,l12) =>
ob (
bE (qq n x3 n0 l1 v3) n (l12,0)) fun l2 =>
ob (some (l2.length)) fun y2 =>
gd (decide (0≤(y2:Int))) (gd (gY ((y2:Int).toNat)) (
ob (
bE (tL n y2 l2) n ((List.replicate (y2:Int).toNat ([]:List (Bool × List Nat))),0)) fun l13 =>
ob (
some ()) fun _ =>
ob (
ob (
bE (uO n l3 x3 n0 l1 l6 l2 y2) n (0,l13)) fun l14 =>
some l14) fun l15 =>
ob (
ob (wX n 1) fun(r3,l16) =>
ob (α:=(Bool × List (Nat)) ⊕ (Bool × List (Nat))) (
bE (jf n y2) n (l15,r3,l16,0)) fun r4=>match r4 with
| .inl (v4,l17) =>
some (v4,l17)
| .inr (v5,l18) =>
some (v5,l18)) fun(v6,l19) =>
some (v6,l19)))
def Gm (_:Nat):(List (Nat) × List (Nat) × Int)→Option ((List (Nat) × List (Nat) × Int) ⊕ ((Int) ⊕ (Unit))):=fun(l32,l33,v34) =>
br (decide (0≤v34)) (
gd (bz v34 8) (
ob (l32[v34.toNat]?) fun x52 =>
gd (bz v34 8) (
ob (l33[v34.toNat]?) fun x55 =>
br (!decide (x52=x55)) (
gd (bz v34 8) (
gd (bz v34 8) (
br (decide (x52<x55)) (
some (.inr (.inl (-1)))) (
some (.inr (.inl 1)))))) (
some (.inl (l32,l33,IntKind.wrap .i64 (v34-1))))))) (
some (.inr (.inr ())))
def OT (n:Nat) (x1:Nat) (x2:Nat) (x3:Nat) (x4:Nat) (x5:Nat) (x6:Nat) (x7:Nat) (x8:Nat) (x9:Nat) (x10:Nat) (x11:Nat) (x12:Nat) (x13:Nat) (x14:Nat) (x15:Nat) (x16:Nat):Option (Int) :=
ob (α:=(Int) ⊕ (Unit)) (
bE (Gm n) n (([x1,x2,x3,x4,x5,x6,x7,x8]:List (Nat)),([x9,x10,x11,x12,x13,x14,x15,x16]:List (Nat)),7)) fun r62=>match r62 with
| .inl v49 =>
some v49
| .inr _ =>
some 0
def MQ (n:Nat) (x1:Bool) (x2:Nat) (x3:Nat) (x4:Nat) (x5:Nat) (x6:Nat) (x7:Nat) (x8:Nat) (x9:Nat):Option (Nat × Nat × Nat × Nat × Nat × Nat × Nat × Nat × Int) :=
ob (OT n x2 x3 x4 x5 x6 x7 x8 x9 0 0 0 0 0 0 0 9223372036854775808) fun r24 =>
ob (
br (decide (0<r24)) (
some true) (
br (decide (r24=0)) (
some (!x1)) (
some false))) fun v27 =>
br (v27) (
some (0,0,0,0,0,0,0,0,6)) (
ob (
br (x1) (
ob (Fa n 0 0 0 0 0 0 0 0 x2 x3 x4 x5 x6 x7 x8 x9) fun(r54,r55,r56,r57,r58,r59,r60,r61,_) =>
some (r54,r55,r56,r57,r58,r59,r60,r61)) (
some (x2,x3,x4,x5,x6,x7,x8,x9))) fun(v44,v45,v46,v47,v48,v49,v50,v51) =>
some (v44,v45,v46,v47,v48,v49,v50,v51,0))
def Pf (n:Nat) (x1:Bool) (l2:List (Nat)):Option (Nat × Nat × Nat × Nat × Nat × Nat × Nat × Nat × Int) :=
br (decide (8<(l2.length:Int))) (
some (0,0,0,0,0,0,0,0,6)) (
gd (decide ((l2:List (Nat)).length≤8)) (
ob (Mm ((l2:List (Nat))++([0,0,0,0,0,0,0,0]:List (Nat)).drop (l2:List (Nat)).length)) fun(x12,x13,x14,x15,x16,x17,x18,x19) =>
ob (MQ n x1 x12 x13 x14 x15 x16 x17 x18 x19) fun(r21,r22,r23,r24,r25,r26,r27,r28,r29) =>
some (r21,r22,r23,r24,r25,r26,r27,r28,r29)))
def Pd (n:Nat) (x1:Bool) (l2:List (Nat)) (x6:Bool) (l7:List (Nat)):Option (Int) :=
ob (OY n x1 l2 x6 l7) fun(r14,l15) =>
ob (Ot n r14 l15) fun r20 =>
some r20
def ql (n:Nat) (l5:List (Int × Int)) (x3:Nat) (x1:Int):(Int × Bool × List (Nat) × List (Int × Bool) × List (Int × Bool) × List (Int))→Option ((Int × Bool × List (Nat) × List (Int × Bool) × List (Int × Bool) × List (Int)) ⊕ (Bool × List (Nat) × List (Int × Bool) × List (Int × Bool) × List (Int))):=fun(v0,v1,l1,l2,l3,l4) =>
br (decide (v0<(l5.length:Int))) (
gd (bz v0 l5.length) (
ob (l5[v0.toNat]?) fun(x4,x5) =>
ob (
ob (I6 n x3 x4 x5) fun r1 =>
br (r1) (
ob (
ob (Bn n x1 l5 x3 (cH l2 v0 true) l3) fun(r0,l6) =>
ob (Pd n v1 l1 r0 l6) fun r2 =>
br (decide (r2<0)) (
gd (gY (l4++[v0]).length) (
some (v1,l1,(cH l2 v0 true),l3,(l4++[v0])))) (
ob (OY n v1 l1 r0 l6) fun(r3,l7) =>
some (r3,l7,(vQ (cH l2 v0 true) v0),(cH l3 v0 true),l4))) fun(v2,l8,l9,l10,l11) =>
some (v2,l8,l9,l10,l11)) (
some (v1,l1,l2,l3,l4))) fun(v3,l12,l13,l14,l15) =>
some (.inl (IntKind.wrap .i64 (v0+1),v3,l12,l13,l14,l15)))) (
some (.inr (v1,l1,l2,l3,l4)))
def Mo (n:Nat) (x1:Int) (l1:List (Int × Int)) (x3:Nat) (x4:Nat) (x5:Nat) (x6:Nat) (x7:Nat) (x8:Nat) (x9:Nat) (x10:Nat) (x11:Nat):Option (List Int × Int) :=
ob (N6 n x1 l1 x3) fun r1 =>
br (!decide (r1=0)) (
some ([],r1)) (
ob (JG n x4 x5 x6 x7 x8 x9 x10 x11) fun(r0,l2) =>
ob (
ob (Ot n r0 l2) fun r2 =>
br (decide (r2<0)) (
some true) (
ob (Bn n x1 l1 x3 [] []) fun(r3,l3) =>
ob (Pd n r0 l2 r3 l3) fun r4 =>
some (decide (0≤r4)))) fun v0 =>
br (v0) (
some ([],2)) (
ob (
some (([]:List (Int × Bool)),([]:List (Int × Bool)))) fun(l4,l5) =>
ob (
ob (
bE (ql n l1 x3 x1) n (0,r0,l2,l4,l5,([]:List (Int)))) fun(v1,l6,l7,l8,l9) =>
some (v1,l6,l7,l8,l9)) fun(_,_,_,_,l10) =>
some (l10,0)))
def uW (n:Nat) (l2:List (Int × Int)) (x3:Nat):(Int × List (Int))→Option ((Int × List (Int)) ⊕ (List (Int))):=fun(v0,l1) =>
br (decide (v0<(l2.length:Int))) (
gd (bz v0 l2.length) (
ob (l2[v0.toNat]?) fun(x4,x5) =>
ob (
ob (I6 n x3 x4 x5) fun r0 =>
br (r0) (
ob (
gd (gY (l1++[v0]).length) (
some (l1++[v0]))) fun l3 =>
some l3) (
some l1)) fun l4 =>
some (.inl (IntKind.wrap .i64 (v0+1),l4)))) (
some (.inr l1))
def oZ (n:Nat) (l1:List (Int)) (l5:List (Int)) (x1:Int) (l6:List (Int × Int)) (x4:Nat):(List (Int × Bool) × List (Int × Bool) × Bool × List (Nat) × Int)→Option ((List (Int × Bool) × List (Int × Bool) × Bool × List (Nat) × Int) ⊕ (Bool × List (Nat))):=fun(l2,l3,v1,l4,v0) =>
br (decide (v0<(l1.length:Int))) (
gd (bz v0 l1.length) (
ob (l1[v0.toNat]?) fun x3 =>
ob (
ob (PU n l5 x3) fun r0 =>
br (r0) (
ob (wX n 0) fun(r1,l7) =>
some (r1,l7,(cH l2 x3 true),l3)) (
ob (Bn n x1 l6 x4 (cH l2 x3 true) l3) fun(r2,l8) =>
some (r2,l8,(vQ (cH l2 x3 true) x3),(cH l3 x3 true)))) fun(v2,l9,l10,l11) =>
ob (pB n v1 l4 v2 l9) fun(r3,l12) =>
some (.inl (l10,l11,r3,l12,IntKind.wrap .i64 (v0+1))))) (
some (.inr (v1,l4)))
def OC (n:Nat) (x1:Int) (l1:List (Int × Int)) (x3:Nat) (l2:List (Int)):Option (Nat × Nat × Nat × Nat × Nat × Nat × Nat × Nat × Int) :=
ob (Mx n x1 l1 x3 l2) fun r0 =>
br (!decide (r0=0)) (
some (0,0,0,0,0,0,0,0,r0)) (
ob (
some ()) fun _ =>
ob (
ob (
bE (uW n l1 x3) n (0,([]:List (Int)))) fun l3 =>
some l3) fun l4 =>
ob (
ob (wX n 0) fun(r1,l5) =>
ob (
bE (oZ n l4 l2 x1 l1 x3) n (([]:List (Int × Bool)),([]:List (Int × Bool)),r1,l5,0)) fun(v0,l6) =>
some (v0,l6)) fun(v1,l7) =>
ob (Pf n v1 l7) fun(r2,r3,r4,r5,r6,r7,r8,r9,r10) =>
some (r2,r3,r4,r5,r6,r7,r8,r9,r10))
def oP (_:Nat) (l1:List (Int)) (l5:List (Int)):Int→Option ((Int) ⊕ ((Unit) ⊕ (Unit))):=fun v11 =>
br (decide (v11<(l1.length:Int))) (
gd (bz v11 l1.length) (
ob (l1[v11.toNat]?) fun x29 =>
gd (bz v11 l5.length) (
ob (l5[v11.toNat]?) fun x34 =>
br (!decide (x29=x34)) (
some (.inr (.inl ()))) (
some (.inl (IntKind.wrap .i64 (v11+1))))))) (
some (.inr (.inr ())))
def Qu (n:Nat) (l1:List (Int)) (l5:List (Int)):Option (Bool) :=
br (!decide ((l1.length:Int)=(l5.length:Int))) (
some false) (
ob (α:=(Unit) ⊕ (Unit)) (
bE (oP n l1 l5) n 0) fun r38=>match r38 with
| .inl _ =>
some false
| .inr _ =>
some true)
def rI (n:Nat) (l17:List (List Int)) (l7:List (Int)):Int→Option ((Int) ⊕ (Int)):=fun v32 =>
gd (bz v32 l17.length) (
ob (l17[v32.toNat]?) fun l46 =>
ob (Qu n l46 l7) fun r51 =>
br (!r51) (
some (.inl (IntKind.wrap .i64 (v32+1)))) (
some (.inr v32)))
def OV (n:Nat) (x1:Int) (l2:List (Int × Int)) (x6:Nat) (l7:List (Int)):Option (Nat × Nat × Nat × Nat × Nat × Nat × Nat × Nat × Int) :=
ob (LN n x1 l2 x6 l7) fun r14 =>
br (!decide (r14=0)) (
some (0,0,0,0,0,0,0,0,r14)) (
ob (Ky n x1 l2 x6) fun l17 =>
ob (
bE (rI n l17 l7) n 0) fun v43 =>
ob (xY n v43) fun(r56,r57,r58,r59,r60,r61,r62,r63) =>
some (r56,r57,r58,r59,r60,r61,r62,r63,0))
def BX (n:Nat) (l3:List (Int)) (l6:List Int) (l7:List Int) (l8:List Int) (l4:List Int) (x5:Nat) (x6:Int) (l5:List Int) (x3:Int) (l1:List (Int × Int)) (x4:Nat):Int→Option ((Int) ⊕ ((Unit) ⊕ (Unit))):=fun v0 =>
br (decide (v0<6)) (
gd (bz v0 6) (
ob (([((l3.drop (0:Int).toNat).take ((mi (l3.length:Int) (9:Int):Int).toNat-(0:Int).toNat)),l6,l7,l8,(l4.set ((Int.tmod (IntKind.wrap .i64 ((x5:Nat):Int)) (l4.length:Int)).toNat) (IntKind.wrap .i64 (x6+1))),((l5.drop (1:Int).toNat).take (((l5.length:Int):Int).toNat-(1:Int).toNat))]:List (List Int))[v0.toNat]?) fun l2 =>
ob (OC n x3 l1 x4 l2) fun(r0,r1,r2,r3,r4,r5,r6,r7,r8) =>
ob (OV n x3 l1 x4 l2) fun(r9,r10,r11,r12,r13,r14,r15,r16,r17) =>
ob (
ob (Mx n x3 l1 x4 l2) fun r18 =>
ob (LN n x3 l1 x4 l2) fun r19 =>
br (!decide (r18=r19)) (
some true) (
br (!(decide (r0=r9) && decide (r1=r10) && decide (r2=r11) && decide (r3=r12) && decide (r4=r13) && decide (r5=r14) && decide (r6=r15) && decide (r7=r16))) (
some true) (
some (!decide (r8=r17))))) fun v1 =>
br (v1) (
some (.inr (.inl ()))) (
some (.inl (IntKind.wrap .i64 (v0+1)))))) (
some (.inr (.inr ())))
def BS (n:Nat) (l3:List (Int)) (l4:List Int) (l5:List Int) (l6:List Int) (x3:Int) (l1:List (Int × Int)) (x4:Nat):Int→Option ((Int) ⊕ ((Unit) ⊕ (Unit))):=fun v0 =>
br (decide (v0<4)) (
gd (bz v0 4) (
ob (([((l3.drop (0:Int).toNat).take ((mi (l3.length:Int) (9:Int):Int).toNat-(0:Int).toNat)),l4,l5,l6]:List (List Int))[v0.toNat]?) fun l2 =>
ob (OC n x3 l1 x4 l2) fun(r0,r1,r2,r3,r4,r5,r6,r7,r8) =>
ob (OV n x3 l1 x4 l2) fun(r9,r10,r11,r12,r13,r14,r15,r16,r17) =>
ob (
ob (Mx n x3 l1 x4 l2) fun r18 =>
ob (LN n x3 l1 x4 l2) fun r19 =>
br (!decide (r18=r19)) (
some true) (
br (!(decide (r0=r9) && decide (r1=r10) && decide (r2=r11) && decide (r3=r12) && decide (r4=r13) && decide (r5=r14) && decide (r6=r15) && decide (r7=r16))) (
some true) (
some (!decide (r8=r17))))) fun v1 =>
br (v1) (
some (.inr (.inl ()))) (
some (.inl (IntKind.wrap .i64 (v0+1)))))) (
some (.inr (.inr ())))
def AT (n:Nat) (v1:Int) (l8:List (Int × Int)) (v2:Nat) (v3:Int) (v4:Nat) (v5:Int) (l9:List (Int × Int)) (v6:Nat) (x6:Int) (l4:List (Int)) (x5:Nat):Int→Option ((Int) ⊕ ((Unit) ⊕ (Unit))):=fun v0 =>
br (decide (v0<3)) (
ob (α:=(Unit) ⊕ (Unit)) (
gd (bz v0 3) (
ob (([(v1,l8,v2),(v3,l8,v4),(v5,l9,v6)]:List (Int × List (Int × Int) × Nat))[v0.toNat]?) fun(x3,l1,x4) =>
ob (P6 n x3 l1 x4) fun(r1,r2,r3,r4,r5,r6,r7,r8,_) =>
ob (Fk n r1 r2 r3 r4 r5 r6 r7 r8) fun(r0,_) =>
gd (decide (0<ui .u64 (ma r0 (1:Int)))) (
ob (some (IntKind.wrap .i64 (((ui .u64 x6)%(ui .u64 (ma r0 (1:Int))):Nat):Int))) fun y2 =>
ob (xY n x6) fun(r9,r10,r11,r12,r13,r14,r15,r16) =>
ob (Mo n x3 l1 x4 r9 r10 r11 r12 r13 r14 r15 r16) fun(l10,r17) =>
ob (xY n x6) fun(r18,r19,r20,r21,r22,r23,r24,r25) =>
ob (LK n x3 l1 x4 r18 r19 r20 r21 r22 r23 r24 r25) fun(l5,r26) =>
ob (
ob (NN n l10 l5) fun r27 =>
br (!r27) (
some true) (
some (!decide (r17=r26)))) fun v7 =>
br (v7) (
some (.inl ())) (
ob (xY n y2) fun(r28,r29,r30,r31,r32,r33,r34,r35) =>
ob (Mo n x3 l1 x4 r28 r29 r30 r31 r32 r33 r34 r35) fun(l11,r36) =>
ob (xY n y2) fun(r37,r38,r39,r40,r41,r42,r43,r44) =>
ob (LK n x3 l1 x4 r37 r38 r39 r40 r41 r42 r43 r44) fun(l6,r45) =>
ob (
ob (NN n l11 l6) fun r46 =>
br (!r46) (
some true) (
some (!decide (r36=r45)))) fun v8 =>
br (v8) (
some (.inl ())) (
ob (xY n r0) fun(r47,r48,r49,r50,r51,r52,r53,r54) =>
ob (Mo n x3 l1 x4 r47 r48 r49 r50 r51 r52 r53 r54) fun(l12,r55) =>
ob (xY n r0) fun(r56,r57,r58,r59,r60,r61,r62,r63) =>
ob (LK n x3 l1 x4 r56 r57 r58 r59 r60 r61 r62 r63) fun(l7,r64) =>
ob (
ob (NN n l12 l7) fun r65 =>
br (!r65) (
some true) (
some (!decide (r55=r64)))) fun v9 =>
br (v9) (
some (.inl ())) (
gd (bz 2 4) (
ob (([((l4.drop (0:Int).toNat).take ((mi (l4.length:Int) (9:Int):Int).toNat-(0:Int).toNat)),l5,l6,l7]:List (List Int))[(2:Int).toNat]?) fun l3 =>
br (decide (0<(l3.length:Int))) (
ob (PY n l3) fun l2 =>
gd (decide ((l2.length:Int)≠0)) (
gd (bz (Int.tmod (IntKind.wrap .i64 ((x5:Nat):Int)) (l2.length:Int)) l2.length) (
ob (l2[(Int.tmod (IntKind.wrap .i64 ((x5:Nat):Int)) (l2.length:Int)).toNat]?) fun x7 =>
gd (bz (Int.tmod (IntKind.wrap .i64 ((x5:Nat):Int)) (l2.length:Int)) l2.length) (
gd (okB 1 (l3.length:Int) l3.length) (
ob (α:=(Unit) ⊕ (Unit)) (
bE (BX n l4 l5 l6 l7 l2 x5 x7 l3 x3 l1 x4) n 0) fun r66=>match r66 with
| .inl _ =>
some (.inl ())
| .inr _ =>
some (.inr ())))))) (
ob (α:=(Unit) ⊕ (Unit)) (
bE (BS n l4 l5 l6 l7 x3 l1 x4) n 0) fun r67=>match r67 with
| .inl _ =>
some (.inl ())
| .inr _ =>
some (.inr ()))))))))) fun r68=>match r68 with
| .inl _ =>
some (.inr (.inl ()))
| .inr _ =>
some (.inl (IntKind.wrap .i64 (v0+1)))) (
some (.inr (.inr ())))
def F4 (n:Nat) (x1:Nat) (x2:Nat) (x3:Nat) (l4:List (Nat × Nat)) (x4:Nat) (x5:Nat) (x6:Int) (x7:Nat) (x8:Int) (l2:List (Int)) (x9:Nat):Option (Bool) :=
ob (F8 n) fun r4 =>
br (!r4) (
some false) (
gd (okB 0 (mi (l2.length:Int) (9:Int)) l2.length) (
ob (
ob (PH n x1 x2 x3 l4) fun(r0,l1) =>
ob (LV n r0 l1 x4) fun r3 =>
ob (LV n r0 l1 18446744073709551615) fun r5 =>
ob (PC n x5 x6 x7 r0 l1 r3) fun(r1,l3,r2) =>
ob (
ob (
ob (Mj n r1 l3) fun r6 =>
br (decide (r6=0)) (
ob (JE n r2) fun r7 =>
some (decide (9<r7))) (
some false)) fun v0 =>
br (v0) (
ob (LV n r1 l3 r2) fun r8 =>
some r8) (
some r2)) fun v1 =>
some (r0,l1,r3,r0,r5,r1,l3,v1)) fun(v2,l5,v3,v4,v5,v6,l6,v7) =>
ob (α:=(Unit) ⊕ (Unit)) (
bE (AT n v2 l5 v3 v4 v5 v6 l6 v7 x8 l2 x9) n 0) fun r9=>match r9 with
| .inl _ =>
some false
| .inr _ =>
some true))
end Go.Proofs.YtookeaakpiefjaaGreatDoor
end
section
namespace Go.Ab.W
open Go Go.Ab
section
variable {P : Program} {ty el : TypeId}
theorem iR {eq:TypeId→Value→Value→Option Bool} {xs ys:Array Value} {t off:Nat} {rest:List (TypeId × Nat)} {x y:Value} {b r:Bool} (h1:gB P t xs off=some x) (h2:gB P t ys off=some y) (h3:eq t x y=some b) (h4:gI eq P xs ys rest=some r):gI eq P xs ys ((t,off)::rest)=some (b && r):=by
 unfold gI;rw[h1,h2]
 dsimp only
 rw[h3];cases b with
 | true=>exact h4
 | false=>rfl
theorem qe {k:IntKind} (he:P.underlying el=some (.int k)) (d:Nat) (x y:Nat):k8 P (d+1) el (.int k ((x:Nat):Int)) (.int k ((y:Nat):Int))=some (decide (x=y)):=by
 simp only[k8,he,if_true]
 congr 1
 rw[Bool.eq_iff_iff];simp only[beq_iff_eq,decide_eq_true_eq];omega
theorem OI {k:IntKind} (hu:P.underlying ty=some (.array 8 el)) (hk:known P el=true) (hs:aw P el=1) (ha:dP P el=false) (he:P.underlying el=some (.int k)) (d:Nat) (x0 y0 x1 y1 x2 y2 x3 y3 x4 y4 x5 y5 x6 y6 x7 y7:Nat) :
  k8 P (d+2) ty (.agg #[.int k ((x0:Nat):Int),.int k ((x1:Nat):Int),.int k ((x2:Nat):Int),.int k ((x3:Nat):Int),.int k ((x4:Nat):Int),.int k ((x5:Nat):Int),.int k ((x6:Nat):Int),.int k ((x7:Nat):Int)])
   (.agg #[.int k ((y0:Nat):Int),.int k ((y1:Nat):Int),.int k ((y2:Nat):Int),.int k ((y3:Nat):Int),.int k ((y4:Nat):Int),.int k ((y5:Nat):Int),.int k ((y6:Nat):Int),.int k ((y7:Nat):Int)]) =
   some (decide (x0=y0) && decide (x1=y1) && decide (x2=y2) && decide (x3=y3) && decide (x4=y4) && decide (x5=y5) && decide (x6=y6) && decide (x7=y7)):=by
 have hp:∀(cs:Array Value) (i:Nat) (v:Value),cs[i]? = some v→gB P el cs i=some v:=fun cs i v h=>by
  unfold gB;rw[hk,ha,h]; rfl
 show k8 P ((d+1)+1) ty _ _=_
 unfold k8;simp only[hu,hk,if_true,hs]
 show gI _ P _ _ [(el,0),(el,1),(el,2),(el,3),(el,4),(el,5),(el,6),(el,7)]=_
 simp only[Bool.and_assoc];rw[iR (hp _ 0 _ rfl) (hp _ 0 _ rfl) (qe he d x0 y0) (iR (hp _ 1 _ rfl) (hp _ 1 _ rfl) (qe he d x1 y1) (iR (hp _ 2 _ rfl) (hp _ 2 _ rfl) (qe he d x2 y2) (iR (hp _ 3 _ rfl) (hp _ 3 _ rfl) (qe he d x3 y3) (iR (hp _ 4 _ rfl) (hp _ 4 _ rfl) (qe he d x4 y4) (iR (hp _ 5 _ rfl) (hp _ 5 _ rfl) (qe he d x5 y5) (iR (hp _ 6 _ rfl) (hp _ 6 _ rfl) (qe he d x6 y6) (iR (hp _ 7 _ rfl) (hp _ 7 _ rfl) (qe he d x7 y7) rfl)))))))];simp only[Bool.and_true]
theorem Qa {k:IntKind} (hu:P.underlying ty=some (.array 8 el)) (hk:known P el=true) (hs:aw P el=1) (ha:dP P el=false) (he:P.underlying el=some (.int k)) (x0 y0 x1 y1 x2 y2 x3 y3 x4 y4 x5 y5 x6 y6 x7 y7:Nat) :
  k8 P Op.maxDepth ty (.agg #[.int k ((x0:Nat):Int),.int k ((x1:Nat):Int),.int k ((x2:Nat):Int),.int k ((x3:Nat):Int),.int k ((x4:Nat):Int),.int k ((x5:Nat):Int),.int k ((x6:Nat):Int),.int k ((x7:Nat):Int)])
   (.agg #[.int k ((y0:Nat):Int),.int k ((y1:Nat):Int),.int k ((y2:Nat):Int),.int k ((y3:Nat):Int),.int k ((y4:Nat):Int),.int k ((y5:Nat):Int),.int k ((y6:Nat):Int),.int k ((y7:Nat):Int)]) =
   some (decide (x0=y0) && decide (x1=y1) && decide (x2=y2) && decide (x3=y3) && decide (x4=y4) && decide (x5=y5) && decide (x6=y6) && decide (x7=y7)) :=
 OI hu hk hs ha he 9998 x0 y0 x1 y1 x2 y2 x3 y3 x4 y4 x5 y5 x6 y6 x7 y7
end
class TyC (P:Program) (ty:TypeId) (ag:outParam Bool) (sz:outParam Nat):Prop where
 t:TyI P ty ag sz
class FaC (P:Program) (ty:TypeId) (f:Nat) (off:outParam Nat):Prop where
 t:∀b o:Nat,aI P ty (ptr b o) f=some (ptr b (o+off))
class SlC (P:Program) (ty:TypeId) (el:outParam TypeId) (w:outParam Nat):Prop where
 t:SlT P ty el w
class ArC (P:Program) (ty:TypeId) (el:outParam TypeId) (len w:outParam Nat):Prop where
 t:ArT P ty el len w
class UsC (P:Program) (ty:TypeId) (el:outParam TypeId):Prop where
 t:P.underlying ty=some (.slice el)
section
variable {E : Env} {n : Nat} {m0 : AMem} {fs : Fs} {ps ps' : List Pc} {ops : Array Oper} {os : List Oper} {K : Tm → AMem → Prop} {dr : Bool}
variable {ty : TypeId} {p : String} {af : Array Edge} {d : Option Nat} {o : Op} {g : Option (Nat × Bool)} {v : Value}
theorem Wo.RY {j:Nat} {b:Bool} (hg:uh ops fs (some (j,b)) true) (k:Wo dr E n ops K (⟨d,o,ty,p,af,none⟩::os) m0 fs ps):Wo dr E n ops K (⟨d,o,ty,p,af,some (j,b)⟩::os) m0 fs ps:=by
 cases dr with
 | false =>
  intro t m hf hm;have h:=k t m hf hm;simp only[kK,hg t _ _ _ _ _ hf,if_true];simp only[kK,gn t _ _ _ _ _ hf,if_true] at h;exact h
 | true =>
  intro t m w hf hm hw;have h:=k t m w hf hm hw;simp only[ir,hg t _ _ _ _ _ hf,if_true];simp only[ir,gn t _ _ _ _ _ hf,if_true] at h;exact h
end
section
variable {k : IntKind} {P : Program} {ty : TypeId}
theorem ML (_:k.signed=true) (a b:Int):aW .add ty P (.int k a) (.int k b)=some (.int k (k.wrap (a+b))):=eB _ _ _
theorem NV (_:k.signed=true) (a b:Int):aW .sub ty P (.int k a) (.int k b)=some (.int k (k.wrap (a-b))):=gG _ _ _
theorem MC (_:k.signed=true) (a b:Int):aW .lss ty P (.int k a) (.int k b)=some (.bool (decide (a<b))):=dH _ _ _
theorem ON (_:k.signed=true) (a b:Int):aW .leq ty P (.int k a) (.int k b)=some (.bool (decide (a≤b))):=xJ _ _ _
theorem MU (_:k.signed=true) (a b:Int):aW .gtr ty P (.int k a) (.int k b)=some (.bool (decide (b<a))):=gF _ _ _
theorem M0 (_:k.signed=true) (a b:Int):aW .geq ty P (.int k a) (.int k b)=some (.bool (decide (b≤a))):=jC _ _ _
theorem MM (_:k.signed=true) (a b:Int):aW .eql ty P (.int k a) (.int k b)=some (.bool (decide (a=b))):=oI _ _ _
theorem MW (_:k.signed=true) (a b:Int):aW .neq ty P (.int k a) (.int k b)=some (.bool (!decide (a=b))):=tH _ _
theorem NG (_:k.signed=false) (a b:Nat):aW .lss ty P (.int k (a:Int)) (.int k (b:Int))=some (.bool (decide (a<b))):=OW _ _
theorem MS (_:k.signed=false) (a b:Nat):aW .leq ty P (.int k (a:Int)) (.int k (b:Int))=some (.bool (decide (a≤b))):=Oy _ _
theorem O0 (_:k.signed=false) (a b:Nat):aW .gtr ty P (.int k (a:Int)) (.int k (b:Int))=some (.bool (decide (b<a))):=NL _ _
theorem Nn (_:k.signed=false) (a b:Nat):aW .geq ty P (.int k (a:Int)) (.int k (b:Int))=some (.bool (decide (b≤a))):=Nd _ _
theorem OX (_:k.signed=false) (a b:Nat):aW .eql ty P (.int k (a:Int)) (.int k (b:Int))=some (.bool (decide (a=b))):=Bw _ _
theorem Oz (_:k.signed=false) (a b:Nat):aW .neq ty P (.int k (a:Int)) (.int k (b:Int))=some (.bool (!decide (a=b))):=My _ _
end
section
variable {E : Env} {n : Nat} {m0 : AMem} {fs : Fs} {ps ps' : List Pc} {ops : Array Oper} {os : List Oper} {K : Tm → AMem → Prop} {dr : Bool}
variable {ty ty' oty : TypeId} {p : String} {af : Array Edge} {d : Nat} {dd : Option Nat} {o : Op} {a b r v : Value} {x y c : Operand}
theorem Wo.kN (k:Wo dr E n ops K (⟨dd,o,ty,p,af,none⟩::os) m0 fs ps):Wo dr E n ops K (⟨dd,o,ty,p,af,none⟩::os) m0 fs ps:=k
theorem Wo.kG {g:Nat × Bool} (k:Wo dr E n ops K (⟨dd,o,ty,p,af,some g⟩::os) m0 fs ps):Wo dr E n ops K (⟨dd,o,ty,p,af,some g⟩::os) m0 fs ps:=k
def Has (ps:List Pc) (q:Pc):Prop:=∃k,pk ps k=some q
theorem Has.z {q:Pc}:Has (q::ps) q:=⟨0,rfl⟩
theorem Has.s {q q':Pc} (h:Has ps q):Has (q'::ps) q:=by obtain⟨k,h⟩:=h; exact⟨k+1,h⟩
theorem Wo.Sa (h:ev E fs x=some v) (hd:Nat.blt d n=true) (k:Wo dr E n ops K os m0 ((d,v)::fs) ps):Wo dr E n ops K (⟨some d,.move x,ty,p,af,none⟩::os) m0 fs ps:=Wo.od (aF h) hd k
theorem Wo.Sp (h:ev E fs x=some v) (hd:Nat.blt d n=true) (k:Wo dr E n ops K os m0 ((d,v)::fs) ps):Wo dr E n ops K (⟨some d,.assign x,ty,p,af,none⟩::os) m0 fs ps:=Wo.od (cl h) hd k
theorem Wo.Sm {op:BinOp} (h:ev E fs x=some a) (h':ev E fs y=some b) (hr:aW op oty E.P a b=some r) (hd:Nat.blt d n=true) (k:Wo dr E n ops K os m0 ((d,r)::fs) ps):Wo dr E n ops K (⟨some d,.binOp op oty x y ty',ty,p,af,none⟩::os) m0 fs ps:=Wo.od (aG h h' hr) hd k
theorem Wo.Su {f:Nat} (h:ev E fs x=some a) (hr:aI E.P oty a f=some r) (hd:Nat.blt d n=true) (k:Wo dr E n ops K os m0 ((d,r)::fs) ps):Wo dr E n ops K (⟨some d,.fieldAddr oty x f,ty,p,af,none⟩::os) m0 fs ps:=Wo.od (bM h hr) hd k
theorem Wo.Se {ag:Bool} {sz b o:Nat} {cs:List Value} {tg:Tag} (ht:TyI E.P oty ag sz) (hx:ev E fs x=some (ptr b o)) (hp:Has ps (.obj b (.cells cs tg))) (hv:yW ag sz cs o=some v) (hd:Nat.blt d n=true) (k:Wo dr E n ops K os m0 ((d,v)::fs) ps):Wo dr E n ops K (⟨some d,.load oty x,ty,p,af,none⟩::os) m0 fs ps:=by
 obtain⟨q,hp⟩:=hp;exact Wo.od (aR ht hx hp hv) hd k
theorem Wo.RK {ag:Bool} {sz b o w j c l:Nat} {es:List (List Value)} {e:List Value} (ht:TyI E.P oty ag sz) (hx:ev E fs x=some (ptr b (o+j*w+c))) (hp:Has ps (.ro b o w l es)) (he:es[j]? = some e) (hv:yW ag sz e c=some v) (hs:yr ag sz c w=true) (hd:Nat.blt d n=true) (k:Wo dr E n ops K os m0 ((d,v)::fs) ps):Wo dr E n ops K (⟨some d,.load oty x,ty,p,af,none⟩::os) m0 fs ps:=by
 obtain⟨q,hp⟩:=hp;exact Wo.od (kA ht hx hp he hv hs) hd k
theorem Wo.RA {ag:Bool} {sz b w j c l:Nat} {es:List (List Value)} {e:List Value} {tg:Tag} (ht:TyI E.P oty ag sz) (hx:ev E fs x=some (ptr b (j*w+c))) (hp:Has ps (.arr b w l es tg)) (he:es[j]? = some e) (hv:yW ag sz e c=some v) (hs:yr ag sz c w=true) (hd:Nat.blt d n=true) (k:Wo dr E n ops K os m0 ((d,v)::fs) ps):Wo dr E n ops K (⟨some d,.load oty x,ty,p,af,none⟩::os) m0 fs ps:=by
 obtain⟨q,hp⟩:=hp;exact Wo.od (GJ ht hx hp he hv hs) hd k
def Gq (ps:List Pc) (q q':Pc) (ps':List Pc):Prop:=∃k,pk ps k=some q∧bO ps k q'=ps'
theorem Gq.z {q q':Pc}:Gq (q::ps) q q' (q'::ps):=⟨0,rfl,rfl⟩
theorem Gq.s {q q' r:Pc} (h:Gq ps q q' ps'):Gq (r::ps) q q' (r::ps'):=by obtain⟨k,h,h'⟩:=h; exact⟨k+1,h,by rw[←h']; rfl⟩
theorem Wo.Sc {ag:Bool} {sz b o:Nat} {cs cs':List Value} {tg:Tag} (ht:TyI E.P oty ag sz) (hx:ev E fs x=some (ptr b o)) (hy:ev E fs y=some v) (hp:Gq ps (.obj b (.cells cs tg)) (.obj b (.cells cs' tg)) ps') (htg:zX tg=true) (hv:K6 cs o v sz=some cs') (k:Wo dr E n ops K os m0 fs ps'):Wo dr E n ops K (⟨none,.store oty x y,ty,p,af,none⟩::os) m0 fs ps:=by
 obtain⟨q,hp,rfl⟩:=hp;exact Wo.o0 (mI ht hx hy hp htg hv) k
theorem Wo.Sv {b:Bool} (hc:ev E fs c=some (.bool b)) (hb:b=true) (h:ev E fs x=some v) (hd:Nat.blt d n=true) (k:Wo dr E n ops K os m0 ((d,v)::fs) ps):Wo dr E n ops K (⟨some d,.pick c x y,ty,p,af,none⟩::os) m0 fs ps:=Wo.od (jk hc hb h) hd k
theorem Wo.Sj {b:Bool} (hc:ev E fs c=some (.bool b)) (hb:b=false) (h:ev E fs y=some v) (hd:Nat.blt d n=true) (k:Wo dr E n ops K os m0 ((d,v)::fs) ps):Wo dr E n ops K (⟨some d,.pick c x y,ty,p,af,none⟩::os) m0 fs ps:=Wo.od (jV hc hb h) hd k
theorem Wo.Sw (hc:ev E fs c=some (.bool true)) (h:ev E fs x=some v) (hd:Nat.blt d n=true) (k:Wo dr E n ops K os m0 ((d,v)::fs) ps):Wo dr E n ops K (⟨some d,.pick c x y,ty,p,af,none⟩::os) m0 fs ps:=Wo.od (DX hc h) hd k
theorem Wo.Sf (hc:ev E fs c=some (.bool false)) (h:ev E fs y=some v) (hd:Nat.blt d n=true) (k:Wo dr E n ops K os m0 ((d,v)::fs) ps):Wo dr E n ops K (⟨some d,.pick c x y,ty,p,af,none⟩::os) m0 fs ps:=Wo.od (Pw hc h) hd k
theorem Wo.Sy {i:Nat} {vs:Array Value} (h:ev E fs x=some (.tuple vs)) (hr:vs[i]? = some r) (hd:Nat.blt d n=true) (k:Wo dr E n ops K os m0 ((d,r)::fs) ps):Wo dr E n ops K (⟨some d,.extract x i,ty,p,af,none⟩::os) m0 fs ps:=Wo.od (nB h hr) hd k
theorem Wo.Sr {b:Bool} (h:ev E fs x=some (.bool b)) (hd:Nat.blt d n=true) (k:Wo dr E n ops K os m0 ((d,.bool (!b))::fs) ps):Wo dr E n ops K (⟨some d,.unOp .not oty x,ty,p,af,none⟩::os) m0 fs ps:=Wo.od (BL h rfl) hd k
theorem Wo.So {el:TypeId} {len w b o i:Nat} {kd:IntKind} (ht:ArT E.P oty el len w) (h:ev E fs x=some (ptr b o)) (h':ev E fs y=some (.int kd (i:Int))) (hi:i<len) (hd:Nat.blt d n=true) (k:Wo dr E n ops K os m0 ((d,ptr b (o+i*w))::fs) ps):Wo dr E n ops K (⟨some d,.indexAddr oty x y,ty,p,af,none⟩::os) m0 fs ps:=Wo.od (iD h h' (ja ht hi)) hd k
theorem Wo.Rv {elem:TypeId} {b o w l cap:Nat} {i:Int} {kd:IntKind} (ht:SlT E.P oty elem w) (hx:ev E fs x=some (.slice (some ⟨b,o,none⟩) l cap)) (hy:ev E fs y=some (.int kd i)) (hi:0≤i∧i.toNat<l) (hd:Nat.blt d n=true) (k:Wo dr E n ops K os m0 ((d,ptr b (o+i.toNat*w+0))::fs) ps):Wo dr E n ops K (⟨some d,.indexAddr oty x y,ty,p,af,none⟩::os) m0 fs ps:=Wo.od (jn ht hx hy hi) hd k
theorem Wo.Rr {elem:TypeId} {b w l cap:Nat} {i:Int} {kd:IntKind} (ht:SlT E.P oty elem w) (hx:ev E fs x=some (.slice (some ⟨b,0,none⟩) l cap)) (hy:ev E fs y=some (.int kd i)) (hi:0≤i∧i.toNat<l) (hd:Nat.blt d n=true) (k:Wo dr E n ops K os m0 ((d,ptr b (i.toNat*w+0))::fs) ps):Wo dr E n ops K (⟨some d,.indexAddr oty x y,ty,p,af,none⟩::os) m0 fs ps:=Wo.od (cV ht hx hy hi) hd k
def zZ (ps:List Pc) (a:Option Addr):Prop:=∃k q,pk ps k=some q∧(ek a=q.rF∨a=none)
theorem zZ.z {q:Pc} {a:Option Addr} (h:ek a=q.rF):zZ (q::ps) a:=⟨0,q,rfl,.inl h⟩
theorem zZ.s {q:Pc} {a:Option Addr} (h:zZ ps a):zZ (q::ps) a:=by obtain⟨k,r,h⟩:=h; exact⟨k+1,r,h⟩
theorem Wo.Sg {l cap:Nat} {a:Option Addr} {ars:Array Operand} {elem:TypeId} (hu:E.P.underlying oty=some (.slice elem)) (ha:gj E fs ars.toList=some [.slice a l cap]) (hp:zZ ps a) (hd:Nat.blt d n=true) (k:Wo dr E n ops K os m0 ((d,.int .i64 (l:Int))::fs) ps):Wo dr E n ops K (⟨some d,.call ⟨.builtin .len,ars,#[oty]⟩,ty,p,af,none⟩::os) m0 fs ps:=by
 obtain⟨_,_,hp,hb⟩:=hp;exact Wo.od (Ee hu ha hp hb) hd k
theorem Wo.zT {j:Nat} {q:Bool} (hd:(ops[j]?).bind (·.dst)=some d) (h:lk fs d=some (.bool q)) (hq:q=true) (k:Wo dr E n ops K (⟨dd,o,ty,p,af,none⟩::os) m0 fs ps):Wo dr E n ops K (⟨dd,o,ty,p,af,some (j,true)⟩::os) m0 fs ps:=Wo.RY (gg hd h (gR hq)) k
theorem Wo.zF {j:Nat} {q:Bool} (hd:(ops[j]?).bind (·.dst)=some d) (h:lk fs d=some (.bool q)) (hq:q=false) (k:Wo dr E n ops K (⟨dd,o,ty,p,af,none⟩::os) m0 fs ps):Wo dr E n ops K (⟨dd,o,ty,p,af,some (j,false)⟩::os) m0 fs ps:=Wo.RY (gg hd h (dm hq)) k
theorem Wo.Sq {j d':Nat} {q:Bool} (hd:(ops[j]?).bind (·.dst)=some d') (h:lk fs d'=some (.bool q)) (hq:q=false) (hd':Nat.blt d n=true) (k:Wo dr E n ops K os m0 ((d,undef)::fs) ps):Wo dr E n ops K (⟨some d,o,ty,p,af,some (j,true)⟩::os) m0 fs ps:=Wo.s (gg hd h (o7 hq)) hd' k
theorem Wo.Sk {j d':Nat} {q:Bool} (hd:(ops[j]?).bind (·.dst)=some d') (h:lk fs d'=some (.bool q)) (hq:q=true) (hd':Nat.blt d n=true) (k:Wo dr E n ops K os m0 ((d,undef)::fs) ps):Wo dr E n ops K (⟨some d,o,ty,p,af,some (j,false)⟩::os) m0 fs ps:=Wo.s (gg hd h (dK hq)) hd' k
theorem Wo.SE {j d':Nat} {q:Bool} (hd:(ops[j]?).bind (·.dst)=some d') (h:lk fs d'=some undef) (hd':Nat.blt d n=true) (k:Wo dr E n ops K os m0 ((d,undef)::fs) ps):Wo dr E n ops K (⟨some d,o,ty,p,af,some (j,q)⟩::os) m0 fs ps:=Wo.s (gu hd h) hd' k
end
structure Bx (Q:Prop):Prop where
 v:Q
theorem wz {P Q:Prop} (k:Q) (h:Bx Q→P:=by
  intro h
  repeat first
   | refine Wk.seq ?_
   | refine Wk.region ?_
   | (apply Wk.eQ; exact rfl; first|assumption|exact rfl)
   | (apply Wk.mY; exact rfl; first|assumption|exact rfl)
   | refine Wk.skip ?_
   | refine Wk.ret ?_
   | refine Wk.exit ?_
   | refine Wk.block ?_
   | (apply Wk.draw; kernel_rfl)
  repeat first
   | ((first|refine Wo.kN ?_ | (refine Wo.kG ?_; first | (apply Wo.zT; exact rfl; exact rfl; first|assumption|with_reducible exact rfl) | (apply Wo.zF; exact rfl; exact rfl; first|assumption|with_reducible exact rfl))); first
    | (apply Wo.Sa; exact rfl; exact rfl)
    | (apply Wo.Sp; exact rfl; exact rfl)
    | (apply Wo.Sm; exact rfl; exact rfl; (first | (apply ML; exact rfl) | (apply MC; exact rfl) | (apply NV; exact rfl) | (apply MM; exact rfl) | (apply MW; exact rfl) | (apply M0; exact rfl) | (apply MU; exact rfl) | (apply ON; exact rfl) | (apply OX; exact rfl) | (apply Oz; exact rfl) | (apply NG; exact rfl) | (apply MS; exact rfl) | (apply Nn; exact rfl) | (apply O0; exact rfl) | (apply nH; exact rfl) | (apply vd; exact rfl) | (apply pz; exact rfl) | (apply wM; exact rfl) | (apply ub_andn; exact rfl)); exact rfl)
    | (apply Wo.Su; exact rfl; exact FaC.t _ _; exact rfl)
    | (apply Wo.Se; exact TyC.t; exact rfl; (repeat first|exact Has.z|refine Has.s ?_); exact rfl; exact rfl)
    | (apply Wo.RK; exact TyC.t; exact rfl; (repeat first|exact Has.z|refine Has.s ?_); exact ee (by assumption); exact rfl; exact rfl; exact rfl)
    | (apply Wo.RA; exact TyC.t; exact rfl; (repeat first|exact Has.z|refine Has.s ?_); exact ee (by assumption); exact rfl; exact rfl; exact rfl)
    | (apply Wo.Sc; exact TyC.t; exact rfl; exact rfl; (repeat first|exact Gq.z|apply Gq.s); exact rfl; exact rfl)
    | (apply Wo.Sv; exact rfl; assumption; exact rfl; exact rfl)
    | (apply Wo.Sj; exact rfl; assumption; exact rfl; exact rfl)
    | (apply Wo.Sw; exact rfl; exact rfl; exact rfl)
    | (apply Wo.Sf; exact rfl; exact rfl; exact rfl)
    | (apply Wo.Sy; exact rfl; exact rfl; exact rfl)
    | (apply Wo.Sr; exact rfl; exact rfl)
    | (apply Wo.So; exact ArC.t; exact rfl; exact rfl; decide; exact rfl)
    | (apply Wo.Rr; exact SlC.t; exact rfl; exact rfl; assumption; exact rfl)
    | (apply Wo.Rv; exact SlC.t; exact rfl; exact rfl; assumption; exact rfl)
    | (apply Wo.Sg; exact UsC.t; exact rfl; (repeat first|exact zZ.z rfl|refine zZ.s ?_); exact rfl))
   | (refine Wo.kG ?_; first
    | (apply Wo.Sq; exact rfl; exact rfl; (first|assumption|with_reducible exact rfl); exact rfl)
    | (apply Wo.Sk; exact rfl; exact rfl; (first|assumption|with_reducible exact rfl); exact rfl)
    | (apply Wo.SE; exact rfl; exact rfl; exact rfl))
  try refine Wo.nil ?_
  repeat first
   | refine At.tn ?_
   | refine At.te ?_
   | refine At.tr ?_
   | refine At.bn ?_
   | refine At.be ?_
   | refine At.br ?_
   | refine At.bx rfl ?_
  exact h.v):P:=h ⟨k⟩
theorem aq {P Q:Prop} (k:Q) (h:Bx Q→P:=by intro h; refine wz ?_; refine wz ?_; exact h.v):P:=h ⟨k⟩
theorem dC {P Q:Prop} (k:Q) (h:Bx Q→P:=by intro h; refine wz ?_; refine wz ?_; refine wz ?_; exact h.v):P:=h ⟨k⟩
theorem QZ {P Q:Prop} (k:Q) (h:Bx Q→P:=by intro h; refine wz ?_; refine wz ?_; refine wz ?_; refine wz ?_; exact h.v):P:=h ⟨k⟩
section
variable {E : Env} {n : Nat} {m0 : AMem} {fs : Fs} {ps : List Pc} {fn : FuncId} {ro : Option Nat} {c : Code} {Q : AExit → Tm → AMem → Prop}
def Wl (E:Env) (n:Nat) (fn:FuncId) (ro:Option Nat) (c:Code) (Q:AExit→Tm→AMem→Prop) (m0:AMem) (fs:Fs) (ps:List Pc):Prop:=∀t m,Fr t fs→Hp m0 m ps→lj E n fn ro c Q t m
theorem Wk.Qk (h:Wl E n fn ro c Q m0 fs ps):Wk E n fn ro (.loop c) Q m0 fs ps:=fun t m hf hm=>.loop (h t m hf hm)
theorem Wl.round (h:Wk E n fn ro c (lR (lj E n fn ro c Q) Q) m0 fs ps):Wl E n fn ro c Q m0 fs ps:=fun t m hf hm=>.round (h t m hf hm)
theorem At.tl (h:Wl E n fn ro c Q m0 fs ps):At (lR (lj E n fn ro c Q) Q) .normal m0 fs ps:=h
end
theorem bG {β:Type} {i:Int} {n:Nat} {k:Option β} {r:β} (h:gd (bz i n) k=some r):(0≤i∧i.toNat<n)∧k=some r:=⟨zf (au h).1,(au h).2⟩
section
variable {E : Env} {n : Nat} {m0 : AMem} {fs fs' : Fs} {ps ps' : List Pc} {ops : Array Oper} {os : List Oper} {K : Tm → AMem → Prop} {dr : Bool} {fn : FuncId} {ro : Option Nat} {c : Code} {Q : AExit → Tm → AMem → Prop}
variable {ty oty : TypeId} {p : String} {af : Array Edge} {d : Nat} {g : Option (Nat × Bool)} {x : Operand} {v : Value}
theorem ae {γ:Type} {G:γ→En} {e:AExit} (g:γ) (ks:List Nat) (he:e=(G g).e:=by rfl) (hs:sub fs (G g).fs:=by repeat first|exact sn|refine sc rfl ?_) (hn:kO ks=true:=by rfl) (hp:aP ps ks=some (G g).ps:=by rfl):At (pg m0 G) e m0 fs ps:=At.en g he hs (ak.aP ks hn hp)
theorem Res1.zc {i b o sz:Nat} {v:Value} {rs:List ResultVar} {vs:List Value} {cs:List Value} {tg:Tag} {ag:Bool} (ht:TyI E.P ty ag sz) (h:lk fs i=some (ptr b o)) (hp:Has ps (.obj b (.cells cs tg))) (hv:yW ag sz cs o=some v) (k:Res1 E fs ps rs vs):Res1 E fs ps (.cell i ty::rs) (v::vs):=by
 obtain⟨q,hp⟩:=hp;exact .cell ht h hp hv k
theorem ar {α:Type} {V:α→Value} {N:α→List Pc} {rs:List ResultVar} {vs:List Value} (x:α) (ks:List Nat) (hr:Res1 E fs ps rs vs:=by repeat first|exact .nil | (apply Res1.tmp; exact rfl) | (apply Res1.zc; exact TyC.t; exact rfl; (repeat first|exact Has.z|refine Has.s ?_); exact rfl)) (hv:eH vs=V x:=by rfl) (hn:kO ks=true:=by rfl) (hp:aP ps ks=some (N x):=by rfl):At (sG E rs fun v m=>∃x,v=V x∧Hp m0 m (N x)) .ret m0 fs ps:=.ret hr fun _ hm=>⟨x,hv,hm.aP ks hn hp⟩
def ap {ρ:Type} {δ:ρ→Type} (X:(r:ρ)→δ r→En) (r:ρ):δ r→En:=X r
theorem lo {σ ρ γ:Type} {δ:ρ→Type} {body:σ→Option (σ ⊕ ρ)} {X:(r:ρ)→δ r→En} {N:Nat} {s:σ} {r:ρ} (h:bE body N s=some r) (g:γ) (ks:List Nat) (I:σ→γ→En)
  (hb:∀s g r,body s=some r→Wk E n fn ro c (match r with | .inl s'=>pg m0 (I s') | .inr r=>pg m0 (X r)) m0 (I s g).fs (I s g).ps)
  (hs:sub fs (I s g).fs:=by repeat first|exact sn|refine sc rfl ?_) (hd:kO ks=true:=by rfl) (hp:aP ps ks=some (I s g).ps:=by rfl)
  (hn:∀s g,(I s g).e = .normal:=by exact fun _ _=>rfl) (hx:∀r g,(X r g).e≠.normal:=by intro r d; first | (intro e; cases e; done) | (rcases r with r|r<;>first | (intro e; cases e; done) | (rcases r with r|r<;>first | (intro e; cases e; done) | (rcases r with r|r<;>intro e<;>cases e)))):Wk E n fn ro (.loop c) (pg m0 (ap X r)) m0 fs ps:=.mH hs (ak.aP ks hd hp) (Wk.loop body I X hb hn hx N s r h g)
theorem ct {ρ γ:Type} (F:ρ→γ→En) (r:ρ) (h:Wk E n fn ro c (pg m0 (ap F r)) m0 fs ps) (k:∀g,At Q (F r g).e m0 (F r g).fs (F r g).ps):Wk E n fn ro c Q m0 fs ps:=.cut h k
theorem wb (k:∀b,Wo dr E n ops K os m0 ((d,ptr b 0)::fs) (.obj b (.cells v.cells.toList .own)::ps)) (h:ev E fs x=some v:=by rfl) (hd:Nat.blt d n=true:=by rfl):Wo dr E n ops K (⟨some d,.box oty x,ty,p,af,none⟩::os) m0 fs ps:=Wo.x (Ry h) gn hd k
theorem wa {z:Value} (hz:bq E.P oty=some z) (k:∀b,Wo dr E n ops K os m0 ((d,ptr b 0)::fs) (.obj b (.cells z.cells.toList .own)::ps)) (hp:bw z=true:=by rfl) (hd:Nat.blt d n=true:=by rfl):Wo dr E n ops K (⟨some d,.alloc oty,ty,p,af,none⟩::os) m0 fs ps:=Wo.x (Qs hz hp) gn hd k
theorem cw {f:FuncId} {F:Func} {args:List Value} {rs:List ResultVar} {N:Nat} {R:Value→AMem→Prop} {m:AMem} (hf:E.P.funcs[f]? = some F) (hm:Hp m0 m ps) (h:Wk E N f none c (sG E rs R) m0 (Ax args 0 []) ps) (hp:E.cP f=none:=by rfl) (hb:F.body=some c:=by rfl) (hrs:F.results.toList=rs:=by rfl) (hN:max args.length F.ntmps=N:=by rfl):ax E f args m R:=bQ hp hf hb hrs hN hm h
variable {m : AMem} {a : Option Addr} {cap w l : Nat} {es : List (List Value)}
theorem Hp.q (h:Hp m0 m ps) (k:Nat) {p:Pc} (hp:pk ps k=some p:=by rfl) (hi:IsRd p a cap w l es:=by first|exact .rd _ _ _ _ _|exact .sl _ _ _ _|exact .arr _ _ _ _ _):Rd m a cap w l es:=h.rd hp hi
theorem Hp.no (h:Hp m0 m ps) (k:Nat) (hp:pk ps k=some (.rd a cap w l es):=by rfl):∀b,ek a=some b→¬xD ps b:=h.PN hp
theorem Hp.i (h:Hp m0 m ps) (hr:Rd m a cap w l es) (ho:(ps.all Pc.I9)=true:=by rfl):Hp m0 m (.rd a cap w l es::ps):=h.eW ho hr
variable {α : Type} {V : α → Value} {N : α → List Pc} {R : α → Pc} {f : Operand} {q : FuncId} {ars : Array Operand} {ts : Array TypeId} {args : List Value} {prs : List (Nat × Nat)} {ss : List Nk}
theorem wc (hg:uh ops fs g true) (hc:∀m,Hp m0 m ps→ax E q args m (fun v m'=>∃x,v=V x∧Hp m m' (N x))) (k:∀x,Wo dr E n ops K os m0 ((d,V x)::fs) (N x++ps)) (hf:ev E fs f=some (.func (.func q) #[] #[]):=by rfl) (ha:gj E fs ars.toList=some args:=by rfl) (ho:∀x,xM (N x)=true:=by exact fun _=>rfl) (hd:Nat.blt d n=true:=by rfl):Wo dr E n ops K (⟨some d,.call ⟨.value f,ars,ts⟩,ty,p,af,g⟩::os) m0 fs ps:=Wo.x (RE hf ha hc ho) hg hd k
theorem wv (hg:uh ops fs g true) (hc:∀m,Hp m0 m ps→ax E q args m (fun v m'=>∃x,v=V x∧Hp m m' [R x,.gen (oA (xD ps))])) (k:∀x,Wo dr E n ops K os m0 ((d,V x)::fs) (R x::ps)) (hf:ev E fs f=some (.func (.func q) #[] #[]):=by rfl) (ha:gj E fs ars.toList=some args:=by rfl) (ho:∀x,nX [R x]=true:=by exact fun _=>rfl) (hd:Nat.blt d n=true:=by rfl):Wo dr E n ops K (⟨some d,.call ⟨.value f,ars,ts⟩,ty,p,af,g⟩::os) m0 fs ps:=Wo.x (LG (N:=fun x=>[R x]) hf ha hc ho) hg hd k
theorem nc (hg:uh ops fs g true) (hc:∀m,Hp m0 m ps→ax E q args m (fun v m'=>∃x,v=V x∧Hp m m' (N x))) (k:∀x,Wn E n ops prs K os (.call::ss) m0 ((d,V x)::fs) (N x++ps)) (hf:ev E fs f=some (.func (.func q) #[] #[]):=by rfl) (ha:gj E fs ars.toList=some args:=by rfl) (ho:∀x,xM (N x)=true:=by exact fun _=>rfl) (hd:Nat.blt d n=true:=by rfl):Wn E n ops prs K (⟨some d,.call ⟨.value f,ars,ts⟩,ty,p,af,g⟩::os) ss m0 fs ps:=Wn.c (RL hf ha hc ho) hg hd k
theorem nv (hg:uh ops fs g true) (hc:∀m,Hp m0 m ps→ax E q args m (fun v m'=>∃x,v=V x∧Hp m m' [R x,.gen (oA (xD ps))])) (k:∀x,Wn E n ops prs K os (.call::ss) m0 ((d,V x)::fs) (R x::ps)) (hf:ev E fs f=some (.func (.func q) #[] #[]):=by rfl) (ha:gj E fs ars.toList=some args:=by rfl) (ho:∀x,nX [R x]=true:=by exact fun _=>rfl) (hd:Nat.blt d n=true:=by rfl):Wn E n ops prs K (⟨some d,.call ⟨.value f,ars,ts⟩,ty,p,af,g⟩::os) ss m0 fs ps:=Wn.c (LZ (N:=fun x=>[R x]) hf ha hc ho) hg hd k
theorem nO {P:Program} {b n j k w:Nat} {es:List (List Value)} {tg:Tag} {e:List Value} {v:Value} (hm:Hp m0 m ps) (ht:TyI P ty false 1) (hp:pk ps k=some (.arr b w n es tg)) (he:es[j]? = some e) (hv:yW false 1 e 0=some v) (hs:yr false 1 0 w=true):cf P ty (ptr b (j*w+0)) m=some v:=by
 have hs:=rC hs;have:=md (P:=P) ht (yd.Lw (hm.get hp)) he hv hs.1 hs.2;rwa[Nat.zero_add] at this
end
end Go.Ab.W
end
