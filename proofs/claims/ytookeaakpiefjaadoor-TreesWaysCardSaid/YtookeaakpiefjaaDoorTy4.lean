/- A part of the proof. -/
import Derived.Test.YtookeaakpiefjaaDoorTy3
section
namespace Go.Ab.W
open Go Go.Ab
attribute [local irreducible] Tm.at Trie.set Trie.get AMem.get AMem.set AMem.alloc AMem.ww AMem.kill
section
variable {E : Env} {n : Nat} {m0 m : AMem} {fs : Fs} {ps ps' : List Pc} {x y z : Operand} {ty : TypeId}
theorem O3 {b q:Nat} {kt et:TypeId} {es:List (Value × Value)} {ars:Array Operand} (hu:E.P.underlying ty=some (.map kt et)) (ha:gW E fs ars.toList=some [.map (some b)]) (hp:pk ps q=some (.obj b (.map es))) :
  Od E m0 fs ps (.call ⟨.builtin .len,ars,#[ty]⟩) (.int .i64 (es.length:Int)) ps :=
 fun t m hf h=>⟨fun b' hb'=>by
  simp only[aC,hf.gW ha] at hb';cases hb'; exact(h.get hp).2.1,fun K hK=>by
  have:aI E.P .len #[ty] [.map (some b)] m=some (.int .i64 (es.length:Int),m):=by
   have ht:(#[ty]:Array TypeId)[0]? = some ty:=rfl;simp only[aI,ht,Option.bind_some,hu,mapOf,(h.get hp).2.2,Option.map_some]
  rw[Go.Ab.dR (hf.gW ha) this]; exact hK m h⟩
theorem Aq {α:Type} {b q l:Nat} {kt et:TypeId} {xs:List α} {f:α→Value × Value} {ars:Array Operand} (hu:E.P.underlying ty=some (.map kt et)) (ha:gW E fs ars.toList=some [.map (some b)]) (hp:pk ps q=some (.obj b (.map (xs.map f)))) (hl:xs.length=l) :
  Od E m0 fs ps (.call ⟨.builtin .len,ars,#[ty]⟩) (.int .i64 (l:Int)) ps:=by
 have:=O3 (m0:=m0) hu ha hp;rw[List.length_map,hl] at this;exact this
end
end Go.Ab.W
end

section
namespace Go.Ab.W
open Go Go.Ab
set_option maxRecDepth 10000
attribute [local irreducible] Tm.at Trie.set Trie.get AMem.get AMem.set AMem.alloc AMem.ww
section
variable {E : Env} {n : Nat} {m0 : AMem} {fs : Fs} {ps : List Pc} {x y z : Operand} {v : Value} {ty ty2 : TypeId}
end
end Go.Ab.W
end

section
namespace Go.Ab.W
open Go Go.Ab
attribute [local irreducible] Tm.at Trie.set Trie.get AMem.get AMem.set AMem.alloc AMem.ww AMem.kill
section
variable {α : Type}
def NB:List α→Option (α × α × α × α × α × α × α × α)
 | [a,b,c,d,e,f,g,h]=>some (a,b,c,d,e,f,g,h)
 | _=>none
theorem rZ {xs:List α} {a b c d e f g h:α} (hx:NB xs=some (a,b,c,d,e,f,g,h)):xs = [a,b,c,d,e,f,g,h]:=by
 unfold NB at hx
 split at hx
 ·cases hx; rfl
 ·cases hx
end
section
variable {E : Env} {n : Nat} {m0 m : AMem} {fs : Fs} {ps : List Pc} {x y z : Operand} {ty : TypeId}
theorem ak.tq {α:Type} {xs:List α} {f:α→List Value} {k b w l:Nat} {cs:List Value} (hp:pk ps k=some (.obj b (.cells cs .own))) (hx:cs=(xs.map f).flatten) (hl:xs.length=l) (he:Enc f w) (h0:Nat.blt 0 w=true):ak m0 ps (cC ps k (.arr b w l (xs.map f) .own)):=fun m h=>by
 subst hx;exact h.put hp rfl rfl rfl (Nat.le_refl _) h.ext ⟨(h.get hp).1,(h.get hp).2.1,(h.get hp).2.2,by rw[List.length_map]; exact hl,fun e hm=>by obtain⟨x,_,rfl⟩:=List.mem_map.1 hm; exact he.1 x,.inl rfl,by rwa[Nat.blt_eq] at h0⟩ fun _ _ _=>rfl
theorem ak.CF {α:Type} {xs ys:List α} {f:α→List Value} {k b w l:Nat} {cs:List Value} {tg:Tag} (hp:pk ps k=some (.arr b w l (xs.map f) tg)) (hx:xs=ys) (hc:(ys.map f).flatten=cs):ak m0 ps (cC ps k (.obj b (.cells cs tg))):=fun m h=>by
 subst hx hc;exact h.put hp rfl rfl rfl (Nat.le_refl _) h.ext ⟨(h.get hp).1,(h.get hp).2.1,(h.get hp).2.2.1⟩ fun _ _ _=>rfl
theorem ph {el:TypeId} {b len w:Nat} {i:Int} {kd:IntKind} (h:ArT E.P ty el len w) (hx:ev E fs x=some (ptr b 0)) (hy:ev E fs y=some (.int kd i)) (hi:0≤i∧i.toNat<len):Od E m0 fs ps (.indexAddr ty x y) (ptr b (i.toNat*w+0)) ps:=by
 obtain⟨j,rfl⟩:=Int.eq_ofNat_of_zero_le hi.1;have hj:j<len:=by simpa using hi.2
 refine ve hx hy ?_;rw[yQ h (b:=b) (o:=0) hj];simp
end
section
variable {E : Env} {n : Nat} {m0 m : AMem} {fs : Fs} {ps : List Pc}
theorem Hp.nf {m0 m:AMem} {l0:List Pc} {H:Nat→Prop} {a:Option Addr} {cap w l:Nat} {es:List (List Value)} (h:Hp m0 m (l0++[.gen (nY H)])) (ho:(l0.all Pc.IP)=true) (hr:Rd m a cap w l es) (ha:∀b,iE a=some b→¬H b):Hp m0 m (.rd a cap w l es::(l0++[.gen (nY H)])) :=
 ⟨h.ext,fun p hp=>by
  rcases List.mem_cons.1 hp with rfl|hp
  ·exact hr
  ·exact h.ok p hp,List.pairwise_cons.2 ⟨fun q hq=>⟨fun b a=>a.elim (fun a=>by cases a.1) fun a=>a.elim,fun b h1 h2=>by
   rcases List.mem_append.1 hq with hq|hq
   ·exact absurd h1 (Pc.BR (List.all_eq_true.1 ho q hq) b)
   ·rw[List.mem_singleton.1 hq] at h1;rcases h1 with h1|h1
    ·cases h1.1
    ·exact ha b (h2.elim id fun h=>h.elim) h1⟩,h.apart⟩⟩
def nD (l:List Pc):Bool:=l.all Pc.bound
theorem JO {α:Type} {V:α→Value} {N:α→List Pc} {f:Operand} {g:FuncId} {ars:Array Operand} {ts:Array TypeId} {args:List Value} (hf:ev E fs f=some (.func (.func g) #[] #[])) (ha:gW E fs ars.toList=some args) (hc:∀m,Hp m0 m ps→aA E g args m (fun v m'=>∃x,v=V x∧Hp m m' (N x++[.gen (nY (wy ps))]))) (ho:∀x,nD (N x)=true):Ox E m0 fs ps (.call ⟨.value f,ars,ts⟩) V (fun x=>N x++ps) :=
 iR hf ha fun m hm=>by
  simp only[List.nil_append,List.append_nil];exact(hc m hm).mono fun v m' ⟨x,e,h⟩=>⟨x,e,hm.EV h fun p hp=>List.all_eq_true.1 (ho x) p hp⟩
theorem JK {α:Type} {V:α→Value} {N:α→List Pc} {f:Operand} {g:FuncId} {ars:Array Operand} {ts:Array TypeId} {args:List Value} (hf:ev E fs f=some (.func (.func g) #[] #[])) (ha:gW E fs ars.toList=some args) (hc:∀m,Hp m0 m ps→aA E g args m (fun v m'=>∃x,v=V x∧Hp m m' (N x++[.gen (nY (wy ps))]))) (ho:∀x,nD (N x)=true):Oc E m0 fs ps (.call ⟨.value f,ars,ts⟩) V (fun x=>N x++ps) :=
 fun t m hfr hm hwl=>⟨fun b hb=>(by simp[aC] at hb),fun K hK=>by
  show jX E (aj E t f) (aZ E t ars.toList) m _
  rw[hfr.ev hf,hfr.gW ha,sf];refine(hc m hm).mono fun v m' ⟨x,e,h⟩=>?_;rw[e];refine hK x m' (hm.EV h fun p hp=>List.all_eq_true.1 (ho x) p hp) ?_;have:=h.ext.wl;omega⟩
end
section
variable {E : Env} {n : Nat} {m0 : AMem} {fs : Fs} {ps : List Pc} {ops : Array Oper} {os : List Oper} {dr : Bool}
theorem Wo.de {K:Tm→AMem→Prop} {α:Type} {f:α→List Value} {k w l cap:Nat} {a:Option Addr} {xs:List α} (hp:pk ps k=some (.rd a cap w l (xs.map f))) (h:l=xs.length→Wo dr E n ops K os m0 fs ps):Wo dr E n ops K os m0 fs ps:=by
 have key:∀m,Hp m0 m ps→l=xs.length:=fun m hm=>GI hm hp;cases dr with
 | false=>exact fun t m hf hm=>h (key m hm) t m hf hm
 | true=>exact fun t m w hf hm hw=>h (key m hm) t m w hf hm hw
theorem Wn.de {prs:List (Nat × Nat)} {K:Tm→AMem→Prop} {ss:List Nk} {α:Type} {f:α→List Value} {k w l cap:Nat} {a:Option Addr} {xs:List α} (hp:pk ps k=some (.rd a cap w l (xs.map f))) (h:l=xs.length→Wn E n ops prs K os ss m0 fs ps):Wn E n ops prs K os ss m0 fs ps :=
 fun t m ns hf hm hn=>h (GI hm hp) t m ns hf hm hn
end
section
variable {E : Env} {m0 : AMem} {fs : Fs} {ps : List Pc} {ty : TypeId}
theorem Om {α:Type} {f:α→List Value} {elem t0:TypeId} {w k c0 l l1:Nat} {a a0:Option Addr} {xs ys:List α} {ars:Array Operand} (he:Enc f w) (ht:SlT E.P ty elem w) (h3:∃e0,E.P.underlying t0=some (.slice e0)) (ha:gW E fs ars.toList=some [.slice a l l,.slice a0 l1 c0]) (hp:pk ps k=some (.sl a w l (xs.map f))) (hr:∀m,Hp m0 m ps→Rd m a0 c0 w l1 (ys.map f)) (hl:nK (xs++ys).length=true) :
  Ox E m0 fs ps (.call ⟨.builtin .append,ars,#[ty,t0]⟩) (fun a':Option Addr=>.slice a' (xs++ys).length (xs++ys).length) (fun a'=>cC ps k (.sl a' w (xs++ys).length ((xs++ys).map f))):=fun t m hf hm=>⟨fun b hb=>(by simp[aC] at hb),fun K hK=>by
 have h1:l=xs.length:=by
  have:=hm.get hp;rcases this with⟨h0,h1,_⟩|⟨b,tg,_,h1⟩
  ·rw[h0,List.map_eq_nil_iff.1 h1]; rfl
  ·have:=h1.2.2.2.1; rw[List.length_map] at this; exact this.symm
 have h4:l1=ys.length:=by
  have:=(hr m hm).1; rw[List.length_map] at this; exact this.symm
 have e0:l+l1=(xs++ys).length:=by rw[h1,h4,List.length_append]
 obtain⟨a',m',h5,h2⟩:=tT (n:=l) ht h3 hm hp (hr m hm) (he.vp ys) (he.iN ys) (by rw[e0]; exact hl)
 have:aI E.P .append #[ty,t0] [.slice a l l,.slice a0 l1 c0] m=some (.slice a' (l+l1) (l+l1),m'):=h5;rw[Go.Ab.dR (hf.gW ha) this];have e1:xs.map f++ys.map f=(xs++ys).map f:=List.map_append.symm;rw[e1,e0] at h2;rw[e0];exact hK a' m' h2⟩
end
section
theorem nL (c:Value) (cs:List Value) (o:Nat) (vs:List Value):az (c::cs) (o+1) vs=c::az cs o vs:=by cases vs<;>rfl
theorem eF:∀(cs:List Value) (o:Nat),az cs o []=cs
 | [],0=>rfl
 | _::_,0=>rfl
 | [],_+1=>rfl
 | c::cs,o+1=>by rw[nL,eF cs o]
theorem pz {f:Nat→List Value} {v:Nat→Value} (hf:∀x,f x = [v x]):∀{ys xs zs:List Nat},ys++xs.drop ys.length=zs→ys.length≤xs.length→az (xs.map f).flatten 0 (ys.map f).flatten=(zs.map f).flatten
 | [],xs,zs,h,_=>by
  rw[List.nil_append,List.length_nil,List.drop_zero] at h;rw[h];exact eF _ 0
 | y::ys,[],zs,_,hl=>by simp at hl
 | y::ys,x::xs,zs,h,hl=>by
  have ih:=pz hf (ys:=ys) (xs:=xs) (zs:=ys++xs.drop ys.length) rfl (by simpa using hl)
  subst h;simp only[List.map_cons,List.flatten_cons,hf,List.cons_append,List.nil_append,List.length_cons,List.drop_succ_cons] at ih ⊢
  show v y::az _ 0 _=_
  rw[ih]
theorem N9 {f:Nat→List Value} {v:Nat→Value} (hf:∀x,f x = [v x]) {c:Value} {ys xs zs:List Nat} (h:ys++xs.drop ys.length=zs) (hl:ys.length≤xs.length):az (c::(xs.map f).flatten) 1 (ys.map f).flatten=c::(zs.map f).flatten:=by
 rw[show(1:Nat)=0+1 from rfl,nL,pz hf h hl]
variable {E : Env} {m0 : AMem} {fs : Fs} {ps : List Pc} {ty : TypeId}
theorem Nv {f:Nat→List Value} {elem t0:TypeId} {k b o q c0 l1:Nat} {a0:Option Addr} {cs cs':List Value} {ys:List Nat} {ars:Array Operand} (he:Enc f 1) (ht:SlT E.P ty elem 1) (ha:gW E fs ars.toList=some [.slice (some ⟨b,o,none⟩) q q,.slice a0 l1 c0]) (hp:pk ps k=some (.obj b (.cells cs .own))) (hr:∀m,Hp m0 m ps→Rd m a0 c0 1 l1 (ys.map f)) (hq:decide (ys.length≤q)=true) (ho:Nat.ble (o+q) cs.length=true) (hs:az cs o (ys.map f).flatten=cs') :
  Od E m0 fs ps (.call ⟨.builtin .copy,ars,#[ty,t0]⟩) (.int .i64 (ys.length:Int)) (cC ps k (.obj b (.cells cs' .own))):=fun t m hf hm=>⟨fun b hb=>(by simp[aC] at hb),fun K hK=>by
 have h1:l1=ys.length:=by
  have:=(hr m hm).1; rw[List.length_map] at this; exact this.symm
 have hq':=of_decide_eq_true hq;have ho':=Nat.le_of_ble_eq_true ho;have hc:=(hr m hm).cells;have hmin:min l1 q=l1:=by omega
 have hone:aV (ys.map f).flatten=true:=by
  unfold aV;rw[List.all_eq_true];intro x hx;obtain⟨e,h4,h5⟩:=List.mem_flatten.1 hx;exact List.all_eq_true.1 (he.iN ys e h4) x h5
 have hlen:(ys.map f).flatten.length=ys.length:=by
  clear hs hr hq hK h1 hq' hc hone
  induction ys with
  | nil=>rfl
  | cons x l ih=>rw[List.map_cons,List.flatten_cons,List.length_append,ih,he.1 x,List.length_cons]; omega
 have hg:=(hm.get hp).2.2;have hsrc:cJ (an E.P elem) (.slice a0 l1 c0) (min l1 q) m=some (ys.map f).flatten:=by rw[ht.size,hmin]; exact hc
 cases hy:ys with
 | nil =>
  subst hy;have e0:cs'=cs:=by rw[←hs]; exact eF cs o
  have h2:min l1 q=0:=by rw[hmin,h1]; rfl
  have:aI E.P .copy #[ty,t0] [.slice (some ⟨b,o,none⟩) q q,.slice a0 l1 c0] m=some (.int .i64 0,m):=by
   show sj E.P ty _ _ m=_
   unfold sj;rw[h2] at hsrc;simp only[ht.und,ht.known,Bool.not_true,Bool.false_eq_true,if_false,h2,hsrc,hone]
  rw[Go.Ab.dR (hf.gW ha) this];exact hK m (by rw[e0]; exact hm.put hp rfl rfl rfl (Nat.le_refl _) hm.ext (hm.get hp) fun _ _ _=>rfl)
 | cons y y2 =>
  have h3:min l1 q=y2.length+1:=by rw[hmin,h1,hy]; rfl
  have hst:m.cR b o (ys.map f).flatten=some (m.set b (.cells cs' .own)):=by
   have hne:(ys.map f).flatten≠[]:=fun e=>by rw[e,hy] at hlen; cases hlen
   unfold AMem.cR
   split
   ·rename_i e; exact absurd e hne
   ·rw[hg];simp only[hlen];rw[if_pos (by omega),hs]
  have:aI E.P .copy #[ty,t0] [.slice (some ⟨b,o,none⟩) q q,.slice a0 l1 c0] m=some (.int .i64 (ys.length:Int),m.set b (.cells cs' .own)):=by
   show sj E.P ty _ _ m=_
   unfold sj;rw[h3] at hsrc;simp only[ht.und,ht.known,Bool.not_true,Bool.false_eq_true,if_false,h3,hsrc,hone,hst,Option.map_some];rw[hy]; rfl
  rw[Go.Ab.dR (hf.gW ha) this];have hw:Hp m0 (m.set b (.cells cs' .own)) (cC ps k (.obj b (.cells cs' .own))):=hm.write (o':=.cells cs' .own) (p':=.obj b (.cells cs' .own)) hp rfl rfl rfl rfl ⟨(hm.get hp).1,by rw[AMem.next_set]; exact(hm.get hp).2.1,by rw[AMem.bz,if_pos rfl]⟩
  exact hK _ hw⟩
end
end Go.Ab.W
end

section
namespace Go.Ab.W
open Go Go.Ab
section
variable {α : Type}
def Hz (m:AMem) (R:Nat→Prop) (w:Nat) (f:α→List Value) (cs:List Value) (L:List (List α)):Prop :=
 cs.length=L.length∧∀(i:Nat) (l:List α),L[i]? = some l→∃a c,cs[i]? = some (.slice a l.length c)∧Rd m a c w l.length (l.map f)∧∀b,iE a=some b→R b
theorem Hz.dJ {m m':AMem} {R:Nat→Prop} {w:Nat} {f:α→List Value} {cs:List Value} {L:List (List α)} (h:Hz m R w f cs L) (hn:m.next≤m'.next) (hg:∀b,R b→b<m.next→m'.get b=m.get b):Hz m' R w f cs L :=
 ⟨h.1,fun i l hi=>by
  obtain⟨a,c,h1,h2,h3⟩:=h.2 i l hi;exact⟨a,c,h1,h2.dJ hn fun b hb hlt=>hg b (h3 b hb) hlt,h3⟩⟩
end
section
variable {α : Type} {E : Env} {m0 m : AMem} {fs : Fs} {ps : List Pc} {f : α → List Value} {w : Nat}
variable {x : Operand} {ty : TypeId}
theorem Bp {k n cap:Nat} {a:Option Addr} {ars:Array Operand} {p:Pc} {elem:TypeId} (hu:E.P.underlying ty=some (.slice elem)) (ha:gW E fs ars.toList=some [.slice a n cap]) (hp:pk ps k=some p) (hb:∀b,iE a=some b→p.any b) :
  Od E m0 fs ps (.call ⟨.builtin .len,ars,#[ty]⟩) (.int .i64 (n:Int)) ps :=
 fun t m hf h=>⟨fun b hb'=>by
  simp only[aC,hf.gW ha] at hb';have hab:ep (.slice a n cap)=iE a:=by cases a<;>rfl
  rw[hab] at hb';exact Pc.iS (h.get hp) (hb b hb'),fun K hK=>by
  have:aI E.P .len #[ty] [.slice a n cap] m=some (.int .i64 (n:Int),m):=by
   have ht:(#[ty]:Array TypeId)[0]? = some ty:=rfl;simp only[aI,ht,Option.bind_some,hu]
  rw[Go.Ab.dR (hf.gW ha) this]; exact hK m h⟩
variable {N : Nat} {ops : Array Oper} {os : List Oper} {dr : Bool}
end
end Go.Ab.W
end

section
namespace Go.Ab.W
open Go Go.Ab
attribute [local irreducible] Tm.at Trie.set Trie.get AMem.get AMem.set AMem.alloc AMem.ww AMem.kill
section
variable {α : Type} {E : Env} {m0 m : AMem} {fs : Fs} {ps : List Pc} {f : α → List Value} {w : Nat} {ty : TypeId}
theorem Hz.one {R:Nat→Prop} {cs:List Value} {L:List (List α)} (h:Hz m R w f cs L):iN (cs.map fun c=>[c]):=fun e he=>by
 obtain⟨c,hc,rfl⟩:=List.mem_map.1 he;obtain⟨i,hi,rfl⟩:=List.mem_iff_getElem.1 hc;obtain⟨a,cap,h1,_⟩:=h.2 i (L[i]'(by rw[←h.1]; exact hi)) (by simp)
 rw[List.getElem?_eq_getElem hi] at h1;rw[Option.some.inj h1]; rfl
end
section
variable {α : Type} {E : Env} {n : Nat} {m0 m : AMem} {fs : Fs} {ps : List Pc} {f : α → List Value} {w : Nat} {ops : Array Oper} {os : List Oper} {prs : List (Nat × Nat)} {K : Tm → AMem → Prop} {ss : List Nk}
end
def Cf (m:AMem) (RW:Nat→Prop) (rb:Nat) (row:List (Bool × List Nat)):Prop :=
 rb<m.next∧∃vs,m.get rb=some (.cells vs .own)∧vs.length=row.length*2∧∀(j:Nat) (x:Bool × List Nat),row[j]? = some x→vs[j*2]? = some (.bool x.1)∧∃a c,vs[j*2+1]? = some (.slice a x.2.length c)∧Rd m a c 1 x.2.length (x.2.map (eN .u64))∧∀b,iE a=some b→RW b
theorem Cf.dJ {m m':AMem} {RW RW':Nat→Prop} {rb:Nat} {row:List (Bool × List Nat)} (h:Cf m RW rb row) (hn:m.next≤m'.next) (hg:∀b,(b=rb∨RW b)→b<m.next→m'.get b=m.get b) (hs:∀b,RW b→RW' b):Cf m' RW' rb row:=by
 obtain⟨h1,vs,h2,h3,h4⟩:=h;refine⟨Nat.lt_of_lt_of_le h1 hn,vs,by rw[hg rb (.inl rfl) h1]; exact h2,h3,fun j x hx=>?_⟩
 obtain⟨g1,a,c,g2,g3,g4⟩:=h4 j x hx;exact⟨g1,a,c,g2,g3.dJ hn fun b hb hlt=>hg b (.inr (g4 b hb)) hlt,fun b hb=>hs b (g4 b hb)⟩
def vU (ρ:Nat→Nat) (L:List (List (Bool × List Nat))) (x:Nat):Prop:=∃i row,L[i]? = some row∧row≠[]∧x=ρ i
structure MatAt (m:AMem) (b n:Nat) (ρ:Nat→Nat) (RW:Nat→Prop) (L:List (List (Bool × List Nat))):Prop where
 lt:b<m.next
 len:n=L.length
 cells:∃cs,m.get b=some (.cells cs .own)∧cs.length=n∧∀(i:Nat) (row:List (Bool × List Nat)),L[i]? = some row→(row = []∧cs[i]? = some (.slice none 0 0))∨(row≠[]∧cs[i]? = some (.slice (some ⟨ρ i,0,none⟩) row.length row.length))
 rows:∀(i:Nat) (row:List (Bool × List Nat)),L[i]? = some row→row≠[]→Cf m RW (ρ i) row
 rw:∀x,RW x→x<m.next∧x≠b∧¬vU ρ L x
 out:∀(i:Nat) (row:List (Bool × List Nat)),L[i]? = some row→row≠[]→ρ i≠b
 inj:∀(i j:Nat) (row row':List (Bool × List Nat)),L[i]? = some row→L[j]? = some row'→row≠[]→row'≠[]→ρ i=ρ j→i=j
def mT (b n:Nat) (ρ:Nat→Nat) (RW:Nat→Prop) (L:List (List (Bool × List Nat))):GPc where
 ow x:=x=b∨vU ρ L x
 rd x:=RW x
 P m:=MatAt m b n ρ RW L
 st m m' h hn hg:=by
  refine⟨Nat.lt_of_lt_of_le h.lt hn,h.len,?_,fun i row hi hne=>(h.rows i row hi hne).dJ hn (fun x hx hlt=>?_) fun _ h=>h,fun x hx=>⟨Nat.lt_of_lt_of_le (h.rw x hx).1 hn,(h.rw x hx).2⟩,h.out,h.inj⟩
  ·obtain⟨cs,h1,h2⟩:=h.cells;exact⟨cs,by rw[hg b (.inl (.inl rfl)) h.lt]; exact h1,h2⟩
  ·rcases hx with rfl|hx
   ·exact hg _ (.inl (.inr ⟨i,row,hi,hne,rfl⟩)) hlt
   ·exact hg _ (.inr hx) hlt
 lt m x h hx:=by
  rcases hx with(rfl|⟨i,row,h1,h2,rfl⟩) | hx
  ·exact h.lt
  ·exact(h.rows i row h1 h2).1
  ·exact(h.rw x hx).1
theorem qb {b n:Nat} {ρ:Nat→Nat} {RW:Nat→Prop} {L:List (List (Bool × List Nat))}:∀x,iE (some ⟨b,0,none⟩)=some x→Pc.any (.gen (mT b n ρ RW L)) x:=fun x h=>by cases h; exact .inr (.inl (.inl rfl))
section
variable {E : Env} {m0 m : AMem} {fs : Fs} {ps : List Pc} {x y : Operand} {ty : TypeId} {b n : Nat} {ρ : Nat → Nat} {RW : Nat → Prop} {L : List (List (Bool × List Nat))}
theorem om (v:Value):∀n:Nat,(List.replicate n [v]).flatten=List.replicate n v
 | 0=>rfl
 | n+1=>by rw[List.replicate_succ,List.flatten_cons,om v n,List.replicate_succ]; rfl
theorem ak.N4:ak m0 (.arr b 1 n (List.replicate n [.slice none 0 0]) .own::ps) (.gen (mT b n (fun _=>0) (fun _=>False) (List.replicate n []))::ps):=fun m h=>by
 have h0:zq m0.next m b 1 n (List.replicate n [.slice none 0 0]) .own:=h.ok _ (List.mem_cons_self ..)
 have hno:∀x,¬vU (fun _=>0) (List.replicate n []) x:=fun x ⟨i,row,h1,h2,_⟩=>h2 (List.eq_of_mem_replicate (List.mem_of_getElem? h1));have ha:=List.pairwise_cons.1 h.apart;refine⟨h.ext,fun p hp=>?_,List.pairwise_cons.2 ⟨fun r hr=>⟨fun z h1 h2=>?_,fun z h1 h2=>?_⟩,ha.2⟩⟩
 ·rcases List.mem_cons.1 hp with rfl|hp
  ·refine⟨⟨h0.2.1,by simp,⟨_,h0.2.2.1,by rw[om]; simp,fun i row hi=>.inl ⟨List.eq_of_mem_replicate (List.mem_of_getElem? hi),?_⟩⟩,fun i row hi hne=>absurd (List.eq_of_mem_replicate (List.mem_of_getElem? hi)) hne,fun x hx=>hx.elim,fun i row hi hne=>absurd (List.eq_of_mem_replicate (List.mem_of_getElem? hi)) hne,fun i j row row' hi _ hne=>absurd (List.eq_of_mem_replicate (List.mem_of_getElem? hi)) hne⟩,fun _ z hz=>?_⟩
   ·have hlt:=(List.getElem?_eq_some_iff.1 hi).1;rw[om,List.getElem?_replicate,if_pos (by simpa using hlt)]
   ·rcases hz with rfl|hz
    ·exact h0.1
    ·exact absurd hz (hno z)
  ·exact h.ok p (List.mem_cons_of_mem _ hp)
 ·rcases h1 with h1|h1
  ·cases h1.1
  ·rcases h1 with rfl|h1
   ·exact(ha.1 r hr).1 _ (.inl ⟨rfl,rfl⟩) h2
   ·exact absurd h1 (hno z)
 ·rcases h2 with h2|h2
  ·cases h2
  ·rcases h2 with(rfl|h2) | h2
   ·exact(ha.1 r hr).2 _ h1 (.inl rfl)
   ·exact absurd h2 (hno z)
   ·exact h2.elim
theorem BS (l:Nat):∀j,j<l→(List.replicate l [Value.bool false,.slice none 0 0]).flatten[j*2]? = some (.bool false)∧(List.replicate l [Value.bool false,.slice none 0 0]).flatten[j*2+1]? = some (.slice none 0 0):=by
 induction l with
 | zero=>intro j h; cases h
 | succ l ih =>
  intro j hj;rw[List.replicate_succ,List.flatten_cons];cases j with
  | zero=>exact⟨rfl,rfl⟩
  | succ j =>
   have:=ih j (by omega)
   refine⟨?_,?_⟩
   ·rw[show(j+1)*2=j*2+2 by omega]; exact this.1
   ·rw[show(j+1)*2+1=(j*2+1)+2 by omega]; exact this.2
theorem Fc (l:Nat):(List.replicate l [Value.bool false,.slice none 0 0]).flatten.length=l*2:=by
 induction l with
 | zero=>rfl
 | succ l ih=>rw[List.replicate_succ,List.flatten_cons,List.length_append,ih]; simp only[List.length_cons,List.length_nil]; omega
theorem at_set {α:Type} {l:List α} {i j:Nat} {v x:α} (h:(l.set i v)[j]? = some x):(i=j∧x=v∧j<l.length)∨(i≠j∧l[j]? = some x):=by
 rw[List.getElem?_set] at h
 by_cases e:i=j
 ·rw[if_pos e] at h
  split at h
  ·exact .inl ⟨e,(Option.some.inj h).symm,by omega⟩
  ·cases h
 ·rw[if_neg e] at h; exact .inr ⟨e,h⟩
theorem I1 {k l i off rb:Nat} {r0:List (Bool × List Nat)} (ht:TyI E.P ty false 1) (hx:ev E fs x=some (ptr b off)) (ho:off=i) (hy:ev E fs y=some (.slice (some ⟨rb,0,none⟩) l l)) (hp:pk ps k=some (.gen (mT b n ρ RW L))) (he:L[i]? = some r0) (hl:0<l) :
  Od E m0 fs (.arr rb 2 l (List.replicate l [.bool false,.slice none 0 0]) .own::ps) (.store ty x y) undef (cC ps k (.gen (mT b n (fun j=>if j=i then rb else ρ j) RW (L.set i (List.replicate l (false,[])))))):=fun t m hf h=>⟨fun b' hb'=>(by simp[aC] at hb'),fun K hK=>by
 subst ho;have hk:=h.get (k:=k+1) hp;have hP:MatAt m b n ρ RW L:=hk.1;have h0:zq m0.next m rb 2 l (List.replicate l [.bool false,.slice none 0 0]) .own:=h.ok _ (List.mem_cons_self ..)
 have ha:=(List.pairwise_cons.1 h.apart).1;have hak:=ha _ (jT hp);have hi:off<L.length:=(List.getElem?_eq_some_iff.1 he).1;obtain⟨cs,c1,c0,c2⟩:=hP.cells;have hst:dj E.P ty (ptr b off) (.slice (some ⟨rb,0,none⟩) l l) m=some (m.set b (.cells (cs.set off (.slice (some ⟨rb,0,none⟩) l l)) .own)):=GB ht.known ht.size rfl c1 (by rw[c0,hP.len]; exact hi)
 have e:=Go.Ab.uI (t:=t) (E:=E) (hf.ev hx) (hf.ev hy) hst K;rw[e];have hrbb:rb≠b:=fun e=>hak.1 rb (.inl ⟨rfl,rfl⟩) (.inr (.inl (.inl e)));have hrbm:¬vU ρ L rb:=fun g=>hak.1 rb (.inl ⟨rfl,rfl⟩) (.inr (.inl (.inr g)));have hrbw:¬RW rb:=fun g=>hak.1 rb (.inl ⟨rfl,rfl⟩) (.inr (.inr g));have hget:∀z,z≠b→(m.set b (.cells (cs.set off (.slice (some ⟨rb,0,none⟩) l l)) .own)).get z=m.get z:=fun z hz=>by rw[AMem.bz,if_neg hz]
 have hnext:(m.set b (.cells (cs.set off (.slice (some ⟨rb,0,none⟩) l l)) .own)).next=m.next:=AMem.next_set ..
 have hne:(List.replicate l ((false,[]):Bool × List Nat))≠[]:=by
  intro e;have:=congrArg List.length e;simp at this; omega
 have hmr:∀z,vU (fun j=>if j=off then rb else ρ j) (L.set off (List.replicate l (false,[]))) z→z=rb∨vU ρ L z:=fun z ⟨j,row,g1,g0,g3⟩=>by
  rcases at_set g1 with⟨e0,_,_⟩|⟨e0,g2⟩
  ·simp only[if_pos e0.symm] at g3; exact .inl g3
  ·simp only[if_neg (fun e:j=off=>e0 e.symm)] at g3; exact .inr ⟨j,row,g2,g0,g3⟩
 refine hK _ ⟨h.ext.set (Pc.np hk rfl (.inr (.inl rfl))) _,fun p hpm=>?_,eV hp (fun r hr hap=>⟨fun z g1 g0=>?_,fun z g1 g0=>?_⟩) (List.pairwise_cons.1 h.apart).2⟩
 ·rcases nG hp (List.pairwise_cons.1 h.apart).2 hpm with rfl|⟨hpm,hap⟩
  ·refine⟨⟨by rw[hnext]; exact hP.lt,by rw[List.length_set]; exact hP.len,⟨_,by rw[AMem.bz,if_pos rfl],by rw[List.length_set]; exact c0,fun j row hj=>?_⟩,fun j row hj hne'=>?_,fun z hz=>⟨by rw[hnext]; exact(hP.rw z hz).1,(hP.rw z hz).2.1,fun g=>?_⟩,fun j row hj hne'=>?_,fun j j' row row' hj hj' h1 h2 heq=>?_⟩,fun _ z hz=>?_⟩
   ·rcases at_set hj with⟨e0,rfl,_⟩|⟨e0,g2⟩
    ·subst e0;refine .inr ⟨hne,?_⟩;rw[List.getElem?_set_self (by rw[c0,hP.len]; exact hi)]
     simp
    ·rw[List.getElem?_set_ne e0];simp only[if_neg (fun e:j=off=>e0 e.symm)];exact c2 j row g2
   ·rcases at_set hj with⟨e0,rfl,_⟩|⟨e0,g2⟩
    ·subst e0;simp only[if_true];refine⟨by rw[hnext]; exact h0.2.1,_,by rw[hget rb hrbb]; exact h0.2.2.1,by rw[Fc]; simp,fun j x hx=>?_⟩
     have hjl:j<l:=by have:=(List.getElem?_eq_some_iff.1 hx).1; simpa using this
     have hx':x=(false,[]):=List.eq_of_mem_replicate (List.mem_of_getElem? hx);subst hx';exact⟨(BS l j hjl).1,none,0,(BS l j hjl).2,Rd.nil _ _,fun _ h=>by cases h⟩
    ·simp only[if_neg (fun e:j=off=>e0 e.symm)];exact(hP.rows j row g2 hne').dJ (by rw[hnext]; exact Nat.le_refl _) (fun z hz _=>hget z (fun e=>by
      rcases hz with hz|hz
      ·exact hP.out j row g2 hne' (by rw[←hz]; exact e)
      ·exact(hP.rw z hz).2.1 e)) fun _ h=>h
   ·rcases hmr z g with rfl|g
    ·exact hrbw hz
    ·exact(hP.rw z hz).2.2 g
   ·rcases at_set hj with⟨e0,_,_⟩|⟨e0,g2⟩
    ·simp only[if_pos e0.symm]; exact hrbb
    ·simp only[if_neg (fun e:j=off=>e0 e.symm)]; exact hP.out j row g2 hne'
   ·rcases at_set hj with⟨e0,_,_⟩|⟨e0,g2⟩<;>rcases at_set hj' with⟨e1,_,_⟩|⟨e1,g4⟩
    ·exact e0.symm.trans e1
    ·simp only[if_pos e0.symm,if_neg (fun e:j'=off=>e1 e.symm)] at heq;exact absurd ⟨j',row',g4,h2,heq⟩ hrbm
    ·simp only[if_neg (fun e:j=off=>e0 e.symm),if_pos e1.symm] at heq;exact absurd ⟨j,row,g2,h1,heq.symm⟩ hrbm
    ·simp only[if_neg (fun e:j=off=>e0 e.symm),if_neg (fun e:j'=off=>e1 e.symm)] at heq;exact hP.inj j j' row row' g2 g4 h1 h2 heq
   ·rcases hz with rfl|hz
    ·exact Pc.np hk rfl (.inr (.inl rfl))
    ·rcases hmr z hz with rfl|hz
     ·exact h0.1
     ·exact Pc.np hk rfl (.inr (.inr hz))
  ·exact Pc.fh (h.ok p (List.mem_cons_of_mem _ hpm)) (by rw[hnext]; exact Nat.le_refl _) fun z hz _=>hget z fun e=>hap.2 z (.inr (.inl e)) hz
 ·rcases g1 with g1|g1
  ·cases g1.1
  ·rcases g1 with rfl|g1
   ·exact hap.1 _ (.inr (.inl rfl)) g0
   ·rcases hmr z g1 with rfl|g1
    ·exact(ha r hr).1 _ (.inl ⟨rfl,rfl⟩) g0
    ·exact hap.1 _ (.inr (.inr g1)) g0
 ·rcases g0 with g0|g0
  ·cases g0
  ·rcases g0 with(rfl|g0) | g0
   ·exact hap.2 _ g1 (.inr (.inl (.inl rfl)))
   ·rcases hmr z g0 with rfl|g0
    ·exact(ha r hr).2 _ g1 (.inl rfl)
    ·exact hap.2 _ g1 (.inr (.inl (.inr g0)))
   ·exact hap.2 _ g1 (.inr (.inr g0))⟩
theorem dw {k i off:Nat} {row:List (Bool × List Nat)} (ht:TyI E.P ty false 1) (hx:ev E fs x=some (ptr b off)) (ho:off=i) (hp:pk ps k=some (.gen (mT b n ρ RW L))) (he:L[i]? = some row) (hl:0<row.length) :
  Ox E m0 fs ps (.load ty x) (fun r:{ rb:Nat // ρ i=rb}=>.slice (some ⟨r.1,0,none⟩) row.length row.length) (fun _=>ps):=fun t m hf h=>by
 subst ho;have hP:MatAt m b n ρ RW L:=(h.get hp).1;obtain⟨cs,c1,c2,c3⟩:=hP.cells;have hne:row≠[]:=fun e=>by rw[e] at hl; cases hl
 have hc:cs[off]? = some (.slice (some ⟨ρ off,0,none⟩) row.length row.length):=((c3 off row he).resolve_left fun g=>hne g.1).2;refine⟨fun b' hb'=>?_,fun K hK=>?_⟩
 ·have hx':aj E t x=some (ptr b off):=hf.ev hx;simp only[aC,hx',Option.bind_some] at hb';cases hb'; exact hP.lt
 ·rw[Go.Ab.uC (hf.ev hx) (uZ ht.known ht.agg c1 hc)];exact hK ⟨ρ off,rfl⟩ m h
theorem iK {k i j off rb:Nat} {row:List (Bool × List Nat)} {e:Bool} {w:List Nat} (ht:TyI E.P ty true 2) (hx:ev E fs x=some (ptr rb off)) (ho:off=j*2+0) (hp:pk ps k=some (.gen (mT b n ρ RW L))) (he:L[i]? = some row) (hrb:ρ i=rb) (hj:row[j]? = some (e,w)) :
  Ox E m0 fs ps (.load ty x) (fun r:Option Addr × Nat=>.agg #[.bool e,.slice r.1 w.length r.2]) (fun r=>.rd r.1 r.2 1 w.length (w.map (eN .u64))::ps):=fun t m hf h=>by
 subst ho hrb;have hk:=h.get hp;have hP:MatAt m b n ρ RW L:=hk.1;have hne:row≠[]:=fun e=>by rw[e] at hj; simp at hj
 obtain⟨h1,vs,h2,h3,h4⟩:=hP.rows i row he hne;obtain⟨g1,a,c,g2,g3,g4⟩:=h4 j (e,w) hj;refine⟨fun b' hb'=>?_,fun K hK=>?_⟩
 ·have hx':aj E t x=some (ptr (ρ i) (j*2+0)):=hf.ev hx;simp only[aC,hx',Option.bind_some] at hb';cases hb'; exact h1
 ·have htk:(vs.drop (j*2+0)).take 2 = [.bool e,.slice a w.length c]:=by
   refine List.ext_getElem? fun i=>?_;rw[List.getElem?_take];rcases i with _|_|i
   ·rw[if_pos (by decide),List.getElem?_drop]; exact g1
   ·rw[if_pos (by decide),List.getElem?_drop]; exact g2
   ·rw[if_neg (by omega)]; rfl
  have hld:cO E.P ty (ptr (ρ i) (j*2+0)) m=some (.agg #[.bool e,.slice a w.length c]):=BF ht.known ht.agg ht.size h2 htk rfl;rw[Go.Ab.uC (hf.ev hx) hld];refine hK (a,c) m ⟨h.ext,fun p hpm=>?_,List.pairwise_cons.2 ⟨fun r hr=>⟨fun z a1 _=>?_,fun z a1 a2=>?_⟩,h.apart⟩⟩
  ·rcases List.mem_cons.1 hpm with rfl|hpm
   ·exact g3
   ·exact h.ok p hpm
  ·exact a1.elim (fun a1=>by cases a1.1) fun a1=>a1.elim
  ·have hz:RW z:=g4 z (a2.elim id fun a2=>a2.elim);obtain⟨k',hk'⟩:=oz hr
   by_cases hkk:k=k'
   ·subst hkk;rw[hp] at hk';cases hk';rcases a1 with a1|a1
    ·cases a1.1
    ·exact a1.elim (hP.rw z hz).2.1 (hP.rw z hz).2.2
   ·exact(gL h.apart hp hk' hkk).2 z a1 (.inr (.inr hz))
theorem qG {k k2 i j off rb c:Nat} {row:List (Bool × List Nat)} {e:Bool} {a:Option Addr} {w:List Nat} {p1:Pc} (ht:TyI E.P ty true 2) (hx:ev E fs x=some (ptr rb off)) (ho:off=j*2+0) (hy:ev E fs y=some (.agg #[.bool e,.slice a w.length c])) (hp:pk ps k=some (.gen (mT b n ρ RW L))) (he:L[i]? = some row) (hrb:ρ i=rb) (hj:Nat.blt j row.length=true) (hw:(pk ps k2=some p1∧p1 = .rd a c 1 w.length (w.map (eN .u64)))∨(a=none∧w = [])) :
  Od E m0 fs ps (.store ty x y) undef (cC ps k (.gen (mT b n ρ (fun z=>RW z∨iE a=some z) (L.set i (row.set j (e,w)))))):=fun t m hf h=>⟨fun b' hb'=>(by simp[aC] at hb'),fun K hK=>by
 subst ho hrb;have hj:j<row.length:=by rwa[Nat.blt_eq] at hj
 have hk:=h.get hp;have hP:MatAt m b n ρ RW L:=hk.1;have hne:row≠[]:=fun e=>by rw[e] at hj; cases hj
 have hrd:∃c',Rd m a c' 1 w.length (w.map (eN .u64))∧(a≠none→c'=c):=by
  rcases hw with⟨hw,rfl⟩|⟨rfl,rfl⟩
  ·exact⟨c,h.get hw,fun _=>rfl⟩
  ·exact⟨0,Rd.nil _ _,fun g=>absurd rfl g⟩
 have haw:∀z,iE a=some z→z<m.next∧¬Pc.ow (.gen (mT b n ρ RW L)) z∧∀r ∈ ps,¬r.ow z:=by
  rcases hw with⟨hw,rfl⟩|⟨rfl,_⟩
  ·intro z hz;have hno:∀r ∈ ps,¬r.ow z:=fun r hr g=>by
    obtain⟨k',hk'⟩:=oz hr
    by_cases hkk:k2=k'
    ·subst hkk; rw[hw] at hk'; cases hk';exact g.elim (fun g=>by cases g.1) fun g=>g.elim
    ·exact(gL h.apart hw hk' hkk).2 z g (.inl hz)
   exact⟨Rd.lt (h.get hw) hz,hno _ (jT hp),hno⟩
  ·intro z hz; cases hz
 obtain⟨h1,vs,h2,h3,h4⟩:=hP.rows i row he hne;have hcs:(Value.agg #[.bool e,.slice a w.length c]).cells=#[.bool e,.slice a w.length c]:=rfl;have hst:dj E.P ty (ptr (ρ i) (j*2+0)) (.agg #[.bool e,.slice a w.length c]) m=some (m.set (ρ i) (.cells (az vs (j*2+0) [.bool e,.slice a w.length c]) .own)):=yW ht.known (by rw[ht.size]; rfl) rfl (by rw[hcs]; simp) h2 (by rw[hcs]; simp only[List.length_cons,List.length_nil]; omega)
 have e2:=Go.Ab.uI (t:=t) (E:=E) (hf.ev hx) (hf.ev hy) hst K;rw[e2];have hnext:(m.set (ρ i) (.cells (az vs (j*2+0) [.bool e,.slice a w.length c]) .own)).next=m.next:=AMem.next_set ..
 have hget:∀z,z≠ρ i→(m.set (ρ i) (.cells (az vs (j*2+0) [.bool e,.slice a w.length c]) .own)).get z=m.get z:=fun z hz=>by rw[AMem.bz,if_neg hz]
 have hself:vU ρ L (ρ i):=⟨i,row,he,hne,rfl⟩;have hmr:∀z,vU ρ (L.set i (row.set j (e,w))) z↔vU ρ L z:=fun z=>by
  constructor
  ·rintro⟨q,r,q2,q3,q1⟩;rcases at_set q2 with⟨e0,_,_⟩|⟨e0,q0⟩
   ·subst e0; rw[q1]; exact hself
   ·exact⟨q,r,q0,q3,q1⟩
  ·rintro⟨q,r,q2,q3,q1⟩
   by_cases e0:i=q
   ·subst e0;refine⟨i,row.set j (e,w),by rw[List.getElem?_set_self (List.getElem?_eq_some_iff.1 he).1],fun g=>?_,q1⟩
    have:=congrArg List.length g;rw[List.length_set] at this;simp at this;exact hne this
   ·exact⟨q,r,by rw[List.getElem?_set_ne e0]; exact q2,q3,q1⟩
 have h5:row.set j (e,w)≠[]:=fun g=>by
  have:=congrArg List.length g;rw[List.length_set] at this;simp at this;exact hne this
 have hap:∀z,iE a=some z→z≠ρ i:=fun z hz g=>(haw z hz).2.1 (.inr (.inr (g ▸ hself)));refine hK _ ⟨h.ext.set (Pc.np hk rfl (.inr (.inr hself))) _,fun p hpm=>?_,eV hp (fun r hr hapr=>⟨fun z g1 g0=>?_,fun z g1 g0=>?_⟩) h.apart⟩
 ·rcases nG hp h.apart hpm with rfl|⟨hpm,h6⟩
  ·refine⟨⟨by rw[hnext]; exact hP.lt,by rw[List.length_set]; exact hP.len,?_,fun q r hq hr=>?_,fun z hz=>?_,fun q r hq hr=>?_,fun q q' r r' hq hq' hr hr' heq=>?_⟩,fun _ z hz=>?_⟩
   ·obtain⟨cs,c1,c2,c0⟩:=hP.cells;refine⟨cs,by rw[hget b fun g=>hP.out i row he hne g.symm]; exact c1,c2,fun q r hq=>?_⟩
    rcases at_set hq with⟨e0,rfl,_⟩|⟨e0,q0⟩
    ·subst e0;exact .inr ⟨h5,by rw[List.length_set]; exact((c0 i row he).resolve_left fun g=>hne g.1).2⟩
    ·exact c0 q r q0
   ·rcases at_set hq with⟨e0,rfl,_⟩|⟨e0,q0⟩
    ·subst e0;refine⟨by rw[hnext]; exact h1,_,by rw[AMem.bz,if_pos rfl],by rw[cj,h3,List.length_set],fun q v hv=>?_⟩
     rcases at_set hv with⟨e1,rfl,q4⟩|⟨e1,q4⟩
     ·subst e1;obtain⟨c',r1,r2⟩:=hrd;refine⟨by rw[bp,if_pos ⟨by omega,by simp only[List.length_cons,List.length_nil]; omega,by omega⟩]; simp,a,c,by rw[bp,if_pos ⟨by omega,by simp only[List.length_cons,List.length_nil]; omega,by omega⟩]; simp,?_,fun z hz=>.inr hz⟩
      have r0:Rd (m.set (ρ i) (.cells (az vs (j*2+0) [.bool e,.slice a w.length c]) .own)) a c' 1 w.length (w.map (eN .u64)):=r1.dJ (by rw[hnext]; exact Nat.le_refl _) fun z hz _=>hget z (hap z hz)
      cases a with
      | none =>
       have r3:w.length=0:=by
        rcases r0.2.2 with⟨_,g⟩|⟨_,_,g,_⟩|⟨_,_,g,_⟩
        ·exact g
        ·cases g
        ·cases g
       exact⟨r0.1,by show w.length≤c; omega,.inl ⟨rfl,r3⟩⟩
      | some ad=>rw[r2 (by simp)] at r0; exact r0
     ·obtain⟨s0,a',c',s1,s3,s2⟩:=h4 q v q4;refine⟨by rw[bp,if_neg (by simp only[List.length_cons,List.length_nil]; omega)]; exact s0,a',c',by rw[bp,if_neg (by simp only[List.length_cons,List.length_nil]; omega)]; exact s1,s3.dJ (by rw[hnext]; exact Nat.le_refl _) (fun z hz _=>hget z fun g=>(hP.rw z (s2 z hz)).2.2 (g ▸ hself)),fun z hz=>.inl (s2 z hz)⟩
    ·refine(hP.rows q r q0 hr).dJ (by rw[hnext]; exact Nat.le_refl _) (fun z hz _=>hget z fun g=>?_) fun z hz=>.inl hz
     rcases hz with rfl|hz
     ·exact e0 (hP.inj q i r row q0 he hr hne g).symm
     ·exact(hP.rw z hz).2.2 (g ▸ hself)
   ·rcases hz with hz|hz
    ·exact⟨by rw[hnext]; exact(hP.rw z hz).1,(hP.rw z hz).2.1,fun g=>(hP.rw z hz).2.2 ((hmr z).1 g)⟩
    ·exact⟨by rw[hnext]; exact(haw z hz).1,fun g=>(haw z hz).2.1 (.inr (.inl g)),fun g=>(haw z hz).2.1 (.inr (.inr ((hmr z).1 g)))⟩
   ·rcases at_set hq with⟨e0,_,_⟩|⟨e0,q0⟩
    ·subst e0; exact hP.out i row he hne
    ·exact hP.out q r q0 hr
   ·have fix:∀q r,(L.set i (row.set j (e,w)))[q]? = some r→r≠[]→∃r',L[q]? = some r'∧r'≠[]:=fun q r hq hr=>by
     rcases at_set hq with⟨e0,_,_⟩|⟨e0,q0⟩
     ·subst e0; exact⟨row,he,hne⟩
     ·exact⟨r,q0,hr⟩
    obtain⟨s,s0,s1⟩:=fix q r hq hr;obtain⟨s',s1',s2'⟩:=fix q' r' hq' hr';exact hP.inj q q' s s' s0 s1' s1 s2' heq
   ·rcases hz with rfl|hz
    ·exact Pc.np hk rfl (.inr (.inl rfl))
    ·exact Pc.np hk rfl (.inr (.inr ((hmr z).1 hz)))
  ·exact Pc.fh (h.ok p hpm) (by rw[hnext]; exact Nat.le_refl _) fun z hz _=>hget z fun g=>h6.2 z (.inr (.inr (g ▸ hself))) hz
 ·rcases g1 with g1|g1
  ·cases g1.1
  ·rcases g1 with rfl|g1
   ·exact hapr.1 _ (.inr (.inl rfl)) g0
   ·exact hapr.1 _ (.inr (.inr ((hmr z).1 g1))) g0
 ·rcases g0 with g0|g0
  ·cases g0
  ·rcases g0 with(rfl|g0) | (g0|g0)
   ·exact hapr.2 _ g1 (.inr (.inl (.inl rfl)))
   ·exact hapr.2 _ g1 (.inr (.inl (.inr ((hmr z).1 g0))))
   ·exact hapr.2 _ g1 (.inr (.inr g0))
   ·exact(haw z g0).2.2 r hr g1⟩
end
abbrev kI:Int→Value:=fun n=>.int .i64 n
abbrev vB:Bool→Value:=fun b=>.bool b
def Di (m:AMem) (H:Nat→Prop) (bo:Option Nat) (xs:List (Int × Bool)):Prop:=(bo=none∧xs = [])∨∃b,bo=some b∧H b∧m.get b=some (.map (xs.map (eM kI vB)))
theorem Di.nil {m:AMem} {H:Nat→Prop}:Di m H none []:=.inl ⟨rfl,rfl⟩
def N1 (H:Nat→Prop) (M:List (Option Nat × List (Int × Bool))):GPc where
 ow:=H
 rd:=fun _=>False
 P m:=(∀b,H b→b<m.next)∧∀p ∈ M,Di m H p.1 p.2
 fr:=true
 st m m' h hn hg:=⟨fun b hb=>Nat.lt_of_lt_of_le (h.1 b hb) hn,fun p hp=>(h.2 p hp).imp id fun⟨b,h1,h2,h3⟩=>⟨b,h1,h2,by rw[hg b (.inl h2) (h.1 b h2)]; exact h3⟩⟩
 lt m b h hb:=hb.elim (h.1 b) fun h=>h.elim
section
variable {E : Env} {m0 m : AMem} {fs : Fs} {ps : List Pc} {x y z : Operand} {ty : TypeId} {H : Nat → Prop} {M : List (Option Nat × List (Int × Bool))}
theorem Hp.vm {l0:List Pc} (h:Hp m0 m (l0++[.gen (nY H)])) (hM:∀p ∈ M,Di m H p.1 p.2):Hp m0 m (l0++[.gen (N1 H M)]):=by
 have ha:=List.pairwise_append.1 h.apart;refine⟨h.ext,fun p hp=>?_,List.pairwise_append.2 ⟨ha.1,List.pairwise_singleton ..,fun p hp q hq=>?_⟩⟩
 ·rcases List.mem_append.1 hp with hp|hp
  ·exact h.ok p (List.mem_append_left _ hp)
  ·rw[List.mem_singleton.1 hp];have h0:Pc.ok m0.next m (.gen (nY H)):=h.ok _ (List.mem_append_right _ (List.mem_singleton.2 rfl))
   exact⟨⟨h0.1,hM⟩,fun h=>by cases h⟩
 ·rw[List.mem_singleton.1 hq];have h1:Pc.apart p (.gen (nY H)):=ha.2.2 p hp _ (List.mem_singleton.2 rfl);exact⟨fun b a c=>h1.1 b a c,fun b a c=>h1.2 b a c⟩
theorem Hp.Qw {l0:List Pc} {bo bo':Option Nat} {xs xs':List (Int × Bool)} (h:Hp m0 m (l0++[.gen (nY H)])) (h1:Di m H bo xs) (h2:Di m H bo' xs'):Hp m0 m (l0++[.gen (N1 H [(bo,xs),(bo',xs')])]):=h.vm fun p hp=>by
 rcases List.mem_cons.1 hp with rfl|hp
 ·exact h1
 ·rw[List.mem_singleton.1 hp]; exact h2
theorem ak.Qc {k:Nat} (hp:pk ps k=some (.gen (N1 H M))):ak m0 ps (cC ps k (.gen (nY H))):=fun m h =>
 h.PO hp (fun b hb=>.inl hb) (fun b hb=>.inl hb) (Nat.le_refl _) h.ext ⟨(h.get hp).1.1,fun h=>by cases h⟩ fun _ _ _=>rfl
theorem Hp.P7 {k b:Nat} {xs:List (Int × Bool)} (h:Hp m0 m ps) (hp:pk ps k=some (.obj b (.map (xs.map (eM kI vB))))):Di m (wy ps) (some b) xs:=.inr ⟨b,rfl,⟨_,jT hp,.inl ⟨rfl,rfl⟩⟩,(h.get hp).2.2⟩
theorem JW {kt et k q:Nat} {bo:Option Nat} {xs:List (Int × Bool)} {i:Int} {v:Bool} (hu:E.P.underlying ty=some (.map kt et)) (hk:KeyE E.P kt kI) (hz:bw E.P et=some (.bool false)) (hx:ev E fs x=some (.map bo)) (hy:ev E fs y=some (.int .i64 i)) (hp:pk ps k=some (.gen (N1 H M))) (hq:M[q]? = some (bo,xs)) (hv:some ((bZ xs i).getD false)=some v) :
  Od E m0 fs ps (.lookup ty x y false) (.bool v) ps:=by
 cases hv;intro t m hf h;have hM:=(h.get hp).1.2 _ (List.mem_of_getElem? hq);rcases hM with⟨h1,h2⟩|⟨b,h1,h2,h3⟩
 ·simp only at h1 h2;subst h1 h2;exact OK (vE:=vB) (z0:=false) (k:=i) hu hk hz rfl hx hy t m hf h
 ·simp only at h1 h3;subst h1;refine⟨fun b' hb'=>?_,fun K hK=>?_⟩
  ·simp only[aC,hf.ev hx] at hb';cases hb'; exact(h.get hp).1.1 b h2
  ·have:=xC (c:=false) (k:=i) (vE:=vB) (z0:=false) hu hk hz rfl h3;unfold aX;simp only[ju,cD,hf.ev hx,hf.ev hy,this,Option.map_some];exact hK m h
theorem OW {elem:TypeId} {i:Int} (ht:SlT E.P ty elem 1) (hx:ev E fs x=some (.int .i64 i)) (hi:decide (0≤i)=true) (hl:nK i.toNat=true) (hz:bw E.P elem=some (.slice none 0 0)) :
  Ox E m0 fs ps (.makeSlice ty x x) (fun b=>.slice (some ⟨b,0,none⟩) i.toNat i.toNat) (fun b=>.gen (mT b i.toNat (fun _=>0) (fun _=>False) (List.replicate i.toNat []))::ps):=fun t m hf hm =>
 have h:=KX (m0:=m0) (ps:=ps) ht hx (Int.toNat_of_nonneg (of_decide_eq_true hi)).symm hl hz rfl t m hf hm
 ⟨h.1,fun K hK=>h.2 K fun b m' hm'=>hK b m' (ak.N4 m' hm')⟩
theorem OE {elem:TypeId} {i:Int} (ht:SlT E.P ty elem 2) (hx:ev E fs x=some (.int .i64 i)) (hi:decide (0≤i)=true) (hl:nK i.toNat=true) (hz:bw E.P elem=some (.agg #[.bool false,.slice none 0 0])) :
  Ox E m0 fs ps (.makeSlice ty x x) (fun b=>.slice (some ⟨b,0,none⟩) i.toNat i.toNat) (fun b=>.arr b 2 i.toNat (List.replicate i.toNat [.bool false,.slice none 0 0]) .own::ps) :=
 KX (m0:=m0) (ps:=ps) ht hx (Int.toNat_of_nonneg (of_decide_eq_true hi)).symm hl hz rfl
theorem mZ {α β:Type} {kE:α→Value} {vE:β→Value}:∀(xs:List (α × β)) (i:Nat),(xs.map (eM kE vE)).eraseIdx i=(xs.eraseIdx i).map (eM kE vE)
 | [],_=>rfl
 | _::_,0=>rfl
 | x::xs,i+1=>by rw[List.map_cons,List.eraseIdx_cons_succ,mZ xs i,List.eraseIdx_cons_succ,List.map_cons]
theorem Pt {α β:Type} [DecidableEq α] {kt et b q:Nat} {ty2:TypeId} {kE:α→Value} {vE:β→Value} {xs:List (α × β)} {k:α} {ars:Array Operand} (hu:E.P.underlying ty=some (.map kt et)) (hk:KeyE E.P kt kE) (ha:gW E fs ars.toList=some [.map (some b),kE k]) (hp:pk ps q=some (.obj b (.map (xs.map (eM kE vE))))) :
  Od E m0 fs ps (.call ⟨.builtin .delete,ars,#[ty,ty2]⟩) (.tuple #[]) (cC ps q (.obj b (.map ((AO xs k).map (eM kE vE))))) :=
 fun t m hf h=>⟨fun b' hb'=>by simp[aC] at hb',fun K hK=>by
  have hg:=(h.get hp).2.2;have hdel:∃m',aI E.P .delete #[ty,ty2] [.map (some b),kE k] m=some (.tuple #[],m')∧Hp m0 m' (cC ps q (.obj b (.map ((AO xs k).map (eM kE vE))))):=by
   have ht:(#[ty,ty2]:Array TypeId)[0]? = some ty:=rfl;simp only[aI,ht,nM,hu,hg,hk.ok,if_true,la hk,AO];cases hfd:bY k xs 0 with
   | none =>
    refine⟨m,rfl,?_⟩;have:cC ps q (.obj b (.map (xs.map (eM kE vE))))=ps:=by
     have:∀(l:List Pc) (k:Nat) (p:Pc),pk l k=some p→cC l k p=l:=by
      intro l
      induction l with
      | nil=>intro k p h; simp[pk] at h
      | cons q l ih =>
       intro k p h;cases k with
       | zero=>rw[iy] at h; rw[fj,Option.some.inj h]
       | succ k=>rw[gv] at h; rw[gB,ih k p h]
     exact this ps q _ hp
    rw[this]; exact h
   | some p =>
    refine⟨_,rfl,?_⟩;exact h.write hp rfl rfl rfl rfl ⟨(h.get hp).1,by rw[AMem.next_set]; exact(h.get hp).2.1,by rw[AMem.bz,if_pos rfl,mZ]⟩
  obtain⟨m',h1,h2⟩:=hdel;rw[Go.Ab.dR (hf.gW ha) h1];exact hK m' h2⟩
end
end Go.Ab.W
end

section
namespace Go.Proofs.YtookeaakpiefjaaDoor
open Go Go.Ab Go.Ab.W
def th:List Value→List Int→Bool
 | [],[]=>true
 | .int .u8 n::vs,k::ks=>n == k && th vs ks
 | _,_=>false
theorem qw:∀{vs:List Value} {ks:List Int},th vs ks=true→vs=ks.map (.int .u8)
 | [],[],_=>rfl
 | [],_::_,h=>by cases h
 | v::vs,[],h=>by simp[th] at h
 | v::vs,k::ks,h=>by
  unfold th at h
  split at h
  ·rename_i e _; cases e
  ·rename_i n vs' k' ks' e1 e2;cases e1; cases e2;simp only[Bool.and_eq_true,beq_iff_eq] at h;rw[h.1,qw h.2]; rfl
  ·cases h
def xS (m:AMem):Bool :=
 match m.get 0 with
 | some (.cells cs .ro)=>th cs eu
 | _=>false
theorem A6 {m:AMem} (h:xS m=true):m.get 0=some (.cells (eu.map (.int .u8)) .ro):=by
 unfold xS at h
 split at h
 ·rename_i cs hg; rw[hg,qw h]
 ·cases h
theorem yC:∀x c,yP x=some c→c.all aG=true:=by
 intro x c h;unfold yP at h
 split at h
 ·cases h;rw[List.all_map];exact List.all_eq_true.2 fun x _=>rfl
 ·cases h
theorem CZ:∃fuel m',run Dc fuel (.call 6 [] Qj)=some (.val (.bool true) m')∧1≤m'.wl:=zf (E:=Dc) (F:=vj) (n:=1000) (g:=1) CW AK
def jd (args:List Value) (m:AMem):Option (Value × AMem) :=
 match args with
 | []=>if xS m then some (.bool true,m) else none
 | _=>none
theorem vK {args:List Value} {m m':AMem} {v:Value} (h:jd args m=some (v,m')) {j:aN} {w:World} {args':List Value} (hm:MR Dc j m w) (hl:LR j args args') :
  jM Dc.P (Dc.cP 6).isSome 6 args'.toArray w (lD Dc j m w v m'):=by
 unfold jd at h
 split at h
 ·split at h
  ·rename_i ht;cases h;obtain⟨fuel,m0,h1,h2⟩:=CZ;refine vZ (E:=Dc) (gs:=yP) Kc yC h1 h2 rfl hm (fun x c hx hg=>?_) hl;have hx:x<1:=hx;have:x=0:=by omega
   subst this;simp only[yP,if_true,Option.some.injEq] at hg;rw[←hg]; exact A6 ht
  ·cases h
 ·cases h
def F2 (f:FuncId):Option Prim:=if f=6 then some ⟨jd⟩ else Jm f
noncomputable def aq:Env:={ P:=Tryd.prog,glob:=1,cP:=F2}
theorem IQ:EnvOk aq:=AT (E:=Dc) Kc (pr:=F2) fun f p hp=>by
 unfold F2 at hp
 split at hp
 ·rename_i e;cases hp;subst e;exact .inr fun args m v m' h j w args' hm hl=>vK h hm hl
 ·exact .inl hp
def Gl (m:AMem):Prop:=m.get 0=some (.cells (eu.map (.int .u8)) .ro)∧0<m.next
theorem Gl.ext {m m':AMem} (h:Gl m) (e:Ext m m'):Gl m':=⟨by rw[e.same 0 h.2]; exact h.1,Nat.lt_of_lt_of_le h.2 e.next⟩
def F6 (_:Nat):Option Bool:=some true
theorem NW (n:Nat) (r:Bool) (hF:F6 n=some r) (m:AMem) (hG:Gl m):aA aq 6 [] m (fun v m'=>∃_:Unit,v = .bool r∧Hp m m' []):=by
 cases hF;refine aA.cP (p:=⟨jd⟩) rfl (v:=.bool true) (m':=m) ?_ ⟨(),rfl,Hp.start m⟩;have ht:xS m=true:=by
  unfold xS;rw[hG.1];exact(by decide +kernel:th (eu.map (.int .u8)) eu=true)
 show jd [] m=_
 simp only[jd,ht,if_true]
end Go.Proofs.YtookeaakpiefjaaDoor
end

section
namespace Go.Proofs.YtookeaakpiefjaaDoor
set_option maxRecDepth 100000
open Go Go.ChangeShapes Go.WideShapes Go.ChangeAt Go.WideMaps Go.WideElems Go.RowKit Go.Ab Go.Ab.W
theorem P3:Gg Tryd.prog 5 25=some [.int .u8,.int .u8,.int .u16,.sl 78]:=by kernel_rfl
theorem Oz:Gg Tryd.prog 5 78=some [.int .u8,.int .u8]:=by kernel_rfl
theorem Qk:Tryd.prog.underlying 5=some (.int .u8):=by kernel_rfl
theorem Nl:Tryd.prog.underlying 27=some (.int .u32):=by kernel_rfl
theorem Oh:Tryd.prog.underlying 26=some (.int .u64):=by kernel_rfl
section
variable {H : Type} {enc : TypeId × Value → H} {W : World} {sp : Nat → Bool} {held : Bool} {v : Value} {d : DataW H} {p : List MemPlace} {base : Nat}
theorem Bc {P:Program} {t1 t2 t3 t4 t5 t6:TypeId} {args:Array Value} {ds:List (DataW H)} {ps:List MemPlace} (h:DataW.TrodAll enc P W base sp held [t1,t2,t3,t4,t5,t6] args.toList ds ps) :
  ∃v1 v2 v3 v4 v5 v6 d1 d2 d3 d4 d5 d6 p1 p2 p3 p4 p5 p6,args=#[v1,v2,v3,v4,v5,v6]∧ds = [d1,d2,d3,d4,d5,d6]∧ps=p1++p2++p3++p4++p5++p6∧DataW.Trod enc P W base sp held t1 v1 d1 p1∧DataW.Trod enc P W base sp held t2 v2 d2 p2∧DataW.Trod enc P W base sp held t3 v3 d3 p3∧DataW.Trod enc P W base sp held t4 v4 d4 p4∧DataW.Trod enc P W base sp held t5 v5 d5 p5∧DataW.Trod enc P W base sp held t6 v6 d6 p6:=by
 obtain⟨v1,w1,d1,e1,p1,q1,hargs,rfl,rfl,h1,g1⟩:=trodAll_cons h;obtain⟨v2,w2,d2,e2,p2,q2,rfl,rfl,rfl,h2,g2⟩:=trodAll_cons g1;obtain⟨v3,w3,d3,e3,p3,q3,rfl,rfl,rfl,h3,g3⟩:=trodAll_cons g2;obtain⟨v4,w4,d4,e4,p4,q4,rfl,rfl,rfl,h4,g4⟩:=trodAll_cons g3;obtain⟨v5,w5,d5,e5,p5,q5,rfl,rfl,rfl,h5,g5⟩:=trodAll_cons g4;obtain⟨v6,w6,d6,e6,p6,q6,rfl,rfl,rfl,h6,g6⟩:=trodAll_cons g5;obtain⟨rfl,rfl,rfl⟩:=trodAll_nil g6;exact⟨v1,v2,v3,v4,v5,v6,d1,d2,d3,d4,d5,d6,p1,p2,p3,p4,p5,p6,by cases args; simp_all,rfl,by simp,h1,h2,h3,h4,h5,h6⟩
theorem Lt:∀(n:Nat) (cs:List Value) (x:DataW H × List MemPlace),DataW.trod enc Tryd.prog W 0 sp held n 78 cs=some x→∃p:Nat × Nat,cs=eP (eN .u8) (eN .u8) p∧p.1<256∧p.2<256:=by
 intro n cs x h;obtain⟨v1,cs,rfl,h1,h⟩:=gD (xw 5 78 _ Oz n _ x h);obtain⟨v2,cs,rfl,h2,h⟩:=gD h;obtain rfl:=yi h;obtain⟨a,rfl,ha⟩:=qv h1;obtain⟨b,rfl,hb⟩:=qv h2;exact⟨(a,b),rfl,ha,hb⟩
theorem OM (hok:Value.okWide Tryd.prog W .any base 25 v) (hs:0<W.heap.size) (h:DataW.Trod enc Tryd.prog W 0 sp held 25 v d p):∃(x1 x2 x3:Nat) (l:List (Nat × Nat)) (a:Option Addr) (c:Nat),
  VR (gi W) (.agg #[.int .u8 ((x1:Nat):Int),.int .u8 ((x2:Nat):Int),.int .u16 ((x3:Nat):Int),.slice a l.length c]) v∧x1<256∧x2<256∧x3<65536∧(∀q ∈ l,q.1<256∧q.2<256)∧l.length≤maxLen∧Rd (ez W) a c 2 l.length (l.map (eP (eN .u8) (eN .u8))):=by
 obtain⟨cs,rfl,_⟩:=okWide_struct (t:=25) (fs:=Tryd.prog.underlying 25 |>.elim #[] fun u=>match u with | .struct fs=>fs|_=>#[]) (by kernel_rfl) hok
 obtain⟨n,h⟩:=h;obtain⟨v1,r,hr,h1,h⟩:=gD (AM P3 h);obtain⟨v2,r,rfl,h2,h⟩:=gD h;obtain⟨v3,r,rfl,h3,h⟩:=gD h;obtain⟨v4,r,rfl,h4,h⟩:=gD h;obtain rfl:=yi h;obtain⟨x1,rfl,g1⟩:=qv h1;obtain⟨x2,rfl,g2⟩:=qv h2;obtain⟨x3,rfl,g3⟩:=IH h3;obtain⟨a,c,l,e1,e2,e3,e4⟩:=Kx (f:=eP (eN .u8) (eN .u8)) (w:=2) (by kernel_rfl) (by omega) hs (fun q=>rfl) Lt h4
 refine⟨x1,x2,x3,l,a,c,?_,g1,g2,g3,e3,e4,e2⟩;refine Lc (l:=[.int .u8 ((x1:Nat):Int),.int .u8 ((x2:Nat):Int),.int .u16 ((x3:Nat):Int),.slice a l.length c]) ?_;rw[hr];exact .cons (.int _ _) (.cons (.int _ _) (.cons (.int _ _) (.cons e1 (.nil _))))
theorem Nz (hok:Value.okWide Tryd.prog W .any base 26 v) (h:DataW.Trod enc Tryd.prog W 0 sp held 26 v d p):∃n:Nat,v = .int .u64 ((n:Nat):Int)∧n<2 ^ 64:=by
 obtain⟨k,rfl⟩:=okWide_int Oh hok;obtain⟨n,h⟩:=h;obtain⟨m,e,_,hw⟩:=DataW.trod_int Oh h;exact Jd (enc:=enc) (P:=Tryd.prog) (W:=W) (base:=0) (sp:=sp) (held:=held) ⟨m,by cases e; rfl,hw⟩
theorem Ns (hok:Value.okWide Tryd.prog W .any base 27 v) (h:DataW.Trod enc Tryd.prog W 0 sp held 27 v d p):∃n:Nat,v = .int .u32 ((n:Nat):Int)∧n<4294967296:=by
 obtain⟨k,rfl⟩:=okWide_int Nl hok;obtain⟨n,h⟩:=h;obtain⟨m,e,_,hw⟩:=DataW.trod_int Nl h;exact HQ (enc:=enc) (P:=Tryd.prog) (W:=W) (base:=0) (sp:=sp) (held:=held) ⟨m,by cases e; rfl,hw⟩
theorem Lz (hok:Value.okWide Tryd.prog W .any base 5 v) (h:DataW.Trod enc Tryd.prog W 0 sp held 5 v d p):∃n:Nat,v = .int .u8 ((n:Nat):Int)∧n<256:=by
 obtain⟨k,rfl⟩:=okWide_int Qk hok;obtain⟨n,h⟩:=h;obtain⟨m,e,_,hw⟩:=DataW.trod_int Qk h;exact qv (enc:=enc) (P:=Tryd.prog) (W:=W) (base:=0) (sp:=sp) (held:=held) ⟨m,by cases e; rfl,hw⟩
end
theorem Oo:laidOutB Tryd.prog=true:=by kernel_rfl
theorem Ia:mapsRowed Tryd.prog=true:=by kernel_rfl
theorem Ir:sizedB Tryd.prog=true:=by kernel_rfl
theorem MW {W:World} (h:laidMetH Tryd.prog sE W):Gl (ez W)∧0<W.heap.size:=by
 rw[MakeChecks.laidMetH_plain _ _ _ (by kernel_rfl)] at h
 obtain⟨ps,hL,_⟩:=h;have ht:(Tryd.prog.globals[0]?).map (·.type)=some 109:=by kernel_rfl
 obtain⟨c,ty,fz,h1,h2⟩:=DL (L:=eu) (k:=.u8) (N:=64) (t:=109) (e:=5) PN ht (by kernel_rfl) (by kernel_rfl) (by kernel_rfl) (by kernel_rfl) rfl hL
 have hs:0<W.heap.size:=(Array.getElem?_eq_some_iff.1 h1).1;refine⟨⟨?_,hs⟩,hs⟩;rw[nH h1,h2,List.map_map]
 congr 2
theorem C6 {H:Type} {enc:TypeId × Value→H} {f:FuncId} {fn:Func} {s:ChangeSpec} {W:World} {args:Array Value} {ds:List (DataW H)} {before:List MemPlace} {tb:TypeId} {fresh handsOn:Bool} {absArgs:List Value} (hpr:aq.cP f=none)
  (hvars:s.vars = []) (hres:fn.resultTypes.toList = [tb]) (hrs:fn.resultTypes.size=1) (htb:Tryd.prog.underlying tb=some .bool) (hpt:∀t ∈ fn.params.toList,t<Tryd.prog.types.size) (hfn:s.fn H ds = { results:=[.lit (.bool true)],args:=ds,vars:=[]})
  (hW:DataW.Whole enc Tryd.prog fn.params.toList s.vars false W args.toList ds [] before) (hs:0<W.heap.size)
  (hl:LR (gi W) absArgs args.toList) (hc:aA aq f absArgs (ez W) (fun v m'=>∃_:Unit,v = .bool true∧Hp (ez W) m' [])) :
  Calls Tryd.prog f args W fun e W'=>∃v,e = .returned v∧s.post enc Tryd.prog fn false fresh handsOn false W args v W':=by
 obtain⟨v,m',⟨fuel,hrun⟩,_,rfl,hm'⟩:=hc;have hm:MR aq (gi W) (ez W) W:=Mv hs;have hcall:=callsIn_wide.1 (vo IQ hrun hpr hm hl);refine hcall.mono fun e W' ⟨v',he,j',sm,hv⟩=>?_;have hv':v' = .bool true:=dT rfl hv;subst hv';have hwl:(ez W).next≤m'.wl:=by
  have h1:=hm'.ext.wl;have h2:min (ez W).wl (ez W).next=(ez W).next:=Nat.min_self _
  omega
 exact⟨_,he,EG Oo Ia Ir hvars hres hrs htb hpt hfn hW sm.calm (sm.grown hm hwl)⟩
end Go.Proofs.YtookeaakpiefjaaDoor
end

section
namespace Go.Proofs.YtookeaakpiefjaaDoor
open Go Go.Ab Go.Ab.W
def CN (_:Nat) (x y c:Nat):Option (Nat × Nat):=gd (decide (c≤1)) (some ((x+y+c)%18446744073709551616,(x+y+c)/18446744073709551616))
def IL (_:Nat) (x y c:Nat):Option (Nat × Nat):=gd (decide (c≤1)) (some ((x+18446744073709551616-y-c)%18446744073709551616,if x<y+c then 1 else 0))
theorem ua {V:Nat→Nat→Nat→Value} {x y c:Nat} (hc:c≤1) (m:AMem):dK V [.int .u64 ((x:Nat):Int),.int .u64 ((y:Nat):Int),.int .u64 ((c:Nat):Int)] m=some (V x y c,m):=by
 show(if Nat.ble c 1 then some (V x y c,m) else none)=_
 rw[Nat.ble_eq_true_of_le hc]; rfl
theorem vV (n:Nat) (x y c:Nat) (r:Nat × Nat) (hF:CN n x y c=some r) (m:AMem) :
  aA aq 101 [.int .u64 ((x:Nat):Int),.int .u64 ((y:Nat):Int),.int .u64 ((c:Nat):Int)] m (fun v m'=>∃_:Unit,v = .tuple #[.int .u64 ((r.1:Nat):Int),.int .u64 ((r.2:Nat):Int)]∧Hp m m' []):=by
 obtain⟨hc,hF⟩:=al hF;have hr:=Option.some.inj hF;subst hr;exact aA.cP (p:=⟨dK yH⟩) rfl (ua (of_decide_eq_true hc) m) ⟨(),rfl,.start m⟩
theorem Bk (n:Nat) (x y c:Nat) (r:Nat × Nat) (hF:IL n x y c=some r) (m:AMem) :
  aA aq 100 [.int .u64 ((x:Nat):Int),.int .u64 ((y:Nat):Int),.int .u64 ((c:Nat):Int)] m (fun v m'=>∃_:Unit,v = .tuple #[.int .u64 ((r.1:Nat):Int),.int .u64 ((r.2:Nat):Int)]∧Hp m m' []):=by
 obtain⟨hc,hF⟩:=al hF;have hr:=Option.some.inj hF;subst hr;exact aA.cP (p:=⟨dK wF⟩) rfl (ua (of_decide_eq_true hc) m) ⟨(),by
  show wF x y c=_
  unfold wF
  split<;>rfl,.start m⟩
end Go.Proofs.YtookeaakpiefjaaDoor
end

section
namespace Go.Ab
open Go
theorem Ii (y w:Nat):∀x,x<2 ^ w→y=2 ^ w-1-x→x &&& y=0:=by
 intro x hx hy;apply Nat.eq_of_testBit_eq;intro i;rw[Nat.testBit_and,hy,show 2 ^ w-1-x=2 ^ w-(x+1) by omega,Nat.testBit_two_pow_sub_succ hx,Nat.zero_testBit]
 by_cases hi:i<w
 ·simp[hi]
 ·simp[hi]
theorem Jk (a b:Nat):(2*a) &&& (2*b)=2*(a &&& b):=by
 apply Nat.eq_of_testBit_eq;intro i;rw[Nat.testBit_and];cases i with
 | zero=>simp
 | succ i=>rw[Nat.testBit_succ,Nat.testBit_succ,Nat.testBit_succ,show 2*a/2=a by omega,show 2*b/2=b by omega,show 2*(a &&& b)/2=a &&& b by omega,Nat.testBit_and]
theorem I6 (a b:Nat):(2*a+1) &&& (2*b+1)=2*(a &&& b)+1:=by
 apply Nat.eq_of_testBit_eq;intro i;rw[Nat.testBit_and];cases i with
 | zero=>simp
 | succ i=>rw[Nat.testBit_succ,Nat.testBit_succ,Nat.testBit_succ,show(2*a+1)/2=a by omega,show(2*b+1)/2=b by omega,show(2*(a &&& b)+1)/2=a &&& b by omega,Nat.testBit_and]
theorem BB:∀(w x:Nat),0<x→x<2 ^ w→∃k,k<w∧x &&& (2 ^ w-x)=2 ^ k∧∃q,x=2 ^ k*(2*q+1)
 | 0,x,h0,h1=>by simp at h1; omega
 | w+1,x,h0,h1=>by
  rw[Nat.pow_succ] at h1 ⊢;rcases Nat.mod_two_eq_zero_or_one x with h|h
  ·obtain⟨y,rfl⟩:∃y,x=2*y:=⟨x/2,by omega⟩
   obtain⟨k,hk,h2,q,h3⟩:=BB w y (by omega) (by omega)
   refine⟨k+1,by omega,?_,q,?_⟩
   ·rw[show 2 ^ w*2-2*y=2*(2 ^ w-y) by omega,Jk,h2,Nat.pow_succ]; omega
   ·rw[h3,Nat.pow_succ,Nat.mul_comm (2 ^ k) 2,Nat.mul_assoc]
  ·obtain⟨y,rfl⟩:∃y,x=2*y+1:=⟨x/2,by omega⟩
   refine⟨0,by omega,?_,y,by simp⟩
   rw[show 2 ^ w*2-(2*y+1)=2*(2 ^ w-1-y)+1 by omega,I6,Ii _ w y (by omega) rfl]
def tz (x:Nat):Nat:=if x=0 then 64 else Nat.log2 (x &&& (2 ^ 64-x))
theorem kT {x:Nat} (h0:0<x) (h1:x<2 ^ 64):tz x<64∧x &&& (2 ^ 64-x)=2 ^ tz x∧∃q,x=2 ^ tz x*(2*q+1):=by
 obtain⟨k,hk,h2,h3⟩:=BB 64 x h0 h1;have:tz x=k:=by unfold tz; rw[if_neg (by omega),h2,Nat.log2_two_pow]
 rw[this]; exact⟨hk,h2,h3⟩
end Go.Ab
end

section
namespace Go.Proofs.YtookeaakpiefjaaDoor
open Go Go.Ab
set_option maxRecDepth 10000
theorem QE:Tryd.prog.underlying 3=some (.int .i64):=by kernel_rfl
theorem Qz:Tryd.prog.underlying 5=some (.int .u8):=by kernel_rfl
theorem Nn:Tryd.prog.underlying 109=some (.array 64 5):=by kernel_rfl
theorem Qa:known Tryd.prog 5=true:=by kernel_rfl
theorem Qt:an Tryd.prog 5=1:=by kernel_rfl
theorem Qq:dD Tryd.prog 5=false:=by kernel_rfl
theorem ML:∀k:Fin 64,(eu.map (Value.int .u8))[(2 ^ k.val*285870213051353865%2 ^ 64) >>> 58]?.map (fun v=>match v with | .int .u8 n=>decide (n=k.val) | _=>false)=some true:=by decide +kernel
theorem Lb (k:Nat) (hk:k<64):(eu.map (Value.int .u8))[(2 ^ k*285870213051353865%2 ^ 64) >>> 58]? = some (.int .u8 (k:Int)):=by
 have:=ML ⟨k,hk⟩;cases h:(eu.map (Value.int .u8))[(2 ^ k*285870213051353865%2 ^ 64) >>> 58]? with
 | none=>rw[h] at this; cases this
 | some v =>
  rw[h] at this;simp only[Option.map_some,Option.some.injEq] at this
  split at this
  ·rw[of_decide_eq_true this]
  ·cases this
def tj (x:Nat):Nat:=2 ^ 64-x
def rC (x y:Nat):Nat:=x*y%2 ^ 64
theorem It (x:Nat) (h0:0<x) (h1:x<2 ^ 64):xx .neg (.int .u64 (x:Int))=some (.int .u64 ((tj x:Nat):Int)):=by
 simp only[xx,tj];have:IntKind.u64.wrap (0-(x:Int))=((2 ^ 64-x:Nat):Int):=by
  unfold IntKind.wrap IntKind.bits IntKind.signed;simp only[Bool.false_and,Bool.false_eq_true,if_false];omega
 rw[this]
theorem Io {ty:TypeId} {P:Program} (x:Nat):aS .mul ty P (.int .u64 (x:Int)) (.int .u64 285870213051353865)=some (.int .u64 ((rC x 285870213051353865:Nat):Int)):=by
 simp only[aS,if_true,rC];have:IntKind.u64.wrap ((x:Int)*285870213051353865)=((x*285870213051353865%2 ^ 64:Nat):Int):=by
  unfold IntKind.wrap IntKind.bits IntKind.signed;simp only[Bool.false_and,Bool.false_eq_true,if_false];omega
 rw[this]
theorem HW {ty:TypeId} {P:Program} (x:Nat):aS .shr ty P (.int .u64 (x:Int)) (.int .u64 58)=some (.int .u64 ((x >>> 58:Nat):Int)):=CQ x 58 .u64 (by omega)
theorem Jx {ty:TypeId} {P:Program} (x:Nat) (h0:0<x) (h1:x<2 ^ 64):aS .and ty P (.int .u64 (x:Int)) (.int .u64 ((tj x:Nat):Int))=some (.int .u64 ((2 ^ tz x:Nat):Int)):=by
 rw[ue x (tj x) h1 (by unfold tj; omega)]
 unfold tj;rw[(kT h0 h1).2.1]
theorem Ix (k:Nat) (_:k<64):bm Tryd.prog 109 (ptr 0 0) (.int .u64 ((rC (2 ^ k) 285870213051353865 >>> 58:Nat):Int))=some (ptr 0 (rC (2 ^ k) 285870213051353865 >>> 58)):=by
 have hlt:rC (2 ^ k) 285870213051353865 >>> 58<64:=by
  rw[Nat.shiftRight_eq_div_pow];have:rC (2 ^ k) 285870213051353865<2 ^ 64:=Nat.mod_lt _ (by omega)
  omega
 rw[EB Nn Qa Qt hlt];simp
def HD (k:Nat):Nat:=rC (2 ^ k) 285870213051353865
def BE (k:Nat):Nat:=HD k >>> 58
theorem Le {ty:TypeId} {P:Program} (k:Nat):aS .mul ty P (.int .u64 ((2 ^ k:Nat):Int)) (.int .u64 285870213051353865)=some (.int .u64 ((HD k:Nat):Int)):=Io _
theorem K6 {ty:TypeId} {P:Program} (k:Nat):aS .shr ty P (.int .u64 ((HD k:Nat):Int)) (.int .u64 58)=some (.int .u64 ((BE k:Nat):Int)):=HW _
theorem Ks (k:Nat) (hk:k<64):bm Tryd.prog 109 (ptr 0 0) (.int .u64 ((BE k:Nat):Int))=some (ptr 0 (BE k)):=Ix k hk
theorem Hv (n:Nat) (h:n<2 ^ 63):dZ Tryd.prog 5 3 (.int .u8 (n:Int))=some (.int .i64 (n:Int)):=by
 simp only[dZ,Qz,QE];rw[wrap_i64 _ (by omega) (by omega)]
theorem Iy (k:Nat) (hk:k<64) {m:AMem} (hm:m.get 0=some (.cells (eu.map (.int .u8)) .ro)):cO Tryd.prog 5 (ptr 0 (BE k)) m=some (.int .u8 (k:Int)):=uZ Qa Qq hm (Lb k hk)
theorem Eb (x:Nat) (hx:x<2 ^ 64) (m:AMem) (hm:m.get 0=some (.cells (eu.map (.int .u8)) .ro)):aA aq 21 [.int .u64 (x:Int)] m (fun v m'=>v = .int .i64 (tz x:Int)∧m'=m):=by
 refine aA.FK (N:=14) (rs:=[.tmp 2]) rfl Tryd.func21 rfl rfl rfl ?_;simp only[ofList_cons,ofList_nil]
 (repeat refine aL.seq ?_); refine aL.qa fun K hK=>?_
 refine iD rfl (nW (sB _ _)) (m8 rfl) ?_;refine hK _ _ ?_; clear hK K; try simp only[je]
 (repeat refine aL.seq ?_); refine aL.qa fun K hK=>?_
 refine iD rfl (uS (gU (by repeat first | (apply dn; rfl) | exact eB _ _ _|assumption))) (m8 rfl) ?_
 refine iD rfl (zm (gU (by repeat first | (apply dn; rfl) | exact eB _ _ _|assumption)) (sB _ _) (pQ _ _ _)) (m8 rfl) ?_
 refine hK _ _ ?_; clear hK K; try simp only[je]
 by_cases h0:x=0
 ·refine aL.cond (c:=true) ((gU (by repeat first | (apply dn; rfl) | exact eB _ _ _|assumption)).trans (by rw[h0]; rfl)) (fun _=>?_) (fun h=>by cases h)
  (repeat refine aL.seq ?_); refine aL.qa fun K hK=>?_
  refine iD rfl (nW (sB _ _)) (m8 rfl) ?_;refine hK _ _ ?_; clear hK K; try simp only[je]
  refine aL.ret ?_; simp only[G1,D6,Ag,bL,tP,eC,Option.map_some,at_set,Nat.reduceEqDiff,reduceIte];rw[h0];exact⟨by trivial,by trivial⟩
 ·have hp:0<x:=by omega
  have hk:=(kT hp hx).1;refine aL.cond (c:=false) ((gU (by repeat first | (apply dn; rfl) | exact eB _ _ _|assumption)).trans (by rw[decide_eq_false (by omega)])) (fun h=>by cases h) (fun _=>?_)
  refine aL.skip ?_;rw[je]
  (repeat refine aL.seq ?_); refine aL.qa fun K hK=>?_
  refine iD rfl (uS (gU (by repeat first | (apply dn; rfl) | exact eB _ _ _|assumption))) (m8 rfl) ?_
  refine iD rfl (uS (gU (by repeat first | (apply dn; rfl) | exact eB _ _ _|assumption))) (m8 rfl) ?_
  refine iD rfl (Fz (gU (by repeat first | (apply dn; rfl) | exact eB _ _ _|assumption)) (It x hp hx)) (m8 rfl) ?_
  refine iD rfl (zm (gU (by repeat first | (apply dn; rfl) | exact eB _ _ _|assumption)) (gU (by repeat first | (apply dn; rfl) | exact eB _ _ _|assumption)) (Jx x hp hx)) (m8 rfl) ?_
  refine iD rfl (zm (gU (by repeat first | (apply dn; rfl) | exact eB _ _ _|assumption)) (sB _ _) (Le _)) (m8 rfl) ?_
  refine iD rfl (zm (gU (by repeat first | (apply dn; rfl) | exact eB _ _ _|assumption)) (sB _ _) (K6 _)) (m8 rfl) ?_
  refine iD rfl (pw rfl (gU (by repeat first | (apply dn; rfl) | exact eB _ _ _|assumption)) (Ks _ hk)) (m8 rfl) ?_
  refine iD rfl (uC (gU (by repeat first | (apply dn; rfl) | exact eB _ _ _|assumption)) (Iy _ hk hm)) (m8 rfl) ?_
  refine iD rfl (DY (gU (by repeat first | (apply dn; rfl) | exact eB _ _ _|assumption)) (Hv _ (Nat.lt_trans hk (by decide)))) (m8 rfl) ?_
  refine iD rfl (nW (gU (by repeat first | (apply dn; rfl) | exact eB _ _ _|assumption))) (m8 rfl) ?_
  refine hK _ _ ?_; clear hK K; try simp only[je]
  refine aL.ret ?_; simp only[G1,D6,Ag,bL,tP,eC,Option.map_some,at_set,Nat.reduceEqDiff,reduceIte];exact⟨by trivial,by trivial⟩
end Go.Proofs.YtookeaakpiefjaaDoor
end

section
namespace Go.Proofs.YtookeaakpiefjaaDoor
open Go Go.Ab Go.Ab.W
set_option maxRecDepth 10000
set_option maxHeartbeats 4000000
attribute [local irreducible] Tm.at Trie.set Trie.get AMem.get AMem.set AMem.alloc AMem.ww AMem.kill
def Du (_:Nat) (x:Nat):Option Int:=gd (decide (x<2 ^ 64)) (some (tz x:Int))
theorem wM (n x:Nat) (r:Int) (hF:Du n x=some r) (m:AMem) (hG:Gl m):aA aq 21 [.int .u64 ((x:Nat):Int)] m (fun v m'=>∃_:Unit,v = .int .i64 r∧Hp m m' []):=by
 unfold Du at hF;obtain⟨hx,hF⟩:=al hF;cases hF;exact(Eb x (of_decide_eq_true hx) m hG.1).mono fun v m' h=>⟨(),h.1,by rw[h.2]; exact Hp.start m⟩
end Go.Proofs.YtookeaakpiefjaaDoor
end

section
namespace Go.Proofs.YtookeaakpiefjaaDoor
open Go Go.Ab Go.Ab.W
set_option maxRecDepth 10000
def fD:List Nat:=[0,1,2,2,3,3,3,3,4,4,4,4,4,4,4,4,5,5,5,5,5,5,5,5,5,5,5,5,5,5,5,5,6,6,6,6,6,6,6,6,6,6,6,6,6,6,6,6,6,6,6,6,6,6,6,6,6,6,6,6,6,6,6,6,7,7,7,7,7,7,7,7,7,7,7,7,7,7,7,7,7,7,7,7,7,7,7,7,7,7,7,7,7,7,7,7,7,7,7,7,7,7,7,7,7,7,7,7,7,7,7,7,7,7,7,7,7,7,7,7,7,7,7,7,7,7,7,7,8,8,8,8,8,8,8,8,8,8,8,8,8,8,8,8,8,8,8,8,8,8,8,8,8,8,8,8,8,8,8,8,8,8,8,8,8,8,8,8,8,8,8,8,8,8,8,8,8,8,8,8,8,8,8,8,8,8,8,8,8,8,8,8,8,8,8,8,8,8,8,8,8,8,8,8,8,8,8,8,8,8,8,8,8,8,8,8,8,8,8,8,8,8,8,8,8,8,8,8,8,8,8,8,8,8,8,8,8,8,8,8,8,8,8,8,8,8,8,8,8,8,8,8,8,8,8,8]
def FQ (_:Nat) (l1:List (Nat × Nat)) (y2:Int) (v1:Int) (v2:Int):(Bool × Int)→Option ((Bool × Int) ⊕ (Bool)):=fun(v3,v0) =>
ob (
br (decide (v0<(l1.length:Int))) (
some (decide (v0<3))) (
some false)) fun v4 =>
br (v4) (
ob (
gd (bE v0 l1.length) (
ob (l1[v0.toNat]?) fun(x3,x4) =>
gd (decide (y2≠0)) (
gd (bE v0 l1.length) (
gd (decide (y2≠0)) (
br (v3) (
some true) (
br (decide (Int.tmod (IntKind.wrap .i64 ((x3:Nat):Int)) y2=v1)) (
br (decide (Int.tmod (IntKind.wrap .i64 ((x4:Nat):Int)) y2=v2)) (
some true) (
br (decide (Int.tmod (IntKind.wrap .i64 ((x3:Nat):Int)) y2=v2)) (
some (decide (Int.tmod (IntKind.wrap .i64 ((x4:Nat):Int)) y2=v1))) (
some false))) (
br (decide (Int.tmod (IntKind.wrap .i64 ((x3:Nat):Int)) y2=v2)) (
some (decide (Int.tmod (IntKind.wrap .i64 ((x4:Nat):Int)) y2=v1))) (
some false)))))))) fun v5 =>
some (.inl (v5,IntKind.wrap .i64 (v0+1)))) (
some (.inr v3))
def EC (n:Nat) (y2:Int) (v1:Int) (v3:Int) (x3:Nat) (l2:List (Nat × Nat)):(List (Int × Int) × Int × Int)→Option ((List (Int × Int) × Int × Int) ⊕ (List (Int × Int) × Int)):=fun(l1,v2,v0) =>
br (decide (v0<y2)) (
ob (
ob (
br (decide (v0=IntKind.wrap .i64 (v1+v3))) (
some true) (
br (decide (v0=IntKind.wrap .i64 (v1+1))) (
gd (decide (v3≠0)) (
some (!decide (Int.tmod v0 v3=0)))) (
some false))) fun v4 =>
ob (
br (v4) (
ob (
ob (
br (decide (Int.tmod v2 2=1)) (
ob (some (bu .u16 x3 (ui .u64 (Int.tmod (IntKind.wrap .i64 (Int.tdiv v2 2)) 16)))) fun y3 =>
some (decide (uw .u16 (uw .u16 y3 &&& uw .u16 1)=1))) (
some false)) fun v6 =>
br (v6) (
some false) (
some v4)) fun v7 =>
some (IntKind.wrap .i64 (v2+1),v7)) (
some (v2,v4))) fun(v5,v8) =>
ob (
bG (FQ n l2 y2 v1 v0) n (v8,0)) fun v9 =>
br (v9) (
gd (nK (l1++[(v1,v0)]).length) (
some ((l1++[(v1,v0)]),v5))) (
some (l1,v5))) fun(l3,v10) =>
some (.inl (l3,v10,IntKind.wrap .i64 (v0+1)))) (
some (.inr (l1,v2)))
def Ha (n:Nat) (y2:Int) (x3:Nat) (l2:List (Nat × Nat)):(Int × List (Int × Int) × Int × Int)→Option ((Int × List (Int × Int) × Int × Int) ⊕ (List (Int × Int))):=fun(v1,l1,v2,v0) =>
br (decide (v0<y2)) (
ob (
bG (EC n y2 v0 v1 x3 l2) n (l1,v2,IntKind.wrap .i64 (v0+1))) fun(l3,v3) =>
some (.inl (v1,l3,v3,IntKind.wrap .i64 (v0+1)))) (
some (.inr l1))
def F7 (n:Nat) (x1:Nat) (x2:Nat) (x3:Nat) (l1:List (Nat × Nat)):Option (Int × List (Int × Int)) :=
ob (some (IntKind.wrap .i64 ((IntKind.wrap .i64 (1+(IntKind.wrap .i64 ((x1%4:Nat):Int))))*(IntKind.wrap .i64 (1+(IntKind.wrap .i64 ((x2%3:Nat):Int))))))) fun y2 =>
ob (
bG (Ha n y2 x3 l1) n (IntKind.wrap .i64 (1+(IntKind.wrap .i64 ((x1%4:Nat):Int))),([]:List (Int × Int)),0,0)) fun l2 =>
some (y2,l2)
def F1 (_:Nat) (x1:Nat) (x2:Int):Option (Bool) :=
some (decide (uw .u64 (uw .u64 (bu .u64 x1 (ui .u64 x2)) &&& uw .u64 1)=1))
def w8 (n:Nat) (x1:Nat):(Int × Int)→Option ((Int × Int) ⊕ (Int)):=fun(v4,v5) =>
br (decide (v5<64)) (
ob (
ob (F1 n x1 v5) fun r25 =>
br (r25) (
some (IntKind.wrap .i64 (v4+1))) (
some v4)) fun v23 =>
some (.inl (v23,IntKind.wrap .i64 (v5+1)))) (
some (.inr v4))
def Na (n:Nat) (x1:Nat):Option (Int) :=
ob (
bG (w8 n x1) n (0,0)) fun v18 =>
some v18
def J3 (_:Nat) (x1:Int):Option (Nat) :=
some (ej .u64 1 (ui .u64 x1))
def Au (n:Nat) (x1:Int) (x6:Nat):(Nat × Int)→Option ((Nat × Int) ⊕ (Nat)):=fun(v10,v11) =>
ob (
br (decide (v11<x1)) (
ob (Na n v10) fun r64 =>
some (decide (r64<9))) (
some false)) fun v61 =>
br (v61) (
ob (
ob (F1 n x6 v11) fun r75 =>
br (r75) (
ob (J3 n v11) fun r78 =>
some (uw .u64 (uw .u64 v10 ||| uw .u64 r78))) (
some v10)) fun v73 =>
some (.inl (v73,IntKind.wrap .i64 (v11+1)))) (
some (.inr v10))
def F8 (n:Nat) (x1:Int) (_:List (Int × Int)) (x6:Nat):Option (Nat) :=
ob (
bG (Au n x1 x6) n (0,0)) fun v47 =>
some v47
def Kj (_:Nat):(List (Nat) × Int)→Option ((List (Nat) × Int) ⊕ (List (Nat))):=fun(l40,v41) =>
br (decide (v41<8)) (
gd (bE v41 8) (
ob (l40[v41.toNat]?) fun _ =>
some (.inl ((l40.set v41.toNat 18446744073709551615),IntKind.wrap .i64 (v41+1))))) (
some (.inr l40))
def Lp (n:Nat) (x1:Int):Option (Nat × Nat × Nat × Nat × Nat × Nat × Nat × Nat) :=
ob (
br (decide (x1<0)) (
ob (
bG (Kj n) n (([ui .u64 x1,0,0,0,0,0,0,0]:List (Nat)),1)) fun l49 =>
some l49) (
some ([ui .u64 x1,0,0,0,0,0,0,0]:List (Nat)))) fun l30 =>
ob (NB l30) fun(x59,x60,x61,x62,x63,x64,x65,x66) =>
some (x59,x60,x61,x62,x63,x64,x65,x66)
def M7 (_:Nat) (x1:Int):Option (Bool) :=
some (!decide (x1=x1))
def O0 (n:Nat) (x1:Int) (x2:Int):Option (Int) :=
ob (M7 n x1) fun r4 =>
ob (M7 n x2) fun r6 =>
br (r4) (
br (r6) (
some 0) (
some (-1))) (
br (r6) (
some 1) (
br (decide (x1<x2)) (
some (-1)) (
br (decide (x2<x1)) (
some 1) (
some 0))))
def pj (n:Nat) (l1:List (Int)) (l5:List (Int)):Int→Option ((Int) ⊕ ((Int) ⊕ (Unit))):=fun v10 =>
br (decide (v10<(l1.length:Int))) (
gd (bE v10 l1.length) (
ob (l1[v10.toNat]?) fun x32 =>
br (decide ((l5.length:Int)≤v10)) (
some (.inr (.inl 1))) (
gd (bE v10 l5.length) (
ob (l5[v10.toNat]?) fun x38 =>
ob (O0 n x32 x38) fun r41 =>
br (!decide (r41=0)) (
some (.inr (.inl r41))) (
some (.inl (IntKind.wrap .i64 (v10+1)))))))) (
some (.inr (.inr ())))
def ND (n:Nat) (l1:List (Int)) (l5:List (Int)):Option (Int) :=
ob (α:=(Int) ⊕ (Unit)) (
bG (pj n l1 l5) n 0) fun r44=>match r44 with
| .inl v27 =>
some v27
| .inr _ =>
br (decide ((l1.length:Int)<(l5.length:Int))) (
some (-1)) (
some 0)
def qF (n:Nat) (l1:List (Int × Int)) (x1:Int):(Int × Int × Int)→Option ((Int × Int × Int) ⊕ ((Unit) ⊕ (Unit))):=fun(v1,v2,v0) =>
br (decide (v0<(l1.length:Int))) (
gd (bE v0 l1.length) (
ob (l1[v0.toNat]?) fun(x3,x4) =>
ob (
br (decide (x3<0)) (
some true) (
br (decide (x4≤x3)) (
some true) (
br (decide (x1≤x4)) (
some true) (
ob (ND n [v1,v2] [x3,x4]) fun r0 =>
some (decide (0≤r0)))))) fun v3 =>
br (v3) (
some (.inr (.inl ()))) (
some (.inl (x3,x4,IntKind.wrap .i64 (v0+1)))))) (
some (.inr (.inr ())))
def Ni (n:Nat) (x1:Int) (l1:List (Int × Int)):Option (Int) :=
ob (
br (decide (x1<1)) (
some true) (
br (decide (64<x1)) (
some true) (
some (decide (200<(l1.length:Int)))))) fun v0 =>
br (v0) (
some 180) (
ob (α:=(Unit) ⊕ (Unit)) (
bG (qF n l1 x1) n (-1,-1,0)) fun r0=>match r0 with
| .inl _ =>
some 180
| .inr _ =>
some 0)
def K0 (_:Nat) (x1:Nat):Option (Int) :=
ob (
br (decide (4294967296≤x1)) (
some (bu .u64 x1 32,32)) (
some (x1,0))) fun(v3,v4) =>
ob (
br (decide (65536≤v3)) (
some (bu .u64 v3 16,IntKind.wrap .i64 (v4+16))) (
some (v3,v4))) fun(v9,v10) =>
ob (
br (decide (256≤v9)) (
some (bu .u64 v9 8,IntKind.wrap .i64 (v10+8))) (
some (v9,v10))) fun(v15,v16) =>
gd (bE ((uw .u8 v15:Nat):Int) 256) (
ob (fD[((uw .u8 v15:Nat):Int).toNat]?) fun y22 =>
some (IntKind.wrap .i64 (v16+(IntKind.wrap .i64 ((y22:Nat):Int)))))
def Kd (n:Nat) (x1:Int) (l2:List (Int × Int)) (x6:Nat):Option (Int) :=
ob (Ni n x1 l2) fun r9 =>
br (!decide (r9=0)) (
some r9) (
ob (
br (decide (x6=0)) (
some true) (
ob (K0 n x6) fun r27 =>
some (decide (x1<r27)))) fun v24 =>
br (v24) (
some 2) (
some 0))
def JS (n:Nat):(List (Nat) × List (Nat) × Nat × Int)→Option ((List (Nat) × List (Nat) × Nat × Int) ⊕ (List (Nat) × Nat)):=fun(l36,l37,v38,v39) =>
br (decide (v39<8)) (
gd (bE v39 8) (
ob (l36[v39.toNat]?) fun x60 =>
gd (bE v39 8) (
ob (l37[v39.toNat]?) fun x63 =>
ob (IL n x60 x63 v38) fun(r66,r67) =>
gd (bE v39 8) (
some (.inl ((l36.set v39.toNat r66),l37,r67,IntKind.wrap .i64 (v39+1))))))) (
some (.inr (l36,v38)))
def Pa (n:Nat) (x1:Nat) (x2:Nat) (x3:Nat) (x4:Nat) (x5:Nat) (x6:Nat) (x7:Nat) (x8:Nat) (x9:Nat) (x10:Nat) (x11:Nat) (x12:Nat) (x13:Nat) (x14:Nat) (x15:Nat) (x16:Nat):Option (Nat × Nat × Nat × Nat × Nat × Nat × Nat × Nat × Nat) :=
ob (
bG (JS n) n (([x1,x2,x3,x4,x5,x6,x7,x8]:List (Nat)),([x9,x10,x11,x12,x13,x14,x15,x16]:List (Nat)),0,0)) fun(l56,v57) =>
ob (NB l56) fun(x72,x73,x74,x75,x76,x77,x78,x79) =>
some (x72,x73,x74,x75,x76,x77,x78,x79,v57)
def Pb (n:Nat) (x1:Nat) (x2:Nat) (x3:Nat) (x4:Nat) (x5:Nat) (x6:Nat) (x7:Nat) (x8:Nat):Option (Bool × Nat × Nat × Nat × Nat × Nat × Nat × Nat × Nat) :=
ob (
br (decide (bu .u64 x8 63=1)) (
ob (Pa n 0 0 0 0 0 0 0 0 x1 x2 x3 x4 x5 x6 x7 x8) fun(r34,r35,r36,r37,r38,r39,r40,r41,_) =>
some (decide (bu .u64 x8 63=1),r34,r35,r36,r37,r38,r39,r40,r41)) (
some (decide (bu .u64 x8 63=1),x1,x2,x3,x4,x5,x6,x7,x8))) fun(v23,v24,v25,v26,v27,v28,v29,v30,v31) =>
some (v23,v24,v25,v26,v27,v28,v29,v30,v31)
def hY (_:Nat) (l2:List (Nat)):Int→Option ((Int) ⊕ (Int)):=fun v9 =>
ob (
br (decide (0<v9)) (
gd (bE (IntKind.wrap .i64 (v9-1)) l2.length) (
ob (l2[(IntKind.wrap .i64 (v9-1)).toNat]?) fun x71 =>
some (decide (x71=0)))) (
some false)) fun v66 =>
br (v66) (
some (.inl (IntKind.wrap .i64 (v9-1)))) (
some (.inr v9))
def zd (n:Nat) (x1:Bool) (l2:List (Nat)):Option (Bool × List Nat) :=
ob (
bG (hY n l2) n (l2.length:Int)) fun v43 =>
br (x1) (
gd (okB 0 v43 l2.length) (
some (decide (0<v43),((l2.drop (0:Int).toNat).take ((v43:Int).toNat-(0:Int).toNat))))) (
gd (okB 0 v43 l2.length) (
some (false,((l2.drop (0:Int).toNat).take ((v43:Int).toNat-(0:Int).toNat)))))
def Lm (n:Nat) (x1:Nat) (x2:Nat) (x3:Nat) (x4:Nat) (x5:Nat) (x6:Nat) (x7:Nat) (x8:Nat):Option (Bool × List Nat) :=
ob (Pb n x1 x2 x3 x4 x5 x6 x7 x8) fun(r12,r13,r14,r15,r16,r17,r18,r19,r20) =>
gd (nK (([]:List (Nat))++[r13,r14,r15,r16,r17,r18,r19,r20]).length) (
ob (zd n r12 (([]:List (Nat))++[r13,r14,r15,r16,r17,r18,r19,r20])) fun(r26,l27) =>
some (r26,l27))
def MY (_:Nat) (x1:Bool) (l2:List (Nat)):Option (Int) :=
br (x1) (
some (-1)) (
br (decide ((l2.length:Int)=0)) (
some 0) (
some 1))
def xQ (_:Nat):(List (Int) × Int)→Option ((List (Int) × Int) ⊕ (List (Int))):=fun(l12,v13) =>
br (decide (v13<((64:Int).toNat:Int))) (
gd (bE v13 ((64:Int).toNat)) (
ob (l12[v13.toNat]?) fun _ =>
some (.inl ((l12.set v13.toNat v13),IntKind.wrap .i64 (v13+1))))) (
some (.inr l12))
def Ng (n:Nat):Option (List Int) :=
gd (decide ((0:Int)≤64)) (gd (nK ((64:Int).toNat)) (
ob (
bG (xQ n) n ((List.replicate (64:Int).toNat (0:Int)),0)) fun l21 =>
some l21))
def Jc (_:Nat) (x1:Nat) (x2:Int) (x3:Int):Option (Bool) :=
gd (decide (0≤x2)) (
br (decide (uw .u64 (uw .u64 (bu .u64 x1 x2.toNat) &&& uw .u64 1)=1)) (
gd (decide (0≤x3)) (
some (decide (uw .u64 (uw .u64 (bu .u64 x1 x3.toNat) &&& uw .u64 1)=1)))) (
some false))
def jW (_:Nat) (l1:List (Int)):Int→Option ((Int) ⊕ (Int)):=fun v7 =>
gd (bE v7 l1.length) (
ob (l1[v7.toNat]?) fun x20 =>
br (!decide (x20=v7)) (
gd (bE v7 l1.length) (
some (.inl x20))) (
some (.inr v7)))
def J0 (n:Nat) (l1:List (Int)) (x5:Int):Option (Int) :=
ob (
bG (jW n l1) n x5) fun v16 =>
some v16
def w9 (n:Nat) (x1:Int):Option (Bool × List Nat) :=
ob (Lp n x1) fun(r4,r5,r6,r7,r8,r9,r10,r11) =>
ob (Lm n r4 r5 r6 r7 r8 r9 r10 r11) fun(r13,l14) =>
some (r13,l14)
def sr (n:Nat) (l1:List (Nat)) (l2:List (Nat)):(List (Nat) × Nat × Nat × Int)→Option ((List (Nat) × Nat × Nat × Int) ⊕ (List (Nat) × Nat × Nat)):=fun(l3,n0,v1,v0) =>
br (decide (v0<(l1.length:Int))) (
gd (bE v0 l1.length) (
ob (l1[v0.toNat]?) fun x3 =>
ob (
br (decide (v0<(l2.length:Int))) (
gd (bE v0 l2.length) (
ob (l2[v0.toNat]?) fun x4 =>
some x4)) (
some 0)) fun v2 =>
ob (CN n x3 v2 v1) fun(r0,r1) =>
gd (bE v0 n0) (
ob (l3[v0.toNat]?) fun _ =>
some (.inl ((l3.set v0.toNat r0),n0,r1,IntKind.wrap .i64 (v0+1)))))) (
some (.inr (l3,n0,v1)))
def NX (n:Nat) (l2:List (Nat)) (l3:List (Nat)):Option (List Nat) :=
ob (
br (decide ((l2.length:Int)<(l3.length:Int))) (
some (l3,l2)) (
some (l2,l3))) fun(l1,l5) =>
gd (decide (0≤IntKind.wrap .i64 ((l1.length:Int)+1))) (gd (nK ((IntKind.wrap .i64 ((l1.length:Int)+1)).toNat)) (
ob (
bG (sr n l1 l5) n ((List.replicate (IntKind.wrap .i64 ((l1.length:Int)+1)).toNat (0:Nat)),(IntKind.wrap .i64 ((l1.length:Int)+1)).toNat,0,0)) fun(l4,n0,v0) =>
gd (bE (l1.length:Int) n0) (
ob (l4[(l1.length:Int).toNat]?) fun _ =>
some (l4.set ((l1.length:Int).toNat) v0))))
def pE (_:Nat) (l1:List (Nat)) (l5:List (Nat)):Int→Option ((Int) ⊕ ((Int) ⊕ (Unit))):=fun v11 =>
br (decide (0≤v11)) (
gd (bE v11 l1.length) (
ob (l1[v11.toNat]?) fun x33 =>
gd (bE v11 l5.length) (
ob (l5[v11.toNat]?) fun x38 =>
br (decide (x33<x38)) (
some (.inr (.inl (-1)))) (
gd (bE v11 l1.length) (
gd (bE v11 l5.length) (
br (decide (x38<x33)) (
some (.inr (.inl 1))) (
some (.inl (IntKind.wrap .i64 (v11-1)))))))))) (
some (.inr (.inr ())))
def Nd (n:Nat) (l1:List (Nat)) (l5:List (Nat)):Option (Int) :=
br (!decide ((l1.length:Int)=(l5.length:Int))) (
some (IntKind.wrap .i64 ((l1.length:Int)-(l5.length:Int)))) (
ob (α:=(Int) ⊕ (Unit)) (
bG (pE n l1 l5) n (IntKind.wrap .i64 ((l1.length:Int)-1))) fun r45=>match r45 with
| .inl v28 =>
some v28
| .inr _ =>
some 0)
def tN (n:Nat) (l1:List (Nat)) (l2:List (Nat)):(List (Nat) × Nat × Int)→Option ((List (Nat) × Nat × Int) ⊕ (List (Nat))):=fun(l3,v1,v0) =>
br (decide (v0<(l1.length:Int))) (
gd (bE v0 l1.length) (
ob (l1[v0.toNat]?) fun x3 =>
ob (
br (decide (v0<(l2.length:Int))) (
gd (bE v0 l2.length) (
ob (l2[v0.toNat]?) fun x4 =>
some x4)) (
some 0)) fun v2 =>
ob (IL n x3 v2 v1) fun(r0,r1) =>
gd (bE v0 ((l1.length:Int).toNat)) (
ob (l3[v0.toNat]?) fun _ =>
some (.inl ((l3.set v0.toNat r0),r1,IntKind.wrap .i64 (v0+1)))))) (
some (.inr l3))
def M8 (n:Nat) (l1:List (Nat)) (l2:List (Nat)):Option (List Nat) :=
gd (decide (0≤(l1.length:Int))) (gd (nK ((l1.length:Int).toNat)) (
ob (
bG (tN n l1 l2) n ((List.replicate (l1.length:Int).toNat (0:Nat)),0,0)) fun l3 =>
some l3))
def DW (n:Nat) (x1:Bool) (l2:List (Nat)) (x7:Bool) (l8:List (Nat)):Option (Bool × List Nat) :=
br ((x1 == x7)) (
ob (NX n l2 l8) fun l18 =>
ob (zd n x1 l18) fun(r22,l23) =>
some (r22,l23)) (
ob (
ob (Nd n l2 l8) fun r39 =>
br (decide (r39<0)) (
some (x7,l8,x1,l2)) (
some (x1,l2,x7,l8))) fun(v30,l31,_,l35) =>
ob (M8 n l31 l35) fun l44 =>
ob (zd n v30 l44) fun(r48,l49) =>
some (r48,l49))
def EX (_:Nat) (x1:Nat) (x2:Nat):Option (Nat × Nat) :=
ob (some (uw .u64 ((uw .u64 (uw .u64 x1 &&& uw .u64 4294967295))*(uw .u64 (uw .u64 x2 &&& uw .u64 4294967295))))) fun y3 =>
ob (some (uw .u64 ((bu .u64 x1 32)*(uw .u64 (uw .u64 x2 &&& uw .u64 4294967295))))) fun y5 =>
ob (some (uw .u64 (uw .u64 (uw .u64 (y5+(bu .u64 y3 32))) &&& uw .u64 4294967295))) fun y7 =>
ob (some (uw .u64 ((uw .u64 (uw .u64 x1 &&& uw .u64 4294967295))*(bu .u64 x2 32)))) fun y9 =>
ob (some (uw .u64 ((uw .u64 ((bu .u64 x1 32)*(bu .u64 x2 32)))+(bu .u64 (uw .u64 (y5+(bu .u64 y3 32))) 32)))) fun y11 =>
some (uw .u64 (y11+(bu .u64 (uw .u64 (y7+y9)) 32)),uw .u64 (x1*x2))
def oW (n:Nat) (l1:List (Nat)) (x3:Nat) (v1:Int) (n0:Nat):(List (Nat) × Nat × Int)→Option ((List (Nat) × Nat × Int) ⊕ (List (Nat) × Nat)):=fun(l2,v2,v0) =>
br (decide (v0<(l1.length:Int))) (
gd (bE v0 l1.length) (
ob (l1[v0.toNat]?) fun x4 =>
ob (EX n x3 x4) fun(r0,r1) =>
gd (bE (IntKind.wrap .i64 (v1+v0)) n0) (
ob (l2[(IntKind.wrap .i64 (v1+v0)).toNat]?) fun x5 =>
ob (CN n x5 r1 0) fun(r2,r3) =>
ob (CN n r2 v2 0) fun(r4,r5) =>
gd (bE (IntKind.wrap .i64 (v1+v0)) n0) (
some (.inl ((l2.set ((IntKind.wrap .i64 (v1+v0)).toNat) r4),uw .u64 ((uw .u64 (r0+r3))+r5),IntKind.wrap .i64 (v0+1))))))) (
some (.inr (l2,v2)))
def oe (n:Nat) (l2:List (Nat)) (l1:List (Nat)):(List (Nat) × Nat × Int)→Option ((List (Nat) × Nat × Int) ⊕ (List (Nat) × Nat)):=fun(l3,n0,v0) =>
br (decide (v0<(l2.length:Int))) (
gd (bE v0 l2.length) (
ob (l2[v0.toNat]?) fun x3 =>
ob (
bG (oW n l1 x3 v0 n0) n (l3,0,0)) fun(l4,v1) =>
gd (bE (IntKind.wrap .i64 (v0+(l1.length:Int))) n0) (
ob (l4[(IntKind.wrap .i64 (v0+(l1.length:Int))).toNat]?) fun _ =>
some (.inl ((l4.set ((IntKind.wrap .i64 (v0+(l1.length:Int))).toNat) v1),n0,IntKind.wrap .i64 (v0+1)))))) (
some (.inr (l3,n0)))
def EH (n:Nat) (l1:List (Nat)) (l2:List (Nat)):Option (List Nat) :=
gd (decide (0≤IntKind.wrap .i64 ((l1.length:Int)+(l2.length:Int)))) (gd (nK ((IntKind.wrap .i64 ((l1.length:Int)+(l2.length:Int))).toNat)) (
ob (
bG (oe n l1 l2) n ((List.replicate (IntKind.wrap .i64 ((l1.length:Int)+(l2.length:Int))).toNat (0:Nat)),(IntKind.wrap .i64 ((l1.length:Int)+(l2.length:Int))).toNat,0)) fun(l3,_) =>
some l3))
def M4 (n:Nat) (x1:Bool) (l2:List (Nat)) (x7:Bool) (l8:List (Nat)):Option (Bool × List Nat) :=
ob (EH n l2 l8) fun l17 =>
ob (zd n (!(x1 == x7)) l17) fun(r21,l22) =>
some (r21,l22)
def O4 (n:Nat) (x1:Bool) (l2:List (Nat)):Option (Bool × List Nat) :=
ob (zd n (!x1) l2) fun(r10,l11) =>
some (r10,l11)
def LM (n:Nat) (x1:Bool) (l2:List (Nat)) (x7:Bool) (l8:List (Nat)):Option (Bool × List Nat) :=
ob (O4 n x7 l8) fun(r17,l18) =>
ob (DW n x1 l2 r17 l18) fun(r23,l24) =>
some (r23,l24)
def Dy (n:Nat) (x1:Nat):Option (Int) :=
ob (K0 n x1) fun r3 =>
some (IntKind.wrap .i64 (64-r3))
def rp (_:Nat):(Nat × Nat × Nat × Nat × Nat × Nat × Nat × Nat)→Option ((Nat × Nat × Nat × Nat × Nat × Nat × Nat × Nat) ⊕ (Nat × Nat × Nat × Nat × Nat × Nat × Nat)):=fun(v20,v21,v22,v23,v24,v25,v26,v27) =>
ob (
br (decide (4294967296≤v26)) (
some true) (
some (decide (uw .u64 ((uw .u64 (4294967296*v27))+v24)<uw .u64 (v26*v23))))) fun v63 =>
br (v63) (
br (decide (4294967296≤uw .u64 (v27+v22))) (
some (.inr (v20,v21,v22,v23,v24,v25,fc .u64 v26 1))) (
some (.inl (v20,v21,v22,v23,v24,v25,fc .u64 v26 1,uw .u64 (v27+v22))))) (
some (.inr (v20,v21,v22,v23,v24,v25,v26)))
def e9 (_:Nat) (v3:Nat) (v4:Nat) (v2:Nat):(Nat × Nat)→Option ((Nat × Nat) ⊕ (Nat)):=fun(v1,v0) =>
ob (
br (decide (4294967296≤v0)) (
some true) (
some (decide (uw .u64 ((uw .u64 (4294967296*v1))+v3)<uw .u64 (v0*v4))))) fun v5 =>
br (v5) (
br (decide (4294967296≤uw .u64 (v1+v2))) (
some (.inr (fc .u64 v0 1))) (
some (.inl (uw .u64 (v1+v2),fc .u64 v0 1)))) (
some (.inr v0))
def Gr (n:Nat) (x1:Nat) (x2:Nat) (x3:Nat):Option (Nat × Nat) :=
br (decide (x3=0)) (
none) (
br (decide (x3≤x1)) (
none) (
br (decide (x1=0)) (
gd (decide (0<x3)) (
gd (decide (0<x3)) (
some (uw .u64 (x2/x3),x2%x3)))) (
ob (Dy n x3) fun r0 =>
ob (some (uw .u64 (uw .u64 (ej .u64 x1 (ui .u64 r0)) ||| uw .u64 (bu .u64 x2 (fc .u64 64 (ui .u64 r0)))))) fun y2 =>
gd (decide (0<bu .u64 (ej .u64 x3 (ui .u64 r0)) 32)) (
ob (some (uw .u64 ((uw .u64 (y2/(bu .u64 (ej .u64 x3 (ui .u64 r0)) 32)))*(bu .u64 (ej .u64 x3 (ui .u64 r0)) 32)))) fun y4 =>
ob (
bG (rp n) n (ej .u64 x3 (ui .u64 r0),ui .u64 r0,bu .u64 (ej .u64 x3 (ui .u64 r0)) 32,uw .u64 (uw .u64 (ej .u64 x3 (ui .u64 r0)) &&& uw .u64 4294967295),bu .u64 (ej .u64 x2 (ui .u64 r0)) 32,uw .u64 (uw .u64 (ej .u64 x2 (ui .u64 r0)) &&& uw .u64 4294967295),uw .u64 (y2/(bu .u64 (ej .u64 x3 (ui .u64 r0)) 32)),fc .u64 y2 y4)) fun(v1,v5,v0,v6,v7,v2,v3) =>
ob (some (fc .u64 (uw .u64 ((uw .u64 (y2*4294967296))+v7)) (uw .u64 (v3*v1)))) fun y3 =>
gd (decide (0<v0)) (
ob (
bG (e9 n v2 v6 v0) n (fc .u64 y3 (uw .u64 ((uw .u64 (y3/v0))*v0)),uw .u64 (y3/v0))) fun v4 =>
ob (some (fc .u64 (uw .u64 ((uw .u64 (y3*4294967296))+v2)) (uw .u64 (v4*v1)))) fun y5 =>
some (uw .u64 ((uw .u64 (v3*4294967296))+v4),bu .u64 y5 v5))))))
def Jq (n:Nat) (l1:List (Nat)):Option (Int) :=
br (decide ((l1.length:Int)=0)) (
some 0) (
gd (bE (IntKind.wrap .i64 ((l1.length:Int)-1)) l1.length) (
ob (l1[(IntKind.wrap .i64 ((l1.length:Int)-1)).toNat]?) fun x9 =>
ob (Dy n x9) fun r12 =>
some (IntKind.wrap .i64 ((IntKind.wrap .i64 (64*(l1.length:Int)))-r12))))
def E8 (_:Nat) (l2:List (Nat)) (x3:Int):(List (Nat) × Nat × Int)→Option ((List (Nat) × Nat × Int) ⊕ (List (Nat) × Nat)):=fun(l1,n0,v0) =>
br (decide (v0<(l2.length:Int))) (
ob (
gd (bE v0 l2.length) (
ob (l2[v0.toNat]?) fun x4 =>
gd (bE (IntKind.wrap .i64 (v0+(IntKind.wrap .i64 (Int.tdiv x3 64)))) n0) (
ob (l1[(IntKind.wrap .i64 (v0+(IntKind.wrap .i64 (Int.tdiv x3 64)))).toNat]?) fun x5 =>
gd (decide (0≤Int.tmod x3 64)) (
ob (some (uw .u64 (uw .u64 x5 ||| uw .u64 (ej .u64 x4 (Int.tmod x3 64).toNat)))) fun y2 =>
gd (bE (IntKind.wrap .i64 (v0+(IntKind.wrap .i64 (Int.tdiv x3 64)))) n0) (
br (decide (0<Int.tmod x3 64)) (
ob (some (IntKind.wrap .i64 ((IntKind.wrap .i64 (v0+(IntKind.wrap .i64 (Int.tdiv x3 64))))+1))) fun y3 =>
gd (decide (0≤IntKind.wrap .i64 (64-(Int.tmod x3 64)))) (
gd (bE y3 n0) (
ob ((l1.set ((IntKind.wrap .i64 (v0+(IntKind.wrap .i64 (Int.tdiv x3 64)))).toNat) y2)[y3.toNat]?) fun _ =>
some ((l1.set ((IntKind.wrap .i64 (v0+(IntKind.wrap .i64 (Int.tdiv x3 64)))).toNat) y2).set y3.toNat (bu .u64 x4 (IntKind.wrap .i64 (64-(Int.tmod x3 64))).toNat))))) (
some (l1.set ((IntKind.wrap .i64 (v0+(IntKind.wrap .i64 (Int.tdiv x3 64)))).toNat) y2))))))) fun l3 =>
some (.inl (l3,n0,IntKind.wrap .i64 (v0+1)))) (
some (.inr (l1,n0)))
def Lr (n:Nat) (l1:List (Nat)) (x3:Int):Option (List Nat) :=
ob (some (IntKind.wrap .i64 ((l1.length:Int)+(IntKind.wrap .i64 (Int.tdiv x3 64))))) fun y2 =>
gd (decide (0≤IntKind.wrap .i64 (y2+1))) (gd (nK ((IntKind.wrap .i64 (y2+1)).toNat)) (
ob (
bG (E8 n l1 x3) n ((List.replicate (IntKind.wrap .i64 (y2+1)).toNat (0:Nat)),(IntKind.wrap .i64 (y2+1)).toNat,0)) fun(l2,_) =>
ob (zd n false l2) fun(_,l3) =>
some l3))
def td (n:Nat) (l1:List (Nat)) (l6:List (Nat)):(List (Nat) × Nat × Int)→Option ((List (Nat) × Nat × Int) ⊕ (List (Nat) × Nat)):=fun(l37,v38,v39) =>
br (decide (0≤v39)) (
gd (bE v39 l1.length) (
ob (l1[v39.toNat]?) fun x67 =>
gd (bE 0 l6.length) (
ob (l6[(0:Int).toNat]?) fun x72 =>
ob (Gr n v38 x67 x72) fun(r75,r76) =>
gd (bE v39 ((l1.length:Int).toNat)) (
ob (l37[v39.toNat]?) fun _ =>
some (.inl ((l37.set v39.toNat r75),r76,IntKind.wrap .i64 (v39-1))))))) (
some (.inr (l37,v38)))
def J1 (n:Nat) (l5:List (Nat)) (l3:List (Nat)):(List (Nat) × List (Nat) × Int)→Option ((List (Nat) × List (Nat) × Int) ⊕ (List (Nat) × List (Nat))):=fun(l1,l2,v0) =>
br (decide (0≤v0)) (
ob (
ob (Lr n l5 v0) fun l4 =>
ob (Nd n l2 l4) fun r0 =>
br (decide (0≤r0)) (
ob (M8 n l2 l4) fun l6 =>
ob (zd n false l6) fun(_,l7) =>
gd (bE (IntKind.wrap .i64 (Int.tdiv v0 64)) ((l3.length:Int).toNat)) (
ob (l1[(IntKind.wrap .i64 (Int.tdiv v0 64)).toNat]?) fun x3 =>
gd (decide (0≤Int.tmod v0 64)) (
ob (some (uw .u64 (uw .u64 x3 ||| uw .u64 (ej .u64 1 (Int.tmod v0 64).toNat)))) fun y2 =>
gd (bE (IntKind.wrap .i64 (Int.tdiv v0 64)) ((l3.length:Int).toNat)) (
some ((l1.set ((IntKind.wrap .i64 (Int.tdiv v0 64)).toNat) y2),l7))))) (
some (l1,l2))) fun(l8,l9) =>
some (.inl (l8,l9,IntKind.wrap .i64 (v0-1)))) (
some (.inr (l1,l2)))
def NA (n:Nat) (l1:List (Nat)) (l2:List (Nat)):Option (List Nat × List Nat) :=
gd (decide (0≤(l1.length:Int))) (gd (nK ((l1.length:Int).toNat)) (
br (decide ((l2.length:Int)=1)) (
ob (
bG (td n l1 l2) n ((List.replicate (l1.length:Int).toNat (0:Nat)),0,IntKind.wrap .i64 ((l1.length:Int)-1))) fun(l3,v0) =>
ob (zd n false ([v0])) fun(_,l4) =>
some (l3,l4)) (
ob (Jq n l1) fun r0 =>
ob (Jq n l2) fun r1 =>
ob (
bG (J1 n l2 l1) n ((List.replicate (l1.length:Int).toNat (0:Nat)),l1,IntKind.wrap .i64 (r0-r1))) fun(l5,l6) =>
some (l5,l6))))
def Ov (n:Nat) (x1:Bool) (l2:List (Nat)) (x7:Bool) (l8:List (Nat)):Option (Bool × List Nat × Bool × List Nat) :=
ob (NA n l2 l8) fun(l18,l22) =>
ob (zd n (!(x1 == x7)) l18) fun(r27,l28) =>
ob (zd n x1 l22) fun(r33,l34) =>
ob (
br (r33) (
ob (DW n r33 l34 false l8) fun(r65,l66) =>
ob (DW n r27 l28 (!x7) ([1])) fun(r73,l74) =>
some (r73,l74,r65,l66)) (
some (r27,l28,r33,l34))) fun(v54,l55,v58,l59) =>
some (v54,l55,v58,l59)
def kX (n:Nat) (l2:List (Int × Int)) (x5:Nat) (l4:List (Int × Bool)):(Int × List (Int) × Nat)→Option ((Int × List (Int) × Nat) ⊕ ((Bool × List (Nat) × List (Int) × Nat) ⊕ (List (Int) × Nat))):=fun(v0,l1,n0) =>
br (decide (v0<(l2.length:Int))) (
gd (bE v0 l2.length) (
ob (l2[v0.toNat]?) fun(x3,x4) =>
ob (α:=(Bool × List (Nat) × List (Int) × Nat) ⊕ (List (Int) × Nat)) (
ob (Jc n x5 x3 x4) fun r2 =>
br (r2) (
ob (α:=(Bool × List (Nat) × List (Int) × Nat) ⊕ (List (Int) × Nat)) (
ob (
ob (some ((bZ l4 v0).getD false)) fun y2 =>
br (y2) (
ob (
ob (J0 n l1 x3) fun r0 =>
ob (J0 n l1 x4) fun r1 =>
gd (bE (ma r0 r1) l1.length) (
ob (l1[(ma r0 r1).toNat]?) fun _ =>
some (!decide (r0=r1),(l1.set ((ma r0 r1).toNat) (mi r0 r1))))) fun(v1,l5) =>
some (l5,l1.length,!v1)) (
some (l1,n0,false))) fun(l3,n1,v2) =>
br (v2) (
ob (w9 n 0) fun(r3,l6) =>
some (.inl (r3,l6,l3,n1))) (
some (.inr (l3,n1)))) fun r4=>match r4 with
| .inl (v3,l7,l8,n2) =>
some (.inl (v3,l7,l8,n2))
| .inr (l9,n3) =>
some (.inr (l9,n3))) (
some (.inr (l1,n0)))) fun r5=>match r5 with
| .inl (v4,l10,l11,n4) =>
some (.inr (.inl (v4,l10,l11,n4)))
| .inr (l12,n5) =>
some (.inl (IntKind.wrap .i64 (v0+1),l12,n5)))) (
some (.inr (.inr (l1,n0))))
def xr (_:Nat) (n0:Nat) (l2:List (Int)):(Int × List (Int × Int))→Option ((Int × List (Int × Int)) ⊕ (Int × List (Int × Int))):=fun(v0,l1) =>
gd (bE v0 n0) (
ob (l2[v0.toNat]?) fun x3 =>
br (!decide (x3=v0)) (
gd (bE v0 n0) (
some (.inl (x3,l1)))) (
some (.inr (v0,l1))))
def ES (_:Nat) (n0:Nat) (l1:List (Int)):Int→Option ((Int) ⊕ (Int)):=fun v0 =>
gd (bE v0 n0) (
ob (l1[v0.toNat]?) fun x3 =>
br (!decide (x3=v0)) (
gd (bE v0 n0) (
some (.inl x3))) (
some (.inr v0)))
def pD (n:Nat) (x3:Nat) (n0:Nat) (l2:List (Int)) (v1:Int):(List (Int × Int) × Int)→Option ((List (Int × Int) × Int) ⊕ (List (Int × Int))):=fun(l1,v0) =>
br (decide (v0<64)) (
ob (
ob (
gd (decide (0≤v0)) (
br (decide (uw .u64 (uw .u64 (bu .u64 x3 v0.toNat) &&& uw .u64 1)=1)) (
ob (
ob (
bG (ES n n0 l2) n v0) fun v2 =>
some v2) fun v3 =>
br (decide (v3=v0)) (
some (!decide (v0=v1))) (
some false)) (
some false))) fun v4 =>
br (v4) (
ob (some (l1.length)) fun y2 =>
some (dS l1 v0 (y2:Int))) (
some l1)) fun l3 =>
some (.inl (l3,IntKind.wrap .i64 (v0+1)))) (
some (.inr l1))
def qH (_:Nat) (y3:Nat) (l2:List (Int × Int)):(List (List (Bool × List Nat)) × Int)→Option ((List (List (Bool × List Nat)) × Int) ⊕ (List (List (Bool × List Nat)))):=fun(l1,v0) =>
br (decide (v0<((y3:Int).toNat:Int))) (
ob (some (l2.length)) fun y2 =>
gd (decide (0≤(y2:Int))) (gd (nK ((y2:Int).toNat)) (
gd (bE v0 ((y3:Int).toNat)) (
ob (l1[v0.toNat]?) fun _ =>
gd (decide (0<(y2:Int).toNat)) (
some (.inl ((l1.set v0.toNat (List.replicate ((y2:Int).toNat) (false,[]))),IntKind.wrap .i64 (v0+1)))))))) (
some (.inr l1))
def CJ (_:Nat) (n0:Nat) (l1:List (Int)):Int→Option ((Int) ⊕ (Int)):=fun v0 =>
gd (bE v0 n0) (
ob (l1[v0.toNat]?) fun x3 =>
br (!decide (x3=v0)) (
gd (bE v0 n0) (
some (.inl x3))) (
some (.inr v0)))
def Ca (_:Nat) (n0:Nat) (l1:List (Int)):Int→Option ((Int) ⊕ (Int)):=fun v0 =>
gd (bE v0 n0) (
ob (l1[v0.toNat]?) fun x3 =>
br (!decide (x3=v0)) (
gd (bE v0 n0) (
some (.inl x3))) (
some (.inr v0)))
def uq (n:Nat) (l10:List (Int × Int)) (x5:Nat) (n0:Nat) (l15:List (Int)) (l16:List (Int × Bool)) (l1:List (Int × Int)) (y2:Nat):(Int × List (List (Bool × List Nat)))→Option ((Int × List (List (Bool × List Nat))) ⊕ (List (List (Bool × List Nat)))):=fun(v2,l2) =>
br (decide (v2<(l10.length:Int))) (
gd (bE v2 l10.length) (
ob (l10[v2.toNat]?) fun(x3,x4) =>
ob (
ob (Jc n x5 x3 x4) fun r0 =>
br (r0) (
ob (
ob (
ob (
bG (CJ n n0 l15) n x3) fun v3 =>
some v3) fun v0 =>
ob (
ob (
bG (Ca n n0 l15) n x4) fun v4 =>
some v4) fun v1 =>
ob (
ob (some ((bZ l16 v2).getD false)) fun y11 =>
br (y11) (
some true) (
some (decide (v0=v1)))) fun v5 =>
br (v5) (
some l2) (
ob (
ob (some ((bZ l1 v0).getD (0:Int),(bZ l1 v0).isSome)) fun(y3,y12) =>
ob (some ((bZ l1 v0).getD (0:Int),(bZ l1 v0).isSome)) fun(y4,y13) =>
ob (
br (y12) (
some y13) (
some false)) fun v6 =>
br (v6) (
gd (bE y3 ((y2:Int).toNat)) (
ob (l2[y3.toNat]?) fun l3 =>
gd (decide (0<l3.length)) (
gd (bE y3 ((y2:Int).toNat)) (
ob (l2[y3.toNat]?) fun l11 =>
gd (decide (0<l11.length)) (
gd (bE y4 l11.length) (
ob (l11[y4.toNat]?) fun(x6,l17) =>
ob (w9 n 1) fun(r1,l18) =>
ob (DW n x6 l17 r1 l18) fun(r2,l19) =>
gd (bE y4 l3.length) (
gd (Nat.blt y4.toNat l3.length) (
some (l2.set y3.toNat (l3.set y4.toNat (r2,l19))))))))))) (
some l2)) fun l4 =>
ob (
ob (some ((bZ l1 v1).getD (0:Int),(bZ l1 v1).isSome)) fun(y5,y14) =>
ob (some ((bZ l1 v1).getD (0:Int),(bZ l1 v1).isSome)) fun(y6,y15) =>
ob (
br (y14) (
some y15) (
some false)) fun v7 =>
br (v7) (
gd (bE y5 ((y2:Int).toNat)) (
ob (l4[y5.toNat]?) fun l5 =>
gd (decide (0<l5.length)) (
gd (bE y5 ((y2:Int).toNat)) (
ob (l4[y5.toNat]?) fun l12 =>
gd (decide (0<l12.length)) (
gd (bE y6 l12.length) (
ob (l12[y6.toNat]?) fun(x7,l20) =>
ob (w9 n 1) fun(r3,l21) =>
ob (DW n x7 l20 r3 l21) fun(r4,l22) =>
gd (bE y6 l5.length) (
gd (Nat.blt y6.toNat l5.length) (
some (l4.set y5.toNat (l5.set y6.toNat (r4,l22))))))))))) (
some l4)) fun l6 =>
ob (
ob (some ((bZ l1 v0).getD (0:Int),(bZ l1 v0).isSome)) fun(y7,y16) =>
ob (some ((bZ l1 v1).getD (0:Int),(bZ l1 v1).isSome)) fun(y8,y17) =>
ob (
br (y16) (
some y17) (
some false)) fun v8 =>
br (v8) (
gd (bE y7 ((y2:Int).toNat)) (
ob (l6[y7.toNat]?) fun l7 =>
gd (decide (0<l7.length)) (
gd (bE y7 ((y2:Int).toNat)) (
ob (l6[y7.toNat]?) fun l13 =>
gd (decide (0<l13.length)) (
gd (bE y8 l13.length) (
ob (l13[y8.toNat]?) fun(x8,l23) =>
ob (w9 n (-1)) fun(r5,l24) =>
ob (DW n x8 l23 r5 l24) fun(r6,l25) =>
gd (bE y8 l7.length) (
gd (Nat.blt y8.toNat l7.length) (
some (l6.set y7.toNat (l7.set y8.toNat (r6,l25))))))))))) (
some l6)) fun l8 =>
ob (
ob (some ((bZ l1 v1).getD (0:Int),(bZ l1 v1).isSome)) fun(y9,y18) =>
ob (some ((bZ l1 v0).getD (0:Int),(bZ l1 v0).isSome)) fun(y10,y19) =>
ob (
br (y18) (
some y19) (
some false)) fun v9 =>
br (v9) (
gd (bE y9 ((y2:Int).toNat)) (
ob (l8[y9.toNat]?) fun l9 =>
gd (decide (0<l9.length)) (
gd (bE y9 ((y2:Int).toNat)) (
ob (l8[y9.toNat]?) fun l14 =>
gd (decide (0<l14.length)) (
gd (bE y10 l14.length) (
ob (l14[y10.toNat]?) fun(x9,l26) =>
ob (w9 n (-1)) fun(r7,l27) =>
ob (DW n x9 l26 r7 l27) fun(r8,l28) =>
gd (bE y10 l9.length) (
gd (Nat.blt y10.toNat l9.length) (
some (l8.set y9.toNat (l9.set y10.toNat (r8,l28))))))))))) (
some l8)) fun l29 =>
some l29)) fun l30 =>
some l30) (
some l2)) fun l31 =>
some (.inl (IntKind.wrap .i64 (v2+1),l31)))) (
some (.inr l2))
def re (n:Nat) (y2:Nat) (v2:Int) (v1:Int) (x3:Bool) (l6:List Nat) (v3:Bool) (l7:List (Nat)):(List (List (Bool × List Nat)) × Int)→Option ((List (List (Bool × List Nat)) × Int) ⊕ (List (List (Bool × List Nat)))):=fun(l1,v0) =>
br (decide (v0<((y2:Int).toNat:Int))) (
gd (bE v2 ((y2:Int).toNat)) (
ob (l1[v2.toNat]?) fun l3 =>
gd (decide (0<l3.length)) (
gd (bE v0 l3.length) (
ob (l3[v0.toNat]?) fun(x4,l8) =>
gd (bE v1 ((y2:Int).toNat)) (
ob (l1[v1.toNat]?) fun l4 =>
gd (decide (0<l4.length)) (
gd (bE v1 l4.length) (
ob (l4[v1.toNat]?) fun(x5,l9) =>
ob (M4 n x4 l8 x5 l9) fun(r0,l10) =>
gd (bE v1 ((y2:Int).toNat)) (
ob (l1[v1.toNat]?) fun l5 =>
gd (decide (0<l5.length)) (
gd (bE v0 l5.length) (
ob (l5[v0.toNat]?) fun(x6,l11) =>
ob (M4 n x3 l6 x6 l11) fun(r1,l12) =>
ob (LM n r0 l10 r1 l12) fun(r2,l13) =>
gd (bE v2 ((y2:Int).toNat)) (
ob (l1[v2.toNat]?) fun l2 =>
gd (decide (0<l2.length)) (
ob (Ov n r2 l13 v3 l7) fun(r3,l14,_,_) =>
gd (bE v0 l2.length) (
gd (Nat.blt v0.toNat l2.length) (
some (.inl ((l1.set v2.toNat (l2.set v0.toNat (r3,l14))),IntKind.wrap .i64 (v0+1))))))))))))))))) (
some (.inr l1))
def oa (n:Nat) (y2:Nat) (v1:Int) (v2:Bool) (l3:List (Nat)):(List (List (Bool × List Nat)) × Int)→Option ((List (List (Bool × List Nat)) × Int) ⊕ (List (List (Bool × List Nat)))):=fun(l1,v0) =>
br (decide (v0<((y2:Int).toNat:Int))) (
gd (bE v0 ((y2:Int).toNat)) (
ob (l1[v0.toNat]?) fun l2 =>
gd (decide (0<l2.length)) (
gd (bE v1 l2.length) (
ob (l2[v1.toNat]?) fun(x3,l4) =>
ob (
bG (re n y2 v0 v1 x3 l4 v2 l3) n (l1,v1)) fun l5 =>
some (.inl (l5,IntKind.wrap .i64 (v0+1))))))) (
some (.inr l1))
def iL (n:Nat) (y2:Nat):(List (List (Bool × List Nat)) × Bool × List (Nat) × Int)→Option ((List (List (Bool × List Nat)) × Bool × List (Nat) × Int) ⊕ ((Bool × List (Nat)) ⊕ (Bool × List (Nat)))):=fun(l3,v1,l4,v0) =>
br (decide (v0<((y2:Int).toNat:Int))) (
gd (bE v0 ((y2:Int).toNat)) (
ob (l3[v0.toNat]?) fun l1 =>
gd (decide (0<l1.length)) (
gd (bE v0 l1.length) (
ob (l1[v0.toNat]?) fun(x3,l6) =>
ob (MY n x3 l6) fun r0 =>
br (decide (r0=0)) (
ob (w9 n 0) fun(r1,l7) =>
some (.inr (.inl (r1,l7)))) (
ob (
bG (oa n y2 v0 v1 l4) n (l3,IntKind.wrap .i64 (v0+1))) fun l5 =>
gd (bE v0 ((y2:Int).toNat)) (
ob (l5[v0.toNat]?) fun l2 =>
gd (decide (0<l2.length)) (
gd (bE v0 l2.length) (
ob (l2[v0.toNat]?) fun(x4,l8) =>
some (.inl (l5,x4,l8,IntKind.wrap .i64 (v0+1))))))))))) (
some (.inr (.inr (v1,l4))))
def zU (n:Nat) (_:Int) (l3:List (Int × Int)) (x3:Nat) (l5:List (Int × Bool)) (l6:List (Int × Bool)):Option (Bool × List Nat) :=
ob (Ng n) fun l4 =>
ob (
some ()) fun _ =>
ob (α:=(Bool × List (Nat) × List (Int) × Nat) ⊕ (List (Int) × Nat)) (
ob (α:=(Bool × List (Nat) × List (Int) × Nat) ⊕ (List (Int) × Nat)) (
bG (kX n l3 x3 l5) n (0,l4,l4.length)) fun r0=>match r0 with
| .inl (v0,l7,l8,n1) =>
some (.inl (v0,l7,l8,n1))
| .inr (l9,n2) =>
some (.inr (l9,n2))) fun r1=>match r1 with
| .inl (v1,l10,_,_) =>
some (v1,l10)
| .inr (l1,n0) =>
ob (Du n x3) fun r2 =>
ob (
ob (
bG (xr n n0 l1) n (r2,([]:List (Int × Int)))) fun(v2,l11) =>
some (v2,l11)) fun(v3,l12) =>
ob (
bG (pD n x3 n0 l1 v3) n (l12,0)) fun l2 =>
ob (some (l2.length)) fun y2 =>
gd (decide (0≤(y2:Int))) (gd (nK ((y2:Int).toNat)) (
ob (
bG (qH n y2 l2) n ((List.replicate (y2:Int).toNat ([]:List (Bool × List Nat))),0)) fun l13 =>
ob (
some ()) fun _ =>
ob (
ob (
bG (uq n l3 x3 n0 l1 l6 l2 y2) n (0,l13)) fun l14 =>
some l14) fun l15 =>
ob (
ob (w9 n 1) fun(r3,l16) =>
ob (α:=(Bool × List (Nat)) ⊕ (Bool × List (Nat))) (
bG (iL n y2) n (l15,r3,l16,0)) fun r4=>match r4 with
| .inl (v4,l17) =>
some (v4,l17)
| .inr (v5,l18) =>
some (v5,l18)) fun(v6,l19) =>
some (v6,l19)))
def M3 (n:Nat) (x1:Bool) (l2:List (Nat)) (x6:Bool) (l7:List (Nat)):Option (Int) :=
ob (LM n x1 l2 x6 l7) fun(r14,l15) =>
ob (MY n r14 l15) fun r20 =>
some r20
def o7 (n:Nat) (l5:List (Int × Int)) (x3:Nat) (x1:Int):(Int × Bool × List (Nat) × List (Int × Bool) × List (Int × Bool) × List (Int))→Option ((Int × Bool × List (Nat) × List (Int × Bool) × List (Int × Bool) × List (Int)) ⊕ (Bool × List (Nat) × List (Int × Bool) × List (Int × Bool) × List (Int))):=fun(v0,v1,l1,l2,l3,l4) =>
br (decide (v0<(l5.length:Int))) (
gd (bE v0 l5.length) (
ob (l5[v0.toNat]?) fun(x4,x5) =>
ob (
ob (Jc n x3 x4 x5) fun r1 =>
br (r1) (
ob (
ob (zU n x1 l5 x3 (dS l2 v0 true) l3) fun(r0,l6) =>
ob (M3 n v1 l1 r0 l6) fun r2 =>
br (decide (r2<0)) (
gd (nK (l4++[v0]).length) (
some (v1,l1,(dS l2 v0 true),l3,(l4++[v0])))) (
ob (LM n v1 l1 r0 l6) fun(r3,l7) =>
some (r3,l7,(AO (dS l2 v0 true) v0),(dS l3 v0 true),l4))) fun(v2,l8,l9,l10,l11) =>
some (v2,l8,l9,l10,l11)) (
some (v1,l1,l2,l3,l4))) fun(v3,l12,l13,l14,l15) =>
some (.inl (IntKind.wrap .i64 (v0+1),v3,l12,l13,l14,l15)))) (
some (.inr (v1,l1,l2,l3,l4)))
def Nj (n:Nat) (x1:Int) (l1:List (Int × Int)) (x3:Nat) (x4:Nat) (x5:Nat) (x6:Nat) (x7:Nat) (x8:Nat) (x9:Nat) (x10:Nat) (x11:Nat):Option (List Int × Int) :=
ob (Kd n x1 l1 x3) fun r1 =>
br (!decide (r1=0)) (
some ([],r1)) (
ob (Lm n x4 x5 x6 x7 x8 x9 x10 x11) fun(r0,l2) =>
ob (
ob (MY n r0 l2) fun r2 =>
br (decide (r2<0)) (
some true) (
ob (zU n x1 l1 x3 [] []) fun(r3,l3) =>
ob (M3 n r0 l2 r3 l3) fun r4 =>
some (decide (0≤r4)))) fun v0 =>
br (v0) (
some ([],2)) (
ob (
some (([]:List (Int × Bool)),([]:List (Int × Bool)))) fun(l4,l5) =>
ob (
ob (
bG (o7 n l1 x3 x1) n (0,r0,l2,l4,l5,([]:List (Int)))) fun(v1,l6,l7,l8,l9) =>
some (v1,l6,l7,l8,l9)) fun(_,_,_,_,l10) =>
some (l10,0)))
def JN (_:Nat):(List (Nat) × List (Nat) × Int)→Option ((List (Nat) × List (Nat) × Int) ⊕ ((Int) ⊕ (Unit))):=fun(l32,l33,v34) =>
br (decide (0≤v34)) (
gd (bE v34 8) (
ob (l32[v34.toNat]?) fun x52 =>
gd (bE v34 8) (
ob (l33[v34.toNat]?) fun x55 =>
br (!decide (x52=x55)) (
gd (bE v34 8) (
gd (bE v34 8) (
br (decide (x52<x55)) (
some (.inr (.inl (-1)))) (
some (.inr (.inl 1)))))) (
some (.inl (l32,l33,IntKind.wrap .i64 (v34-1))))))) (
some (.inr (.inr ())))
def Pv (n:Nat) (x1:Nat) (x2:Nat) (x3:Nat) (x4:Nat) (x5:Nat) (x6:Nat) (x7:Nat) (x8:Nat) (x9:Nat) (x10:Nat) (x11:Nat) (x12:Nat) (x13:Nat) (x14:Nat) (x15:Nat) (x16:Nat):Option (Int) :=
ob (α:=(Int) ⊕ (Unit)) (
bG (JN n) n (([x1,x2,x3,x4,x5,x6,x7,x8]:List (Nat)),([x9,x10,x11,x12,x13,x14,x15,x16]:List (Nat)),7)) fun r62=>match r62 with
| .inl v49 =>
some v49
| .inr _ =>
some 0
def PL (n:Nat) (x1:Bool) (x2:Nat) (x3:Nat) (x4:Nat) (x5:Nat) (x6:Nat) (x7:Nat) (x8:Nat) (x9:Nat):Option (Nat × Nat × Nat × Nat × Nat × Nat × Nat × Nat × Int) :=
ob (Pv n x2 x3 x4 x5 x6 x7 x8 x9 0 0 0 0 0 0 0 9223372036854775808) fun r24 =>
ob (
br (decide (0<r24)) (
some true) (
br (decide (r24=0)) (
some (!x1)) (
some false))) fun v27 =>
br (v27) (
some (0,0,0,0,0,0,0,0,6)) (
ob (
br (x1) (
ob (Pa n 0 0 0 0 0 0 0 0 x2 x3 x4 x5 x6 x7 x8 x9) fun(r54,r55,r56,r57,r58,r59,r60,r61,_) =>
some (r54,r55,r56,r57,r58,r59,r60,r61)) (
some (x2,x3,x4,x5,x6,x7,x8,x9))) fun(v44,v45,v46,v47,v48,v49,v50,v51) =>
some (v44,v45,v46,v47,v48,v49,v50,v51,0))
def M9 (n:Nat) (x1:Bool) (l2:List (Nat)):Option (Nat × Nat × Nat × Nat × Nat × Nat × Nat × Nat × Int) :=
br (decide (8<(l2.length:Int))) (
some (0,0,0,0,0,0,0,0,6)) (
gd (decide ((l2:List (Nat)).length≤8)) (
ob (NB ((l2:List (Nat))++([0,0,0,0,0,0,0,0]:List (Nat)).drop (l2:List (Nat)).length)) fun(x12,x13,x14,x15,x16,x17,x18,x19) =>
ob (PL n x1 x12 x13 x14 x15 x16 x17 x18 x19) fun(r21,r22,r23,r24,r25,r26,r27,r28,r29) =>
some (r21,r22,r23,r24,r25,r26,r27,r28,r29)))
def Kw (n:Nat) (x1:Int) (l2:List (Int × Int)) (x6:Nat):Option (Nat × Nat × Nat × Nat × Nat × Nat × Nat × Nat × Int) :=
ob (Kd n x1 l2 x6) fun r10 =>
br (!decide (r10=0)) (
some (0,0,0,0,0,0,0,0,r10)) (
ob (zU n x1 l2 x6 [] []) fun(r13,l14) =>
ob (M9 n r13 l14) fun(r19,r20,r21,r22,r23,r24,r25,r26,r27) =>
some (r19,r20,r21,r22,r23,r24,r25,r26,r27))
def NM (n:Nat) (x1:Nat) (x2:Nat) (x3:Nat) (x4:Nat) (x5:Nat) (x6:Nat) (x7:Nat) (x8:Nat):Option (Int × Int) :=
ob (Lp n (IntKind.wrap .i64 ((x1:Nat):Int))) fun(r11,r12,r13,r14,r15,r16,r17,r18) =>
br (!(decide (r11=x1) && decide (r12=x2) && decide (r13=x3) && decide (r14=x4) && decide (r15=x5) && decide (r16=x6) && decide (r17=x7) && decide (r18=x8))) (
some (0,6)) (
some (IntKind.wrap .i64 ((x1:Nat):Int),0))
def OT (_:Nat) (x1:Nat):Option (Int) :=
ob (some (uw .u64 ((uw .u64 (uw .u64 (bu .u64 x1 1) &&& uw .u64 6148914691236517205))+(uw .u64 (uw .u64 x1 &&& uw .u64 6148914691236517205))))) fun y2 =>
ob (some (uw .u64 ((uw .u64 (uw .u64 (bu .u64 y2 2) &&& uw .u64 3689348814741910323))+(uw .u64 (uw .u64 y2 &&& uw .u64 3689348814741910323))))) fun y4 =>
ob (some (uw .u64 (uw .u64 (uw .u64 ((bu .u64 y4 4)+y4)) &&& uw .u64 1085102592571150095))) fun y6 =>
ob (some (uw .u64 ((uw .u64 (y6+(bu .u64 y6 8)))+(bu .u64 (uw .u64 (y6+(bu .u64 y6 8))) 16)))) fun y8 =>
ob (some (FG .i64 (IntKind.wrap .i64 ((uw .u64 (y8+(bu .u64 y8 32)):Nat):Int)) 127)) fun y10 =>
some y10
def lL (n:Nat) (l3:List (Int)) (l2:List (Int × Int)) (x6:Nat):(List (Int) × Nat × Int × Int)→Option ((List (Int) × Nat × Int × Int) ⊕ ((Unit) ⊕ (Unit))):=fun(l1,n0,v1,v0) =>
br (decide (v0<(l3.length:Int))) (
gd (bE v0 l3.length) (
ob (l3[v0.toNat]?) fun x3 =>
ob (
br (decide (x3≤v1)) (
some (l1,n0,true)) (
br (decide ((l2.length:Int)≤x3)) (
some (l1,n0,true)) (
gd (bE x3 l2.length) (
ob (l2[x3.toNat]?) fun(x4,x5) =>
ob (Jc n x6 x4 x5) fun r2 =>
br (!r2) (
some (l1,n0,true)) (
gd (bE x3 l2.length) (
ob (
ob (J0 n l1 x4) fun r0 =>
ob (J0 n l1 x5) fun r1 =>
gd (bE (ma r0 r1) l1.length) (
ob (l1[(ma r0 r1).toNat]?) fun _ =>
some (!decide (r0=r1),(l1.set ((ma r0 r1).toNat) (mi r0 r1))))) fun(v2,l4) =>
some (l4,l1.length,!v2))))))) fun(l5,n1,v3) =>
br (v3) (
some (.inr (.inl ()))) (
some (.inl (l5,n1,x3,IntKind.wrap .i64 (v0+1)))))) (
some (.inr (.inr ())))
def Nc (n:Nat) (x1:Int) (l1:List (Int × Int)) (x3:Nat) (l2:List (Int)):Option (Int) :=
ob (Kd n x1 l1 x3) fun r0 =>
br (!decide (r0=0)) (
some r0) (
ob (Ng n) fun l3 =>
ob (α:=(Unit) ⊕ (Unit)) (
bG (lL n l2 l1 x3) n (l3,l3.length,-1,0)) fun r1=>match r1 with
| .inl _ =>
some 300
| .inr _ =>
ob (OT n x3) fun r2 =>
br (!decide ((l2.length:Int)=IntKind.wrap .i64 (r2-1))) (
some 300) (
some 0))
def rJ (_:Nat) (l1:List (Int)) (x5:Int):Int→Option ((Int) ⊕ ((Int) ⊕ (Unit))):=fun v7 =>
br (decide (v7<(l1.length:Int))) (
gd (bE v7 l1.length) (
ob (l1[v7.toNat]?) fun x21 =>
br (decide (x5=x21)) (
some (.inr (.inl v7))) (
some (.inl (IntKind.wrap .i64 (v7+1)))))) (
some (.inr (.inr ())))
def Pm (n:Nat) (l1:List (Int)) (x5:Int):Option (Int) :=
ob (α:=(Int) ⊕ (Unit)) (
bG (rJ n l1 x5) n 0) fun r25=>match r25 with
| .inl v16 =>
some v16
| .inr _ =>
some (-1)
def Oe (n:Nat) (l1:List (Int)) (x5:Int):Option (Bool) :=
ob (Pm n l1 x5) fun r7 =>
some (decide (0≤r7))
def N6 (n:Nat) (_:Int) (l2:List (Int × Int)) (x6:Nat) (x7:Int):Option (Bool) :=
br (decide (0≤x7)) (
br (decide (x7<(l2.length:Int))) (
gd (bE x7 l2.length) (
ob (l2[x7.toNat]?) fun(x14,x15) =>
ob (F1 n x6 x14) fun r18 =>
br (r18) (
gd (bE x7 l2.length) (
ob (F1 n x6 x15) fun r22 =>
some r22)) (
some false))) (
some false)) (
some false)
def s9 (n:Nat) (x1:Nat):Int→Option ((Int) ⊕ (Int)):=fun v3 =>
ob (F1 n x1 v3) fun r10 =>
br (!r10) (
some (.inl (IntKind.wrap .i64 (v3+1)))) (
some (.inr v3))
def N7 (n:Nat) (x1:Nat):Option (Int) :=
ob (
bG (s9 n x1) n 0) fun v8 =>
some v8
def tR (n:Nat) (l1:List (Int)) (l2:List (Int × Int)):(Nat × Int)→Option ((Nat × Int) ⊕ (Nat)):=fun(v0,v1) =>
br (decide (v1<(l1.length:Int))) (
ob (
gd (bE v1 l1.length) (
ob (l1[v1.toNat]?) fun x3 =>
gd (bE x3 l2.length) (
ob (l2[x3.toNat]?) fun(x4,x5) =>
gd (bE v1 l1.length) (
gd (bE x3 l2.length) (
ob (
ob (F1 n v0 x4) fun r0 =>
br (r0) (
some true) (
ob (F1 n v0 x5) fun r1 =>
some r1)) fun v2 =>
br (v2) (
ob (J3 n x4) fun r2 =>
ob (J3 n x5) fun r3 =>
ob (some (uw .u64 (uw .u64 (uw .u64 (uw .u64 v0 ||| uw .u64 r2)) ||| uw .u64 r3))) fun y2 =>
some y2) (
some v0)))))) fun v3 =>
some (.inl (v3,IntKind.wrap .i64 (v1+1)))) (
some (.inr v0))
def wY (n:Nat) (l1:List (Int)) (l2:List (Int × Int)):(Nat × Int)→Option ((Nat × Int) ⊕ (Nat)):=fun(v0,v1) =>
br (decide (v1<64)) (
ob (
bG (tR n l1 l2) n (v0,0)) fun v2 =>
some (.inl (v2,IntKind.wrap .i64 (v1+1)))) (
some (.inr v0))
def M0 (n:Nat) (_:Int) (l1:List (Int × Int)) (l2:List (Int)) (x3:Int):Option (Nat) :=
ob (J3 n x3) fun r0 =>
ob (
bG (wY n l2 l1) n (r0,0)) fun v0 =>
some v0
def qW (n:Nat) (l1:List (Int)) (x1:Int) (l2:List (Int × Int)) (x4:Nat):Int→Option ((Int) ⊕ ((Unit) ⊕ (Unit))):=fun v0 =>
br (decide (v0<(l1.length:Int))) (
ob (
gd (bE v0 l1.length) (
ob (l1[v0.toNat]?) fun x3 =>
ob (N6 n x1 l2 x4 x3) fun r0 =>
br (!r0) (
some true) (
br (decide (0<v0)) (
gd (bE v0 l1.length) (
gd (bE (IntKind.wrap .i64 (v0-1)) l1.length) (
ob (l1[(IntKind.wrap .i64 (v0-1)).toNat]?) fun x5 =>
some (decide (x3≤x5))))) (
some false)))) fun v1 =>
br (v1) (
some (.inr (.inl ()))) (
some (.inl (IntKind.wrap .i64 (v0+1))))) (
some (.inr (.inr ())))
def O7 (n:Nat) (x1:Int) (l2:List (Int × Int)) (x3:Nat) (l1:List (Int)):Option (Bool) :=
ob (α:=(Unit) ⊕ (Unit)) (
bG (qW n l1 x1 l2 x3) n 0) fun r0=>match r0 with
| .inl _ =>
some false
| .inr _ =>
ob (Na n x3) fun r1 =>
br (decide ((l1.length:Int)=IntKind.wrap .i64 (r1-1))) (
ob (N7 n x3) fun r2 =>
ob (M0 n x1 l2 l1 r2) fun r3 =>
some (decide (r3=x3))) (
some false)
def tl (_:Nat) (l1:List (Int)) (l2:List (Int × Int)) (x6:Int):(Nat × Bool × Int)→Option ((Nat × Bool × Int) ⊕ (Nat × Bool)):=fun(v0,v2,v1) =>
br (decide (v1<(l1.length:Int))) (
ob (
gd (bE v1 l1.length) (
ob (l1[v1.toNat]?) fun x3 =>
gd (bE x3 l2.length) (
ob (l2[x3.toNat]?) fun(x4,x5) =>
gd (decide (0≤x4)) (
gd (bE x3 l2.length) (
gd (decide (0≤x5)) (
ob (some (uw .u64 (uw .u64 (ej .u64 1 x4.toNat) ||| uw .u64 (ej .u64 1 x5.toNat)))) fun y2 =>
ob (
br (!decide (x3=x6)) (
br (!decide (uw .u64 (uw .u64 v0 &&& uw .u64 y2)=0)) (
some (!decide (uw .u64 (uw .u64 v0 &&& uw .u64 y2)=y2))) (
some false)) (
some false)) fun v3 =>
br (v3) (
some (uw .u64 (uw .u64 v0 ||| uw .u64 y2),true)) (
some (v0,v2)))))))) fun(v4,v5) =>
some (.inl (v4,v5,IntKind.wrap .i64 (v1+1)))) (
some (.inr (v0,v2)))
def xd (n:Nat) (l1:List (Int)) (l2:List (Int × Int)) (x3:Int):(Nat × Bool)→Option ((Nat × Bool) ⊕ (Nat)):=fun(v0,v1) =>
br (v1) (
ob (
bG (tl n l1 l2 x3) n (v0,false,0)) fun(v2,v3) =>
some (.inl (v2,v3))) (
some (.inr v0))
def JR (n:Nat) (_:Int) (l1:List (Int × Int)) (l2:List (Int)) (x4:Int) (x3:Int):Option (Nat) :=
gd (decide (0≤x3)) (
ob (
bG (xd n l2 l1 x4) n (ej .u64 1 x3.toNat,true)) fun v0 =>
some v0)
def OX (n:Nat) (x1:Int) (l2:List (Int × Int)) (x6:Nat) (l7:List (Int)) (x11:Int):Option (Nat × Nat × Int) :=
ob (Nc n x1 l2 x6 l7) fun r14 =>
br (!decide (r14=0)) (
some (0,0,r14)) (
ob (Oe n l7 x11) fun r17 =>
br (!r17) (
some (0,0,2)) (
ob (Du n x6) fun r20 =>
ob (JR n x1 l2 l7 x11 r20) fun r22 =>
some (r22,dU .u64 x6 r22,0)))
def Nt (n:Nat) (x1:Int) (l2:List (Int × Int)) (x6:Nat):Option (Int) :=
ob (Ni n x1 l2) fun r9 =>
br (!decide (r9=0)) (
some r9) (
ob (K0 n x6) fun r12 =>
br (decide (x1<r12)) (
some 2) (
some 0))
def yd (_:Nat) (l2:List (Int × Int)) (x1:Int):(List (Nat) × Int)→Option ((List (Nat) × Int) ⊕ (List (Nat))):=fun(l32,v33) =>
br (decide (v33<(l2.length:Int))) (
gd (bE v33 l2.length) (
ob (l2[v33.toNat]?) fun(x61,x62) =>
gd (bE x61 x1.toNat) (
ob (l32[x61.toNat]?) fun x66 =>
gd (decide (0≤x62)) (
gd (bE x61 x1.toNat) (
gd (bE x62 x1.toNat) (
ob ((l32.set x61.toNat (uw .u64 (uw .u64 x66 ||| uw .u64 (ej .u64 1 x62.toNat))))[x62.toNat]?) fun x72 =>
gd (decide (0≤x61)) (
gd (bE x62 x1.toNat) (
some (.inl (((l32.set x61.toNat (uw .u64 (uw .u64 x66 ||| uw .u64 (ej .u64 1 x62.toNat)))).set x62.toNat (uw .u64 (uw .u64 x72 ||| uw .u64 (ej .u64 1 x61.toNat)))),IntKind.wrap .i64 (v33+1))))))))))) (
some (.inr l32))
def Nm (n:Nat) (x1:Int) (l2:List (Int × Int)):Option (List Nat) :=
gd (decide (0≤x1)) (gd (nK x1.toNat) (
ob (
bG (yd n l2 x1) n ((List.replicate x1.toNat (0:Nat)),0)) fun l56 =>
some l56))
def tL (n:Nat) (l1:List Nat) (x3:Nat):(Nat × Nat)→Option ((Nat × Nat) ⊕ (Nat)):=fun(v0,v1) =>
br (!decide (v0=0)) (
ob (Du n v0) fun r0 =>
ob (
gd (bE r0 l1.length) (
ob (l1[r0.toNat]?) fun x4 =>
ob (some (uw .u64 (uw .u64 v1 ||| uw .u64 (uw .u64 (uw .u64 x4 &&& uw .u64 x3))))) fun y2 =>
some y2)) fun v2 =>
some (.inl (uw .u64 (uw .u64 v0 &&& uw .u64 (fc .u64 v0 1)),v2))) (
some (.inr v1))
def xm (n:Nat) (l1:List Nat) (x3:Nat):Nat→Option ((Nat) ⊕ (Nat)):=fun v0 =>
ob (
some ()) fun _ =>
ob (
ob (
bG (tL n l1 x3) n (v0,v0)) fun v2 =>
some v2) fun v1 =>
br (decide (v1=v0)) (
some (.inr v0)) (
some (.inl v1))
def yS (n:Nat) (l2:List Nat) (x3:Nat):(List (Nat) × Nat)→Option ((List (Nat) × Nat) ⊕ (List (Nat))):=fun(l1,v0) =>
br (!decide (v0=0)) (
ob (
bG (xm n l2 x3) n (uw .u64 (uw .u64 v0 &&& uw .u64 (zv .u64 v0)))) fun v1 =>
gd (nK (l1++[v1]).length) (
some (.inl ((l1++[v1]),dU .u64 v0 v1)))) (
some (.inr l1))
def NU (n:Nat) (x1:Int) (l1:List (Int × Int)) (x3:Nat):Option (List Nat) :=
ob (Nm n x1 l1) fun l2 =>
ob (
bG (yS n l2 x3) n (([]:List (Nat)),x3)) fun l3 =>
some l3
def M6 (n:Nat) (x1:Int) (l2:List (Int × Int)) (x6:Nat):Option (Bool × Int) :=
ob (Nt n x1 l2 x6) fun r9 =>
br (!decide (r9=0)) (
some (false,r9)) (
ob (NU n x1 l2 x6) fun l12 =>
some (decide ((l12.length:Int)=1),0))
def sy (_:Nat) (x11:Int) (x12:Int) (x1:Int) (x6:Nat):Int→Option ((Int) ⊕ ((Unit) ⊕ (Unit))):=fun v18 =>
br (decide (v18<2)) (
gd (bE v18 2) (
ob ([x11,x12][v18.toNat]?) fun x61 =>
ob (
br (decide (x61<0)) (
some true) (
br (decide (x1≤x61)) (
some true) (
gd (decide (0≤x61)) (
some (decide (uw .u64 (uw .u64 (bu .u64 x6 x61.toNat) &&& uw .u64 1)=0)))))) fun v67 =>
br (v67) (
some (.inr (.inl ()))) (
some (.inl (IntKind.wrap .i64 (v18+1)))))) (
some (.inr (.inr ())))
def qP (n:Nat) (l1:List (Int)) (l2:List (Int × Int)) (x1:Int) (x5:Int) (l3:List (Int)):(Int × Int)→Option ((Int × Int) ⊕ ((List (Int) × Int) ⊕ (Int))):=fun(v0,v1) =>
br (decide (v1<(l1.length:Int))) (
gd (bE v1 l1.length) (
ob (l1[v1.toNat]?) fun x6 =>
gd (bE x6 l2.length) (
ob (l2[x6.toNat]?) fun(x3,x4) =>
ob (
br (!decide (x3=v0)) (
br (!decide (x4=v0)) (
some true) (
ob (JR n x1 l2 l1 x6 (IntKind.wrap .i64 ((IntKind.wrap .i64 (x3+x4))-v0))) fun r0 =>
gd (decide (0≤x5)) (
some (decide (uw .u64 (uw .u64 (bu .u64 r0 x5.toNat) &&& uw .u64 1)=0))))) (
ob (JR n x1 l2 l1 x6 (IntKind.wrap .i64 ((IntKind.wrap .i64 (x3+x4))-v0))) fun r1 =>
gd (decide (0≤x5)) (
some (decide (uw .u64 (uw .u64 (bu .u64 r1 x5.toNat) &&& uw .u64 1)=0))))) fun v2 =>
br (v2) (
some (.inl (v0,IntKind.wrap .i64 (v1+1)))) (
gd (nK (l3++[IntKind.wrap .i64 ((IntKind.wrap .i64 (x3+x4))-v0)]).length) (
some (.inr (.inl ((l3++[IntKind.wrap .i64 ((IntKind.wrap .i64 (x3+x4))-v0)]),IntKind.wrap .i64 ((IntKind.wrap .i64 (x3+x4))-v0))))))))) (
some (.inr (.inr v0)))
def rX (n:Nat) (x3:Int) (l3:List (Int)) (l4:List (Int × Int)) (x1:Int):(List (Int) × Nat × Int)→Option ((List (Int) × Nat × Int) ⊕ (List (Int) × Nat)):=fun(l1,n0,v0) =>
br (!decide (v0=x3)) (
ob (α:=(List (Int) × Int) ⊕ (Int)) (
bG (qP n l3 l4 x1 x3 l1) n (v0,0)) fun r0=>match r0 with
| .inl (l2,v1) =>
some (.inl (l2,l2.length,v1))
| .inr v2 =>
some (.inl (l1,n0,v2))) (
some (.inr (l1,n0)))
def M1 (n:Nat) (x1:Int) (l1:List (Int × Int)) (x4:Nat) (l2:List (Int)) (x3:Int) (x5:Int):Option (List Int × Int) :=
ob (Nc n x1 l1 x4 l2) fun r0 =>
br (!decide (r0=0)) (
some ([],r0)) (
ob (α:=(Unit) ⊕ (Unit)) (
bG (sy n x3 x5 x1 x4) n 0) fun r1=>match r1 with
| .inl _ =>
some ([],2)
| .inr _ =>
ob (
bG (rX n x5 l2 l1 x1) n ([x3],1,x3)) fun(l3,_) =>
some (l3,0))
def tu (_:Nat) (l1:List (Int)) (l5:List (Int)):Int→Option ((Int) ⊕ ((Unit) ⊕ (Unit))):=fun v11 =>
br (decide (v11<(l1.length:Int))) (
gd (bE v11 l1.length) (
ob (l1[v11.toNat]?) fun x29 =>
gd (bE v11 l5.length) (
ob (l5[v11.toNat]?) fun x34 =>
br (!decide (x29=x34)) (
some (.inr (.inl ()))) (
some (.inl (IntKind.wrap .i64 (v11+1))))))) (
some (.inr (.inr ())))
def OQ (n:Nat) (l1:List (Int)) (l5:List (Int)):Option (Bool) :=
br (!decide ((l1.length:Int)=(l5.length:Int))) (
some false) (
ob (α:=(Unit) ⊕ (Unit)) (
bG (tu n l1 l5) n 0) fun r38=>match r38 with
| .inl _ =>
some false
| .inr _ =>
some true)
def C8 (_:Nat) (r0:Int) (r1:Nat):(List (Int) × Nat × Int)→Option ((List (Int) × Nat × Int) ⊕ (List (Int) × Nat)):=fun(l1,n0,v0) =>
br (decide (v0<r0)) (
ob (
gd (decide (0≤v0)) (
br (decide (uw .u64 (uw .u64 (bu .u64 r1 v0.toNat) &&& uw .u64 1)=1)) (
gd (nK (l1++[v0]).length) (
some ((l1++[v0]),(l1++[v0]).length))) (
some (l1,n0)))) fun(l2,n1) =>
some (.inl (l2,n1,IntKind.wrap .i64 (v0+1)))) (
some (.inr (l1,n0)))
def Aw (_:Nat) (l2:List Int):(List (Int) × Int × Int)→Option ((List (Int) × Int × Int) ⊕ (List (Int))):=fun(l1,v0,v1) =>
br (decide (v0<v1)) (
gd (bE v1 l2.length) (
ob (l1[v1.toNat]?) fun x3 =>
gd (bE v0 l2.length) (
ob (l1[v0.toNat]?) fun x4 =>
gd (bE v0 l2.length) (
gd (bE v1 l2.length) (
ob ((l1.set v0.toNat x3)[v1.toNat]?) fun _ =>
some (.inl (((l1.set v0.toNat x3).set v1.toNat x4),IntKind.wrap .i64 (v0+1),IntKind.wrap .i64 (v1-1)))))))) (
some (.inr l1))
def Ad (_:Nat) (l1:List Int) (l3:List (Int × Int)) (v1:Int) (l2:List Int) (x3:Int):Int→Option ((Int) ⊕ ((Int) ⊕ (Unit))):=fun v0 =>
br (decide (v0<(l1.length:Int))) (
gd (bE v0 l1.length) (
ob (l1[v0.toNat]?) fun x4 =>
ob (
gd (bE x4 l3.length) (
ob (l3[x4.toNat]?) fun(x6,x7) =>
gd (bE (IntKind.wrap .i64 (v1-1)) l2.length) (
ob (l2[(IntKind.wrap .i64 (v1-1)).toNat]?) fun x5 =>
gd (bE (IntKind.wrap .i64 (v1-1)) l2.length) (
some (decide (x6=mi x3 x5) && decide (x7=ma x3 x5)))))) fun v2 =>
br (v2) (
some (.inr (.inl v0))) (
some (.inl (IntKind.wrap .i64 (v0+1)))))) (
some (.inr (.inr ())))
def Dn (n:Nat) (l1:List Int) (r0:Int) (l2:List Int) (l3:List (Int × Int)):(Nat × Int)→Option ((Nat × Int) ⊕ ((Unit) ⊕ (Unit))):=fun(v1,v0) =>
br (decide (v0<(l1.length:Int))) (
gd (bE v0 l1.length) (
ob (l1[v0.toNat]?) fun x3 =>
ob (
br (decide (x3<0)) (
some true) (
br (decide (r0≤x3)) (
some true) (
gd (decide (0≤x3)) (
some (decide (uw .u64 (uw .u64 (bu .u64 v1 x3.toNat) &&& uw .u64 1)=1)))))) fun v2 =>
br (v2) (
some (.inr (.inl ()))) (
gd (decide (0≤x3)) (
ob (
br (decide (0<v0)) (
ob (
ob (
ob (α:=(Int) ⊕ (Unit)) (
bG (Ad n l2 l3 v0 l1 x3) n 0) fun r1=>match r1 with
| .inl v3 =>
some v3
| .inr _ =>
some (-1)) fun v4 =>
some (decide (0≤v4))) fun v5 =>
some (!v5)) (
some false)) fun v6 =>
br (v6) (
some (.inr (.inl ()))) (
some (.inl (uw .u64 (uw .u64 v1 ||| uw .u64 (ej .u64 1 x3.toNat)),IntKind.wrap .i64 (v0+1)))))))) (
some (.inr (.inr ())))
def F4 (n:Nat) (x1:Nat) (x2:Nat) (x11:Nat) (l6:List (Nat × Nat)) (x12:Nat) (x13:Nat) (x6:Nat) (x7:Nat) (x8:Nat):Option (Bool) :=
ob (F6 n) fun r6 =>
br (!r6) (
some false) (
ob (F7 n x1 x2 x11 l6) fun(r0,l1) =>
ob (F8 n r0 l1 x12) fun r1 =>
ob (Kw n r0 l1 r1) fun(r7,r8,r9,r10,r11,r12,r13,r14,_) =>
ob (NM n r7 r8 r9 r10 r11 r12 r13 r14) fun(r3,_) =>
ob (
br (decide (r3=0)) (
some true) (
some (decide (uw .u64 (uw .u64 r1 &&& uw .u64 (fc .u64 r1 1))=0)))) fun v0 =>
br (v0) (
some true) (
gd (decide (r3≠0)) (
ob (Lp n (Int.tmod (IntKind.wrap .i64 ((x13:Nat):Int)) r3)) fun(r15,r16,r17,r18,r19,r20,r21,r22) =>
ob (Nj n r0 l1 r1 r15 r16 r17 r18 r19 r20 r21 r22) fun(l2,r23) =>
ob (
br (!decide (r23=0)) (
some true) (
br (decide ((l2.length:Int)=0)) (
some true) (
ob (O7 n r0 l1 r1 l2) fun r24 =>
some (!r24)))) fun v1 =>
br (v1) (
some false) (
gd (decide ((l2.length:Int)≠0)) (
gd (bE (Int.tmod (IntKind.wrap .i64 ((x6:Nat):Int)) (l2.length:Int)) l2.length) (
ob (l2[(Int.tmod (IntKind.wrap .i64 ((x6:Nat):Int)) (l2.length:Int)).toNat]?) fun x3 =>
ob (OX n r0 l1 r1 l2 x3) fun(r2,r4,r25) =>
ob (M6 n r0 l1 r2) fun(r26,r27) =>
ob (M6 n r0 l1 r4) fun(r28,r29) =>
gd (bE x3 l1.length) (
ob (l1[x3.toNat]?) fun(x9,x10) =>
gd (bE x3 l1.length) (
ob (
br (!decide (r25=0)) (
some true) (
br (!decide (r27=0)) (
some true) (
br (!decide (r29=0)) (
some true) (
br (!r26) (
some true) (
br (!r28) (
some true) (
br (!decide (uw .u64 (uw .u64 r2 ||| uw .u64 r4)=r1)) (
some true) (
br (!decide (uw .u64 (uw .u64 r2 &&& uw .u64 r4)=0)) (
some true) (
ob (Du n r1) fun r5 =>
gd (decide (0≤r5)) (
br (decide (uw .u64 (uw .u64 (bu .u64 r2 r5.toNat) &&& uw .u64 1)=0)) (
some true) (
gd (decide (0≤x9)) (
gd (decide (0≤x10)) (
some (decide (uw .u64 (uw .u64 (bu .u64 r2 x9.toNat) &&& uw .u64 1)=uw .u64 (uw .u64 (bu .u64 r2 x10.toNat) &&& uw .u64 1))))))))))))))) fun v2 =>
br (v2) (
some false) (
ob (
bG (C8 n r0 r1) n (([]:List (Int)),0,0)) fun(l5,n0) =>
gd (decide ((n0:Int)≠0)) (
gd (bE (Int.tmod (IntKind.wrap .i64 ((x7:Nat):Int)) (n0:Int)) n0) (
ob (l5[(Int.tmod (IntKind.wrap .i64 ((x7:Nat):Int)) (n0:Int)).toNat]?) fun x4 =>
gd (decide ((n0:Int)≠0)) (
gd (bE (Int.tmod (IntKind.wrap .i64 ((x8:Nat):Int)) (n0:Int)) n0) (
ob (l5[(Int.tmod (IntKind.wrap .i64 ((x8:Nat):Int)) (n0:Int)).toNat]?) fun x5 =>
ob (M1 n r0 l1 r1 l2 x4 x5) fun(l3,r30) =>
ob (M1 n r0 l1 r1 l2 x5 x4) fun(l4,r31) =>
ob (
ob (
bG (Aw n l4) n (l4,0,IntKind.wrap .i64 ((l4.length:Int)-1))) fun l7 =>
some l7) fun l8 =>
ob (
br (!decide (r30=0)) (
some true) (
br (!decide (r31=0)) (
some true) (
br (decide ((l3.length:Int)=0)) (
some true) (
gd (bE 0 l3.length) (
ob (l3[(0:Int).toNat]?) fun x14 =>
br (!decide (x14=x4)) (
some true) (
gd (bE (IntKind.wrap .i64 ((l3.length:Int)-1)) l3.length) (
ob (l3[(IntKind.wrap .i64 ((l3.length:Int)-1)).toNat]?) fun x15 =>
br (!decide (x15=x5)) (
some true) (
ob (OQ n l3 l8) fun r32 =>
some (!r32))))))))) fun v3 =>
br (v3) (
some false) (
ob (α:=(Unit) ⊕ (Unit)) (
bG (Dn n l3 r0 l2 l1) n (0,0)) fun r33=>match r33 with
| .inl _ =>
some false
| .inr _ =>
some true))))))))))))))
end Go.Proofs.YtookeaakpiefjaaDoor
end

section
namespace Go.Ab.W
open Go Go.Ab
section
variable {P : Program} {ty el : TypeId}
theorem iG {eq:TypeId→Value→Value→Option Bool} {xs ys:Array Value} {t off:Nat} {rest:List (TypeId × Nat)} {x y:Value} {b r:Bool} (h1:eJ P t xs off=some x) (h2:eJ P t ys off=some y) (h3:eq t x y=some b) (h4:eW eq P xs ys rest=some r):eW eq P xs ys ((t,off)::rest)=some (b && r):=by
 unfold eW;rw[h1,h2]
 dsimp only
 rw[h3];cases b with
 | true=>exact h4
 | false=>rfl
theorem pf {k:IntKind} (he:P.underlying el=some (.int k)) (d:Nat) (x y:Nat):jb P (d+1) el (.int k ((x:Nat):Int)) (.int k ((y:Nat):Int))=some (decide (x=y)):=by
 simp only[jb,he,if_true]
 congr 1
 rw[Bool.eq_iff_iff];simp only[beq_iff_eq,decide_eq_true_eq];omega
theorem LB {k:IntKind} (hu:P.underlying ty=some (.array 8 el)) (hk:known P el=true) (hs:an P el=1) (ha:dD P el=false) (he:P.underlying el=some (.int k)) (d:Nat) (x0 y0 x1 y1 x2 y2 x3 y3 x4 y4 x5 y5 x6 y6 x7 y7:Nat) :
  jb P (d+2) ty (.agg #[.int k ((x0:Nat):Int),.int k ((x1:Nat):Int),.int k ((x2:Nat):Int),.int k ((x3:Nat):Int),.int k ((x4:Nat):Int),.int k ((x5:Nat):Int),.int k ((x6:Nat):Int),.int k ((x7:Nat):Int)])
   (.agg #[.int k ((y0:Nat):Int),.int k ((y1:Nat):Int),.int k ((y2:Nat):Int),.int k ((y3:Nat):Int),.int k ((y4:Nat):Int),.int k ((y5:Nat):Int),.int k ((y6:Nat):Int),.int k ((y7:Nat):Int)]) =
   some (decide (x0=y0) && decide (x1=y1) && decide (x2=y2) && decide (x3=y3) && decide (x4=y4) && decide (x5=y5) && decide (x6=y6) && decide (x7=y7)):=by
 have hp:∀(cs:Array Value) (i:Nat) (v:Value),cs[i]? = some v→eJ P el cs i=some v:=fun cs i v h=>by
  unfold eJ;rw[hk,ha,h]; rfl
 show jb P ((d+1)+1) ty _ _=_
 unfold jb;simp only[hu,hk,if_true,hs]
 show eW _ P _ _ [(el,0),(el,1),(el,2),(el,3),(el,4),(el,5),(el,6),(el,7)]=_
 simp only[Bool.and_assoc];rw[iG (hp _ 0 _ rfl) (hp _ 0 _ rfl) (pf he d x0 y0) (iG (hp _ 1 _ rfl) (hp _ 1 _ rfl) (pf he d x1 y1) (iG (hp _ 2 _ rfl) (hp _ 2 _ rfl) (pf he d x2 y2) (iG (hp _ 3 _ rfl) (hp _ 3 _ rfl) (pf he d x3 y3) (iG (hp _ 4 _ rfl) (hp _ 4 _ rfl) (pf he d x4 y4) (iG (hp _ 5 _ rfl) (hp _ 5 _ rfl) (pf he d x5 y5) (iG (hp _ 6 _ rfl) (hp _ 6 _ rfl) (pf he d x6 y6) (iG (hp _ 7 _ rfl) (hp _ 7 _ rfl) (pf he d x7 y7) rfl)))))))];simp only[Bool.and_true]
theorem O2 {k:IntKind} (hu:P.underlying ty=some (.array 8 el)) (hk:known P el=true) (hs:an P el=1) (ha:dD P el=false) (he:P.underlying el=some (.int k)) (x0 y0 x1 y1 x2 y2 x3 y3 x4 y4 x5 y5 x6 y6 x7 y7:Nat) :
  jb P Op.maxDepth ty (.agg #[.int k ((x0:Nat):Int),.int k ((x1:Nat):Int),.int k ((x2:Nat):Int),.int k ((x3:Nat):Int),.int k ((x4:Nat):Int),.int k ((x5:Nat):Int),.int k ((x6:Nat):Int),.int k ((x7:Nat):Int)])
   (.agg #[.int k ((y0:Nat):Int),.int k ((y1:Nat):Int),.int k ((y2:Nat):Int),.int k ((y3:Nat):Int),.int k ((y4:Nat):Int),.int k ((y5:Nat):Int),.int k ((y6:Nat):Int),.int k ((y7:Nat):Int)]) =
   some (decide (x0=y0) && decide (x1=y1) && decide (x2=y2) && decide (x3=y3) && decide (x4=y4) && decide (x5=y5) && decide (x6=y6) && decide (x7=y7)) :=
 LB hu hk hs ha he 9998 x0 y0 x1 y1 x2 y2 x3 y3 x4 y4 x5 y5 x6 y6 x7 y7
end
class TyC (P:Program) (ty:TypeId) (ag:outParam Bool) (sz:outParam Nat):Prop where
 t:TyI P ty ag sz
class FaC (P:Program) (ty:TypeId) (f:Nat) (off:outParam Nat):Prop where
 t:∀b o:Nat,aP P ty (ptr b o) f=some (ptr b (o+off))
class SlC (P:Program) (ty:TypeId) (el:outParam TypeId) (w:outParam Nat):Prop where
 t:SlT P ty el w
class ArC (P:Program) (ty:TypeId) (el:outParam TypeId) (len w:outParam Nat):Prop where
 t:ArT P ty el len w
class UsC (P:Program) (ty:TypeId) (el:outParam TypeId):Prop where
 t:P.underlying ty=some (.slice el)
section
variable {E : Env} {n : Nat} {m0 : AMem} {fs : Fs} {ps ps' : List Pc} {ops : Array Oper} {os : List Oper} {K : Tm → AMem → Prop} {dr : Bool}
variable {ty : TypeId} {p : String} {af : Array Edge} {d : Option Nat} {o : Op} {g : Option (Nat × Bool)} {v : Value}
theorem Wo.Qf {j:Nat} {b:Bool} (hg:sP ops fs (some (j,b)) true) (k:Wo dr E n ops K (⟨d,o,ty,p,af,none⟩::os) m0 fs ps):Wo dr E n ops K (⟨d,o,ty,p,af,some (j,b)⟩::os) m0 fs ps:=by
 cases dr with
 | false =>
  intro t m hf hm;have h:=k t m hf hm;simp only[jZ,hg t _ _ _ _ _ hf,if_true];simp only[jZ,gn t _ _ _ _ _ hf,if_true] at h;exact h
 | true =>
  intro t m w hf hm hw;have h:=k t m w hf hm hw;simp only[gH,hg t _ _ _ _ _ hf,if_true];simp only[gH,gn t _ _ _ _ _ hf,if_true] at h;exact h
end
section
variable {k : IntKind} {P : Program} {ty : TypeId}
theorem LJ (_:k.signed=true) (a b:Int):aS .add ty P (.int k a) (.int k b)=some (.int k (k.wrap (a+b))):=ld _ _ _
theorem KF (_:k.signed=true) (a b:Int):aS .sub ty P (.int k a) (.int k b)=some (.int k (k.wrap (a-b))):=m5 _ _ _
theorem Mx (_:k.signed=true) (a b:Int):aS .lss ty P (.int k a) (.int k b)=some (.bool (decide (a<b))):=pS _ _ _
theorem Kl (_:k.signed=true) (a b:Int):aS .leq ty P (.int k a) (.int k b)=some (.bool (decide (a≤b))):=wj _ _ _
theorem KP (_:k.signed=true) (a b:Int):aS .gtr ty P (.int k a) (.int k b)=some (.bool (decide (b<a))):=m9 _ _ _
theorem Lw (_:k.signed=true) (a b:Int):aS .geq ty P (.int k a) (.int k b)=some (.bool (decide (b≤a))):=pZ _ _ _
theorem MJ (_:k.signed=true) (a b:Int):aS .eql ty P (.int k a) (.int k b)=some (.bool (decide (a=b))):=pQ _ _ _
theorem Ky (_:k.signed=true) (a b:Int):aS .neq ty P (.int k a) (.int k b)=some (.bool (!decide (a=b))):=MA _ _
theorem KT (_:k.signed=false) (a b:Nat):aS .lss ty P (.int k (a:Int)) (.int k (b:Int))=some (.bool (decide (a<b))):=K9 _ _
theorem Mb (_:k.signed=false) (a b:Nat):aS .leq ty P (.int k (a:Int)) (.int k (b:Int))=some (.bool (decide (a≤b))):=Lj _ _
theorem Ko (_:k.signed=false) (a b:Nat):aS .gtr ty P (.int k (a:Int)) (.int k (b:Int))=some (.bool (decide (b<a))):=Lo _ _
theorem MN (_:k.signed=false) (a b:Nat):aS .geq ty P (.int k (a:Int)) (.int k (b:Int))=some (.bool (decide (b≤a))):=Ly _ _
theorem KO (_:k.signed=false) (a b:Nat):aS .eql ty P (.int k (a:Int)) (.int k (b:Int))=some (.bool (decide (a=b))):=Aa _ _
theorem LW (_:k.signed=false) (a b:Nat):aS .neq ty P (.int k (a:Int)) (.int k (b:Int))=some (.bool (!decide (a=b))):=Mu _ _
end
section
variable {E : Env} {n : Nat} {m0 : AMem} {fs : Fs} {ps ps' : List Pc} {ops : Array Oper} {os : List Oper} {K : Tm → AMem → Prop} {dr : Bool}
variable {ty ty' oty : TypeId} {p : String} {af : Array Edge} {d : Nat} {dd : Option Nat} {o : Op} {a b r v : Value} {x y c : Operand}
theorem Wo.kN (k:Wo dr E n ops K (⟨dd,o,ty,p,af,none⟩::os) m0 fs ps):Wo dr E n ops K (⟨dd,o,ty,p,af,none⟩::os) m0 fs ps:=k
theorem Wo.kG {g:Nat × Bool} (k:Wo dr E n ops K (⟨dd,o,ty,p,af,some g⟩::os) m0 fs ps):Wo dr E n ops K (⟨dd,o,ty,p,af,some g⟩::os) m0 fs ps:=k
def Has (ps:List Pc) (q:Pc):Prop:=∃k,pk ps k=some q
theorem Has.z {q:Pc}:Has (q::ps) q:=⟨0,rfl⟩
theorem Has.s {q q':Pc} (h:Has ps q):Has (q'::ps) q:=by obtain⟨k,h⟩:=h; exact⟨k+1,h⟩
theorem Wo.Ql (h:ev E fs x=some v) (hd:Nat.blt d n=true) (k:Wo dr E n ops K os m0 ((d,v)::fs) ps):Wo dr E n ops K (⟨some d,.move x,ty,p,af,none⟩::os) m0 fs ps:=Wo.od (bF h) hd k
theorem Wo.QB (h:ev E fs x=some v) (hd:Nat.blt d n=true) (k:Wo dr E n ops K os m0 ((d,v)::fs) ps):Wo dr E n ops K (⟨some d,.assign x,ty,p,af,none⟩::os) m0 fs ps:=Wo.od (oP h) hd k
theorem Wo.QG {op:BinOp} (h:ev E fs x=some a) (h':ev E fs y=some b) (hr:aS op oty E.P a b=some r) (hd:Nat.blt d n=true) (k:Wo dr E n ops K os m0 ((d,r)::fs) ps):Wo dr E n ops K (⟨some d,.binOp op oty x y ty',ty,p,af,none⟩::os) m0 fs ps:=Wo.od (aF h h' hr) hd k
theorem Wo.QA {f:Nat} (h:ev E fs x=some a) (hr:aP E.P oty a f=some r) (hd:Nat.blt d n=true) (k:Wo dr E n ops K os m0 ((d,r)::fs) ps):Wo dr E n ops K (⟨some d,.fieldAddr oty x f,ty,p,af,none⟩::os) m0 fs ps:=Wo.od (im h hr) hd k
def HM (ps:List Pc) (q q':Pc) (ps':List Pc):Prop:=∃k,pk ps k=some q∧cC ps k q'=ps'
theorem HM.z {q q':Pc}:HM (q::ps) q q' (q'::ps):=⟨0,rfl,rfl⟩
theorem HM.s {q q' r:Pc} (h:HM ps q q' ps'):HM (r::ps) q q' (r::ps'):=by obtain⟨k,h,h'⟩:=h; exact⟨k+1,h,by rw[←h']; rfl⟩
theorem Wo.QC {b:Bool} (hc:ev E fs c=some (.bool b)) (hb:b=true) (h:ev E fs x=some v) (hd:Nat.blt d n=true) (k:Wo dr E n ops K os m0 ((d,v)::fs) ps):Wo dr E n ops K (⟨some d,.pick c x y,ty,p,af,none⟩::os) m0 fs ps:=Wo.od (I7 hc hb h) hd k
theorem Wo.Qp {b:Bool} (hc:ev E fs c=some (.bool b)) (hb:b=false) (h:ev E fs y=some v) (hd:Nat.blt d n=true) (k:Wo dr E n ops K os m0 ((d,v)::fs) ps):Wo dr E n ops K (⟨some d,.pick c x y,ty,p,af,none⟩::os) m0 fs ps:=Wo.od (H4 hc hb h) hd k
theorem Wo.Qx (hc:ev E fs c=some (.bool true)) (h:ev E fs x=some v) (hd:Nat.blt d n=true) (k:Wo dr E n ops K os m0 ((d,v)::fs) ps):Wo dr E n ops K (⟨some d,.pick c x y,ty,p,af,none⟩::os) m0 fs ps:=Wo.od (No hc h) hd k
theorem Wo.Qo (hc:ev E fs c=some (.bool false)) (h:ev E fs y=some v) (hd:Nat.blt d n=true) (k:Wo dr E n ops K os m0 ((d,v)::fs) ps):Wo dr E n ops K (⟨some d,.pick c x y,ty,p,af,none⟩::os) m0 fs ps:=Wo.od (OC hc h) hd k
theorem Wo.QD {i:Nat} {vs:Array Value} (h:ev E fs x=some (.tuple vs)) (hr:vs[i]? = some r) (hd:Nat.blt d n=true) (k:Wo dr E n ops K os m0 ((d,r)::fs) ps):Wo dr E n ops K (⟨some d,.extract x i,ty,p,af,none⟩::os) m0 fs ps:=Wo.od (Gw h hr) hd k
theorem Wo.QJ {b:Bool} (h:ev E fs x=some (.bool b)) (hd:Nat.blt d n=true) (k:Wo dr E n ops K os m0 ((d,.bool (!b))::fs) ps):Wo dr E n ops K (⟨some d,.unOp .not oty x,ty,p,af,none⟩::os) m0 fs ps:=Wo.od (Fz h rfl) hd k
theorem Wo.QR {el:TypeId} {len w b o i:Nat} {kd:IntKind} (ht:ArT E.P oty el len w) (h:ev E fs x=some (ptr b o)) (h':ev E fs y=some (.int kd (i:Int))) (hi:i<len) (hd:Nat.blt d n=true) (k:Wo dr E n ops K os m0 ((d,ptr b (o+i*w))::fs) ps):Wo dr E n ops K (⟨some d,.indexAddr oty x y,ty,p,af,none⟩::os) m0 fs ps:=Wo.od (ve h h' (yQ ht hi)) hd k
theorem Wo.P2 {elem:TypeId} {b o w l cap:Nat} {i:Int} {kd:IntKind} (ht:SlT E.P oty elem w) (hx:ev E fs x=some (.slice (some ⟨b,o,none⟩) l cap)) (hy:ev E fs y=some (.int kd i)) (hi:0≤i∧i.toNat<l) (hd:Nat.blt d n=true) (k:Wo dr E n ops K os m0 ((d,ptr b (o+i.toNat*w+0))::fs) ps):Wo dr E n ops K (⟨some d,.indexAddr oty x y,ty,p,af,none⟩::os) m0 fs ps:=Wo.od (JP ht hx hy hi) hd k
theorem Wo.Px {elem:TypeId} {b w l cap:Nat} {i:Int} {kd:IntKind} (ht:SlT E.P oty elem w) (hx:ev E fs x=some (.slice (some ⟨b,0,none⟩) l cap)) (hy:ev E fs y=some (.int kd i)) (hi:0≤i∧i.toNat<l) (hd:Nat.blt d n=true) (k:Wo dr E n ops K os m0 ((d,ptr b (i.toNat*w+0))::fs) ps):Wo dr E n ops K (⟨some d,.indexAddr oty x y,ty,p,af,none⟩::os) m0 fs ps:=Wo.od (dy ht hx hy hi) hd k
def yp (ps:List Pc) (a:Option Addr):Prop:=∃k q,pk ps k=some q∧(iE a=q.pX∨a=none)
theorem yp.z {q:Pc} {a:Option Addr} (h:iE a=q.pX):yp (q::ps) a:=⟨0,q,rfl,.inl h⟩
theorem yp.s {q:Pc} {a:Option Addr} (h:yp ps a):yp (q::ps) a:=by obtain⟨k,r,h⟩:=h; exact⟨k+1,r,h⟩
theorem Wo.QO {l cap:Nat} {a:Option Addr} {ars:Array Operand} {elem:TypeId} (hu:E.P.underlying oty=some (.slice elem)) (ha:gW E fs ars.toList=some [.slice a l cap]) (hp:yp ps a) (hd:Nat.blt d n=true) (k:Wo dr E n ops K os m0 ((d,.int .i64 (l:Int))::fs) ps):Wo dr E n ops K (⟨some d,.call ⟨.builtin .len,ars,#[oty]⟩,ty,p,af,none⟩::os) m0 fs ps:=by
 obtain⟨_,_,hp,hb⟩:=hp;exact Wo.od (Ok hu ha hp hb) hd k
theorem Wo.zT {j:Nat} {q:Bool} (hd:(ops[j]?).bind (·.dst)=some d) (h:lk fs d=some (.bool q)) (hq:q=true) (k:Wo dr E n ops K (⟨dd,o,ty,p,af,none⟩::os) m0 fs ps):Wo dr E n ops K (⟨dd,o,ty,p,af,some (j,true)⟩::os) m0 fs ps:=Wo.Qf (gg hd h (iU hq)) k
theorem Wo.zF {j:Nat} {q:Bool} (hd:(ops[j]?).bind (·.dst)=some d) (h:lk fs d=some (.bool q)) (hq:q=false) (k:Wo dr E n ops K (⟨dd,o,ty,p,af,none⟩::os) m0 fs ps):Wo dr E n ops K (⟨dd,o,ty,p,af,some (j,false)⟩::os) m0 fs ps:=Wo.Qf (gg hd h (fe hq)) k
theorem Wo.QF {j d':Nat} {q:Bool} (hd:(ops[j]?).bind (·.dst)=some d') (h:lk fs d'=some (.bool q)) (hq:q=false) (hd':Nat.blt d n=true) (k:Wo dr E n ops K os m0 ((d,undef)::fs) ps):Wo dr E n ops K (⟨some d,o,ty,p,af,some (j,true)⟩::os) m0 fs ps:=Wo.s (gg hd h (J6 hq)) hd' k
theorem Wo.Qv {j d':Nat} {q:Bool} (hd:(ops[j]?).bind (·.dst)=some d') (h:lk fs d'=some (.bool q)) (hq:q=true) (hd':Nat.blt d n=true) (k:Wo dr E n ops K os m0 ((d,undef)::fs) ps):Wo dr E n ops K (⟨some d,o,ty,p,af,some (j,false)⟩::os) m0 fs ps:=Wo.s (gg hd h (DV hq)) hd' k
theorem Wo.QH {j d':Nat} {q:Bool} (hd:(ops[j]?).bind (·.dst)=some d') (h:lk fs d'=some undef) (hd':Nat.blt d n=true) (k:Wo dr E n ops K os m0 ((d,undef)::fs) ps):Wo dr E n ops K (⟨some d,o,ty,p,af,some (j,q)⟩::os) m0 fs ps:=Wo.s (gu hd h) hd' k
end
structure Bx (Q:Prop):Prop where
 v:Q
theorem wz {P Q:Prop} (k:Q) (h:Bx Q→P:=by
  intro h
  repeat first
   | refine Wk.seq ?_
   | refine Wk.region ?_
   | (apply Wk.nJ; exact rfl; first|assumption|exact rfl)
   | (apply Wk.Ot; exact rfl; first|assumption|exact rfl)
   | refine Wk.skip ?_
   | refine Wk.ret ?_
   | refine Wk.exit ?_
   | refine Wk.block ?_
   | (apply Wk.draw; kernel_rfl)
  repeat first
   | ((first|refine Wo.kN ?_ | (refine Wo.kG ?_; first | (apply Wo.zT; exact rfl; exact rfl; first|assumption|with_reducible exact rfl) | (apply Wo.zF; exact rfl; exact rfl; first|assumption|with_reducible exact rfl))); first
    | (apply Wo.Ql; exact rfl; exact rfl)
    | (apply Wo.QB; exact rfl; exact rfl)
    | (apply Wo.QG; exact rfl; exact rfl; (first | (apply LJ; exact rfl) | (apply Mx; exact rfl) | (apply KF; exact rfl) | (apply MJ; exact rfl) | (apply Ky; exact rfl) | (apply Lw; exact rfl) | (apply KP; exact rfl) | (apply Kl; exact rfl) | (apply KO; exact rfl) | (apply LW; exact rfl) | (apply KT; exact rfl) | (apply Mb; exact rfl) | (apply MN; exact rfl) | (apply Ko; exact rfl) | (apply kg; exact rfl) | (apply rE; exact rfl) | (apply oI; exact rfl) | (apply vH; exact rfl) | (apply HV; exact rfl)); exact rfl)
    | (apply Wo.QA; exact rfl; exact FaC.t _ _; exact rfl)
    | (apply Wo.zld; exact TyC.t; exact rfl; (repeat first|exact Has.z|refine Has.s ?_); exact rfl; exact rfl)
    | (apply Wo.zldr; exact TyC.t; exact rfl; (repeat first|exact Has.z|refine Has.s ?_); exact ay (by assumption); exact rfl; exact rfl; exact rfl)
    | (apply Wo.zlda; exact TyC.t; exact rfl; (repeat first|exact Has.z|refine Has.s ?_); exact ay (by assumption); exact rfl; exact rfl; exact rfl)
    | (apply Wo.zst; exact TyC.t; exact rfl; exact rfl; (repeat first|exact HM.z|apply HM.s); exact rfl; exact rfl)
    | (apply Wo.QC; exact rfl; assumption; exact rfl; exact rfl)
    | (apply Wo.Qp; exact rfl; assumption; exact rfl; exact rfl)
    | (apply Wo.Qx; exact rfl; exact rfl; exact rfl)
    | (apply Wo.Qo; exact rfl; exact rfl; exact rfl)
    | (apply Wo.QD; exact rfl; exact rfl; exact rfl)
    | (apply Wo.QJ; exact rfl; exact rfl)
    | (apply Wo.QR; exact ArC.t; exact rfl; exact rfl; decide; exact rfl)
    | (apply Wo.Px; exact SlC.t; exact rfl; exact rfl; assumption; exact rfl)
    | (apply Wo.P2; exact SlC.t; exact rfl; exact rfl; assumption; exact rfl)
    | (apply Wo.QO; exact UsC.t; exact rfl; (repeat first|exact yp.z rfl|refine yp.s ?_); exact rfl))
   | (refine Wo.kG ?_; first
    | (apply Wo.QF; exact rfl; exact rfl; (first|assumption|with_reducible exact rfl); exact rfl)
    | (apply Wo.Qv; exact rfl; exact rfl; (first|assumption|with_reducible exact rfl); exact rfl)
    | (apply Wo.QH; exact rfl; exact rfl; exact rfl))
  try refine Wo.nil ?_
  repeat first
   | refine At.tn ?_
   | refine At.te ?_
   | refine At.tr ?_
   | refine At.bn ?_
   | refine At.be ?_
   | refine At.br ?_
   | refine At.bx rfl ?_
  exact h.v):P:=h ⟨k⟩
theorem au {P Q:Prop} (k:Q) (h:Bx Q→P:=by intro h; refine wz ?_; refine wz ?_; exact h.v):P:=h ⟨k⟩
theorem dY {P Q:Prop} (k:Q) (h:Bx Q→P:=by intro h; refine wz ?_; refine wz ?_; refine wz ?_; exact h.v):P:=h ⟨k⟩
theorem P6 {P Q:Prop} (k:Q) (h:Bx Q→P:=by intro h; refine wz ?_; refine wz ?_; refine wz ?_; refine wz ?_; exact h.v):P:=h ⟨k⟩
section
variable {E : Env} {n : Nat} {m0 : AMem} {fs : Fs} {ps : List Pc} {fn : FuncId} {ro : Option Nat} {c : Code} {Q : AExit → Tm → AMem → Prop}
def Wl (E:Env) (n:Nat) (fn:FuncId) (ro:Option Nat) (c:Code) (Q:AExit→Tm→AMem→Prop) (m0:AMem) (fs:Fs) (ps:List Pc):Prop:=∀t m,Fr t fs→Hp m0 m ps→lN E n fn ro c Q t m
theorem Wl.round (h:Wk E n fn ro c (lS (lN E n fn ro c Q) Q) m0 fs ps):Wl E n fn ro c Q m0 fs ps:=fun t m hf hm=>.round (h t m hf hm)
end
theorem bO {β:Type} {i:Int} {n:Nat} {k:Option β} {r:β} (h:gd (bE i n) k=some r):(0≤i∧i.toNat<n)∧k=some r:=⟨rm (al h).1,(al h).2⟩
section
variable {E : Env} {n : Nat} {m0 : AMem} {fs fs' : Fs} {ps ps' : List Pc} {ops : Array Oper} {os : List Oper} {K : Tm → AMem → Prop} {dr : Bool} {fn : FuncId} {ro : Option Nat} {c : Code} {Q : AExit → Tm → AMem → Prop}
variable {ty oty : TypeId} {p : String} {af : Array Edge} {d : Nat} {g : Option (Nat × Bool)} {x : Operand} {v : Value}
theorem ae {γ:Type} {G:γ→En} {e:AExit} (g:γ) (ks:List Nat) (he:e=(G g).e:=by rfl) (hs:sub fs (G g).fs:=by repeat first|exact sn|refine sc rfl ?_) (hn:kV ks=true:=by rfl) (hp:aB ps ks=some (G g).ps:=by rfl):At (oD m0 G) e m0 fs ps:=At.en g he hs (ak.aB ks hn hp)
theorem ar {α:Type} {V:α→Value} {N:α→List Pc} {rs:List ResultVar} {vs:List Value} (x:α) (ks:List Nat) (hr:Res1 E fs ps rs vs:=by repeat first|exact .nil | (apply Res1.tmp; exact rfl) | (apply Res1.zc; exact TyC.t; exact rfl; (repeat first|exact Has.z|refine Has.s ?_); exact rfl)) (hv:eC vs=V x:=by rfl) (hn:kV ks=true:=by rfl) (hp:aB ps ks=some (N x):=by rfl):At (sA E rs fun v m=>∃x,v=V x∧Hp m0 m (N x)) .ret m0 fs ps:=.ret hr fun _ hm=>⟨x,hv,hm.aB ks hn hp⟩
def ap {ρ:Type} {δ:ρ→Type} (X:(r:ρ)→δ r→En) (r:ρ):δ r→En:=X r
theorem lo {σ ρ γ:Type} {δ:ρ→Type} {body:σ→Option (σ ⊕ ρ)} {X:(r:ρ)→δ r→En} {N:Nat} {s:σ} {r:ρ} (h:bG body N s=some r) (g:γ) (ks:List Nat) (I:σ→γ→En)
  (hb:∀s g r,body s=some r→Wk E n fn ro c (match r with | .inl s'=>oD m0 (I s') | .inr r=>oD m0 (X r)) m0 (I s g).fs (I s g).ps)
  (hs:sub fs (I s g).fs:=by repeat first|exact sn|refine sc rfl ?_) (hd:kV ks=true:=by rfl) (hp:aB ps ks=some (I s g).ps:=by rfl)
  (hn:∀s g,(I s g).e = .normal:=by exact fun _ _=>rfl) (hx:∀r g,(X r g).e≠.normal:=by intro r d; first | (intro e; cases e; done) | (rcases r with r|r<;>first | (intro e; cases e; done) | (rcases r with r|r<;>first | (intro e; cases e; done) | (rcases r with r|r<;>intro e<;>cases e)))):Wk E n fn ro (.loop c) (oD m0 (ap X r)) m0 fs ps:=.pG hs (ak.aB ks hd hp) (Wk.loop body I X hb hn hx N s r h g)
theorem ct {ρ γ:Type} (F:ρ→γ→En) (r:ρ) (h:Wk E n fn ro c (oD m0 (ap F r)) m0 fs ps) (k:∀g,At Q (F r g).e m0 (F r g).fs (F r g).ps):Wk E n fn ro c Q m0 fs ps:=.cut h k
theorem wb (k:∀b,Wo dr E n ops K os m0 ((d,ptr b 0)::fs) (.obj b (.cells v.cells.toList .own)::ps)) (h:ev E fs x=some v:=by rfl) (hd:Nat.blt d n=true:=by rfl):Wo dr E n ops K (⟨some d,.box oty x,ty,p,af,none⟩::os) m0 fs ps:=Wo.x (Pr h) gn hd k
theorem wa {z:Value} (hz:bw E.P oty=some z) (k:∀b,Wo dr E n ops K os m0 ((d,ptr b 0)::fs) (.obj b (.cells z.cells.toList .own)::ps)) (hp:bq z=true:=by rfl) (hd:Nat.blt d n=true:=by rfl):Wo dr E n ops K (⟨some d,.alloc oty,ty,p,af,none⟩::os) m0 fs ps:=Wo.x (OI hz hp) gn hd k
theorem cw {f:FuncId} {F:Func} {args:List Value} {rs:List ResultVar} {N:Nat} {R:Value→AMem→Prop} {m:AMem} (hf:E.P.funcs[f]? = some F) (hm:Hp m0 m ps) (h:Wk E N f none c (sA E rs R) m0 (yO args 0 []) ps) (hp:E.cP f=none:=by rfl) (hb:F.body=some c:=by rfl) (hrs:F.results.toList=rs:=by rfl) (hN:max args.length F.ntmps=N:=by rfl):aA E f args m R:=cc hp hf hb hrs hN hm h
variable {m : AMem} {a : Option Addr} {cap w l : Nat} {es : List (List Value)}
theorem Hp.q (h:Hp m0 m ps) (k:Nat) {p:Pc} (hp:pk ps k=some p:=by rfl) (hi:IsRd p a cap w l es:=by first|exact .rd _ _ _ _ _|exact .sl _ _ _ _|exact .arr _ _ _ _ _):Rd m a cap w l es:=h.rd hp hi
theorem Hp.no (h:Hp m0 m ps) (k:Nat) (hp:pk ps k=some (.rd a cap w l es):=by rfl):∀b,iE a=some b→¬wy ps b:=h.OU hp
theorem Hp.i (h:Hp m0 m ps) (hr:Rd m a cap w l es) (ho:(ps.all Pc.IP)=true:=by rfl):Hp m0 m (.rd a cap w l es::ps):=h.eo ho hr
variable {α : Type} {V : α → Value} {N : α → List Pc} {R : α → Pc} {f : Operand} {q : FuncId} {ars : Array Operand} {ts : Array TypeId} {args : List Value} {prs : List (Nat × Nat)} {ss : List Nk}
theorem wc (hg:sP ops fs g true) (hc:∀m,Hp m0 m ps→aA E q args m (fun v m'=>∃x,v=V x∧Hp m m' (N x))) (k:∀x,Wo dr E n ops K os m0 ((d,V x)::fs) (N x++ps)) (hf:ev E fs f=some (.func (.func q) #[] #[]):=by rfl) (ha:gW E fs ars.toList=some args:=by rfl) (ho:∀x,vc (N x)=true:=by exact fun _=>rfl) (hd:Nat.blt d n=true:=by rfl):Wo dr E n ops K (⟨some d,.call ⟨.value f,ars,ts⟩,ty,p,af,g⟩::os) m0 fs ps:=Wo.x (PB hf ha hc ho) hg hd k
theorem wv (hg:sP ops fs g true) (hc:∀m,Hp m0 m ps→aA E q args m (fun v m'=>∃x,v=V x∧Hp m m' [R x,.gen (nY (wy ps))])) (k:∀x,Wo dr E n ops K os m0 ((d,V x)::fs) (R x::ps)) (hf:ev E fs f=some (.func (.func q) #[] #[]):=by rfl) (ha:gW E fs ars.toList=some args:=by rfl) (ho:∀x,nD [R x]=true:=by exact fun _=>rfl) (hd:Nat.blt d n=true:=by rfl):Wo dr E n ops K (⟨some d,.call ⟨.value f,ars,ts⟩,ty,p,af,g⟩::os) m0 fs ps:=Wo.x (JO (N:=fun x=>[R x]) hf ha hc ho) hg hd k
theorem nc (hg:sP ops fs g true) (hc:∀m,Hp m0 m ps→aA E q args m (fun v m'=>∃x,v=V x∧Hp m m' (N x))) (k:∀x,Wn E n ops prs K os (.call::ss) m0 ((d,V x)::fs) (N x++ps)) (hf:ev E fs f=some (.func (.func q) #[] #[]):=by rfl) (ha:gW E fs ars.toList=some args:=by rfl) (ho:∀x,vc (N x)=true:=by exact fun _=>rfl) (hd:Nat.blt d n=true:=by rfl):Wn E n ops prs K (⟨some d,.call ⟨.value f,ars,ts⟩,ty,p,af,g⟩::os) ss m0 fs ps:=Wn.c (Py hf ha hc ho) hg hd k
theorem nv (hg:sP ops fs g true) (hc:∀m,Hp m0 m ps→aA E q args m (fun v m'=>∃x,v=V x∧Hp m m' [R x,.gen (nY (wy ps))])) (k:∀x,Wn E n ops prs K os (.call::ss) m0 ((d,V x)::fs) (R x::ps)) (hf:ev E fs f=some (.func (.func q) #[] #[]):=by rfl) (ha:gW E fs ars.toList=some args:=by rfl) (ho:∀x,nD [R x]=true:=by exact fun _=>rfl) (hd:Nat.blt d n=true:=by rfl):Wn E n ops prs K (⟨some d,.call ⟨.value f,ars,ts⟩,ty,p,af,g⟩::os) ss m0 fs ps:=Wn.c (JK (N:=fun x=>[R x]) hf ha hc ho) hg hd k
end
end Go.Ab.W
end

section
namespace Go.Proofs.YtookeaakpiefjaaDoor
open Go Go.Ab Go.Ab.W
set_option maxRecDepth 10000
set_option maxHeartbeats 4000000
attribute [local irreducible] Wo Wk At Wn Od Ox aX aS
attribute [local irreducible] Tm.at Trie.set Trie.get AMem.get AMem.set AMem.alloc AMem.ww AMem.kill
abbrev bg (z0):=Value.int .u64 ((z0:Nat):Int)
abbrev fy (z0) (z1) (z2) {β3:Type} (z3:List β3) (z4):=Pc.obj z0 (.cells [.int .i64 z1,.slice z2 (List.length z3) z4] .own)
abbrev ee (z0) (z1):=Pc.obj z0 (.cells [.int .u64 ((z1:Nat):Int)] .own)
abbrev fg (z0) (z1) (z2):=Pc.rd z0 z1 2 (List.length z2) (List.map (eP (eI .i64) (eI .i64)) z2)
abbrev eQ (z0):=Pc.obj z0 (.cells [.bool false,.slice none 0 0] .own)
abbrev lb (z0) (z1):=Pc.obj z0 (.map (List.map (eM (fun n:Int=>.int .i64 n) (fun n:Int=>.int .i64 n)) z1))
abbrev aJ (z0):=Value.int .i64 z0
abbrev ec (z0) (z1) (z2):=Pc.rd z0 z1 1 (List.length z2) (List.map (eN .u64) z2)
abbrev EU (z0):=Pc.obj z0 (.cells [.int .u64 ((0:Nat):Int),.int .u64 ((0:Nat):Int),.int .u64 ((0:Nat):Int),.int .u64 ((0:Nat):Int),.int .u64 ((0:Nat):Int),.int .u64 ((0:Nat):Int),.int .u64 ((0:Nat):Int),.int .u64 ((0:Nat):Int)] .own)
abbrev lF (z0) (z1) (z2) (z3):=Pc.rd (some ⟨z0,z1,none⟩) z2 2 (List.length z3) (List.map (eP (eI .i64) (eI .i64)) z3)
abbrev aT (z0) {β1:Type} (z1:List β1) (z2):=Value.slice z0 (List.length z1) z2
abbrev gy (z0) (z1) (z2):=Pc.obj z0 (.cells [.slice (some ⟨z1,0,none⟩) ((z2:Int).toNat) ((z2:Int).toNat)] .own)
abbrev ca (z0) (z1) (z2) (z3) (z4):=Pc.gen (N1 z0 [(z1,z2),(z3,z4)])
abbrev cl (z0) (z1):=Pc.obj z0 (.cells [.map (some z1)] .own)
abbrev yK (z0) (z1) (z2) (z3) (z4) (z5) (z6) (z7):=Value.agg #[.int .u64 ((z0:Nat):Int),.int .u64 ((z1:Nat):Int),.int .u64 ((z2:Nat):Int),.int .u64 ((z3:Nat):Int),.int .u64 ((z4:Nat):Int),.int .u64 ((z5:Nat):Int),.int .u64 ((z6:Nat):Int),.int .u64 ((z7:Nat):Int)]
abbrev bS (z0) (z1):=Pc.obj z0 (.cells [.map z1] .own)
abbrev dW (z0) (z1) (z2):=Pc.ro z0 z1 2 (List.length z2) (List.map (eP (eI .i64) (eI .i64)) z2)
abbrev ot (z0) (z1) (z2) (z3) (z4) {β5:Type} (z5:List β5) (z6):=Pc.obj z0 (.cells [.int .u8 ((z1:Nat):Int),.int .u8 ((z2:Nat):Int),.int .u16 ((z3:Nat):Int),.slice z4 (List.length z5) z6] .own)
abbrev cg (z0) (z1) (z2):=Pc.sl z0 1 z1 (List.map (eI .i64) z2)
abbrev fT (z0) (z1) (z2) {β3:Type} (z3:List β3) (z4):=Pc.obj z0 (.cells [.bool z1,.slice z2 (List.length z3) z4] .own)
abbrev eO (z0) (z1) (z2):=Pc.rd z0 z1 1 (List.length z2) (List.map (eI .i64) z2)
abbrev mz (z0) (z1) (z2) (z3) {β4:Type} (z4:List β4) (z5):=Pc.obj z0 (.cells [.int .i64 z1,.slice (some ⟨z2,z3,none⟩) (List.length z4) z5] .own)
abbrev fJ (z0) (z1) (z2) (z3) (z4):=Pc.gen (mT z0 ((z1:Int).toNat) z2 z3 z4)
abbrev fO (m) (z0) (z1) (z2):=Rd m z0 z1 1 (List.length z2) (List.map (eN .u64) z2)
abbrev ik (z0) (z1) (z2):=Pc.obj z0 (.cells [.int .i64 z1,.int .i64 z2] .own)
abbrev iZ (z0) (z1) {β2:Type} (z2:List β2):=Pc.obj z0 (.cells [.slice z1 (List.length z2) (List.length z2)] .own)
abbrev bX (z0) (z1):=Value.slice z0 z1 z1
abbrev kK (m) (z0) (z1) (z2):=Rd m z0 z1 2 (List.length z2) (List.map (eP (eI .i64) (eI .i64)) z2)
abbrev nA (z0) (z1) (z2) {β3:Type} (z3:List β3):=Pc.obj z0 (.cells [.int .i64 z1,.slice z2 (List.length z3) (List.length z3)] .own)
abbrev dQ {β0:Type} (z0:List β0):=Value.int .i64 ((List.length z0):Int)
abbrev MF (z0) (z1) (z2) (z3) (z4) (z5) (z6) (z7) (z8) (z9):=Pc.obj z0 (.cells [.bool z1,.int .u64 ((z2:Nat):Int),.int .u64 ((z3:Nat):Int),.int .u64 ((z4:Nat):Int),.int .u64 ((z5:Nat):Int),.int .u64 ((z6:Nat):Int),.int .u64 ((z7:Nat):Int),.int .u64 ((z8:Nat):Int),.int .u64 ((z9:Nat):Int)] .own)
abbrev iO (z0) (z1):=Pc.sl z0 1 (List.length z1) (List.map (eN .u64) z1)
abbrev j8 (z0) (z1) {β2:Type} (z2:List β2) (z3):=Value.agg #[.int .i64 z0,.slice z1 (List.length z2) z3]
abbrev mh (z0):=Pc.obj z0 (.cells [.int .i64 0,.slice none 0 0] .own)
abbrev m7 (z0) (z1):=Pc.sl z0 2 (List.length z1) (List.map (eP (eI .i64) (eI .i64)) z1)
abbrev kh (z0) (z1) {β2:Type} (z2:List β2) (z3):=Value.slice (some ⟨z0,z1,none⟩) (List.length z2) z3
abbrev oR (z0) (z1) (z2):=Pc.rd z0 z1 2 (List.length z2) (List.map (eP (eN .u8) (eN .u8)) z2)
abbrev xY (z0) {β1:Type} (z1:List β1):=Value.slice (some ⟨z0,0,none⟩) (((List.length z1):Int).toNat) (((List.length z1):Int).toNat)
abbrev oc (m) (z0) (z1) (z2):=Rd m z0 z1 1 (List.length z2) (List.map (eI .i64) z2)
abbrev oB (z0) (z1) {β2:Type} (z2:List β2) (z3):=Value.agg #[.bool z0,.slice z1 (List.length z2) z3]
abbrev oN (z0) (z1) (z2):=Pc.obj z0 (.cells [.slice z1 z2 z2] .own)
abbrev xJ (z0) {β1:Type} (z1:List β1) (z2):=Pc.arr z0 1 (((List.length z1):Int).toNat) (List.map (eN .u64) z2) .own
abbrev nZ (z0) (z1) (z2):=Pc.sl z0 1 z1 (List.map (eN .u64) z2)
abbrev fU (z0):=Pc.gen (nY z0)
abbrev cX (z0):=Value.bool z0
abbrev sS (z0) (z1):=Pc.arr z0 1 8 (List.map (eN .u64) z1) .own
abbrev wD (z0) (z1):=Pc.sl z0 1 (List.length z1) (List.map (eI .i64) z1)
abbrev IW (z0) (z1) (z2) (z3) (z4) (z5) (z6) (z7) (z8):=Pc.arr z0 1 8 (([z1,z2,z3,z4,z5,z6,z7,z8]:List (Nat)).map (eN .u64)) .own
abbrev GH (z0) (z1):=Value.slice (some ⟨z0,0,none⟩) ((z1:Int).toNat) ((z1:Int).toNat)
abbrev EZ (z0) (z1) (z2) (z3):=Pc.rd (some ⟨z0,z1,none⟩) z2 1 (List.length z3) (List.map (eI .i64) z3)
abbrev Ih (z0) (z1) (z2) (z3):=Pc.rd (some ⟨z0,z1,none⟩) z2 1 (List.length z3) (List.map (eN .u64) z3)
abbrev Gm (z0) (z1) (z2):=Pc.ro z0 z1 1 (List.length z2) (List.map (eI .i64) z2)
abbrev Dr (z0):=Value.int .i64 ((z0:Int).toNat:Int)
abbrev Dp (z0) {β1:Type} (z1:List β1):=Value.slice z0 (List.length z1) (List.length z1)
abbrev IA (z0) (z1) (z2):=Pc.ro z0 z1 1 (List.length z2) (List.map (eN .u64) z2)
theorem PT:TyI aq.P 25 true 4:=⟨by kernel_rfl,by kernel_rfl,by kernel_rfl⟩
theorem O9:bw aq.P 31=some (.agg #[.int .i64 0,.slice none 0 0]):=by kernel_rfl
theorem Ln:∀b o,aP aq.P 25 (ptr b o) 0=some (ptr b (o+0)):=fun _ _=>by kernel_rfl
instance:FaC aq.P 25 0 0:=⟨Ln⟩
theorem Pn:TyI aq.P 5 false 1:=⟨by kernel_rfl,by kernel_rfl,by kernel_rfl⟩
theorem u5:aq.P.underlying 5=some (.int .u8):=by kernel_rfl
theorem u3:aq.P.underlying 3=some (.int .i64):=by kernel_rfl
theorem Mn:∀b o,aP aq.P 25 (ptr b o) 1=some (ptr b (o+1)):=fun _ _=>by kernel_rfl
instance:FaC aq.P 25 1 1:=⟨Mn⟩
theorem PC:BdT aq.P 31 (.agg #[.int .i64 0,.slice none 0 0]) [(0,1),(1,1)]:=.mk' (by kernel_rfl) (by kernel_rfl)
theorem dG:TyI aq.P 31 true 2:=⟨by kernel_rfl,by kernel_rfl,by kernel_rfl⟩
theorem A7:∀b o,aP aq.P 31 (ptr b o) 0=some (ptr b (o+0)):=fun _ _=>by kernel_rfl
instance:FaC aq.P 31 0 0:=⟨A7⟩
theorem cE:TyI aq.P 3 false 1:=⟨by kernel_rfl,by kernel_rfl,by kernel_rfl⟩
theorem LC:∀b o,aP aq.P 25 (ptr b o) 2=some (ptr b (o+2)):=fun _ _=>by kernel_rfl
instance:FaC aq.P 25 2 2:=⟨LC⟩
theorem PQ:TyI aq.P 22 false 1:=⟨by kernel_rfl,by kernel_rfl,by kernel_rfl⟩
theorem Pj:aq.P.underlying 77=some (.int .u64):=by kernel_rfl
theorem LQ:∀b o,aP aq.P 25 (ptr b o) 3=some (ptr b (o+3)):=fun _ _=>by kernel_rfl
instance:FaC aq.P 25 3 3:=⟨LQ⟩
theorem Ls:TyI aq.P 23 false 1:=⟨by kernel_rfl,by kernel_rfl,by kernel_rfl⟩
theorem Qs:aq.P.underlying 23=some (.slice 78):=by kernel_rfl
instance:UsC aq.P 23 78:=⟨Qs⟩
theorem QI:SlT aq.P 23 78 2:=SlT.of (by kernel_rfl)
instance:SlC aq.P 23 78 2:=⟨QI⟩
theorem Ps:ArT aq.P 78 5 2 1:=⟨by kernel_rfl,by kernel_rfl,by kernel_rfl⟩
instance:ArC aq.P 78 5 2 1:=⟨Ps⟩
theorem MO:∀b o,aP aq.P 31 (ptr b o) 1=some (ptr b (o+1)):=fun _ _=>by kernel_rfl
instance:FaC aq.P 31 1 1:=⟨MO⟩
theorem ig:TyI aq.P 29 false 1:=⟨by kernel_rfl,by kernel_rfl,by kernel_rfl⟩
theorem CG:bw aq.P 58=some (.agg #[.int .i64 0,.int .i64 0]):=by kernel_rfl
theorem Jp:BdT aq.P 58 (.agg #[.int .i64 0,.int .i64 0]) [(0,1),(1,1)]:=.mk' (by kernel_rfl) (by kernel_rfl)
theorem P8:aq.P.underlying 29=some (.slice 58):=by kernel_rfl
instance:UsC aq.P 29 58:=⟨P8⟩
theorem Pk:SlT aq.P 29 58 2:=SlT.of (by kernel_rfl)
instance:SlC aq.P 29 58 2:=⟨Pk⟩
theorem HJ:bw aq.P 41=some (.agg #[.int .u64 ((0:Nat):Int),.int .u64 ((0:Nat):Int),.int .u64 ((0:Nat):Int),.int .u64 ((0:Nat):Int),.int .u64 ((0:Nat):Int),.int .u64 ((0:Nat):Int),.int .u64 ((0:Nat):Int),.int .u64 ((0:Nat):Int)]):=by kernel_rfl
theorem fp:TyI aq.P 58 true 2:=⟨by kernel_rfl,by kernel_rfl,by kernel_rfl⟩
theorem qE:ArT aq.P 58 3 2 1:=⟨by kernel_rfl,by kernel_rfl,by kernel_rfl⟩
instance:ArC aq.P 58 3 2 1:=⟨qE⟩
theorem NS:aq.P.underlying 37=some (.slice 3):=by kernel_rfl
instance:UsC aq.P 37 3:=⟨NS⟩
theorem Bv:SlT aq.P 37 3 1:=SlT.of (by kernel_rfl)
instance:SlC aq.P 37 3 1:=⟨Bv⟩
theorem Nu:aq.P.underlying 26=some (.int .u64):=by kernel_rfl
theorem u9:aq.P.underlying 9=some (.string):=by kernel_rfl
theorem JG:BdT aq.P 41 (.agg #[.int .u64 ((0:Nat):Int),.int .u64 ((0:Nat):Int),.int .u64 ((0:Nat):Int),.int .u64 ((0:Nat):Int),.int .u64 ((0:Nat):Int),.int .u64 ((0:Nat):Int),.int .u64 ((0:Nat):Int),.int .u64 ((0:Nat):Int)]) [(0,1),(1,1),(2,1),(3,1),(4,1),(5,1),(6,1),(7,1)]:=.mk' (by kernel_rfl) (by kernel_rfl)
theorem ij:TyI aq.P 41 true 8:=⟨by kernel_rfl,by kernel_rfl,by kernel_rfl⟩
theorem z84:bw aq.P 84=some (.agg #[.bool false,.slice none 0 0]):=by kernel_rfl
theorem Pd:bw aq.P 98=some (.agg #[.slice none 0 0]):=by kernel_rfl
theorem z3:bw aq.P 3=some (.int .i64 0):=by kernel_rfl
theorem QL:aq.P.underlying 96=some (.slice 3):=by kernel_rfl
instance:UsC aq.P 96 3:=⟨QL⟩
theorem Qb:SlT aq.P 96 3 1:=SlT.of (by kernel_rfl)
instance:SlC aq.P 96 3 1:=⟨Qb⟩
theorem PD:BdT aq.P 98 (.agg #[.slice none 0 0]) [(0,1)]:=.mk' (by kernel_rfl) (by kernel_rfl)
theorem C0:TyI aq.P 98 true 1:=⟨by kernel_rfl,by kernel_rfl,by kernel_rfl⟩
theorem bN:TyI aq.P 26 false 1:=⟨by kernel_rfl,by kernel_rfl,by kernel_rfl⟩
theorem wL:TyI aq.P 89 false 1:=⟨by kernel_rfl,by kernel_rfl,by kernel_rfl⟩
theorem ON:aq.P.underlying 89=some (.map 3 4):=by kernel_rfl
theorem z4:bw aq.P 4=some (.bool false):=by kernel_rfl
theorem ra:∀b o,aP aq.P 98 (ptr b o) 0=some (ptr b (o+0)):=fun _ _=>by kernel_rfl
instance:FaC aq.P 98 0 0:=⟨ra⟩
theorem Bd:TyI aq.P 96 false 1:=⟨by kernel_rfl,by kernel_rfl,by kernel_rfl⟩
theorem NK:ArT aq.P 41 26 8 1:=⟨by kernel_rfl,by kernel_rfl,by kernel_rfl⟩
instance:ArC aq.P 41 26 8 1:=⟨NK⟩
theorem CV:bw aq.P 120=some (.agg #[.bool false,.int .u64 ((0:Nat):Int),.int .u64 ((0:Nat):Int),.int .u64 ((0:Nat):Int),.int .u64 ((0:Nat):Int),.int .u64 ((0:Nat):Int),.int .u64 ((0:Nat):Int),.int .u64 ((0:Nat):Int),.int .u64 ((0:Nat):Int)]):=by kernel_rfl
theorem JV:BdT aq.P 120 (.agg #[.bool false,.int .u64 ((0:Nat):Int),.int .u64 ((0:Nat):Int),.int .u64 ((0:Nat):Int),.int .u64 ((0:Nat):Int),.int .u64 ((0:Nat):Int),.int .u64 ((0:Nat):Int),.int .u64 ((0:Nat):Int),.int .u64 ((0:Nat):Int)]) [(0,1),(1,8)]:=.mk' (by kernel_rfl) (by kernel_rfl)
theorem qB:TyI aq.P 120 true 9:=⟨by kernel_rfl,by kernel_rfl,by kernel_rfl⟩
theorem Bo:∀b o,aP aq.P 120 (ptr b o) 0=some (ptr b (o+0)):=fun _ _=>by kernel_rfl
instance:FaC aq.P 120 0 0:=⟨Bo⟩
theorem wW:TyI aq.P 4 false 1:=⟨by kernel_rfl,by kernel_rfl,by kernel_rfl⟩
theorem FW:bw aq.P 118=some (.agg #[.int .u64 ((0:Nat):Int),.int .u64 ((0:Nat):Int),.int .u64 ((0:Nat):Int),.int .u64 ((0:Nat):Int),.int .u64 ((0:Nat):Int),.int .u64 ((0:Nat):Int),.int .u64 ((0:Nat):Int),.int .u64 ((0:Nat):Int)]):=by kernel_rfl
theorem EL:BdT aq.P 118 (.agg #[.int .u64 ((0:Nat):Int),.int .u64 ((0:Nat):Int),.int .u64 ((0:Nat):Int),.int .u64 ((0:Nat):Int),.int .u64 ((0:Nat):Int),.int .u64 ((0:Nat):Int),.int .u64 ((0:Nat):Int),.int .u64 ((0:Nat):Int)]) [(0,1),(1,1),(2,1),(3,1),(4,1),(5,1),(6,1),(7,1)]:=.mk' (by kernel_rfl) (by kernel_rfl)
theorem By:∀b o,aP aq.P 120 (ptr b o) 1=some (ptr b (o+1)):=fun _ _=>by kernel_rfl
instance:FaC aq.P 120 1 1:=⟨By⟩
theorem kC:TyI aq.P 118 true 8:=⟨by kernel_rfl,by kernel_rfl,by kernel_rfl⟩
theorem lW:ArT aq.P 118 26 8 1:=⟨by kernel_rfl,by kernel_rfl,by kernel_rfl⟩
instance:ArC aq.P 118 26 8 1:=⟨lW⟩
theorem Pz:aq.P.underlying 82=some (.slice 26):=by kernel_rfl
instance:UsC aq.P 82 26:=⟨Pz⟩
theorem tC:SlT aq.P 82 26 1:=SlT.of (by kernel_rfl)
instance:SlC aq.P 82 26 1:=⟨tC⟩
theorem I0:BdT aq.P 84 (.agg #[.bool false,.slice none 0 0]) [(0,1),(1,1)]:=.mk' (by kernel_rfl) (by kernel_rfl)
theorem bA:TyI aq.P 84 true 2:=⟨by kernel_rfl,by kernel_rfl,by kernel_rfl⟩
theorem FD:bw aq.P 26=some (.int .u64 ((0:Nat):Int)):=by kernel_rfl
theorem PE:bw aq.P 123=some (.map none):=by kernel_rfl
theorem jj:TyI aq.P 123 false 1:=⟨by kernel_rfl,by kernel_rfl,by kernel_rfl⟩
theorem PS:bw aq.P 124=some (.nilFunc):=by kernel_rfl
theorem xM:TyI aq.P 124 false 1:=⟨by kernel_rfl,by kernel_rfl,by kernel_rfl⟩
theorem pM:aq.P.underlying 123=some (.map 3 3):=by kernel_rfl
theorem P4:bw aq.P 126=some (.slice none 0 0):=by kernel_rfl
theorem PY:bw aq.P 125=some (.slice none 0 0):=by kernel_rfl
theorem jV:TyI aq.P 125 false 1:=⟨by kernel_rfl,by kernel_rfl,by kernel_rfl⟩
theorem Eg:aq.P.underlying 125=some (.slice 126):=by kernel_rfl
instance:UsC aq.P 125 126:=⟨Eg⟩
theorem gq:TyI aq.P 126 false 1:=⟨by kernel_rfl,by kernel_rfl,by kernel_rfl⟩
theorem nB:SlT aq.P 125 126 1:=SlT.of (by kernel_rfl)
instance:SlC aq.P 125 126 1:=⟨nB⟩
theorem nR:SlT aq.P 126 84 2:=SlT.of (by kernel_rfl)
instance:SlC aq.P 126 84 2:=⟨nR⟩
theorem PH:bw aq.P 128=some (.nilFunc):=by kernel_rfl
theorem yh:TyI aq.P 128 false 1:=⟨by kernel_rfl,by kernel_rfl,by kernel_rfl⟩
theorem kP:∀b o,aP aq.P 84 (ptr b o) 0=some (ptr b (o+0)):=fun _ _=>by kernel_rfl
instance:FaC aq.P 84 0 0:=⟨kP⟩
theorem u4:aq.P.underlying 4=some (.bool):=by kernel_rfl
theorem mE:∀b o,aP aq.P 84 (ptr b o) 1=some (ptr b (o+1)):=fun _ _=>by kernel_rfl
instance:FaC aq.P 84 1 1:=⟨mE⟩
theorem iV:TyI aq.P 82 false 1:=⟨by kernel_rfl,by kernel_rfl,by kernel_rfl⟩
theorem AV:∀cs:Array Value,eA aq.P 84 (.agg cs) 1=eJ aq.P 82 cs 1:=fun _=>by kernel_rfl
theorem QM:aq.P.underlying 41=some (.array 8 26):=by kernel_rfl
theorem PR:∀(x0 y0:Nat) (x1 y1:Nat) (x2 y2:Nat) (x3 y3:Nat) (x4 y4:Nat) (x5 y5:Nat) (x6 y6:Nat) (x7 y7:Nat),jb aq.P Op.maxDepth 41 (.agg #[bg x0,bg x1,bg x2,bg x3,bg x4,bg x5,bg x6,bg x7]) (.agg #[bg y0,bg y1,bg y2,bg y3,bg y4,bg y5,bg y6,bg y7])=some (decide (x0=y0) && decide (x1=y1) && decide (x2=y2) && decide (x3=y3) && decide (x4=y4) && decide (x5=y5) && decide (x6=y6) && decide (x7=y7)):=fun x0 y0 x1 y1 x2 y2 x3 y3 x4 y4 x5 y5 x6 y6 x7 y7=>O2 QM bN.known bN.size bN.agg Nu x0 y0 x1 y1 x2 y2 x3 y3 x4 y4 x5 y5 x6 y6 x7 y7
theorem PG:aq.P.eqGuardType aq.P.depth 41=false:=by kernel_rfl
theorem QQ:aq.P.underlying 27=some (.int .u32):=by kernel_rfl
theorem Qh:bw aq.P 89=some (.map none):=by kernel_rfl
theorem Qi:bw aq.P 37=some (.slice none 0 0):=by kernel_rfl
theorem pP:TyI aq.P 37 false 1:=⟨by kernel_rfl,by kernel_rfl,by kernel_rfl⟩
theorem z82:bw aq.P 82=some (.slice none 0 0):=by kernel_rfl
theorem Qu:aq.P.underlying 58=some (.array 2 3):=by kernel_rfl
theorem PZ:∀(x0 y0:Int) (x1 y1:Int),jb aq.P Op.maxDepth 58 (.agg #[aJ x0,aJ x1]) (.agg #[aJ y0,aJ y1])=some (decide (x0=y0) && decide (x1=y1)):=fun x0 y0 x1 y1=>NH Qu cE.known cE.size cE.agg u3 x0 x1 y0 y1
theorem PI:aq.P.eqGuardType aq.P.depth 58=false:=by kernel_rfl
theorem OZ (n x1 x2 x3 l1 a0 c0 r) (hF:F7 n x1 x2 x3 l1=some r) (m) (h8:Rd m a0 c0 2 l1.length (l1.map (eP (eN .u8) (eN .u8)))):
  aA aq 7 [.agg #[.int .u8 ((x1:Nat):Int),.int .u8 ((x2:Nat):Int),.int .u16 ((x3:Nat):Int),aT a0 l1 c0]] m (fun v m'=>∃x:Option Addr × Nat,v = .agg #[.int .i64 r.1,.slice x.1 x.2 x.2]∧Hp m m' [.sl x.1 2 x.2 (r.2.map (eP (eI .i64) (eI .i64)))]):=by
 unfold F7 at hF;refine cw Tryd.func7 ((Hp.start m).i h8) ?_;refine wz ?_;refine wb fun b2=>?_;refine wa O9 fun b0=>?_;refine au ?_;refine Wo.od (ai (k:=1) Pn rfl rfl rfl) rfl<|Wo.od (aF rfl rfl (Ax _ _ (by decide))) rfl<|Wo.od (kn rfl (pK (by rw[u5]; rfl) u3)) rfl ?_
 refine wz ?_;refine Wo.od (ai (k:=1) Pn rfl rfl rfl) rfl<|Wo.od (aF rfl rfl (Ax _ _ (by decide))) rfl<|Wo.od (kn rfl (pK (by rw[u5]; rfl) u3)) rfl ?_
 refine wz ?_;refine Wk.seq<|Wk.region<|Wo.od (bF rfl) rfl<|Wo.od (bF rfl) rfl ?_;obtain⟨y2,h9,hF⟩:=J hF;refine Wo.od (aF rfl rfl ((uL _ _ _).trans (cI h9))) rfl<|Wo.od (jk rfl O9 rfl (jz PC rfl rfl rfl)) rfl<|wa O9 fun b1=>?_;refine Wo.o0 (bC (k:=0) dG rfl rfl rfl rfl rfl) ?_;refine dY ?_;refine Wk.block ?_;obtain⟨l3,h2,hF⟩:=J hF;refine ct (fun l3 (a2:Option Addr)=>⟨(.exit 0),[(2,ptr b0 0),(5,ptr b1 0)],[mh b0,nA b1 y2 a2 l3,m7 a2 l3]⟩) l3 ?_ ?_
 ·refine Wk.pG (fs':=[(1,ptr b2 0),(2,ptr b0 0),(3,.int .i64 (IntKind.wrap .i64 (1+(IntKind.wrap .i64 ((x1%4:Nat):Int))))),(5,ptr b1 0),(6,.int .i64 0),(7,.int .i64 0)]) (ps':=[ot b2 x1 x2 x3 a0 l1 c0,oR a0 c0 l1,mh b0,.obj b1 (.cells [aJ y2,.slice none ([]:List (Int × Int)).length ([]:List (Int × Int)).length] .own),.sl none 2 ([]:List (Int × Int)).length (([]:List (Int × Int)).map (eP (eI .i64) (eI .i64)))]) (sc rfl (sc rfl (sc rfl (sc rfl (sc rfl (sc rfl sn)))))) (ak.trans (ak.nil 2 rfl) (ak.aB [3,4,2,1,0] rfl rfl))<|Wk.loop (σ:=Int × List (Int × Int) × Int × Int) (ρ:=List (Int × Int)) (γ:=Option Addr) (δ:=fun _=>Option Addr) _ (fun(s:Int × List (Int × Int) × Int × Int) (g:Option Addr)=>match s,g with | (v1,l4,v13,v0),a3=>⟨.normal,[(1,ptr b2 0),(2,ptr b0 0),(3,aJ v1),(5,ptr b1 0),(6,aJ v13),(7,aJ v0)],[ot b2 x1 x2 x3 a0 l1 c0,oR a0 c0 l1,mh b0,nA b1 y2 a3 l4,m7 a3 l4]⟩) (fun(r:List (Int × Int)) (g:Option Addr)=>match r,g with|l3,a2=>⟨(.exit 0),[(2,ptr b0 0),(5,ptr b1 0)],[mh b0,nA b1 y2 a2 l3,m7 a2 l3]⟩) ?_ (fun _ _=>rfl) (fun r d=>by intro e; cases e) _ _ _ h2 none
  clear hF h2;rintro⟨v1,l4,v13,v0⟩ a3 r hF;unfold Ha at hF;refine wz ?_;refine Wo.od (ai (k:=3) cE rfl rfl rfl) rfl ?_;refine wz ?_;rcases aa hF with⟨h10,hF⟩|⟨h10,hF⟩
  ·refine au ?_;refine Wk.block ?_;obtain⟨r2,h3,hF⟩:=J hF;refine ct (fun(l5,v14) (a4:Option Addr)=>⟨(.exit 2),[(1,ptr b2 0),(2,ptr b0 0),(3,aJ v1),(5,ptr b1 0),(6,aJ v14),(7,aJ v0)],[ot b2 x1 x2 x3 a0 l1 c0,oR a0 c0 l1,mh b0,nA b1 y2 a4 l5,m7 a4 l5]⟩) r2 ?_ ?_
   ·refine lo h3 a3 [0,1,2,3,4] (fun(l2,v4,v2) a1=>⟨.normal,[(1,ptr b2 0),(2,ptr b0 0),(3,aJ v1),(5,ptr b1 0),(6,aJ v4),(7,aJ v0),(8,aJ v2)],[ot b2 x1 x2 x3 a0 l1 c0,oR a0 c0 l1,mh b0,nA b1 y2 a1 l2,m7 a1 l2]⟩) ?_;clear hF h3;rintro⟨l2,v4,v2⟩ a1 r hF;unfold EC at hF;refine wz ?_;refine Wo.od (ai (k:=3) cE rfl rfl rfl) rfl ?_;refine wz ?_;rcases aa hF with⟨h11,hF⟩|⟨h11,hF⟩
    ·refine wz ?_;refine Wk.seq ?_;obtain⟨r0,h12,hF⟩:=J hF;refine ct (fun(l6,v15) (a5:Option Addr)=>⟨.normal,[(1,ptr b2 0),(2,ptr b0 0),(3,aJ v1),(5,ptr b1 0),(6,aJ v15),(7,aJ v0),(8,aJ v2)],[ot b2 x1 x2 x3 a0 l1 c0,oR a0 c0 l1,mh b0,nA b1 y2 a5 l6,m7 a5 l6]⟩) r0 ?_ ?_
     ·clear hF;revert r0;intro r hF;refine Wk.block<|Wk.seq ?_;obtain⟨v5,h13,hF⟩:=J hF;refine ct (fun v5 (_:Unit)=>⟨.normal,[(1,ptr b2 0),(2,ptr b0 0),(3,aJ v1),(5,ptr b1 0),(6,aJ v4),(7,aJ v0),(8,aJ v2),(9,cX v5)],[ot b2 x1 x2 x3 a0 l1 c0,oR a0 c0 l1,mh b0,nA b1 y2 a1 l2,m7 a1 l2]⟩) v5 ?_ ?_
      ·clear hF;revert v5;intro r hF;refine wz ?_;rcases aa hF with⟨h14,hF⟩|⟨h14,hF⟩
       ·refine wz ?_;cases hF;exact ae () [0,1,2,3,4]
       ·refine wz ?_;rcases aa hF with⟨h5,hF⟩|⟨h5,hF⟩
        ·refine wz ?_;obtain⟨h15,hF⟩:=al hF;refine Wo.og (aF rfl rfl (fw _ _ h15)) (gg rfl rfl (iU h5)) rfl ?_;refine wz ?_;cases hF;exact ae () [0,1,2,3,4]
        ·refine wz ?_;cases hF;exact ae () [0,1,2,3,4]
      ·clear h13;rintro⟨⟩;refine At.tn<|Wk.seq ?_;obtain⟨r1,h16,hF⟩:=J hF;refine ct (fun(v3,v16) (_:Unit)=>⟨.normal,[(1,ptr b2 0),(2,ptr b0 0),(3,aJ v1),(5,ptr b1 0),(6,aJ v3),(7,aJ v0),(8,aJ v2),(9,cX v16)],[ot b2 x1 x2 x3 a0 l1 c0,oR a0 c0 l1,mh b0,nA b1 y2 a1 l2,m7 a1 l2]⟩) r1 ?_ ?_
       ·clear hF;revert r1;intro r hF;refine wz ?_;rcases aa hF with⟨h6,hF⟩|⟨h6,hF⟩
        ·refine Wk.nJ rfl h6<|Wk.seq ?_;obtain⟨v6,h17,hF⟩:=J hF;refine ct (fun v6 (_:Unit)=>⟨.normal,[(1,ptr b2 0),(2,ptr b0 0),(3,aJ v1),(5,ptr b1 0),(6,aJ v4),(7,aJ v0),(8,aJ v2),(9,cX v6)],[ot b2 x1 x2 x3 a0 l1 c0,oR a0 c0 l1,mh b0,nA b1 y2 a1 l2,m7 a1 l2]⟩) v6 ?_ ?_
         ·clear hF;revert v6;intro r hF;refine Wk.seq ?_;obtain⟨v7,h18,hF⟩:=J hF;refine ct (fun v7 (_:Unit)=>⟨.normal,[(1,ptr b2 0),(2,ptr b0 0),(3,aJ v1),(5,ptr b1 0),(6,aJ v4),(7,aJ v0),(8,aJ v2),(9,cX v5),(72,cX v7)],[ot b2 x1 x2 x3 a0 l1 c0,oR a0 c0 l1,mh b0,nA b1 y2 a1 l2,m7 a1 l2]⟩) v7 ?_ ?_
          ·clear hF;revert v7;intro r hF;refine wz ?_;refine Wo.od (aF rfl rfl (fw _ _ (by decide))) rfl ?_
           refine wz ?_;rcases aa hF with⟨h1,hF⟩|⟨h1,hF⟩
           ·refine wz ?_;refine Wo.og (ai (k:=0) PQ rfl rfl rfl) (gg rfl rfl (iU h1)) rfl ?_;refine wz ?_;refine Wo.og (aF rfl rfl (q9 _ _ (by decide))) (gg rfl rfl (iU h1)) rfl<|Wo.og (aF rfl rfl (fw _ _ (by decide))) (gg rfl rfl (iU h1)) rfl<|Wo.og (kn rfl (Dk (by rw[u3]; rfl) Pj rfl)) (gg rfl rfl (iU h1)) rfl ?_
            obtain⟨y3,h19,hF⟩:=J hF;refine Wo.og (aF rfl rfl ((bM _ _ (nn _)).trans (cN h19))) (gg rfl rfl (iU h1)) rfl ?_;refine wz ?_;cases hF;exact ae () [0,1,2,3,4]
           ·refine wz ?_;cases hF;exact ae () [0,1,2,3,4]
          ·clear h18;rintro⟨⟩;refine At.tn ?_;rcases aa hF with⟨h20,hF⟩|⟨h20,hF⟩
           ·refine wz ?_;cases hF;exact ae () [0,1,2,3,4]
           ·refine wz ?_;obtain rfl:=Option.some.inj hF;exact ae () [0,1,2,3,4]
         ·clear h17;rintro⟨⟩;refine au ?_;cases hF;exact ae () [0,1,2,3,4]
        ·refine wz ?_;cases hF;exact ae () [0,1,2,3,4]
       ·clear h16;obtain⟨v3,v16⟩:=r1;rintro⟨⟩;refine au ?_;refine Wk.block ?_;obtain⟨v11,h4,hF⟩:=J hF;refine ct (fun v11 (_:Unit)=>⟨(.exit 4),[(1,ptr b2 0),(2,ptr b0 0),(3,aJ v1),(5,ptr b1 0),(6,aJ v3),(7,aJ v0),(8,aJ v2),(9,cX v11)],[ot b2 x1 x2 x3 a0 l1 c0,oR a0 c0 l1,mh b0,nA b1 y2 a1 l2,m7 a1 l2]⟩) v11 ?_ ?_
        ·refine lo h4 () [0,1,2,3,4] (fun(v12,v8) _=>⟨.normal,[(1,ptr b2 0),(2,ptr b0 0),(3,aJ v1),(5,ptr b1 0),(6,aJ v3),(7,aJ v0),(8,aJ v2),(9,cX v12),(10,aJ v8)],[ot b2 x1 x2 x3 a0 l1 c0,oR a0 c0 l1,mh b0,nA b1 y2 a1 l2,m7 a1 l2]⟩) ?_;clear hF h4;rintro⟨v12,v8⟩ ⟨⟩ r hF;unfold FQ at hF;refine Wk.seq<|Wk.seq ?_;obtain⟨v9,h21,hF⟩:=J hF;refine ct (fun v9 (_:Unit)=>⟨.normal,[(1,ptr b2 0),(2,ptr b0 0),(3,aJ v1),(5,ptr b1 0),(6,aJ v3),(7,aJ v0),(8,aJ v2),(9,cX v12),(10,aJ v8),(83,cX v9)],[ot b2 x1 x2 x3 a0 l1 c0,oR a0 c0 l1,mh b0,nA b1 y2 a1 l2,m7 a1 l2]⟩) v9 ?_ ?_
         ·clear hF;revert v9;intro r hF;refine wz ?_;refine Wo.od (ai (k:=0) Ls rfl rfl rfl) rfl ?_;refine wz ?_;rcases aa hF with⟨h22,hF⟩|⟨h22,hF⟩
          ·refine wz ?_;cases hF;exact ae () [0,1,2,3,4]
          ·refine wz ?_;cases hF;exact ae () [0,1,2,3,4]
         ·clear h21;rintro⟨⟩;refine At.tn ?_;rcases aa hF with⟨h23,hF⟩|⟨h23,hF⟩
          ·refine wz ?_;refine Wk.seq ?_;obtain⟨v10,h24,hF⟩:=J hF;refine ct (fun v10 (_:Unit)=>⟨.normal,[(1,ptr b2 0),(2,ptr b0 0),(3,aJ v1),(5,ptr b1 0),(6,aJ v3),(7,aJ v0),(8,aJ v2),(9,cX v10),(10,aJ v8)],[ot b2 x1 x2 x3 a0 l1 c0,oR a0 c0 l1,mh b0,nA b1 y2 a1 l2,m7 a1 l2]⟩) v10 ?_ ?_
           ·clear hF;revert v10;intro r hF;refine wz ?_;refine Wo.od (ai (k:=0) Ls rfl rfl rfl) rfl ?_;refine wz ?_;obtain⟨h25,hF⟩:=bO hF;refine Wo.cd (k:=1) rfl (aO h25) ?_;rintro b3 o1 rfl;refine wz ?_;obtain⟨⟨x4,x5⟩,h7,hF⟩:=J hF;refine Wo.od (bJ (k:=0) Pn rfl rfl (ay h7) rfl rfl) rfl<|Wo.od (kn rfl (pK (by rw[u5]; rfl) u3)) rfl ?_
            refine wz ?_;refine Wo.od (ai (k:=4) cE rfl rfl rfl) rfl ?_;obtain⟨h26,hF⟩:=al hF;refine Wo.od (aF rfl rfl (fw _ _ h26)) rfl ?_;refine wz ?_;refine Wo.od (ai (k:=1) Ls rfl rfl rfl) rfl ?_;refine wz ?_;obtain⟨h35,hF⟩:=bO hF;refine wz ?_;refine Wo.od (bJ (k:=0) Pn rfl rfl (ay h7) rfl rfl) rfl<|Wo.od (kn rfl (pK (by rw[u5]; rfl) u3)) rfl ?_
            refine wz ?_;refine Wo.od (ai (k:=4) cE rfl rfl rfl) rfl ?_;obtain⟨h27,hF⟩:=al hF;refine Wo.od (aF rfl rfl (fw _ _ h27)) rfl ?_;refine au ?_;rcases aa hF with⟨h28,hF⟩|⟨h28,hF⟩
            ·refine wz ?_;cases hF;exact ae () [1,2,3,4,5]
            ·refine wz ?_;rcases aa hF with⟨h29,hF⟩|⟨h29,hF⟩
             ·refine wz ?_;rcases aa hF with⟨h30,hF⟩|⟨h30,hF⟩
              ·refine wz ?_;cases hF;exact ae () [1,2,3,4,5]
              ·refine wz ?_;rcases aa hF with⟨h31,hF⟩|⟨h31,hF⟩
               ·refine wz ?_;cases hF;exact ae () [1,2,3,4,5]
               ·refine wz ?_;cases hF;exact ae () [1,2,3,4,5]
             ·refine wz ?_;rcases aa hF with⟨h32,hF⟩|⟨h32,hF⟩
              ·refine wz ?_;cases hF;exact ae () [1,2,3,4,5]
              ·refine wz ?_;cases hF;exact ae () [1,2,3,4,5]
           ·clear h24;rintro⟨⟩;refine au ?_;cases hF;exact ae () [0,1,2,3,4]
          ·refine wz ?_;cases hF;exact ae () [0,1,2,3,4]
        ·clear h4;rintro⟨⟩;refine au ?_;rcases aa hF with⟨h33,hF⟩|⟨h33,hF⟩
         ·refine wz ?_;refine Wo.od (ai (k:=3) ig rfl rfl rfl) rfl ?_;refine wz ?_;refine Wo.od (jk rfl CG rfl (jz Jp rfl rfl rfl)) rfl<|Wo.x (sG (es:=([(v0,v2)]:List (Int × Int)).map (eP (eI .i64) (eI .i64))) Pk rfl (sX Pk CG rfl rfl) rfl rfl) gn rfl fun b4=>?_;obtain⟨h34,hF⟩:=al hF;refine Wo.x (yI (k:=5) (k2:=0) (xs:=(l2:List (Int × Int))) (ys:=([(v0,v2)]:List (Int × Int))) (QP (KM .i64) (KM .i64)) Pk ⟨_,P8⟩ rfl rfl rfl (.arr _ _ _ _ _) h34) gn rfl fun a6=>?_;refine wz ?_;refine Wo.o0 (bC (k:=4) ig rfl rfl rfl rfl rfl) ?_;refine wz ?_;cases hF;exact ae a6 [1,2,3,4,5]
         ·refine wz ?_;cases hF;exact ae a1 [0,1,2,3,4]
     ·clear h12;obtain⟨l6,v15⟩:=r0;rintro a5;refine au ?_;cases hF;exact ae a5 [0,1,2,3,4]
    ·refine wz ?_;cases hF;exact ae a1 [0,1,2,3,4]
   ·clear h3;obtain⟨l5,v14⟩:=r2;rintro a4;refine au ?_;cases hF;exact ae a4 [0,1,2,3,4]
  ·refine wz ?_;cases hF;exact ae a3 [2,3,4]
 ·clear h2;rintro a2;refine au ?_;refine Wo.od (ai (k:=1) dG rfl rfl rfl) rfl<|Wo.o0 (bC (k:=0) dG rfl rfl rfl rfl rfl) ?_;refine au ?_;cases hF;exact At.ret (.cell (k:=0) dG rfl rfl rfl .nil) fun m' hm=>⟨(a2,l3.length),rfl,(ak.aB [2] rfl rfl) m' hm⟩
theorem mj (n x1 x2 r) (hF:F1 n x1 x2=some r) (m):
  aA aq 36 [bg x1,aJ x2] m (fun v m'=>∃_:Unit,v = .bool r∧Hp m m' []):=by
 unfold F1 at hF;refine cw Tryd.func36 (Hp.start m) ?_;refine au ?_;refine Wo.od (kn rfl (Dk (by rw[u3]; rfl) Pj rfl)) rfl<|Wo.od (aF rfl rfl (bM _ _ (nn _))) rfl ?_
 refine au ?_;cases hF;exact ar () []
theorem G0 (n x1 r) (hF:Na n x1=some r) (m):
  aA aq 35 [bg x1] m (fun v m'=>∃_:Unit,v = .int .i64 r∧Hp m m' []):=by
 unfold Na at hF;refine cw Tryd.func35 (Hp.start m) ?_;refine dY ?_;refine Wk.block ?_;obtain⟨v18,h29,hF⟩:=J hF;refine ct (fun v18 (_:Unit)=>⟨(.exit 0),[(3,aJ v18)],[]⟩) v18 ?_ ?_
 ·refine lo h29 () [] (fun(v4,v5) _=>⟨.normal,[(0,bg x1),(3,aJ v4),(4,aJ v5)],[]⟩) ?_;clear hF h29;rintro⟨v4,v5⟩ ⟨⟩ r hF;unfold w8 at hF;refine wz ?_;rcases aa hF with⟨h19,hF⟩|⟨h19,hF⟩
  ·refine wz ?_;refine Wk.seq ?_;obtain⟨v23,h27,hF⟩:=J hF;refine ct (fun v23 (_:Unit)=>⟨.normal,[(0,bg x1),(3,aJ v23),(4,aJ v5)],[]⟩) v23 ?_ ?_
   ·clear hF;revert v23;intro r hF;refine wz ?_;obtain⟨r25,h24,hF⟩:=J hF;refine wc gn (fun m hm=>mj n x1 v5  _ h24 m) ?_;rintro⟨⟩;refine wz ?_;rcases aa hF with⟨h26,hF⟩|⟨h26,hF⟩
    ·refine wz ?_;cases hF;exact ae () []
    ·refine wz ?_;obtain rfl:=Option.some.inj hF;exact ae () []
   ·clear h27;rintro⟨⟩;refine au ?_;cases hF;exact ae () []
  ·refine wz ?_;cases hF;exact ae () []
 ·clear h29;rintro⟨⟩;refine dY ?_;obtain rfl:=Option.some.inj hF;exact ar () []
theorem wK (n x1 r) (hF:J3 n x1=some r) (m):
  aA aq 37 [aJ x1] m (fun v m'=>∃_:Unit,v = .int .u64 ((r:Nat):Int)∧Hp m m' []):=by
 unfold J3 at hF;refine cw Tryd.func37 (Hp.start m) ?_;refine au ?_;refine Wo.od (kn rfl (Dk (by rw[u3]; rfl) Pj rfl)) rfl<|Wo.od (aF rfl rfl (gh rfl _ _ (nn _))) rfl ?_
 refine au ?_;cases hF;exact ar () []
theorem OG (n x1 l2 x6 a3 c4 r) (hF:F8 n x1 l2 x6=some r) (m) (h5:kK m a3 c4 l2):
  aA aq 8 [j8 x1 a3 l2 c4,bg x6] m (fun v m'=>∃_:Unit,v = .int .u64 ((r:Nat):Int)∧Hp m m' []):=by
 unfold F8 at hF;refine cw Tryd.func8 ((Hp.start m).i h5) ?_;refine wz ?_;refine wb fun b7=>?_;refine dY ?_;refine Wk.block ?_;obtain⟨v47,h81,hF⟩:=J hF;refine ct (fun v47 (_:Unit)=>⟨(.exit 0),[(5,bg v47)],[]⟩) v47 ?_ ?_
 ·refine lo h81 () [0,1] (fun(v10,v11) _=>⟨.normal,[(1,bg x6),(2,ptr b7 0),(5,bg v10),(6,aJ v11)],[fy b7 x1 a3 l2 c4,fg a3 c4 l2]⟩) ?_;clear hF h81;rintro⟨v10,v11⟩ ⟨⟩ r hF;unfold Au at hF;refine Wk.seq<|Wk.seq ?_;obtain⟨v61,h65,hF⟩:=J hF;refine ct (fun v61 (_:Unit)=>⟨.normal,[(1,bg x6),(2,ptr b7 0),(5,bg v10),(6,aJ v11),(15,cX v61)],[fy b7 x1 a3 l2 c4,fg a3 c4 l2]⟩) v61 ?_ ?_
  ·clear hF;revert v61;intro r hF;refine wz ?_;refine Wo.od (ai (k:=0) cE rfl rfl rfl) rfl ?_;refine wz ?_;rcases aa hF with⟨h62,hF⟩|⟨h62,hF⟩
   ·refine wz ?_;obtain⟨r64,h63,hF⟩:=J hF;refine wc (gg rfl rfl (iU h62)) (fun m hm=>G0 n v10  _ h63 m) ?_;rintro⟨⟩;refine wz ?_;cases hF;exact ae () [0,1]
   ·refine wz ?_;cases hF;exact ae () [0,1]
  ·clear h65;rintro⟨⟩;refine At.tn ?_;rcases aa hF with⟨h67,hF⟩|⟨h67,hF⟩
   ·refine wz ?_;refine Wk.seq ?_;obtain⟨v73,h79,hF⟩:=J hF;refine ct (fun v73 (_:Unit)=>⟨.normal,[(1,bg x6),(2,ptr b7 0),(5,bg v73),(6,aJ v11)],[fy b7 x1 a3 l2 c4,fg a3 c4 l2]⟩) v73 ?_ ?_
    ·clear hF;revert v73;intro r hF;refine wz ?_;obtain⟨r75,h74,hF⟩:=J hF;refine wc gn (fun m hm=>mj n x6 v11  _ h74 m) ?_;rintro⟨⟩;refine wz ?_;rcases aa hF with⟨h76,hF⟩|⟨h76,hF⟩
     ·refine wz ?_;obtain⟨r78,h77,hF⟩:=J hF;refine wc gn (fun m hm=>wK n v11  _ h77 m) ?_;rintro⟨⟩;refine wz ?_;cases hF;exact ae () [0,1]
     ·refine wz ?_;obtain rfl:=Option.some.inj hF;exact ae () [0,1]
    ·clear h79;rintro⟨⟩;refine au ?_;cases hF;exact ae () [0,1]
   ·refine wz ?_;cases hF;exact ae () []
 ·clear h81;rintro⟨⟩;refine dY ?_;obtain rfl:=Option.some.inj hF;exact ar () []
theorem Ge (n x1 r) (hF:M7 n x1=some r) (m):
  aA aq 83 [aJ x1] m (fun v m'=>∃_:Unit,v = .bool r∧Hp m m' []):=by
 unfold M7 at hF;refine cw Tryd.func83 (Hp.start m) ?_;refine dY ?_;cases hF;exact ar () []
theorem MT (n x1 x2 r) (hF:O0 n x1 x2=some r) (m):
  aA aq 47 [aJ x1,aJ x2] m (fun v m'=>∃_:Unit,v = .int .i64 r∧Hp m m' []):=by
 unfold O0 at hF;refine cw Tryd.func47 (Hp.start m) ?_;refine au ?_;obtain⟨r4,h3,hF⟩:=J hF;refine wc gn (fun m hm=>Ge n x1  _ h3 m) ?_;rintro⟨⟩;refine au ?_;obtain⟨r6,h5,hF⟩:=J hF;refine wc gn (fun m hm=>Ge n x2  _ h5 m) ?_;rintro⟨⟩;refine au ?_;rcases aa hF with⟨h7,hF⟩|⟨h7,hF⟩
 ·refine wz ?_;rcases aa hF with⟨h8,hF⟩|⟨h8,hF⟩
  ·refine au ?_;cases hF;exact ar () []
  ·refine dY ?_;cases hF;exact ar () []
 ·refine au ?_;rcases aa hF with⟨h9,hF⟩|⟨h9,hF⟩
  ·refine au ?_;cases hF;exact ar () []
  ·refine au ?_;rcases aa hF with⟨h10,hF⟩|⟨h10,hF⟩
   ·refine au ?_;cases hF;exact ar () []
   ·refine au ?_;rcases aa hF with⟨h11,hF⟩|⟨h11,hF⟩
    ·refine au ?_;cases hF;exact ar () []
    ·refine dY ?_;cases hF;exact ar () []
theorem LU (n l1 l5 a2 c3 a6 c7 r) (hF:ND n l1 l5=some r) (m) (h4:oc m a2 c3 l1) (h8:oc m a6 c7 l5):
  aA aq 14 [aT a2 l1 c3,aT a6 l5 c7] m (fun v m'=>∃_:Unit,v = .int .i64 r∧Hp m m' []):=by
 unfold ND at hF;refine cw Tryd.func14 (((Hp.start m).i h4).i h8) ?_;refine au ?_;refine Wk.block ?_;obtain⟨r44,h43,hF⟩:=J hF;refine ct (fun(r:(Int) ⊕ (Unit)) (g:Unit)=>match r,g with | .inl v27,_=>⟨.ret,[(4,aJ v27)],[]⟩ | .inr _,_=>⟨(.exit 0),[(0,aT a2 l1 c3),(1,aT a6 l5 c7)],[eO a2 c3 l1,eO a6 c7 l5]⟩) r44 ?_ ?_
 ·refine lo h43 () [1,0] (fun v10 _=>⟨.normal,[(0,aT a2 l1 c3),(1,aT a6 l5 c7),(9,aT a2 l1 c3),(10,dQ l1),(11,aJ v10)],[eO a2 c3 l1,eO a6 c7 l5]⟩) ?_;clear hF h43;rintro v10 ⟨⟩ r hF;unfold pj at hF;refine wz ?_;refine Wk.seq ?_;rcases aa hF with⟨h28,hF⟩|⟨h28,hF⟩
  ·refine au ?_;obtain⟨h29,hF⟩:=bO hF;refine Wo.cd (k:=0) rfl (aO h29) ?_;rintro b30 o31 rfl;refine wz ?_;obtain⟨x32,h33,hF⟩:=J hF;refine Wo.od (bJ (k:=0) cE rfl rfl (ay h33) rfl rfl) rfl ?_;refine au ?_;rcases aa hF with⟨h34,hF⟩|⟨h34,hF⟩
   ·refine au ?_;cases hF;exact ae () []
   ·refine au ?_;obtain⟨h35,hF⟩:=bO hF;refine Wo.cd (k:=2) rfl (aO h35) ?_;rintro b36 o37 rfl;refine wz ?_;obtain⟨x38,h39,hF⟩:=J hF;refine Wo.od (bJ (k:=0) cE rfl rfl (ay h39) rfl rfl) rfl ?_;refine au ?_;obtain⟨r41,h40,hF⟩:=J hF;refine wc gn (fun m hm=>MT n x32 x38  _ h40 m) ?_;rintro⟨⟩;refine au ?_;rcases aa hF with⟨h42,hF⟩|⟨h42,hF⟩
    ·refine au ?_;cases hF;exact ae () []
    ·refine au ?_;cases hF;exact ae () [2,3]
  ·refine wz ?_;cases hF;exact ae () [0,1]
 ·clear h43;rcases r44 with v27|_
  ·rintro⟨⟩;refine wz ?_;obtain rfl:=Option.some.inj hF;exact ar () []
  ·rintro⟨⟩;refine au ?_;rcases aa hF with⟨h45,hF⟩|⟨h45,hF⟩
   ·refine au ?_;cases hF;exact ar () []
   ·refine dY ?_;cases hF;exact ar () []
theorem Gt (n x1 l1 a0 c0 r) (hF:Ni n x1 l1=some r) (m) (h7:kK m a0 c0 l1):
  aA aq 72 [j8 x1 a0 l1 c0] m (fun v m'=>∃_:Unit,v = .int .i64 r∧Hp m m' []):=by
 unfold Ni at hF;refine cw Tryd.func72 ((Hp.start m).i h7) ?_;refine wz ?_;refine wb fun b0=>?_;refine wz ?_;refine Wk.seq<|Wk.seq ?_;obtain⟨v2,h8,hF⟩:=J hF;refine ct (fun v2 (_:Unit)=>⟨.normal,[(1,ptr b0 0),(19,cX v2)],[fy b0 x1 a0 l1 c0,fg a0 c0 l1]⟩) v2 ?_ ?_
 ·clear hF;revert v2;intro r hF;refine wz ?_;refine Wo.od (ai (k:=0) cE rfl rfl rfl) rfl ?_;refine wz ?_;rcases aa hF with⟨h5,hF⟩|⟨h5,hF⟩
  ·refine wz ?_;cases hF;exact ae () [0,1]
  ·refine wz ?_;refine Wo.og (ai (k:=0) cE rfl rfl rfl) (gg rfl rfl (fe h5)) rfl ?_;refine wz ?_;rcases aa hF with⟨h6,hF⟩|⟨h6,hF⟩
   ·refine wz ?_;cases hF;exact ae () [0,1]
   ·refine wz ?_;refine Wo.og (ai (k:=0) ig rfl rfl rfl) (gg rfl rfl (fe h6)) rfl ?_;refine wz ?_;cases hF;exact ae () [0,1]
 ·clear h8;rintro⟨⟩;refine At.tn ?_;rcases aa hF with⟨h9,hF⟩|⟨h9,hF⟩
  ·refine au ?_;cases hF;exact ar () []
  ·refine au ?_;refine Wo.od (jk rfl CG rfl (jz Jp rfl rfl rfl)) rfl<|wa CG fun b1=>?_;refine Wo.o0 (bC (k:=0) fp rfl rfl rfl rfl rfl) ?_;refine au ?_;refine Wo.od (ai (k:=1) ig rfl rfl rfl) rfl ?_;refine wz ?_;refine Wk.block ?_;obtain⟨r0,h2,hF⟩:=J hF;refine ct (fun(r:(Unit) ⊕ (Unit)) (g:Unit)=>match r,g with | .inl _,_=>⟨.ret,[(2,.int .i64 180)],[]⟩ | .inr _,_=>⟨(.exit 0),[],[]⟩) r0 ?_ ?_
   ·refine lo h2 () [1,2,0] (fun(v0,v1,v4) _=>⟨.normal,[(1,ptr b0 0),(3,ptr b1 0),(22,aT a0 l1 c0),(23,dQ l1),(24,aJ v4)],[fy b0 x1 a0 l1 c0,fg a0 c0 l1,ik b1 v0 v1]⟩) ?_;clear hF h2;rintro⟨v0,v1,v4⟩ ⟨⟩ r hF;unfold qF at hF;refine wz ?_;refine Wk.seq ?_;rcases aa hF with⟨h10,hF⟩|⟨h10,hF⟩
    ·refine au ?_;obtain⟨h11,hF⟩:=bO hF;refine Wo.cd (k:=1) rfl (aO h11) ?_;rintro b2 o1 rfl;refine wz ?_;obtain⟨⟨x3,x4⟩,h12,hF⟩:=J hF;refine Wo.od (bJ (k:=0) fp rfl rfl (ay h12) rfl rfl) rfl<|wa CG fun b3=>?_;refine Wo.o0 (bC (k:=0) fp rfl rfl rfl rfl rfl) ?_;refine wz ?_;refine Wk.seq<|Wk.seq ?_;obtain⟨v3,h13,hF⟩:=J hF;refine ct (fun v3 (_:Unit)=>⟨.normal,[(1,ptr b0 0),(3,ptr b1 0),(5,ptr b3 0),(22,kh b2 o1 l1 c0),(23,dQ l1),(24,aJ v4),(50,cX v3)],[mz b0 x1 b2 o1 l1 c0,dW b2 o1 l1,lF b2 o1 c0 l1,ik b1 v0 v1,ik b3 x3 x4]⟩) v3 ?_ ?_
     ·clear hF;revert v3;intro r hF;refine wz ?_;refine Wo.od (ai (k:=0) cE rfl rfl rfl) rfl ?_;refine wz ?_;rcases aa hF with⟨h3,hF⟩|⟨h3,hF⟩
      ·refine wz ?_;cases hF;exact ae () [2,1,3,4,0]
      ·refine wz ?_;refine Wo.og (ai (k:=0) cE rfl rfl rfl) (gg rfl rfl (fe h3)) rfl ?_;refine wz ?_;refine Wo.og (ai (k:=0) cE rfl rfl rfl) (gg rfl rfl (fe h3)) rfl ?_;refine wz ?_;rcases aa hF with⟨h4,hF⟩|⟨h4,hF⟩
       ·refine wz ?_;cases hF;exact ae () [2,1,3,4,0]
       ·refine wz ?_;refine Wo.og (ai (k:=0) cE rfl rfl rfl) (gg rfl rfl (fe h4)) rfl ?_;refine wz ?_;refine Wo.og (ai (k:=2) cE rfl rfl rfl) (gg rfl rfl (fe h4)) rfl ?_;refine wz ?_;rcases aa hF with⟨h1,hF⟩|⟨h1,hF⟩
        ·refine wz ?_;cases hF;exact ae () [2,1,3,4,0]
        ·refine Wo.og (Jo (k:=4) qE rfl rfl rfl rfl) (gg rfl rfl (fe h1)) rfl<|Wo.og (Jo (k:=0) qE rfl rfl rfl rfl) (gg rfl rfl (fe h1)) rfl ?_;obtain⟨r1,h14,hF⟩:=J hF;refine wc (gg rfl rfl (fe h1)) (fun m hm=>LU n [v0,v1] [x3,x4] (some ⟨b1,0,none⟩) 2 (some ⟨b3,0,none⟩) 2 _ h14 m (hm.PK (k:=4) (xs:=[v0,v1]) (f:=eI .i64) rfl rfl rfl rfl (KM .i64)) (hm.PK (k:=0) (xs:=[x3,x4]) (f:=eI .i64) rfl rfl rfl rfl (KM .i64))) ?_;rintro⟨⟩;refine wz ?_;cases hF;exact ae () [2,1,3,4,0]
     ·clear h13;rintro⟨⟩;refine At.tn ?_;rcases aa hF with⟨h15,hF⟩|⟨h15,hF⟩
      ·refine au ?_;cases hF;exact ae () []
      ·refine au ?_;refine Wo.od (ai (k:=4) fp rfl rfl rfl) rfl<|Wo.o0 (bC (k:=3) fp rfl rfl rfl rfl rfl) ?_;refine au ?_;cases hF;exact ae () [0,2,3]
    ·refine wz ?_;cases hF;exact ae () []
   ·clear h2;rcases r0 with _|_
    ·rintro⟨⟩;refine wz ?_;cases hF;exact ar () []
    ·rintro⟨⟩;refine dY ?_;cases hF;exact ar () []
theorem Bf (n x1 r) (hF:K0 n x1=some r) (m):
  aA aq 73 [bg x1] m (fun v m'=>∃_:Unit,v = .int .i64 r∧Hp m m' []):=by
 unfold K0 at hF;refine cw Tryd.func73 (Hp.start m) ?_;refine wz ?_;refine Wk.seq ?_;obtain⟨r7,h6,hF⟩:=J hF;refine ct (fun(v3,v4) (_:Unit)=>⟨.normal,[(0,bg v3),(2,aJ v4)],[]⟩) r7 ?_ ?_
 ·clear hF;revert r7;intro r hF;refine wz ?_;rcases aa hF with⟨h5,hF⟩|⟨h5,hF⟩
  ·refine wz ?_;refine Wo.od (aF rfl rfl (bM _ _ rfl)) rfl ?_;refine au ?_;cases hF;exact ae () []
  ·refine wz ?_;cases hF;exact ae () []
 ·clear h6;obtain⟨v3,v4⟩:=r7;rintro⟨⟩;refine At.tn<|Wk.seq ?_;obtain⟨r13,h12,hF⟩:=J hF;refine ct (fun(v9,v10) (_:Unit)=>⟨.normal,[(0,bg v9),(2,aJ v10)],[]⟩) r13 ?_ ?_
  ·clear hF;revert r13;intro r hF;refine wz ?_;rcases aa hF with⟨h11,hF⟩|⟨h11,hF⟩
   ·refine wz ?_;refine Wo.od (aF rfl rfl (bM _ _ rfl)) rfl ?_;refine au ?_;cases hF;exact ae () []
   ·refine wz ?_;cases hF;exact ae () []
  ·clear h12;obtain⟨v9,v10⟩:=r13;rintro⟨⟩;refine At.tn<|Wk.seq ?_;obtain⟨r19,h18,hF⟩:=J hF;refine ct (fun(v15,v16) (_:Unit)=>⟨.normal,[(0,bg v15),(2,aJ v16)],[]⟩) r19 ?_ ?_
   ·clear hF;revert r19;intro r hF;refine wz ?_;rcases aa hF with⟨h17,hF⟩|⟨h17,hF⟩
    ·refine wz ?_;refine Wo.od (aF rfl rfl (bM _ _ rfl)) rfl ?_;refine au ?_;cases hF;exact ae () []
    ·refine wz ?_;cases hF;exact ae () []
   ·clear h18;obtain⟨v15,v16⟩:=r19;rintro⟨⟩;refine au ?_;refine Wo.od (kn rfl (Oq (by rw[Nu]; rfl) u5 rfl)) rfl ?_
    obtain⟨h20,hF⟩:=al hF;obtain⟨y22,h21,hF⟩:=J hF;refine Wo.od (OJ fD u9 rfl (by rfl) rfl h20 h21) rfl<|Wo.od (kn rfl (pK (by rw[u5]; rfl) u3)) rfl ?_
    refine au ?_;cases hF;exact ar () []
theorem Av (n x1 l2 x6 a3 c4 r) (hF:Kd n x1 l2 x6=some r) (m) (h5:kK m a3 c4 l2):
  aA aq 39 [j8 x1 a3 l2 c4,bg x6] m (fun v m'=>∃_:Unit,v = .int .i64 r∧Hp m m' []):=by
 unfold Kd at hF;refine cw Tryd.func39 ((Hp.start m).i h5) ?_;refine wz ?_;refine wb fun b7=>?_;refine au ?_;refine Wo.od (ai (k:=0) dG rfl rfl rfl) rfl ?_;obtain⟨r9,h8,hF⟩:=J hF;refine wc gn (fun m hm=>Gt n x1 l2 a3 c4 _ h8 m (hm.q 1)) ?_;rintro⟨⟩;refine au ?_;rcases aa hF with⟨h10,hF⟩|⟨h10,hF⟩
 ·refine au ?_;obtain rfl:=Option.some.inj hF;exact ar () []
 ·refine wz ?_;refine Wk.seq<|Wk.seq ?_;obtain⟨v24,h28,hF⟩:=J hF;refine ct (fun v24 (_:Unit)=>⟨.normal,[(19,cX v24)],[]⟩) v24 ?_ ?_
  ·clear hF;revert v24;intro r hF;refine Wk.dE (prs:=[(4,6)]) (by kernel_rfl)<|Wn.od (bF rfl) rfl<|Wn.od (aF rfl rfl (Aa _ _)) rfl<|Wn.od (bF rfl) rfl ?_
   rcases aa hF with⟨h25,hF⟩|⟨h25,hF⟩
   ·refine Wn.s (gg rfl rfl (DV h25)) rfl<|Wn.s (gg rfl rfl (DV h25)) rfl<|Wn.s (gg rfl rfl (DV h25)) rfl<|Wn.s (gg rfl rfl (DV h25)) rfl<|Wn.s (gg rfl rfl (DV h25)) rfl<|Wn.od (I7 rfl h25 rfl) rfl<|Wn.nil (fun m hm=>fb.all rfl) ?_;cases hF;exact ae () []
   ·refine Wn.og (bF rfl) (gg rfl rfl (fe h25)) rfl ?_;obtain⟨r27,h26,hF⟩:=J hF;refine nc (gg rfl rfl (fe h25)) (fun m hm=>Bf n x6  _ h26 m) ?_;rintro⟨⟩;refine Wn.og (im (r:=ptr b7 0) rfl (A7 _ _)) (gg rfl rfl (fe h25)) rfl<|Wn.og (ai (k:=0) cE rfl rfl rfl) (gg rfl rfl (fe h25)) rfl<|Wn.og (aF rfl rfl (m9 _ _ _)) (gg rfl rfl (fe h25)) rfl<|Wn.od (H4 rfl h25 rfl) rfl<|Wn.nil (fun m hm=>fb.all rfl) ?_;cases hF;exact ae () []
  ·clear h28;rintro⟨⟩;refine At.tn ?_;rcases aa hF with⟨h30,hF⟩|⟨h30,hF⟩
   ·refine au ?_;cases hF;exact ar () []
   ·refine dY ?_;cases hF;exact ar () []
theorem E6 (n r) (hF:Ng n=some r) (m):
  aA aq 48 [] m (fun v m'=>∃x:Option Addr × Nat,v = .agg #[.slice x.1 x.2 x.2]∧Hp m m' [.sl x.1 1 x.2 (r.map (eI .i64))]):=by
 unfold Ng at hF;refine cw Tryd.func48 (Hp.start m) ?_;refine wz ?_;refine wa Pd fun b1=>?_;refine au ?_;obtain⟨h2,hF⟩:=al hF;obtain⟨h3,hF⟩:=al hF;refine Wo.x (rq (f:=eI .i64) (z0:=(0:Int)) Qb rfl h2 h3 z3 rfl rfl) gn rfl fun b4=>?_;refine au ?_;refine Wk.block ?_;obtain⟨l21,h27,hF⟩:=J hF;refine ct (fun l21 (_:Unit)=>⟨(.exit 0),[(0,ptr b1 0),(1,.slice (some ⟨b4,0,none⟩) ((64:Int).toNat) ((64:Int).toNat))],[.obj b1 (.cells [.slice none 0 0] .own),.arr b4 1 ((64:Int).toNat) (l21.map (eI .i64)) .own]⟩) l21 ?_ ?_
 ·refine lo h27 () [1,0] (fun(l12,v13) _=>⟨.normal,[(0,ptr b1 0),(1,.slice (some ⟨b4,0,none⟩) ((64:Int).toNat) ((64:Int).toNat)),(5,.int .i64 ((64:Int).toNat:Int)),(6,aJ v13)],[.obj b1 (.cells [.slice none 0 0] .own),.arr b4 1 ((64:Int).toNat) (l12.map (eI .i64)) .own]⟩) ?_;clear hF h27;rintro⟨l12,v13⟩ ⟨⟩ r hF;unfold xQ at hF;refine wz ?_;refine Wk.seq ?_;rcases aa hF with⟨h22,hF⟩|⟨h22,hF⟩
  ·refine dY ?_;obtain⟨h23,hF⟩:=bO hF;refine wz ?_;obtain⟨x24,h25,hF⟩:=J hF;refine Wo.o0 (ff (k:=1) (x1:=x24) (x2:=v13) cE rfl rfl rfl h25 rfl) ?_;refine au ?_;cases hF;exact ae () [0,1]
  ·refine wz ?_;cases hF;exact ae () [0,1]
 ·clear h27;rintro⟨⟩;refine au ?_;refine Wo.od (jk rfl Pd rfl (jz PD rfl rfl rfl)) rfl<|Wo.o0 (bC (k:=0) C0 rfl rfl rfl rfl rfl) ?_;refine au ?_;obtain rfl:=Option.some.inj hF;exact At.ret (.cell (k:=0) C0 rfl rfl rfl .nil) fun m' hm=>⟨((some ⟨b4,0,none⟩),((64:Int).toNat)),rfl,(ak.trans (ak.close (k:=1) rfl) (ak.aB [1] rfl rfl)) m' hm⟩
theorem vA (n x1 x2 x3 r) (hF:Jc n x1 x2 x3=some r) (m):
  aA aq 49 [bg x1,.agg #[aJ x2,aJ x3]] m (fun v m'=>∃_:Unit,v = .bool r∧Hp m m' []):=by
 unfold Jc at hF;refine cw Tryd.func49 (Hp.start m) ?_;refine wz ?_;refine wb fun b4=>?_;refine au ?_;refine Wo.od (ai (k:=0) cE rfl rfl rfl) rfl ?_;obtain⟨h5,hF⟩:=al hF;refine Wo.od (aF rfl rfl (bM _ _ h5)) rfl ?_;refine wz ?_;rcases aa hF with⟨h6,hF⟩|⟨h6,hF⟩
 ·refine wz ?_;refine Wo.og (ai (k:=0) cE rfl rfl rfl) (gg rfl rfl (iU h6)) rfl ?_;obtain⟨h7,hF⟩:=al hF;refine Wo.og (aF rfl rfl (bM _ _ h7)) (gg rfl rfl (iU h6)) rfl ?_;refine au ?_;cases hF;exact ar () []
 ·refine au ?_;cases hF;exact ar () []
theorem vy (n l1 x5 a2 c3 r) (hF:J0 n l1 x5=some r) (m) (h4:oc m a2 c3 l1):
  aA aq 76 [aT a2 l1 c3,aJ x5] m (fun v m'=>∃_:Unit,v = .int .i64 r∧Hp m m' []):=by
 unfold J0 at hF;refine cw Tryd.func76 ((Hp.start m).i h4) ?_;refine wz ?_;refine Wk.seq<|Wk.block ?_;obtain⟨v16,h24,hF⟩:=J hF;refine ct (fun v16 (_:Unit)=>⟨(.exit 0),[(1,aJ v16)],[]⟩) v16 ?_ ?_
 ·refine lo h24 () [0] (fun v7 _=>⟨.normal,[(0,aT a2 l1 c3),(1,aJ v7)],[eO a2 c3 l1]⟩) ?_;clear hF h24;rintro v7 ⟨⟩ r hF;unfold jW at hF;refine wz ?_;obtain⟨h17,hF⟩:=bO hF;refine Wo.cd (k:=0) rfl (aO h17) ?_;rintro b18 o19 rfl;refine wz ?_;obtain⟨x20,h21,hF⟩:=J hF;refine Wo.od (bJ (k:=0) cE rfl rfl (ay h21) rfl rfl) rfl ?_;refine wz ?_;rcases aa hF with⟨h22,hF⟩|⟨h22,hF⟩
  ·refine au ?_;obtain⟨h23,hF⟩:=bO hF;refine wz ?_;refine Wo.od (bJ (k:=0) cE rfl rfl (ay h21) rfl rfl) rfl ?_;refine wz ?_;cases hF;exact ae () [1]
  ·refine wz ?_;cases hF;exact ae () []
 ·clear h24;rintro⟨⟩;refine dY ?_;obtain rfl:=Option.some.inj hF;exact ar () []
theorem Ak (n x1 r) (hF:Lp n x1=some r) (m):
  aA aq 11 [aJ x1] m (fun v m'=>∃_:Unit,v = .agg #[.int .u64 ((r.1:Nat):Int),.int .u64 ((r.2.1:Nat):Int),.int .u64 ((r.2.2.1:Nat):Int),.int .u64 ((r.2.2.2.1:Nat):Int),.int .u64 ((r.2.2.2.2.1:Nat):Int),.int .u64 ((r.2.2.2.2.2.1:Nat):Int),.int .u64 ((r.2.2.2.2.2.2.1:Nat):Int),.int .u64 ((r.2.2.2.2.2.2.2:Nat):Int)]∧Hp m m' []):=by
 unfold Lp at hF;refine cw Tryd.func11 (Hp.start m) ?_;refine wz ?_;refine wa HJ fun b2=>?_;refine au ?_;refine Wo.od (kn rfl (Dk (by rw[u3]; rfl) Nu rfl)) rfl<|Wo.od (jk rfl HJ rfl (jz JG rfl rfl rfl)) rfl<|wa HJ fun b3=>?_
 refine Wo.o0 (bC (k:=0) ij rfl rfl rfl rfl rfl) ?_;refine wz ?_;refine Wk.seq ?_;obtain⟨l30,h57,hF⟩:=J hF;refine ct (fun l30 (_:Unit)=>⟨.normal,[(2,ptr b2 0),(3,ptr b3 0)],[EU b2,sS b3 l30]⟩) l30 ?_ ?_
 ·clear hF;revert l30;intro r hF;refine wz ?_;rcases aa hF with⟨h31,hF⟩|⟨h31,hF⟩
  ·refine wz ?_;refine Wk.block ?_;obtain⟨l49,h55,hF⟩:=J hF;refine ct (fun l49 (_:Unit)=>⟨(.exit 0),[(2,ptr b2 0),(3,ptr b3 0)],[EU b2,sS b3 l49]⟩) l49 ?_ ?_
   ·refine Wk.pG (fs':=[(2,ptr b2 0),(3,ptr b3 0),(4,.int .i64 1)]) (ps':=[EU b2,.arr b3 1 8 (([ui .u64 x1,0,0,0,0,0,0,0]:List (Nat)).map (eN .u64)) .own]) (sc rfl (sc rfl (sc rfl sn))) (ak.trans (ak.tq (k:=0) (xs:=([ui .u64 x1,0,0,0,0,0,0,0]:List (Nat))) (f:=eN .u64) (l:=8) (w:=1) rfl rfl rfl (HI .u64) rfl) (ak.aB [1,0] rfl rfl))<|Wk.loop (σ:=List (Nat) × Int) (ρ:=List (Nat)) (γ:=Unit) (δ:=fun _=>Unit) _ (fun(s:List (Nat) × Int) (g:Unit)=>match s,g with | (l40,v41),_=>⟨.normal,[(2,ptr b2 0),(3,ptr b3 0),(4,aJ v41)],[EU b2,sS b3 l40]⟩) (fun(r:List (Nat)) (g:Unit)=>match r,g with|l49,_=>⟨(.exit 0),[(2,ptr b2 0),(3,ptr b3 0)],[EU b2,sS b3 l49]⟩) ?_ (fun _ _=>rfl) (fun r d=>by intro e; cases e) _ _ _ h55 ()
    clear hF h55;rintro⟨l40,v41⟩ ⟨⟩ r hF;unfold Kj at hF;refine wz ?_;rcases aa hF with⟨h50,hF⟩|⟨h50,hF⟩
    ·refine au ?_;obtain⟨h51,hF⟩:=bO hF;refine Wo.og (ph NK rfl rfl h51) gn rfl ?_;obtain⟨x52,h53,hF⟩:=J hF;refine Wo.o0 (ff (k:=1) (x1:=x52) (x2:=18446744073709551615) bN rfl rfl rfl h53 rfl) ?_;refine au ?_;cases hF;exact ae () [0,1]
    ·refine wz ?_;cases hF;exact ae () [0,1]
   ·clear h55;rintro⟨⟩;refine At.be ?_;obtain rfl:=Option.some.inj hF;exact ae () [0,1]
  ·refine wz ?_;cases hF;exact At.en () rfl (sc rfl (sc rfl sn)) (ak.trans (ak.tq (k:=0) (xs:=([ui .u64 x1,0,0,0,0,0,0,0]:List (Nat))) (f:=eN .u64) (l:=8) (w:=1) rfl rfl rfl (HI .u64) rfl) (ak.aB [1,0] rfl rfl))
 ·clear h57;rintro⟨⟩;refine au ?_;obtain⟨⟨x59,x60,x61,x62,x63,x64,x65,x66⟩,h67,hF⟩:=J hF;refine Wo.nV (ak.CF (k:=1) (ys:=[x59,x60,x61,x62,x63,x64,x65,x66]) (cs:=[bg x59,bg x60,bg x61,bg x62,bg x63,bg x64,bg x65,bg x66]) rfl (rZ h67) rfl)<|Wo.od (ai (k:=1) ij rfl rfl rfl) rfl<|Wo.o0 (bC (k:=0) ij rfl rfl rfl rfl rfl) ?_;refine au ?_;cases hF;exact At.ret (.cell (k:=0) ij rfl rfl rfl .nil) fun m' hm=>⟨(),rfl,(ak.aB [] rfl rfl) m' hm⟩
theorem E5 (n x1 x2 x3 x4 x5 x6 x7 x8 x9 x10 x11 x12 x13 x14 x15 x16 r) (hF:Pa n x1 x2 x3 x4 x5 x6 x7 x8 x9 x10 x11 x12 x13 x14 x15 x16=some r) (m):
  aA aq 91 [yK x1 x2 x3 x4 x5 x6 x7 x8,yK x9 x10 x11 x12 x13 x14 x15 x16] m (fun v m'=>∃_:Unit,v = .tuple #[.agg #[.int .u64 ((r.1:Nat):Int),.int .u64 ((r.2.1:Nat):Int),.int .u64 ((r.2.2.1:Nat):Int),.int .u64 ((r.2.2.2.1:Nat):Int),.int .u64 ((r.2.2.2.2.1:Nat):Int),.int .u64 ((r.2.2.2.2.2.1:Nat):Int),.int .u64 ((r.2.2.2.2.2.2.1:Nat):Int),.int .u64 ((r.2.2.2.2.2.2.2.1:Nat):Int)],.int .u64 ((r.2.2.2.2.2.2.2.2:Nat):Int)]∧Hp m m' []):=by
 unfold Pa at hF;refine cw Tryd.func91 (Hp.start m) ?_;refine wz ?_;refine wb fun b17=>?_;refine wb fun b18=>?_;refine wa FW fun b19=>?_;refine dY ?_;refine Wk.block ?_;obtain⟨r71,h70,hF⟩:=J hF;refine ct (fun(l56,v57) (_:Unit)=>⟨(.exit 0),[(2,ptr b17 0),(4,ptr b19 0),(6,bg v57)],[sS b17 l56,EU b19]⟩) r71 ?_ ?_
 ·refine Wk.pG (fs':=[(2,ptr b17 0),(3,ptr b18 0),(4,ptr b19 0),(6,.int .u64 ((0:Nat):Int)),(8,.int .i64 0)]) (ps':=[IW b17 x1 x2 x3 x4 x5 x6 x7 x8,IW b18 x9 x10 x11 x12 x13 x14 x15 x16,EU b19]) (sc rfl (sc rfl (sc rfl (sc rfl (sc rfl sn))))) (ak.trans (ak.tq (k:=2) (xs:=([x1,x2,x3,x4,x5,x6,x7,x8]:List (Nat))) (f:=eN .u64) (l:=8) (w:=1) rfl rfl rfl (HI .u64) rfl) (ak.trans (ak.tq (k:=1) (xs:=([x9,x10,x11,x12,x13,x14,x15,x16]:List (Nat))) (f:=eN .u64) (l:=8) (w:=1) rfl rfl rfl (HI .u64) rfl) (ak.aB [2,1,0] rfl rfl)))<|Wk.loop (σ:=List (Nat) × List (Nat) × Nat × Int) (ρ:=List (Nat) × Nat) (γ:=Unit) (δ:=fun _=>Unit) _ (fun(s:List (Nat) × List (Nat) × Nat × Int) (g:Unit)=>match s,g with | (l36,l37,v38,v39),_=>⟨.normal,[(2,ptr b17 0),(3,ptr b18 0),(4,ptr b19 0),(6,bg v38),(8,aJ v39)],[sS b17 l36,sS b18 l37,EU b19]⟩) (fun(r:List (Nat) × Nat) (g:Unit)=>match r,g with | (l56,v57),_=>⟨(.exit 0),[(2,ptr b17 0),(4,ptr b19 0),(6,bg v57)],[sS b17 l56,EU b19]⟩) ?_ (fun _ _=>rfl) (fun r d=>by intro e; cases e) _ _ _ h70 ()
  clear hF h70;rintro⟨l36,l37,v38,v39⟩ ⟨⟩ r hF;unfold JS at hF;refine wz ?_;refine Wk.seq ?_;rcases aa hF with⟨h58,hF⟩|⟨h58,hF⟩
  ·refine dY ?_;obtain⟨h59,hF⟩:=bO hF;refine Wo.og (ph lW rfl rfl h59) gn rfl ?_;obtain⟨x60,h61,hF⟩:=J hF;refine Wo.od (cr (k:=0) bN rfl rfl (ay h61) rfl rfl) rfl ?_;refine wz ?_;obtain⟨h62,hF⟩:=bO hF;refine Wo.og (ph lW rfl rfl h62) gn rfl ?_;obtain⟨x63,h64,hF⟩:=J hF;refine Wo.od (cr (k:=1) bN rfl rfl (ay h64) rfl rfl) rfl ?_;refine wz ?_;obtain⟨⟨r66,r67⟩,h65,hF⟩:=J hF;refine wc gn (fun m hm=>Bk n x60 x63 v38  _ h65 m) ?_;rintro⟨⟩;refine wz ?_;obtain⟨h68,hF⟩:=bO hF;refine Wo.og (ph lW rfl rfl h68) gn rfl<|Wo.o0 (ff (k:=0) (x1:=x60) (x2:=r66) bN rfl rfl rfl h61 rfl) ?_;refine au ?_;cases hF;exact ae () [0,1,2]
  ·refine wz ?_;cases hF;exact ae () [0,2]
 ·clear h70;obtain⟨l56,v57⟩:=r71;rintro⟨⟩;refine au ?_;obtain⟨⟨x72,x73,x74,x75,x76,x77,x78,x79⟩,h80,hF⟩:=J hF;refine Wo.nV (ak.CF (k:=0) (ys:=[x72,x73,x74,x75,x76,x77,x78,x79]) (cs:=[bg x72,bg x73,bg x74,bg x75,bg x76,bg x77,bg x78,bg x79]) rfl (rZ h80) rfl)<|Wo.od (ai (k:=0) kC rfl rfl rfl) rfl ?_;refine wz ?_;refine Wo.o0 (bC (k:=1) kC rfl rfl rfl rfl rfl) ?_;refine au ?_;cases hF;exact At.ret (.cell (k:=1) kC rfl rfl rfl (.tmp rfl .nil)) fun m' hm=>⟨(),rfl,(ak.aB [] rfl rfl) m' hm⟩
theorem Lh (n x1 x2 x3 x4 x5 x6 x7 x8 r) (hF:Pb n x1 x2 x3 x4 x5 x6 x7 x8=some r) (m):
  aA aq 74 [yK x1 x2 x3 x4 x5 x6 x7 x8] m (fun v m'=>∃_:Unit,v = .agg #[.bool r.1,.int .u64 ((r.2.1:Nat):Int),.int .u64 ((r.2.2.1:Nat):Int),.int .u64 ((r.2.2.2.1:Nat):Int),.int .u64 ((r.2.2.2.2.1:Nat):Int),.int .u64 ((r.2.2.2.2.2.1:Nat):Int),.int .u64 ((r.2.2.2.2.2.2.1:Nat):Int),.int .u64 ((r.2.2.2.2.2.2.2.1:Nat):Int),.int .u64 ((r.2.2.2.2.2.2.2.2:Nat):Int)]∧Hp m m' []):=by
 unfold Pb at hF;refine cw Tryd.func74 (Hp.start m) ?_;refine wz ?_;refine wb fun b9=>?_;refine wa CV fun b10=>?_;refine au ?_;refine Wo.od (ai (k:=1) bN rfl rfl rfl) rfl<|Wo.od (aF rfl rfl (bM _ _ rfl)) rfl ?_;refine wz ?_;refine Wo.od (ai (k:=1) ij rfl rfl rfl) rfl<|Wo.od (jk rfl CV rfl (jz JV rfl rfl rfl)) rfl<|wa CV fun b11=>?_;refine Wo.o0 (bC (k:=0) qB rfl rfl rfl rfl rfl) ?_;refine wz ?_;refine Wk.seq ?_;obtain⟨r44,h43,hF⟩:=J hF;refine ct (fun(v23,v24,v25,v26,v27,v28,v29,v30,v31) (_:Unit)=>⟨.normal,[(2,ptr b10 0),(3,ptr b11 0)],[.obj b10 (.cells [.bool false,.int .u64 ((0:Nat):Int),.int .u64 ((0:Nat):Int),.int .u64 ((0:Nat):Int),.int .u64 ((0:Nat):Int),.int .u64 ((0:Nat):Int),.int .u64 ((0:Nat):Int),.int .u64 ((0:Nat):Int),.int .u64 ((0:Nat):Int)] .own),MF b11 v23 v24 v25 v26 v27 v28 v29 v30 v31]⟩) r44 ?_ ?_
 ·clear hF;revert r44;intro r hF;refine wz ?_;refine Wo.od (ai (k:=0) wW rfl rfl rfl) rfl ?_;refine wz ?_;rcases aa hF with⟨h32,hF⟩|⟨h32,hF⟩
  ·refine wz ?_;refine Wo.od (jk rfl FW rfl (jz EL rfl rfl rfl)) rfl ?_;refine wz ?_;refine Wo.od (ai (k:=0) kC rfl rfl rfl) rfl ?_;obtain⟨⟨r34,r35,r36,r37,r38,r39,r40,r41,r42⟩,h33,hF⟩:=J hF;refine wc gn (fun m hm=>E5 n 0 0 0 0 0 0 0 0 x1 x2 x3 x4 x5 x6 x7 x8  _ h33 m) ?_;rintro⟨⟩;refine wz ?_;refine Wo.o0 (bC (k:=0) kC rfl rfl rfl rfl rfl)<|Wo.nil ?_;cases hF;exact ae () [1,0]
  ·refine wz ?_;cases hF;exact ae () [1,0]
 ·clear h43;obtain⟨v23,v24,v25,v26,v27,v28,v29,v30,v31⟩:=r44;rintro⟨⟩;refine au ?_;refine Wo.od (ai (k:=1) qB rfl rfl rfl) rfl<|Wo.o0 (bC (k:=0) qB rfl rfl rfl rfl rfl) ?_;refine au ?_;cases hF;exact At.ret (.cell (k:=0) qB rfl rfl rfl .nil) fun m' hm=>⟨(),rfl,(ak.aB [] rfl rfl) m' hm⟩
theorem iM (n x1 l2 a3 c4 r) (hF:zd n x1 l2=some r) (m) {H:Nat→Prop} (hH:∀b,H b→b<m.next) (h5:fO m a3 c4 l2) (h6:∀b,iE a3=some b→¬H b):
  aA aq 75 [cX x1,aT a3 l2 c4] m (fun v m'=>∃x:Option Addr × Nat × Nat,v = .agg #[.bool r.1,.slice x.1 x.2.2 x.2.1]∧Hp m m' [.rd x.1 x.2.1 1 x.2.2 (r.2.map (eN .u64)),fU H]):=by
 unfold zd at hF;refine cw Tryd.func75 (Hp.nf (l0:=[]) (Hp.gT m hH) rfl h5 h6) ?_;refine wz ?_;refine wa z84 fun b7=>?_;refine au ?_;refine Wk.seq<|Wk.block ?_;obtain⟨v43,h76,hF⟩:=J hF;refine ct (fun v43 (_:Unit)=>⟨(.exit 0),[(0,cX x1),(1,aT a3 l2 c4),(4,ptr b7 0),(5,aJ v43)],[ec a3 c4 l2,eQ b7,fU H]⟩) v43 ?_ ?_
 ·refine lo h76 () [1,0,2] (fun v9 _=>⟨.normal,[(0,cX x1),(1,aT a3 l2 c4),(4,ptr b7 0),(5,aJ v9)],[ec a3 c4 l2,eQ b7,fU H]⟩) ?_;clear hF h76;rintro v9 ⟨⟩ r hF;unfold hY at hF;refine Wk.seq<|Wk.seq ?_;obtain⟨v66,h73,hF⟩:=J hF;refine ct (fun v66 (_:Unit)=>⟨.normal,[(0,cX x1),(1,aT a3 l2 c4),(4,ptr b7 0),(5,aJ v9),(17,cX v66)],[ec a3 c4 l2,eQ b7,fU H]⟩) v66 ?_ ?_
  ·clear hF;revert v66;intro r hF;refine wz ?_;rcases aa hF with⟨h67,hF⟩|⟨h67,hF⟩
   ·refine wz ?_;obtain⟨h68,hF⟩:=bO hF;refine Wo.cd (k:=0) rfl (aO h68) ?_;rintro b69 o70 rfl;refine wz ?_;obtain⟨x71,h72,hF⟩:=J hF;refine Wo.og (bJ (k:=0) bN rfl rfl (ay h72) rfl rfl) (gg rfl rfl (iU h67)) rfl ?_;refine wz ?_;cases hF;exact ae () [1,2,3]
   ·refine wz ?_;cases hF;exact ae () [0,1,2]
  ·clear h73;rintro⟨⟩;refine At.tn ?_;rcases aa hF with⟨h75,hF⟩|⟨h75,hF⟩
   ·refine au ?_;cases hF;exact ae () [0,1,2]
   ·refine wz ?_;cases hF;exact ae () [0,1,2]
 ·clear h76;rintro⟨⟩;refine au ?_;rcases aa hF with⟨h78,hF⟩|⟨h78,hF⟩
  ·refine wz ?_;obtain⟨h79,hF⟩:=al hF;refine Wo.x (JX (k:=0) (lo:=0) (hi:=v43) tC rfl rfl rfl rfl h79 (.inl ⟨rfl,rfl⟩) (.inr ⟨_,rfl⟩)) gn rfl ?_;rintro⟨a80,c81⟩;refine Wo.od (jk rfl z84 rfl (jz I0 rfl rfl rfl)) rfl<|Wo.o0 (bC (k:=2) bA rfl rfl rfl rfl rfl) ?_;refine au ?_;cases hF;exact At.ret (.cell (k:=2) bA rfl rfl rfl .nil) fun m' hm=>⟨(a80,c81,(((l2.drop (0:Int).toNat).take ((v43:Int).toNat-(0:Int).toNat)).length)),rfl,(ak.aB [0,3] rfl rfl) m' hm⟩
  ·refine wz ?_;obtain⟨h82,hF⟩:=al hF;refine Wo.x (JX (k:=0) (lo:=0) (hi:=v43) tC rfl rfl rfl rfl h82 (.inl ⟨rfl,rfl⟩) (.inr ⟨_,rfl⟩)) gn rfl ?_;rintro⟨a83,c84⟩;refine Wo.od (jk rfl z84 rfl (jz I0 rfl rfl rfl)) rfl<|Wo.o0 (bC (k:=2) bA rfl rfl rfl rfl rfl) ?_;refine au ?_;cases hF;exact At.ret (.cell (k:=2) bA rfl rfl rfl .nil) fun m' hm=>⟨(a83,c84,(((l2.drop (0:Int).toNat).take ((v43:Int).toNat-(0:Int).toNat)).length)),rfl,(ak.aB [0,3] rfl rfl) m' hm⟩
theorem G9 (n x1 x2 x3 x4 x5 x6 x7 x8 r) (hF:Lm n x1 x2 x3 x4 x5 x6 x7 x8=some r) (m) {H:Nat→Prop} (hH:∀b,H b→b<m.next):
  aA aq 40 [yK x1 x2 x3 x4 x5 x6 x7 x8] m (fun v m'=>∃x:Option Addr × Nat × Nat,v = .agg #[.bool r.1,.slice x.1 x.2.2 x.2.1]∧Hp m m' [.rd x.1 x.2.1 1 x.2.2 (r.2.map (eN .u64)),fU H]):=by
 unfold Lm at hF;refine cw Tryd.func40 (Hp.gT m hH) ?_;refine wz ?_;refine wb fun b9=>?_;refine wa z84 fun b10=>?_;refine au ?_;refine Wo.od (ai (k:=1) ij rfl rfl rfl) rfl ?_;obtain⟨⟨r12,r13,r14,r15,r16,r17,r18,r19,r20⟩,h11,hF⟩:=J hF;refine wc gn (fun m hm=>Lh n x1 x2 x3 x4 x5 x6 x7 x8  _ h11 m) ?_;rintro⟨⟩;refine wa CV fun b21=>?_;refine Wo.o0 (bC (k:=0) qB rfl rfl rfl rfl rfl) ?_;refine wz ?_;refine Wk.seq<|Wk.dE (prs:=[(1,5)]) (by kernel_rfl)<|Wn.od (im (r:=ptr b21 0) rfl (Bo _ _)) rfl<|Wn.Pe rfl (ai (k:=0) wW rfl rfl rfl) rfl<|Wn.x (sG (es:=([]:List (Nat)).map (eN .u64)) tC rfl (sX tC FD rfl rfl) rfl rfl) gn rfl fun b22=>?_
 refine Wn.od (im (r:=ptr b21 1) rfl (By _ _)) rfl<|Wn.og (Jo (k:=1) lW rfl rfl rfl rfl) gn rfl ?_;obtain⟨h23,hF⟩:=al hF;refine Wn.nV (ak.close (k:=0) rfl)<|Wn.xk (l:=[b21]) (Om (k:=0) (xs:=([]:List (Nat))) (ys:=([r13,r14,r15,r16,r17,r18,r19,r20]:List (Nat))) (HI .u64) tC ⟨_,Pz⟩ rfl rfl (fun m hm=>hm.PK (k:=1) (xs:=([r13,r14,r15,r16,r17,r18,r19,r20]:List (Nat))) (f:=eN .u64) rfl rfl rfl rfl (HI .u64)) h23) ⟨⟨_,1,rfl,rfl,fun _=>⟨1,rfl⟩⟩,trivial⟩ gn rfl fun a24=>?_;obtain⟨⟨r26,l27⟩,h25,hF⟩:=J hF;refine Wn.nV (ak.freeze (k:=0) rfl)<|nv gn (fun m hm=>iM n r12 (([]:List (Nat))++[r13,r14,r15,r16,r17,r18,r19,r20]) a24 ((([]:List (Nat))++[r13,r14,r15,r16,r17,r18,r19,r20]).length) _ h25 m hm.aY (hm.q 0) (hm.no 0)) ?_;rintro⟨a28,c29,n30⟩;refine Wn.de (k:=0) rfl ?_;rintro rfl;refine Wn.o0 (bC (k:=3) bA rfl rfl rfl rfl rfl) ?_;refine Wn.nil (fun m hm=>(by(first|refine fb.rk rfl rfl rfl (by simp) ?_|refine fb.step rfl ?_); exact fb.nil)) ?_
 refine au ?_;cases hF;exact At.ret (.cell (k:=3) bA rfl rfl rfl .nil) fun m' hm=>⟨(a28,c29,l27.length),rfl,(ak.aB [0,5] rfl rfl) m' hm⟩
theorem ml (n x1 r) (hF:w9 n x1=some r) (m) {H:Nat→Prop} (hH:∀b,H b→b<m.next):
  aA aq 56 [aJ x1] m (fun v m'=>∃x:Option Addr × Nat × Nat,v = .agg #[.bool r.1,.slice x.1 x.2.2 x.2.1]∧Hp m m' [.rd x.1 x.2.1 1 x.2.2 (r.2.map (eN .u64)),fU H]):=by
 unfold w9 at hF;refine cw Tryd.func56 (Hp.gT m hH) ?_;refine wz ?_;refine wa z84 fun b2=>?_;refine au ?_;obtain⟨⟨r4,r5,r6,r7,r8,r9,r10,r11⟩,h3,hF⟩:=J hF;refine wc gn (fun m hm=>Ak n x1  _ h3 m) ?_;rintro⟨⟩;obtain⟨⟨r13,l14⟩,h12,hF⟩:=J hF;refine wv gn (fun m hm=>G9 n r4 r5 r6 r7 r8 r9 r10 r11  _ h12 m hm.aY) ?_;rintro⟨a15,c16,n17⟩;refine Wo.de (k:=0) rfl ?_;rintro rfl;refine Wo.o0 (bC (k:=1) bA rfl rfl rfl rfl rfl) ?_;refine au ?_;cases hF;exact At.ret (.cell (k:=1) bA rfl rfl rfl .nil) fun m' hm=>⟨(a15,c16,l14.length),rfl,(ak.aB [0,2] rfl rfl) m' hm⟩
theorem KK (n l4 l5 a4 c2 a5 c3 r) (hF:NX n l4 l5=some r) (m) (h2:fO m a4 c2 l4) (h3:fO m a5 c3 l5):
  aA aq 92 [aT a4 l4 c2,aT a5 l5 c3] m (fun v m'=>∃x:Option Addr × Nat,v = .slice x.1 x.2 x.2∧Hp m m' [.sl x.1 1 x.2 (r.map (eN .u64))]):=by
 unfold NX at hF;refine cw Tryd.func92 (((Hp.start m).i h2).i h3) ?_;refine wz ?_;refine Wk.seq ?_;obtain⟨r0,h4,hF⟩:=J hF;refine ct (fun(l1,l2) ((a0,c0,a1,c1):Option Addr × Nat × Option Addr × Nat)=>⟨.normal,[(0,aT a0 l1 c0),(1,aT a1 l2 c1)],[ec a0 c0 l1,ec a1 c1 l2]⟩) r0 ?_ ?_
 ·clear hF;revert r0;intro r hF;refine wz ?_;rcases aa hF with⟨h5,hF⟩|⟨h5,hF⟩
  ·refine wz ?_;cases hF;exact ae (a5,c3,a4,c2) [0,1]
  ·refine wz ?_;cases hF;exact ae (a4,c2,a5,c3) [1,0]
 ·clear h4;obtain⟨l1,l2⟩:=r0;rintro⟨a0,c0,a1,c1⟩;refine au ?_;obtain⟨h6,hF⟩:=al hF;obtain⟨h7,hF⟩:=al hF;refine Wo.x (rq (f:=eN .u64) (z0:=(0:Nat)) tC rfl h6 h7 FD rfl rfl) gn rfl fun b1=>?_;refine dY ?_;refine Wk.block ?_;obtain⟨r1,h1,hF⟩:=J hF;refine ct (fun(l3,n0,v0) (a2:Option Addr)=>⟨(.exit 0),[(0,aT a0 l1 c0),(5,bX a2 n0),(6,bg v0)],[ec a0 c0 l1,nZ a2 n0 l3]⟩) r1 ?_ ?_
  ·refine Wk.pG (fs':=[(0,aT a0 l1 c0),(1,aT a1 l2 c1),(5,.slice (some ⟨b1,0,none⟩) ((IntKind.wrap .i64 ((l1.length:Int)+1)).toNat) ((IntKind.wrap .i64 ((l1.length:Int)+1)).toNat)),(6,.int .u64 ((0:Nat):Int)),(21,aT a0 l1 c0),(22,dQ l1),(23,.int .i64 0)]) (ps':=[ec a0 c0 l1,ec a1 c1 l2,.sl (some ⟨b1,0,none⟩) 1 ((IntKind.wrap .i64 ((l1.length:Int)+1)).toNat) ((List.replicate (IntKind.wrap .i64 ((l1.length:Int)+1)).toNat (0:Nat)).map (eN .u64))]) (sc rfl (sc rfl (sc rfl (sc rfl (sc rfl (sc rfl (sc rfl sn))))))) (ak.trans (ak.close (k:=0) rfl) (ak.aB [1,2,0] rfl rfl))<|Wk.loop (σ:=List (Nat) × Nat × Nat × Int) (ρ:=List (Nat) × Nat × Nat) (γ:=Option Addr) (δ:=fun _=>Option Addr) _ (fun(s:List (Nat) × Nat × Nat × Int) (g:Option Addr)=>match s,g with | (l6,n1,v2,v3),a3=>⟨.normal,[(0,aT a0 l1 c0),(1,aT a1 l2 c1),(5,bX a3 n1),(6,bg v2),(21,aT a0 l1 c0),(22,dQ l1),(23,aJ v3)],[ec a0 c0 l1,ec a1 c1 l2,nZ a3 n1 l6]⟩) (fun(r:List (Nat) × Nat × Nat) (g:Option Addr)=>match r,g with | (l3,n0,v0),a2=>⟨(.exit 0),[(0,aT a0 l1 c0),(5,bX a2 n0),(6,bg v0)],[ec a0 c0 l1,nZ a2 n0 l3]⟩) ?_ (fun _ _=>rfl) (fun r d=>by intro e; cases e) _ _ _ h1 (some ⟨b1,0,none⟩)
   clear hF h1;rintro⟨l6,n1,v2,v3⟩ a3 r hF;unfold sr at hF;refine wz ?_;refine Wk.seq ?_;rcases aa hF with⟨h8,hF⟩|⟨h8,hF⟩
   ·refine au ?_;obtain⟨h9,hF⟩:=bO hF;refine Wo.cd (k:=0) rfl (aO h9) ?_;rintro b0 o1 rfl;refine wz ?_;obtain⟨x3,h10,hF⟩:=J hF;refine Wo.od (bJ (k:=0) bN rfl rfl (ay h10) rfl rfl) rfl ?_;refine au ?_;refine Wk.seq ?_;obtain⟨v1,h11,hF⟩:=J hF;refine ct (fun v1 (_:Unit)=>⟨.normal,[(0,kh b0 o1 l1 c0),(1,aT a1 l2 c1),(5,bX a3 n1),(6,bg v2),(7,aJ v3),(8,bg x3),(9,bg v1),(21,kh b0 o1 l1 c0),(22,dQ l1),(23,aJ v3)],[IA b0 o1 l1,Ih b0 o1 c0 l1,ec a1 c1 l2,nZ a3 n1 l6]⟩) v1 ?_ ?_
    ·clear hF;revert v1;intro r hF;refine wz ?_;rcases aa hF with⟨h12,hF⟩|⟨h12,hF⟩
     ·refine wz ?_;obtain⟨h13,hF⟩:=bO hF;refine Wo.cd (k:=2) rfl (aO h13) ?_;rintro b4 o2 rfl;refine wz ?_;obtain⟨x6,h14,hF⟩:=J hF;refine Wo.od (bJ (k:=0) bN rfl rfl (ay h14) rfl rfl) rfl ?_;refine wz ?_;obtain rfl:=Option.some.inj hF;exact ae () [1,2,3,4]
     ·refine wz ?_;cases hF;exact ae () [0,1,2,3]
    ·clear h11;rintro⟨⟩;refine au ?_;obtain⟨⟨r2,r3⟩,h15,hF⟩:=J hF;refine wc gn (fun m hm=>vV n x3 v1 v2  _ h15 m) ?_;rintro⟨⟩;refine wz ?_;obtain⟨h16,hF⟩:=bO hF;refine Wo.open (k:=3) rfl (aO h16) ?_;rintro b2 t0 rfl h20;refine wz ?_;obtain⟨x4,h17,hF⟩:=J hF;refine Wo.o0 (ff (k:=3) (x1:=x4) (x2:=r2) bN rfl rfl rfl h17 rfl) ?_;refine au ?_;cases hF;exact At.en (some ⟨b2,0,none⟩) rfl (sc rfl (sc rfl (sc rfl (sc rfl (sc rfl (sc rfl (sc rfl sn))))))) (ak.trans (ak.close (k:=3) rfl) (ak.aB [1,2,3] rfl rfl))
   ·refine wz ?_;cases hF;exact ae a3 [0,2]
  ·clear h1;obtain⟨l3,n0,v0⟩:=r1;rintro a2;refine au ?_;obtain⟨h18,hF⟩:=bO hF;refine Wo.open (k:=1) rfl (aO h18) ?_;rintro b3 t1 rfl h21;refine wz ?_;obtain⟨x5,h19,hF⟩:=J hF;refine Wo.o0 (ff (k:=1) (x1:=x5) (x2:=v0) bN rfl rfl rfl h19 rfl) ?_;refine dY ?_;cases hF;exact At.ret (.tmp rfl .nil) fun m' hm=>⟨((some ⟨b3,0,none⟩),n0),rfl,(ak.trans (ak.close (k:=1) rfl) (ak.aB [1] rfl rfl)) m' hm⟩
theorem Gx (n l1 l5 a2 c3 a6 c7 r) (hF:Nd n l1 l5=some r) (m) (h4:fO m a2 c3 l1) (h8:fO m a6 c7 l5):
  aA aq 93 [aT a2 l1 c3,aT a6 l5 c7] m (fun v m'=>∃_:Unit,v = .int .i64 r∧Hp m m' []):=by
 unfold Nd at hF;refine cw Tryd.func93 (((Hp.start m).i h4).i h8) ?_;refine au ?_;rcases aa hF with⟨h9,hF⟩|⟨h9,hF⟩
 ·refine au ?_;cases hF;exact ar () []
 ·refine au ?_;refine Wk.block ?_;obtain⟨r45,h44,hF⟩:=J hF;refine ct (fun(r:(Int) ⊕ (Unit)) (g:Unit)=>match r,g with | .inl v28,_=>⟨.ret,[(4,aJ v28)],[]⟩ | .inr _,_=>⟨(.exit 0),[],[]⟩) r45 ?_ ?_
  ·refine lo h44 () [1,0] (fun v11 _=>⟨.normal,[(0,aT a2 l1 c3),(1,aT a6 l5 c7),(5,aJ v11)],[ec a2 c3 l1,ec a6 c7 l5]⟩) ?_;clear hF h44;rintro v11 ⟨⟩ r hF;unfold pE at hF;refine wz ?_;rcases aa hF with⟨h29,hF⟩|⟨h29,hF⟩
   ·refine au ?_;obtain⟨h30,hF⟩:=bO hF;refine Wo.cd (k:=0) rfl (aO h30) ?_;rintro b31 o32 rfl;refine wz ?_;obtain⟨x33,h34,hF⟩:=J hF;refine Wo.od (bJ (k:=0) bN rfl rfl (ay h34) rfl rfl) rfl ?_;refine wz ?_;obtain⟨h35,hF⟩:=bO hF;refine Wo.cd (k:=2) rfl (aO h35) ?_;rintro b36 o37 rfl;refine wz ?_;obtain⟨x38,h39,hF⟩:=J hF;refine Wo.od (bJ (k:=0) bN rfl rfl (ay h39) rfl rfl) rfl ?_;refine wz ?_;rcases aa hF with⟨h40,hF⟩|⟨h40,hF⟩
    ·refine au ?_;cases hF;exact ae () []
    ·refine wz ?_;obtain⟨h41,hF⟩:=bO hF;refine wz ?_;refine Wo.od (bJ (k:=1) bN rfl rfl (ay h34) rfl rfl) rfl ?_;refine wz ?_;obtain⟨h42,hF⟩:=bO hF;refine wz ?_;refine Wo.od (bJ (k:=0) bN rfl rfl (ay h39) rfl rfl) rfl ?_;refine wz ?_;rcases aa hF with⟨h43,hF⟩|⟨h43,hF⟩
     ·refine au ?_;cases hF;exact ae () []
     ·refine au ?_;cases hF;exact ae () [2,3]
   ·refine wz ?_;cases hF;exact ae () []
  ·clear h44;rcases r45 with v28|_
   ·rintro⟨⟩;refine wz ?_;obtain rfl:=Option.some.inj hF;exact ar () []
   ·rintro⟨⟩;refine dY ?_;cases hF;exact ar () []
theorem EF (n l1 l2 a1 c0 a0 c1 r) (hF:M8 n l1 l2=some r) (m) (h2:fO m a1 c0 l1) (h3:fO m a0 c1 l2):
  aA aq 94 [aT a1 l1 c0,aT a0 l2 c1] m (fun v m'=>∃x:Option Addr × Nat,v = .slice x.1 x.2 x.2∧Hp m m' [.sl x.1 1 x.2 (r.map (eN .u64))]):=by
 unfold M8 at hF;refine cw Tryd.func94 (((Hp.start m).i h2).i h3) ?_;refine au ?_;obtain⟨h4,hF⟩:=al hF;obtain⟨h5,hF⟩:=al hF;refine Wo.x (rq (f:=eN .u64) (z0:=(0:Nat)) tC rfl h4 h5 FD rfl rfl) gn rfl fun b0=>?_;refine dY ?_;refine Wk.block ?_;obtain⟨l3,h1,hF⟩:=J hF;refine ct (fun l3 (_:Unit)=>⟨(.exit 0),[(5,xY b0 l1)],[xJ b0 l1 l3]⟩) l3 ?_ ?_
 ·refine lo h1 () [1,0,2] (fun(l4,v1,v2) _=>⟨.normal,[(1,aT a0 l2 c1),(5,xY b0 l1),(6,bg v1),(13,aT a1 l1 c0),(14,dQ l1),(15,aJ v2)],[ec a0 c1 l2,xJ b0 l1 l4,ec a1 c0 l1]⟩) ?_;clear hF h1;rintro⟨l4,v1,v2⟩ ⟨⟩ r hF;unfold tN at hF;refine wz ?_;refine Wk.seq ?_;rcases aa hF with⟨h6,hF⟩|⟨h6,hF⟩
  ·refine au ?_;obtain⟨h7,hF⟩:=bO hF;refine Wo.cd (k:=2) rfl (aO h7) ?_;rintro b1 o1 rfl;refine wz ?_;obtain⟨x3,h8,hF⟩:=J hF;refine Wo.od (bJ (k:=0) bN rfl rfl (ay h8) rfl rfl) rfl ?_;refine au ?_;refine Wk.seq ?_;obtain⟨v0,h9,hF⟩:=J hF;refine ct (fun v0 (_:Unit)=>⟨.normal,[(1,aT a0 l2 c1),(5,xY b0 l1),(6,bg v1),(7,aJ v2),(8,bg x3),(9,bg v0),(13,kh b1 o1 l1 c0),(14,dQ l1),(15,aJ v2)],[ec a0 c1 l2,xJ b0 l1 l4,IA b1 o1 l1,Ih b1 o1 c0 l1]⟩) v0 ?_ ?_
   ·clear hF;revert v0;intro r hF;refine wz ?_;rcases aa hF with⟨h10,hF⟩|⟨h10,hF⟩
    ·refine wz ?_;obtain⟨h11,hF⟩:=bO hF;refine Wo.cd (k:=1) rfl (aO h11) ?_;rintro b2 o2 rfl;refine wz ?_;obtain⟨x5,h12,hF⟩:=J hF;refine Wo.od (bJ (k:=0) bN rfl rfl (ay h12) rfl rfl) rfl ?_;refine wz ?_;obtain rfl:=Option.some.inj hF;exact ae () [2,3,1,4]
    ·refine wz ?_;cases hF;exact ae () [1,2,0,3]
   ·clear h9;rintro⟨⟩;refine au ?_;obtain⟨⟨r0,r1⟩,h13,hF⟩:=J hF;refine wc gn (fun m hm=>Bk n x3 v0 v1  _ h13 m) ?_;rintro⟨⟩;refine wz ?_;obtain⟨h15,hF⟩:=bO hF;refine wz ?_;obtain⟨x4,h14,hF⟩:=J hF;refine Wo.o0 (ff (k:=1) (x1:=x4) (x2:=r0) bN rfl rfl rfl h14 rfl) ?_;refine au ?_;cases hF;exact ae () [0,1,3]
  ·refine wz ?_;cases hF;exact ae () [1]
 ·clear h1;rintro⟨⟩;refine dY ?_;obtain rfl:=Option.some.inj hF;exact At.ret (.tmp rfl .nil) fun m' hm=>⟨((some ⟨b0,0,none⟩),((l1.length:Int).toNat)),rfl,(ak.trans (ak.close (k:=0) rfl) (ak.aB [0] rfl rfl)) m' hm⟩
theorem mG (n x1 l2 x7 l8 a3 c4 a9 c10 r) (hF:DW n x1 l2 x7 l8=some r) (m) {H:Nat→Prop} (hH:∀b,H b→b<m.next) (h5:fO m a3 c4 l2) (h6:∀b,iE a3=some b→¬H b) (h11:fO m a9 c10 l8) (h12:∀b,iE a9=some b→¬H b):
  aA aq 78 [oB x1 a3 l2 c4,oB x7 a9 l8 c10] m (fun v m'=>∃x:Option Addr × Nat × Nat,v = .agg #[.bool r.1,.slice x.1 x.2.2 x.2.1]∧Hp m m' [.rd x.1 x.2.1 1 x.2.2 (r.2.map (eN .u64)),fU H]):=by
 unfold DW at hF;refine cw Tryd.func78 (Hp.nf (l0:=[ec a3 c4 l2]) (Hp.nf (l0:=[]) (Hp.gT m hH) rfl h5 h6) rfl h11 h12) ?_;refine wz ?_;refine wb fun b13=>?_;refine wb fun b14=>?_;refine wa z84 fun b15=>?_;refine au ?_;refine Wo.od (ai (k:=2) wW rfl rfl rfl) rfl ?_;refine wz ?_;refine Wo.od (ai (k:=1) wW rfl rfl rfl) rfl<|Wo.od (aF rfl rfl (OY u4)) rfl ?_;refine wz ?_;rcases aa hF with⟨h16,hF⟩|⟨h16,hF⟩
 ·refine Wk.nJ rfl h16<|Wk.seq<|Wk.dE (prs:=[(1,6)]) (by kernel_rfl)<|Wn.od (im (r:=ptr b13 0) rfl (kP _ _)) rfl<|Wn.od (ai (k:=2) wW rfl rfl rfl) rfl<|Wn.od (im (r:=ptr b13 1) rfl (mE _ _)) rfl<|Wn.od (ai (k:=2) iV rfl rfl rfl) rfl<|Wn.od (im (r:=ptr b14 1) rfl (mE _ _)) rfl<|Wn.od (ai (k:=1) iV rfl rfl rfl) rfl ?_
  obtain⟨l18,h17,hF⟩:=J hF;refine nc gn (fun m hm=>KK n l2 l8 a3 c4 a9 c10 _ h17 m (hm.q 4) (hm.q 3)) ?_;rintro⟨a19,n20⟩;refine Wn.len (k:=0) (xs:=l18) rfl ?_;rintro rfl;obtain⟨⟨r22,l23⟩,h21,hF⟩:=J hF;refine Wn.nV (ak.freeze (k:=0) rfl)<|nv gn (fun m hm=>iM n x1 l18 a19 l18.length _ h21 m hm.aY (hm.q 0) (hm.no 0)) ?_;rintro⟨a24,c25,n26⟩;refine Wn.de (k:=0) rfl ?_;rintro rfl;refine Wn.o0 (bC (k:=2) bA rfl rfl rfl rfl rfl)<|Wn.nil (fun m hm=>fb.all rfl) ?_;refine au ?_;cases hF;exact At.ret (.cell (k:=2) bA rfl rfl rfl .nil) fun m' hm=>⟨(a24,c25,l23.length),rfl,(ak.aB [0,7] rfl rfl) m' hm⟩
 ·refine wz ?_;refine Wk.seq ?_;obtain⟨r42,h41,hF⟩:=J hF;refine ct (fun(v30,l31,v34,l35) ((a32,c33,a36,c37):Option Addr × Nat × Option Addr × Nat)=>⟨.normal,[(2,ptr b13 0),(3,ptr b14 0),(4,ptr b15 0)],[fT b13 v30 a32 l31 c33,ec a32 c33 l31,fT b14 v34 a36 l35 c37,ec a36 c37 l35,eQ b15,fU H]⟩) r42 ?_ ?_
  ·clear hF;revert r42;intro r hF;refine wz ?_;refine Wo.od (ai (k:=2) iV rfl rfl rfl) rfl ?_;refine wz ?_;refine Wo.od (ai (k:=1) iV rfl rfl rfl) rfl ?_;obtain⟨r39,h38,hF⟩:=J hF;refine wc gn (fun m hm=>Gx n l2 l8 a3 c4 a9 c10 _ h38 m (hm.q 4) (hm.q 3)) ?_;rintro⟨⟩;refine wz ?_;rcases aa hF with⟨h40,hF⟩|⟨h40,hF⟩
   ·refine wz ?_;refine Wo.od (ai (k:=1) bA rfl rfl rfl) rfl<|Wo.od (ai (k:=2) bA rfl rfl rfl) rfl<|Wo.o0 (bC (k:=2) bA rfl rfl rfl rfl rfl)<|Wo.o0 (bC (k:=1) bA rfl rfl rfl rfl rfl)<|Wo.nil ?_;cases hF;exact ae (a9,c10,a3,c4) [2,3,1,4,0,5]
   ·refine wz ?_;cases hF;exact ae (a3,c4,a9,c10) [2,4,1,3,0,5]
  ·clear h41;obtain⟨v30,l31,v34,l35⟩:=r42;rintro⟨a32,c33,a36,c37⟩;refine At.tn<|Wk.seq<|Wk.dE (prs:=[(1,6)]) (by kernel_rfl)<|Wn.od (im (r:=ptr b13 0) rfl (kP _ _)) rfl<|Wn.od (ai (k:=0) wW rfl rfl rfl) rfl<|Wn.od (im (r:=ptr b13 1) rfl (mE _ _)) rfl<|Wn.od (ai (k:=0) iV rfl rfl rfl) rfl<|Wn.od (im (r:=ptr b14 1) rfl (mE _ _)) rfl<|Wn.od (ai (k:=2) iV rfl rfl rfl) rfl ?_
   obtain⟨l44,h43,hF⟩:=J hF;refine nc gn (fun m hm=>EF n l31 l35 a32 c33 a36 c37 _ h43 m (hm.q 1) (hm.q 3)) ?_;rintro⟨a45,n46⟩;refine Wn.len (k:=0) (xs:=l44) rfl ?_;rintro rfl;obtain⟨⟨r48,l49⟩,h47,hF⟩:=J hF;refine Wn.nV (ak.freeze (k:=0) rfl)<|nv gn (fun m hm=>iM n v30 l44 a45 l44.length _ h47 m hm.aY (hm.q 0) (hm.no 0)) ?_;rintro⟨a50,c51,n52⟩;refine Wn.de (k:=0) rfl ?_;rintro rfl;refine Wn.o0 (bC (k:=6) bA rfl rfl rfl rfl rfl)<|Wn.nil (fun m hm=>fb.all rfl) ?_;refine au ?_;cases hF;exact At.ret (.cell (k:=6) bA rfl rfl rfl .nil) fun m' hm=>⟨(a50,c51,l49.length),rfl,(ak.aB [0,7] rfl rfl) m' hm⟩
theorem Ao (n x1 l2 a3 c4 r) (hF:MY n x1 l2=some r) (m) (h5:fO m a3 c4 l2):
  aA aq 41 [oB x1 a3 l2 c4] m (fun v m'=>∃_:Unit,v = .int .i64 r∧Hp m m' []):=by
 unfold MY at hF;refine cw Tryd.func41 ((Hp.start m).i h5) ?_;refine wz ?_;refine wb fun b6=>?_;refine au ?_;refine Wo.od (ai (k:=0) wW rfl rfl rfl) rfl ?_;refine wz ?_;rcases aa hF with⟨h7,hF⟩|⟨h7,hF⟩
 ·refine au ?_;cases hF;exact ar () []
 ·refine wz ?_;refine Wo.od (ai (k:=0) iV rfl rfl rfl) rfl ?_;refine wz ?_;rcases aa hF with⟨h8,hF⟩|⟨h8,hF⟩
  ·refine au ?_;cases hF;exact ar () []
  ·refine dY ?_;cases hF;exact ar () []
theorem IM (n x1 x2 r) (hF:EX n x1 x2=some r) (m):
  aA aq 109 [bg x1,bg x2] m (fun v m'=>∃_:Unit,v = .tuple #[.int .u64 ((r.1:Nat):Int),.int .u64 ((r.2:Nat):Int)]∧Hp m m' []):=by
 unfold EX at hF;refine cw Tryd.func109 (Hp.start m) ?_;refine dY ?_;refine Wo.od (aF rfl rfl (bM _ _ rfl)) rfl ?_;refine dY ?_;refine Wo.od (aF rfl rfl (bM _ _ rfl)) rfl ?_;refine wz ?_;refine Wk.seq<|Wk.region<|Wo.od (bF rfl) rfl<|Wo.od (bF rfl) rfl ?_;obtain⟨y3,h4,hF⟩:=J hF;refine Wo.od (aF rfl rfl ((dX rfl _ _).trans (cN h4))) rfl ?_;refine wz ?_;refine Wk.seq<|Wk.region<|Wo.od (bF rfl) rfl<|Wo.od (bF rfl) rfl ?_;obtain⟨y5,h6,hF⟩:=J hF;refine Wo.od (aF rfl rfl ((dX rfl _ _).trans (cN h6))) rfl ?_;refine wz ?_;refine Wo.od (aF rfl rfl (bM _ _ rfl)) rfl ?_;refine wz ?_;refine Wk.seq<|Wk.region<|Wo.od (bF rfl) rfl ?_;obtain⟨y7,h8,hF⟩:=J hF;refine Wo.od (aF rfl rfl ((kg rfl _ _).trans (cN h8))) rfl ?_;refine au ?_;refine Wo.od (aF rfl rfl (bM _ _ rfl)) rfl ?_;refine wz ?_;refine Wk.seq<|Wk.region<|Wo.od (bF rfl) rfl<|Wo.od (bF rfl) rfl<|Wo.od (bF rfl) rfl ?_;obtain⟨y9,h10,hF⟩:=J hF;refine Wo.od (aF rfl rfl ((dX rfl _ _).trans (cN h10))) rfl ?_;refine au ?_;refine Wo.od (aF rfl rfl (dX rfl _ _)) rfl<|Wo.od (bF rfl) rfl ?_;obtain⟨y11,h12,hF⟩:=J hF;refine Wo.od (aF rfl rfl ((oI rfl _ _).trans (cN h12))) rfl ?_;refine wz ?_;refine Wo.od (aF rfl rfl (bM _ _ rfl)) rfl ?_;refine au ?_;refine Wo.od (aF rfl rfl (dX rfl _ _)) rfl ?_;refine au ?_;cases hF;exact ar () []
theorem HX (n l1 l2 a3 c1 a0 c0 r) (hF:EH n l1 l2=some r) (m) (h4:fO m a3 c1 l1) (h5:fO m a0 c0 l2):
  aA aq 102 [aT a3 l1 c1,aT a0 l2 c0] m (fun v m'=>∃x:Option Addr × Nat,v = .slice x.1 x.2 x.2∧Hp m m' [.sl x.1 1 x.2 (r.map (eN .u64))]):=by
 unfold EH at hF;refine cw Tryd.func102 (((Hp.start m).i h4).i h5) ?_;refine au ?_;obtain⟨h6,hF⟩:=al hF;obtain⟨h7,hF⟩:=al hF;refine Wo.x (rq (f:=eN .u64) (z0:=(0:Nat)) tC rfl h6 h7 FD rfl rfl) gn rfl fun b1=>?_;refine au ?_;refine Wk.block ?_;obtain⟨r0,h1,hF⟩:=J hF;refine ct (fun(l3,n0) (a2:Option Addr)=>⟨(.exit 0),[(5,bX a2 n0)],[nZ a2 n0 l3]⟩) r0 ?_ ?_
 ·refine Wk.pG (fs':=[(1,aT a0 l2 c0),(5,.slice (some ⟨b1,0,none⟩) ((IntKind.wrap .i64 ((l1.length:Int)+(l2.length:Int))).toNat) ((IntKind.wrap .i64 ((l1.length:Int)+(l2.length:Int))).toNat)),(22,aT a3 l1 c1),(23,dQ l1),(24,.int .i64 0)]) (ps':=[ec a0 c0 l2,.sl (some ⟨b1,0,none⟩) 1 ((IntKind.wrap .i64 ((l1.length:Int)+(l2.length:Int))).toNat) ((List.replicate (IntKind.wrap .i64 ((l1.length:Int)+(l2.length:Int))).toNat (0:Nat)).map (eN .u64)),ec a3 c1 l1]) (sc rfl (sc rfl (sc rfl (sc rfl (sc rfl sn))))) (ak.trans (ak.close (k:=0) rfl) (ak.aB [1,0,2] rfl rfl))<|Wk.loop (σ:=List (Nat) × Nat × Int) (ρ:=List (Nat) × Nat) (γ:=Option Addr) (δ:=fun _=>Option Addr) _ (fun(s:List (Nat) × Nat × Int) (g:Option Addr)=>match s,g with | (l4,n1,v0),a1=>⟨.normal,[(1,aT a0 l2 c0),(5,bX a1 n1),(22,aT a3 l1 c1),(23,dQ l1),(24,aJ v0)],[ec a0 c0 l2,nZ a1 n1 l4,ec a3 c1 l1]⟩) (fun(r:List (Nat) × Nat) (g:Option Addr)=>match r,g with | (l3,n0),a2=>⟨(.exit 0),[(5,bX a2 n0)],[nZ a2 n0 l3]⟩) ?_ (fun _ _=>rfl) (fun r d=>by intro e; cases e) _ _ _ h1 (some ⟨b1,0,none⟩)
  clear hF h1;rintro⟨l4,n1,v0⟩ a1 r hF;unfold oe at hF;refine wz ?_;refine Wk.seq ?_;rcases aa hF with⟨h8,hF⟩|⟨h8,hF⟩
  ·refine au ?_;obtain⟨h9,hF⟩:=bO hF;refine Wo.cd (k:=2) rfl (aO h9) ?_;rintro b0 o1 rfl;refine wz ?_;obtain⟨x3,h10,hF⟩:=J hF;refine Wo.od (bJ (k:=0) bN rfl rfl (ay h10) rfl rfl) rfl ?_;refine dY ?_;refine Wk.block ?_;obtain⟨r1,h2,hF⟩:=J hF;refine ct (fun(l5,v1) (_:Unit)=>⟨(.exit 2),[(1,aT a0 l2 c0),(5,bX a1 n1),(6,aJ v0),(8,bg v1),(22,kh b0 o1 l1 c1),(23,dQ l1),(24,aJ v0)],[ec a0 c0 l2,nZ a1 n1 l5,IA b0 o1 l1,Ih b0 o1 c1 l1]⟩) r1 ?_ ?_
   ·refine lo h2 () [1,2,0,3] (fun(l6,v2,v3) _=>⟨.normal,[(1,aT a0 l2 c0),(5,bX a1 n1),(6,aJ v0),(7,bg x3),(8,bg v2),(22,kh b0 o1 l1 c1),(23,dQ l1),(24,aJ v0),(29,aT a0 l2 c0),(30,dQ l2),(31,aJ v3)],[ec a0 c0 l2,nZ a1 n1 l6,IA b0 o1 l1,Ih b0 o1 c1 l1]⟩) ?_;clear hF h2;rintro⟨l6,v2,v3⟩ ⟨⟩ r hF;unfold oW at hF;refine wz ?_;refine Wk.seq ?_;rcases aa hF with⟨h11,hF⟩|⟨h11,hF⟩
    ·refine au ?_;obtain⟨h12,hF⟩:=bO hF;refine Wo.cd (k:=0) rfl (aO h12) ?_;rintro b3 o2 rfl;refine wz ?_;obtain⟨x5,h13,hF⟩:=J hF;refine Wo.od (bJ (k:=0) bN rfl rfl (ay h13) rfl rfl) rfl ?_;refine au ?_;obtain⟨⟨r5,r2⟩,h14,hF⟩:=J hF;refine wc gn (fun m hm=>IM n x3 x5  _ h14 m) ?_;rintro⟨⟩;refine au ?_;obtain⟨h15,hF⟩:=bO hF;refine Wo.open (k:=2) rfl (aO h15) ?_;rintro b4 t0 rfl h20;refine wz ?_;obtain⟨x4,h3,hF⟩:=J hF;refine Wo.od (cr (k:=2) bN rfl rfl (ay h3) rfl rfl) rfl ?_;refine wz ?_;obtain⟨⟨r3,r6⟩,h16,hF⟩:=J hF;refine wc gn (fun m hm=>vV n x4 r2 0  _ h16 m) ?_;rintro⟨⟩;refine au ?_;obtain⟨⟨r4,r7⟩,h17,hF⟩:=J hF;refine wc gn (fun m hm=>vV n r3 v2 0  _ h17 m) ?_;rintro⟨⟩;refine au ?_;obtain⟨h21,hF⟩:=bO hF;refine wz ?_;refine Wo.o0 (ff (k:=2) (x1:=x4) (x2:=r4) bN rfl rfl rfl h3 rfl) ?_;refine au ?_;cases hF;exact At.en () rfl (sc rfl (sc rfl (sc rfl (sc rfl (sc rfl (sc rfl (sc rfl (sc rfl (sc rfl (sc rfl (sc rfl sn))))))))))) (ak.trans (ak.close (k:=2) rfl) (ak.aB [1,2,3,4] rfl rfl))
    ·refine wz ?_;cases hF;exact ae () [0,1,2,3]
   ·clear h2;obtain⟨l5,v1⟩:=r1;rintro⟨⟩;refine au ?_;obtain⟨h18,hF⟩:=bO hF;refine Wo.open (k:=1) rfl (aO h18) ?_;rintro b2 t1 rfl h22;refine wz ?_;obtain⟨x6,h19,hF⟩:=J hF;refine Wo.o0 (ff (k:=1) (x1:=x6) (x2:=v1) bN rfl rfl rfl h19 rfl) ?_;refine au ?_;cases hF;exact At.en (some ⟨b2,0,none⟩) rfl (sc rfl (sc rfl (sc rfl (sc rfl (sc rfl sn))))) (ak.trans (ak.close (k:=1) rfl) (ak.aB [0,1,3] rfl rfl))
  ·refine wz ?_;cases hF;exact ae a1 [1]
 ·clear h1;obtain⟨l3,n0⟩:=r0;rintro a2;refine dY ?_;obtain rfl:=Option.some.inj hF;exact ar (a2,n0) [0]
theorem Ew (n x1 l2 x7 l8 a3 c4 a9 c10 r) (hF:M4 n x1 l2 x7 l8=some r) (m) {H:Nat→Prop} (hH:∀b,H b→b<m.next) (h5:fO m a3 c4 l2) (h6:∀b,iE a3=some b→¬H b) (h11:fO m a9 c10 l8) (h12:∀b,iE a9=some b→¬H b):
  aA aq 95 [oB x1 a3 l2 c4,oB x7 a9 l8 c10] m (fun v m'=>∃x:Option Addr × Nat × Nat,v = .agg #[.bool r.1,.slice x.1 x.2.2 x.2.1]∧Hp m m' [.rd x.1 x.2.1 1 x.2.2 (r.2.map (eN .u64)),fU H]):=by
 unfold M4 at hF;refine cw Tryd.func95 (Hp.nf (l0:=[ec a3 c4 l2]) (Hp.nf (l0:=[]) (Hp.gT m hH) rfl h5 h6) rfl h11 h12) ?_;refine wz ?_;refine wb fun b13=>?_;refine wb fun b14=>?_;refine wa z84 fun b15=>?_;refine wz ?_;refine Wk.seq<|Wk.dE (prs:=[(1,9),(3,9)]) (by kernel_rfl)<|Wn.od (im (r:=ptr b13 0) rfl (kP _ _)) rfl<|Wn.od (ai (k:=2) wW rfl rfl rfl) rfl<|Wn.od (im (r:=ptr b14 0) rfl (kP _ _)) rfl<|Wn.od (ai (k:=1) wW rfl rfl rfl) rfl<|Wn.od (aF rfl rfl (JU u4)) rfl<|Wn.od (im (r:=ptr b13 1) rfl (mE _ _)) rfl<|Wn.od (ai (k:=2) iV rfl rfl rfl) rfl<|Wn.od (im (r:=ptr b14 1) rfl (mE _ _)) rfl<|Wn.od (ai (k:=1) iV rfl rfl rfl) rfl ?_
 obtain⟨l17,h16,hF⟩:=J hF;refine nc gn (fun m hm=>HX n l2 l8 a3 c4 a9 c10 _ h16 m (hm.q 4) (hm.q 3)) ?_;rintro⟨a18,n19⟩;refine Wn.len (k:=0) (xs:=l17) rfl ?_;rintro rfl;obtain⟨⟨r21,l22⟩,h20,hF⟩:=J hF;refine Wn.nV (ak.freeze (k:=0) rfl)<|nv gn (fun m hm=>iM n (!(x1 == x7)) l17 a18 l17.length _ h20 m hm.aY (hm.q 0) (hm.no 0)) ?_;rintro⟨a23,c24,n25⟩;refine Wn.de (k:=0) rfl ?_;rintro rfl;refine Wn.o0 (bC (k:=2) bA rfl rfl rfl rfl rfl)<|Wn.nil (fun m hm=>fb.all rfl) ?_;refine au ?_;cases hF;exact At.ret (.cell (k:=2) bA rfl rfl rfl .nil) fun m' hm=>⟨(a23,c24,l22.length),rfl,(ak.aB [0,7] rfl rfl) m' hm⟩
theorem K7 (n x1 l2 a3 c4 r) (hF:O4 n x1 l2=some r) (m) {H:Nat→Prop} (hH:∀b,H b→b<m.next) (h5:fO m a3 c4 l2) (h6:∀b,iE a3=some b→¬H b):
  aA aq 81 [oB x1 a3 l2 c4] m (fun v m'=>∃x:Option Addr × Nat × Nat,v = .agg #[.bool r.1,.slice x.1 x.2.2 x.2.1]∧Hp m m' [.rd x.1 x.2.1 1 x.2.2 (r.2.map (eN .u64)),fU H]):=by
 unfold O4 at hF;refine cw Tryd.func81 (Hp.nf (l0:=[]) (Hp.gT m hH) rfl h5 h6) ?_;refine wz ?_;refine wb fun b7=>?_;refine wa z84 fun b8=>?_;refine au ?_;refine Wo.od (ai (k:=1) wW rfl rfl rfl) rfl ?_;refine wz ?_;refine Wo.od (ai (k:=1) iV rfl rfl rfl) rfl ?_;obtain⟨⟨r10,l11⟩,h9,hF⟩:=J hF;refine wv gn (fun m hm=>iM n (!x1) l2 a3 c4 _ h9 m hm.aY (hm.q 2) (hm.no 2)) ?_;rintro⟨a12,c13,n14⟩;refine Wo.de (k:=0) rfl ?_;rintro rfl;refine Wo.o0 (bC (k:=1) bA rfl rfl rfl rfl rfl) ?_;refine au ?_;cases hF;exact At.ret (.cell (k:=1) bA rfl rfl rfl .nil) fun m' hm=>⟨(a12,c13,l11.length),rfl,(ak.aB [0,4] rfl rfl) m' hm⟩
theorem A9 (n x1 l2 x7 l8 a3 c4 a9 c10 r) (hF:LM n x1 l2 x7 l8=some r) (m) {H:Nat→Prop} (hH:∀b,H b→b<m.next) (h5:fO m a3 c4 l2) (h6:∀b,iE a3=some b→¬H b) (h11:fO m a9 c10 l8) (h12:∀b,iE a9=some b→¬H b):
  aA aq 45 [oB x1 a3 l2 c4,oB x7 a9 l8 c10] m (fun v m'=>∃x:Option Addr × Nat × Nat,v = .agg #[.bool r.1,.slice x.1 x.2.2 x.2.1]∧Hp m m' [.rd x.1 x.2.1 1 x.2.2 (r.2.map (eN .u64)),fU H]):=by
 unfold LM at hF;refine cw Tryd.func45 (Hp.nf (l0:=[ec a3 c4 l2]) (Hp.nf (l0:=[]) (Hp.gT m hH) rfl h5 h6) rfl h11 h12) ?_;refine wz ?_;refine wb fun b13=>?_;refine wb fun b14=>?_;refine wa z84 fun b15=>?_;refine wz ?_;refine Wk.seq<|Wk.dE (prs:=[(0,2)]) (by kernel_rfl)<|Wn.od (ai (k:=2) bA rfl rfl rfl) rfl<|Wn.od (ai (k:=1) bA rfl rfl rfl) rfl ?_
 obtain⟨⟨r17,l18⟩,h16,hF⟩:=J hF;refine nv gn (fun m hm=>K7 n x7 l8 a9 c10 _ h16 m hm.aY (hm.q 3) (hm.no 3)) ?_;rintro⟨a19,c20,n21⟩;refine Wn.de (k:=0) rfl ?_;rintro rfl;obtain⟨⟨r23,l24⟩,h22,hF⟩:=J hF;refine nv gn (fun m hm=>mG n x1 l2 r17 l18 a3 c4 a19 c20 _ h22 m hm.aY (hm.q 5) (hm.no 5) (hm.q 0) (hm.no 0)) ?_;rintro⟨a25,c26,n27⟩;refine Wn.de (k:=0) rfl ?_;rintro rfl;refine Wn.o0 (bC (k:=2) bA rfl rfl rfl rfl rfl)<|Wn.nil (fun m hm=>fb.all rfl) ?_;refine au ?_;cases hF;exact At.ret (.cell (k:=2) bA rfl rfl rfl .nil) fun m' hm=>⟨(a25,c26,l24.length),rfl,(ak.aB [0,7] rfl rfl) m' hm⟩
theorem Co (n x1 r) (hF:Dy n x1=some r) (m):
  aA aq 114 [bg x1] m (fun v m'=>∃_:Unit,v = .int .i64 r∧Hp m m' []):=by
 unfold Dy at hF;refine cw Tryd.func114 (Hp.start m) ?_;refine au ?_;obtain⟨r3,h2,hF⟩:=J hF;refine wc gn (fun m hm=>Bf n x1  _ h2 m) ?_;rintro⟨⟩;refine au ?_;cases hF;exact ar () []
end Go.Proofs.YtookeaakpiefjaaDoor
end
