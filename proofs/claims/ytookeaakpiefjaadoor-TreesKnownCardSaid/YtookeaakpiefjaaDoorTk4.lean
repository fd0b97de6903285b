/- A part of the proof. -/
import Derived.Test.YtookeaakpiefjaaDoorTk3
section
namespace Go.Ab.W
open Go Go.Ab
attribute [local irreducible] Tm.at Trie.set Trie.get AMem.get AMem.set AMem.alloc AMem.ww AMem.kill
section
variable {E : Env} {n : Nat} {m0 m : AMem} {fs : Fs} {ps : List Pc}
theorem Hp.jw {m0 m:AMem} {l0:List Pc} {H:Nat→Prop} {a:Option Addr} {cap w l:Nat} {es:List (List Value)} (h:Hp m0 m (l0++[.gen (mB H)])) (ho:(l0.all Pc.E3)=true) (hr:Rd m a cap w l es) (ha:∀b,gm a=some b→¬H b):Hp m0 m (.rd a cap w l es::(l0++[.gen (mB H)])) :=
 ⟨h.ext,fun p hp=>by
  rcases List.mem_cons.1 hp with rfl|hp
  ·exact hr
  ·exact h.ok p hp,List.pairwise_cons.2 ⟨fun q hq=>⟨fun b a=>a.elim (fun a=>by cases a.1) fun a=>a.elim,fun b h1 h2=>by
   rcases List.mem_append.1 hq with hq|hq
   ·exact absurd h1 (Pc.yH (List.all_eq_true.1 ho q hq) b)
   ·rw[List.mem_singleton.1 hq] at h1;rcases h1 with h1|h1
    ·cases h1.1
    ·exact ha b (h2.elim id fun h=>h.elim) h1⟩,h.apart⟩⟩
def lZ (l:List Pc):Bool:=l.all Pc.bound
theorem uL {α:Type} {V:α→Value} {N:α→List Pc} {f:Operand} {g:FuncId} {ars:Array Operand} {ts:Array TypeId} {args:List Value} (hf:ev E fs f=some (.func (.func g) #[] #[])) (ha:gz E fs ars.toList=some args) (hc:∀m,Hp m0 m ps→aE E g args m (fun v m'=>∃x,v=V x∧Hp m m' (N x++[.gen (mB (tT ps))]))) (ho:∀x,lZ (N x)=true):Ox E m0 fs ps (.call ⟨.value f,ars,ts⟩) V (fun x=>N x++ps) :=
 bG hf ha fun m hm=>by
  simp only[List.nil_append,List.append_nil];exact(hc m hm).mono fun v m' ⟨x,e,h⟩=>⟨x,e,hm.CG h fun p hp=>List.all_eq_true.1 (ho x) p hp⟩
theorem yZ {α:Type} {V:α→Value} {N:α→List Pc} {f:Operand} {g:FuncId} {ars:Array Operand} {ts:Array TypeId} {args:List Value} (hf:ev E fs f=some (.func (.func g) #[] #[])) (ha:gz E fs ars.toList=some args) (hc:∀m,Hp m0 m ps→aE E g args m (fun v m'=>∃x,v=V x∧Hp m m' (N x++[.gen (mB (tT ps))]))) (ho:∀x,lZ (N x)=true):Oc E m0 fs ps (.call ⟨.value f,ars,ts⟩) V (fun x=>N x++ps) :=
 fun t m hfr hm hwl=>⟨fun b hb=>(by simp[aF] at hb),fun K hK=>by
  show js E (al E t f) (bg E t ars.toList) m _
  rw[hfr.ev hf,hfr.gz ha,qy];refine(hc m hm).mono fun v m' ⟨x,e,h⟩=>?_;rw[e];refine hK x m' (hm.CG h fun p hp=>List.all_eq_true.1 (ho x) p hp) ?_;have:=h.ext.wl;omega⟩
end
section
variable {E : Env} {n : Nat} {m0 : AMem} {fs : Fs} {ps : List Pc} {ops : Array Oper} {os : List Oper} {dr : Bool}
theorem Wo.bH {K:Tm→AMem→Prop} {α:Type} {f:α→List Value} {k w l cap:Nat} {a:Option Addr} {xs:List α} (hp:pk ps k=some (.rd a cap w l (xs.map f))) (h:l=xs.length→Wo dr E n ops K os m0 fs ps):Wo dr E n ops K os m0 fs ps:=by
 have key:∀m,Hp m0 m ps→l=xs.length:=fun m hm=>CL hm hp;cases dr with
 | false=>exact fun t m hf hm=>h (key m hm) t m hf hm
 | true=>exact fun t m w hf hm hw=>h (key m hm) t m w hf hm hw
theorem Wn.bH {prs:List (Nat × Nat)} {K:Tm→AMem→Prop} {ss:List Nk} {α:Type} {f:α→List Value} {k w l cap:Nat} {a:Option Addr} {xs:List α} (hp:pk ps k=some (.rd a cap w l (xs.map f))) (h:l=xs.length→Wn E n ops prs K os ss m0 fs ps):Wn E n ops prs K os ss m0 fs ps :=
 fun t m ns hf hm hn=>h (CL hm hp) t m ns hf hm hn
end
section
variable {E : Env} {m0 : AMem} {fs : Fs} {ps : List Pc} {ty : TypeId}
theorem Ju {α:Type} {f:α→List Value} {elem t0:TypeId} {w k c0 l l1:Nat} {a a0:Option Addr} {xs ys:List α} {ars:Array Operand} (he:Enc f w) (ht:SlT E.P ty elem w) (h2:∃e0,E.P.underlying t0=some (.slice e0)) (ha:gz E fs ars.toList=some [.slice a l l,.slice a0 l1 c0]) (hp:pk ps k=some (.sl a w l (xs.map f))) (hr:∀m,Hp m0 m ps→Rd m a0 c0 w l1 (ys.map f)) (hl:mS (xs++ys).length=true) :
  Ox E m0 fs ps (.call ⟨.builtin .append,ars,#[ty,t0]⟩) (fun a':Option Addr=>.slice a' (xs++ys).length (xs++ys).length) (fun a'=>cx ps k (.sl a' w (xs++ys).length ((xs++ys).map f))):=fun t m hf hm=>⟨fun b hb=>(by simp[aF] at hb),fun K hK=>by
 have h0:l=xs.length:=by
  have:=hm.get hp;rcases this with⟨h3,h0,_⟩|⟨b,tg,_,h0⟩
  ·rw[h3,List.map_eq_nil_iff.1 h0]; rfl
  ·have:=h0.2.2.2.1; rw[List.length_map] at this; exact this.symm
 have h4:l1=ys.length:=by
  have:=(hr m hm).1; rw[List.length_map] at this; exact this.symm
 have e0:l+l1=(xs++ys).length:=by rw[h0,h4,List.length_append]
 obtain⟨a',m',h5,h1⟩:=rj (n:=l) ht h2 hm hp (hr m hm) (he.sq ys) (he.ik ys) (by rw[e0]; exact hl)
 have:aN E.P .append #[ty,t0] [.slice a l l,.slice a0 l1 c0] m=some (.slice a' (l+l1) (l+l1),m'):=h5;rw[Go.Ab.dY (hf.gz ha) this];have e1:xs.map f++ys.map f=(xs++ys).map f:=List.map_append.symm;rw[e1,e0] at h1;rw[e0];exact hK a' m' h1⟩
end
section
theorem lR (c:Value) (cs:List Value) (o:Nat) (vs:List Value):aB (c::cs) (o+1) vs=c::aB cs o vs:=by cases vs<;>rfl
theorem eK:∀(cs:List Value) (o:Nat),aB cs o []=cs
 | [],0=>rfl
 | _::_,0=>rfl
 | [],_+1=>rfl
 | c::cs,o+1=>by rw[lR,eK cs o]
theorem nR {f:Nat→List Value} {v:Nat→Value} (hf:∀x,f x = [v x]):∀{ys xs zs:List Nat},ys++xs.drop ys.length=zs→ys.length≤xs.length→aB (xs.map f).flatten 0 (ys.map f).flatten=(zs.map f).flatten
 | [],xs,zs,h,_=>by
  rw[List.nil_append,List.length_nil,List.drop_zero] at h;rw[h];exact eK _ 0
 | y::ys,[],zs,_,hl=>by simp at hl
 | y::ys,x::xs,zs,h,hl=>by
  have ih:=nR hf (ys:=ys) (xs:=xs) (zs:=ys++xs.drop ys.length) rfl (by simpa using hl)
  subst h;simp only[List.map_cons,List.flatten_cons,hf,List.cons_append,List.nil_append,List.length_cons,List.drop_succ_cons] at ih ⊢
  show v y::aB _ 0 _=_
  rw[ih]
theorem Ky {f:Nat→List Value} {v:Nat→Value} (hf:∀x,f x = [v x]) {c:Value} {ys xs zs:List Nat} (h:ys++xs.drop ys.length=zs) (hl:ys.length≤xs.length):aB (c::(xs.map f).flatten) 1 (ys.map f).flatten=c::(zs.map f).flatten:=by
 rw[show(1:Nat)=0+1 from rfl,lR,nR hf h hl]
variable {E : Env} {m0 : AMem} {fs : Fs} {ps : List Pc} {ty : TypeId}
theorem Kn {f:Nat→List Value} {elem t0:TypeId} {k b o q c0 l1:Nat} {a0:Option Addr} {cs cs':List Value} {ys:List Nat} {ars:Array Operand} (he:Enc f 1) (ht:SlT E.P ty elem 1) (ha:gz E fs ars.toList=some [.slice (some ⟨b,o,none⟩) q q,.slice a0 l1 c0]) (hp:pk ps k=some (.obj b (.cells cs .own))) (hr:∀m,Hp m0 m ps→Rd m a0 c0 1 l1 (ys.map f)) (hq:decide (ys.length≤q)=true) (ho:Nat.ble (o+q) cs.length=true) (hs:aB cs o (ys.map f).flatten=cs') :
  Od E m0 fs ps (.call ⟨.builtin .copy,ars,#[ty,t0]⟩) (.int .i64 (ys.length:Int)) (cx ps k (.obj b (.cells cs' .own))):=fun t m hf hm=>⟨fun b hb=>(by simp[aF] at hb),fun K hK=>by
 have h0:l1=ys.length:=by
  have:=(hr m hm).1; rw[List.length_map] at this; exact this.symm
 have hq':=of_decide_eq_true hq;have ho':=Nat.le_of_ble_eq_true ho;have hc:=(hr m hm).cells;have hmin:min l1 q=l1:=by omega
 have hone:aW (ys.map f).flatten=true:=by
  unfold aW;rw[List.all_eq_true];intro x hx;obtain⟨e,h3,h4⟩:=List.mem_flatten.1 hx;exact List.all_eq_true.1 (he.ik ys e h3) x h4
 have hlen:(ys.map f).flatten.length=ys.length:=by
  clear hs hr hq hK h0 hq' hc hone
  induction ys with
  | nil=>rfl
  | cons x l ih=>rw[List.map_cons,List.flatten_cons,List.length_append,ih,he.1 x,List.length_cons]; omega
 have hg:=(hm.get hp).2.2;have hsrc:cH (aq E.P elem) (.slice a0 l1 c0) (min l1 q) m=some (ys.map f).flatten:=by rw[ht.size,hmin]; exact hc
 cases hy:ys with
 | nil =>
  subst hy;have e0:cs'=cs:=by rw[←hs]; exact eK cs o
  have h1:min l1 q=0:=by rw[hmin,h0]; rfl
  have:aN E.P .copy #[ty,t0] [.slice (some ⟨b,o,none⟩) q q,.slice a0 l1 c0] m=some (.int .i64 0,m):=by
   show qA E.P ty _ _ m=_
   unfold qA;rw[h1] at hsrc;simp only[ht.und,ht.known,Bool.not_true,Bool.false_eq_true,if_false,h1,hsrc,hone]
  rw[Go.Ab.dY (hf.gz ha) this];exact hK m (by rw[e0]; exact hm.put hp rfl rfl rfl (Nat.le_refl _) hm.ext (hm.get hp) fun _ _ _=>rfl)
 | cons y y2 =>
  have h2:min l1 q=y2.length+1:=by rw[hmin,h0,hy]; rfl
  have hst:m.cO b o (ys.map f).flatten=some (m.set b (.cells cs' .own)):=by
   have hne:(ys.map f).flatten≠[]:=fun e=>by rw[e,hy] at hlen; cases hlen
   unfold AMem.cO
   split
   ·rename_i e; exact absurd e hne
   ·rw[hg];simp only[hlen];rw[if_pos (by omega),hs]
  have:aN E.P .copy #[ty,t0] [.slice (some ⟨b,o,none⟩) q q,.slice a0 l1 c0] m=some (.int .i64 (ys.length:Int),m.set b (.cells cs' .own)):=by
   show qA E.P ty _ _ m=_
   unfold qA;rw[h2] at hsrc;simp only[ht.und,ht.known,Bool.not_true,Bool.false_eq_true,if_false,h2,hsrc,hone,hst,Option.map_some];rw[hy]; rfl
  rw[Go.Ab.dY (hf.gz ha) this];have hw:Hp m0 (m.set b (.cells cs' .own)) (cx ps k (.obj b (.cells cs' .own))):=hm.write (o':=.cells cs' .own) (p':=.obj b (.cells cs' .own)) hp rfl rfl rfl rfl ⟨(hm.get hp).1,by rw[AMem.next_set]; exact(hm.get hp).2.1,by rw[AMem.bw,if_pos rfl]⟩
  exact hK _ hw⟩
end
end Go.Ab.W
end

section
namespace Go.Ab.W
open Go Go.Ab
section
variable {α : Type}
def Cq (m:AMem) (R:Nat→Prop) (w:Nat) (f:α→List Value) (cs:List Value) (L:List (List α)):Prop :=
 cs.length=L.length∧∀(i:Nat) (l:List α),L[i]? = some l→∃a c,cs[i]? = some (.slice a l.length c)∧Rd m a c w l.length (l.map f)∧∀b,gm a=some b→R b
theorem Cq.dU {m m':AMem} {R:Nat→Prop} {w:Nat} {f:α→List Value} {cs:List Value} {L:List (List α)} (h:Cq m R w f cs L) (hn:m.next≤m'.next) (hg:∀b,R b→b<m.next→m'.get b=m.get b):Cq m' R w f cs L :=
 ⟨h.1,fun i l hi=>by
  obtain⟨a,c,h1,h2,h3⟩:=h.2 i l hi;exact⟨a,c,h1,h2.dU hn fun b hb hlt=>hg b (h3 b hb) hlt,h3⟩⟩
end
section
variable {α : Type} {E : Env} {m0 m : AMem} {fs : Fs} {ps : List Pc} {f : α → List Value} {w : Nat}
variable {x : Operand} {ty : TypeId}
theorem zB {k n cap:Nat} {a:Option Addr} {ars:Array Operand} {p:Pc} {elem:TypeId} (hu:E.P.underlying ty=some (.slice elem)) (ha:gz E fs ars.toList=some [.slice a n cap]) (hp:pk ps k=some p) (hb:∀b,gm a=some b→p.any b) :
  Od E m0 fs ps (.call ⟨.builtin .len,ars,#[ty]⟩) (.int .i64 (n:Int)) ps :=
 fun t m hf h=>⟨fun b hb'=>by
  simp only[aF,hf.gz ha] at hb';have hab:dW (.slice a n cap)=gm a:=by cases a<;>rfl
  rw[hab] at hb';exact Pc.iq (h.get hp) (hb b hb'),fun K hK=>by
  have:aN E.P .len #[ty] [.slice a n cap] m=some (.int .i64 (n:Int),m):=by
   have ht:(#[ty]:Array TypeId)[0]? = some ty:=rfl;simp only[aN,ht,Option.bind_some,hu]
  rw[Go.Ab.dY (hf.gz ha) this]; exact hK m h⟩
variable {N : Nat} {ops : Array Oper} {os : List Oper} {dr : Bool}
end
end Go.Ab.W
end

section
namespace Go.Ab.W
open Go Go.Ab
attribute [local irreducible] Tm.at Trie.set Trie.get AMem.get AMem.set AMem.alloc AMem.ww AMem.kill
section
variable {α : Type} {E : Env} {m0 m : AMem} {fs : Fs} {ps : List Pc} {f : α → List Value} {w : Nat} {ty : TypeId}
theorem Cq.one {R:Nat→Prop} {cs:List Value} {L:List (List α)} (h:Cq m R w f cs L):ik (cs.map fun c=>[c]):=fun e he=>by
 obtain⟨c,hc,rfl⟩:=List.mem_map.1 he;obtain⟨i,hi,rfl⟩:=List.mem_iff_getElem.1 hc;obtain⟨a,cap,h1,_⟩:=h.2 i (L[i]'(by rw[←h.1]; exact hi)) (by simp)
 rw[List.getElem?_eq_getElem hi] at h1;rw[Option.some.inj h1]; rfl
end
section
variable {α : Type} {E : Env} {n : Nat} {m0 m : AMem} {fs : Fs} {ps : List Pc} {f : α → List Value} {w : Nat} {ops : Array Oper} {os : List Oper} {prs : List (Nat × Nat)} {K : Tm → AMem → Prop} {ss : List Nk}
end
def zd (m:AMem) (RW:Nat→Prop) (rb:Nat) (row:List (Bool × List Nat)):Prop :=
 rb<m.next∧∃vs,m.get rb=some (.cells vs .own)∧vs.length=row.length*2∧∀(j:Nat) (x:Bool × List Nat),row[j]? = some x→vs[j*2]? = some (.bool x.1)∧∃a c,vs[j*2+1]? = some (.slice a x.2.length c)∧Rd m a c 1 x.2.length (x.2.map (eN .u64))∧∀b,gm a=some b→RW b
theorem zd.dU {m m':AMem} {RW RW':Nat→Prop} {rb:Nat} {row:List (Bool × List Nat)} (h:zd m RW rb row) (hn:m.next≤m'.next) (hg:∀b,(b=rb∨RW b)→b<m.next→m'.get b=m.get b) (hs:∀b,RW b→RW' b):zd m' RW' rb row:=by
 obtain⟨h1,vs,h2,h3,h4⟩:=h;refine⟨Nat.lt_of_lt_of_le h1 hn,vs,by rw[hg rb (.inl rfl) h1]; exact h2,h3,fun j x hx=>?_⟩
 obtain⟨g1,a,c,g2,g3,g4⟩:=h4 j x hx;exact⟨g1,a,c,g2,g3.dU hn fun b hb hlt=>hg b (.inr (g4 b hb)) hlt,fun b hb=>hs b (g4 b hb)⟩
def sA (ρ:Nat→Nat) (L:List (List (Bool × List Nat))) (x:Nat):Prop:=∃i row,L[i]? = some row∧row≠[]∧x=ρ i
structure MatAt (m:AMem) (b n:Nat) (ρ:Nat→Nat) (RW:Nat→Prop) (L:List (List (Bool × List Nat))):Prop where
 lt:b<m.next
 len:n=L.length
 cells:∃cs,m.get b=some (.cells cs .own)∧cs.length=n∧∀(i:Nat) (row:List (Bool × List Nat)),L[i]? = some row→(row = []∧cs[i]? = some (.slice none 0 0))∨(row≠[]∧cs[i]? = some (.slice (some ⟨ρ i,0,none⟩) row.length row.length))
 rows:∀(i:Nat) (row:List (Bool × List Nat)),L[i]? = some row→row≠[]→zd m RW (ρ i) row
 rw:∀x,RW x→x<m.next∧x≠b∧¬sA ρ L x
 out:∀(i:Nat) (row:List (Bool × List Nat)),L[i]? = some row→row≠[]→ρ i≠b
 inj:∀(i j:Nat) (row row':List (Bool × List Nat)),L[i]? = some row→L[j]? = some row'→row≠[]→row'≠[]→ρ i=ρ j→i=j
def lV (b n:Nat) (ρ:Nat→Nat) (RW:Nat→Prop) (L:List (List (Bool × List Nat))):GPc where
 ow x:=x=b∨sA ρ L x
 rd x:=RW x
 P m:=MatAt m b n ρ RW L
 st m m' h hn hg:=by
  refine⟨Nat.lt_of_lt_of_le h.lt hn,h.len,?_,fun i row hi hne=>(h.rows i row hi hne).dU hn (fun x hx hlt=>?_) fun _ h=>h,fun x hx=>⟨Nat.lt_of_lt_of_le (h.rw x hx).1 hn,(h.rw x hx).2⟩,h.out,h.inj⟩
  ·obtain⟨cs,h1,h2⟩:=h.cells;exact⟨cs,by rw[hg b (.inl (.inl rfl)) h.lt]; exact h1,h2⟩
  ·rcases hx with rfl|hx
   ·exact hg _ (.inl (.inr ⟨i,row,hi,hne,rfl⟩)) hlt
   ·exact hg _ (.inr hx) hlt
 lt m x h hx:=by
  rcases hx with(rfl|⟨i,row,h1,h2,rfl⟩) | hx
  ·exact h.lt
  ·exact(h.rows i row h1 h2).1
  ·exact(h.rw x hx).1
theorem oP {b n:Nat} {ρ:Nat→Nat} {RW:Nat→Prop} {L:List (List (Bool × List Nat))}:∀x,gm (some ⟨b,0,none⟩)=some x→Pc.any (.gen (lV b n ρ RW L)) x:=fun x h=>by cases h; exact .inr (.inl (.inl rfl))
section
variable {E : Env} {m0 m : AMem} {fs : Fs} {ps : List Pc} {x y : Operand} {ty : TypeId} {b n : Nat} {ρ : Nat → Nat} {RW : Nat → Prop} {L : List (List (Bool × List Nat))}
theorem nh (v:Value):∀n:Nat,(List.replicate n [v]).flatten=List.replicate n v
 | 0=>rfl
 | n+1=>by rw[List.replicate_succ,List.flatten_cons,nh v n,List.replicate_succ]; rfl
theorem an.JW:an m0 (.arr b 1 n (List.replicate n [.slice none 0 0]) .own::ps) (.gen (lV b n (fun _=>0) (fun _=>False) (List.replicate n []))::ps):=fun m h=>by
 have h0:wF m0.next m b 1 n (List.replicate n [.slice none 0 0]) .own:=h.ok _ (List.mem_cons_self ..)
 have hno:∀x,¬sA (fun _=>0) (List.replicate n []) x:=fun x ⟨i,row,h1,h2,_⟩=>h2 (List.eq_of_mem_replicate (List.mem_of_getElem? h1));have ha:=List.pairwise_cons.1 h.apart;refine⟨h.ext,fun p hp=>?_,List.pairwise_cons.2 ⟨fun r hr=>⟨fun z h1 h2=>?_,fun z h1 h2=>?_⟩,ha.2⟩⟩
 ·rcases List.mem_cons.1 hp with rfl|hp
  ·refine⟨⟨h0.2.1,by simp,⟨_,h0.2.2.1,by rw[nh]; simp,fun i row hi=>.inl ⟨List.eq_of_mem_replicate (List.mem_of_getElem? hi),?_⟩⟩,fun i row hi hne=>absurd (List.eq_of_mem_replicate (List.mem_of_getElem? hi)) hne,fun x hx=>hx.elim,fun i row hi hne=>absurd (List.eq_of_mem_replicate (List.mem_of_getElem? hi)) hne,fun i j row row' hi _ hne=>absurd (List.eq_of_mem_replicate (List.mem_of_getElem? hi)) hne⟩,fun _ z hz=>?_⟩
   ·have hlt:=(List.getElem?_eq_some_iff.1 hi).1;rw[nh,List.getElem?_replicate,if_pos (by simpa using hlt)]
   ·rcases hz with rfl|hz
    ·exact h0.1
    ·exact absurd hz (hno z)
  ·exact h.ok p (List.mem_cons_of_mem _ hp)
 ·rcases h1 with h1|h1
  ·cases h1.1
  ·rcases h1 with rfl|h1
   ·exact(ha.1 r hr).1 _ (.inl ⟨rfl,rfl⟩) h2
   ·exact absurd h1 (hno z)
 ·rcases h2 with h2|h2
  ·cases h2
  ·rcases h2 with(rfl|h2) | h2
   ·exact(ha.1 r hr).2 _ h1 (.inl rfl)
   ·exact absurd h2 (hno z)
   ·exact h2.elim
theorem yz (l:Nat):∀j,j<l→(List.replicate l [Value.bool false,.slice none 0 0]).flatten[j*2]? = some (.bool false)∧(List.replicate l [Value.bool false,.slice none 0 0]).flatten[j*2+1]? = some (.slice none 0 0):=by
 induction l with
 | zero=>intro j h; cases h
 | succ l ih =>
  intro j hj;rw[List.replicate_succ,List.flatten_cons];cases j with
  | zero=>exact⟨rfl,rfl⟩
  | succ j =>
   have:=ih j (by omega)
   refine⟨?_,?_⟩
   ·rw[show(j+1)*2=j*2+2 by omega]; exact this.1
   ·rw[show(j+1)*2+1=(j*2+1)+2 by omega]; exact this.2
theorem Bo (l:Nat):(List.replicate l [Value.bool false,.slice none 0 0]).flatten.length=l*2:=by
 induction l with
 | zero=>rfl
 | succ l ih=>rw[List.replicate_succ,List.flatten_cons,List.length_append,ih]; simp only[List.length_cons,List.length_nil]; omega
theorem at_set {α:Type} {l:List α} {i j:Nat} {v x:α} (h:(l.set i v)[j]? = some x):(i=j∧x=v∧j<l.length)∨(i≠j∧l[j]? = some x):=by
 rw[List.getElem?_set] at h
 by_cases e:i=j
 ·rw[if_pos e] at h
  split at h
  ·exact .inl ⟨e,(Option.some.inj h).symm,by omega⟩
  ·cases h
 ·rw[if_neg e] at h; exact .inr ⟨e,h⟩
theorem FU {k l i off rb:Nat} {r0:List (Bool × List Nat)} (ht:TyI E.P ty false 1) (hx:ev E fs x=some (ptr b off)) (ho:off=i) (hy:ev E fs y=some (.slice (some ⟨rb,0,none⟩) l l)) (hp:pk ps k=some (.gen (lV b n ρ RW L))) (he:L[i]? = some r0) (hl:0<l) :
  Od E m0 fs (.arr rb 2 l (List.replicate l [.bool false,.slice none 0 0]) .own::ps) (.store ty x y) undef (cx ps k (.gen (lV b n (fun j=>if j=i then rb else ρ j) RW (L.set i (List.replicate l (false,[])))))):=fun t m hf h=>⟨fun b' hb'=>(by simp[aF] at hb'),fun K hK=>by
 subst ho;have hk:=h.get (k:=k+1) hp;have hP:MatAt m b n ρ RW L:=hk.1;have h0:wF m0.next m rb 2 l (List.replicate l [.bool false,.slice none 0 0]) .own:=h.ok _ (List.mem_cons_self ..)
 have ha:=(List.pairwise_cons.1 h.apart).1;have hak:=ha _ (iU hp);have hi:off<L.length:=(List.getElem?_eq_some_iff.1 he).1;obtain⟨cs,c1,c0,c2⟩:=hP.cells;have hst:dj E.P ty (ptr b off) (.slice (some ⟨rb,0,none⟩) l l) m=some (m.set b (.cells (cs.set off (.slice (some ⟨rb,0,none⟩) l l)) .own)):=DA ht.known ht.size rfl c1 (by rw[c0,hP.len]; exact hi)
 have e:=Go.Ab.s9 (t:=t) (E:=E) (hf.ev hx) (hf.ev hy) hst K;rw[e];have hrbb:rb≠b:=fun e=>hak.1 rb (.inl ⟨rfl,rfl⟩) (.inr (.inl (.inl e)));have hrbm:¬sA ρ L rb:=fun g=>hak.1 rb (.inl ⟨rfl,rfl⟩) (.inr (.inl (.inr g)));have hrbw:¬RW rb:=fun g=>hak.1 rb (.inl ⟨rfl,rfl⟩) (.inr (.inr g));have hget:∀z,z≠b→(m.set b (.cells (cs.set off (.slice (some ⟨rb,0,none⟩) l l)) .own)).get z=m.get z:=fun z hz=>by rw[AMem.bw,if_neg hz]
 have hnext:(m.set b (.cells (cs.set off (.slice (some ⟨rb,0,none⟩) l l)) .own)).next=m.next:=AMem.next_set ..
 have hne:(List.replicate l ((false,[]):Bool × List Nat))≠[]:=by
  intro e;have:=congrArg List.length e;simp at this; omega
 have hmr:∀z,sA (fun j=>if j=off then rb else ρ j) (L.set off (List.replicate l (false,[]))) z→z=rb∨sA ρ L z:=fun z ⟨j,row,g1,g0,g3⟩=>by
  rcases at_set g1 with⟨e0,_,_⟩|⟨e0,g2⟩
  ·simp only[if_pos e0.symm] at g3; exact .inl g3
  ·simp only[if_neg (fun e:j=off=>e0 e.symm)] at g3; exact .inr ⟨j,row,g2,g0,g3⟩
 refine hK _ ⟨h.ext.set (Pc.lS hk rfl (.inr (.inl rfl))) _,fun p hpm=>?_,e7 hp (fun r hr hap=>⟨fun z g1 g0=>?_,fun z g1 g0=>?_⟩) (List.pairwise_cons.1 h.apart).2⟩
 ·rcases mb hp (List.pairwise_cons.1 h.apart).2 hpm with rfl|⟨hpm,hap⟩
  ·refine⟨⟨by rw[hnext]; exact hP.lt,by rw[List.length_set]; exact hP.len,⟨_,by rw[AMem.bw,if_pos rfl],by rw[List.length_set]; exact c0,fun j row hj=>?_⟩,fun j row hj hne'=>?_,fun z hz=>⟨by rw[hnext]; exact(hP.rw z hz).1,(hP.rw z hz).2.1,fun g=>?_⟩,fun j row hj hne'=>?_,fun j j' row row' hj hj' h1 h2 heq=>?_⟩,fun _ z hz=>?_⟩
   ·rcases at_set hj with⟨e0,rfl,_⟩|⟨e0,g2⟩
    ·subst e0;refine .inr ⟨hne,?_⟩;rw[List.getElem?_set_self (by rw[c0,hP.len]; exact hi)]
     simp
    ·rw[List.getElem?_set_ne e0];simp only[if_neg (fun e:j=off=>e0 e.symm)];exact c2 j row g2
   ·rcases at_set hj with⟨e0,rfl,_⟩|⟨e0,g2⟩
    ·subst e0;simp only[if_true];refine⟨by rw[hnext]; exact h0.2.1,_,by rw[hget rb hrbb]; exact h0.2.2.1,by rw[Bo]; simp,fun j x hx=>?_⟩
     have hjl:j<l:=by have:=(List.getElem?_eq_some_iff.1 hx).1; simpa using this
     have hx':x=(false,[]):=List.eq_of_mem_replicate (List.mem_of_getElem? hx);subst hx';exact⟨(yz l j hjl).1,none,0,(yz l j hjl).2,Rd.nil _ _,fun _ h=>by cases h⟩
    ·simp only[if_neg (fun e:j=off=>e0 e.symm)];exact(hP.rows j row g2 hne').dU (by rw[hnext]; exact Nat.le_refl _) (fun z hz _=>hget z (fun e=>by
      rcases hz with hz|hz
      ·exact hP.out j row g2 hne' (by rw[←hz]; exact e)
      ·exact(hP.rw z hz).2.1 e)) fun _ h=>h
   ·rcases hmr z g with rfl|g
    ·exact hrbw hz
    ·exact(hP.rw z hz).2.2 g
   ·rcases at_set hj with⟨e0,_,_⟩|⟨e0,g2⟩
    ·simp only[if_pos e0.symm]; exact hrbb
    ·simp only[if_neg (fun e:j=off=>e0 e.symm)]; exact hP.out j row g2 hne'
   ·rcases at_set hj with⟨e0,_,_⟩|⟨e0,g2⟩<;>rcases at_set hj' with⟨e1,_,_⟩|⟨e1,g4⟩
    ·exact e0.symm.trans e1
    ·simp only[if_pos e0.symm,if_neg (fun e:j'=off=>e1 e.symm)] at heq;exact absurd ⟨j',row',g4,h2,heq⟩ hrbm
    ·simp only[if_neg (fun e:j=off=>e0 e.symm),if_pos e1.symm] at heq;exact absurd ⟨j,row,g2,h1,heq.symm⟩ hrbm
    ·simp only[if_neg (fun e:j=off=>e0 e.symm),if_neg (fun e:j'=off=>e1 e.symm)] at heq;exact hP.inj j j' row row' g2 g4 h1 h2 heq
   ·rcases hz with rfl|hz
    ·exact Pc.lS hk rfl (.inr (.inl rfl))
    ·rcases hmr z hz with rfl|hz
     ·exact h0.1
     ·exact Pc.lS hk rfl (.inr (.inr hz))
  ·exact Pc.fb (h.ok p (List.mem_cons_of_mem _ hpm)) (by rw[hnext]; exact Nat.le_refl _) fun z hz _=>hget z fun e=>hap.2 z (.inr (.inl e)) hz
 ·rcases g1 with g1|g1
  ·cases g1.1
  ·rcases g1 with rfl|g1
   ·exact hap.1 _ (.inr (.inl rfl)) g0
   ·rcases hmr z g1 with rfl|g1
    ·exact(ha r hr).1 _ (.inl ⟨rfl,rfl⟩) g0
    ·exact hap.1 _ (.inr (.inr g1)) g0
 ·rcases g0 with g0|g0
  ·cases g0
  ·rcases g0 with(rfl|g0) | g0
   ·exact hap.2 _ g1 (.inr (.inl (.inl rfl)))
   ·rcases hmr z g0 with rfl|g0
    ·exact(ha r hr).2 _ g1 (.inl rfl)
    ·exact hap.2 _ g1 (.inr (.inl (.inr g0)))
   ·exact hap.2 _ g1 (.inr (.inr g0))⟩
theorem dz {k i off:Nat} {row:List (Bool × List Nat)} (ht:TyI E.P ty false 1) (hx:ev E fs x=some (ptr b off)) (ho:off=i) (hp:pk ps k=some (.gen (lV b n ρ RW L))) (he:L[i]? = some row) (hl:0<row.length) :
  Ox E m0 fs ps (.load ty x) (fun r:{ rb:Nat // ρ i=rb}=>.slice (some ⟨r.1,0,none⟩) row.length row.length) (fun _=>ps):=fun t m hf h=>by
 subst ho;have hP:MatAt m b n ρ RW L:=(h.get hp).1;obtain⟨cs,c1,c2,c3⟩:=hP.cells;have hne:row≠[]:=fun e=>by rw[e] at hl; cases hl
 have hc:cs[off]? = some (.slice (some ⟨ρ off,0,none⟩) row.length row.length):=((c3 off row he).resolve_left fun g=>hne g.1).2;refine⟨fun b' hb'=>?_,fun K hK=>?_⟩
 ·have hx':al E t x=some (ptr b off):=hf.ev hx;simp only[aF,hx',Option.bind_some] at hb';cases hb'; exact hP.lt
 ·rw[Go.Ab.td (hf.ev hx) (ua ht.known ht.agg c1 hc)];exact hK ⟨ρ off,rfl⟩ m h
theorem iw {k i j off rb:Nat} {row:List (Bool × List Nat)} {e:Bool} {w:List Nat} (ht:TyI E.P ty true 2) (hx:ev E fs x=some (ptr rb off)) (ho:off=j*2+0) (hp:pk ps k=some (.gen (lV b n ρ RW L))) (he:L[i]? = some row) (hrb:ρ i=rb) (hj:row[j]? = some (e,w)) :
  Ox E m0 fs ps (.load ty x) (fun r:Option Addr × Nat=>.agg #[.bool e,.slice r.1 w.length r.2]) (fun r=>.rd r.1 r.2 1 w.length (w.map (eN .u64))::ps):=fun t m hf h=>by
 subst ho hrb;have hk:=h.get hp;have hP:MatAt m b n ρ RW L:=hk.1;have hne:row≠[]:=fun e=>by rw[e] at hj; simp at hj
 obtain⟨h1,vs,h2,h3,h4⟩:=hP.rows i row he hne;obtain⟨g1,a,c,g2,g3,g4⟩:=h4 j (e,w) hj;refine⟨fun b' hb'=>?_,fun K hK=>?_⟩
 ·have hx':al E t x=some (ptr (ρ i) (j*2+0)):=hf.ev hx;simp only[aF,hx',Option.bind_some] at hb';cases hb'; exact h1
 ·have htk:(vs.drop (j*2+0)).take 2 = [.bool e,.slice a w.length c]:=by
   refine List.ext_getElem? fun i=>?_;rw[List.getElem?_take];rcases i with _|_|i
   ·rw[if_pos (by decide),List.getElem?_drop]; exact g1
   ·rw[if_pos (by decide),List.getElem?_drop]; exact g2
   ·rw[if_neg (by omega)]; rfl
  have hld:cM E.P ty (ptr (ρ i) (j*2+0)) m=some (.agg #[.bool e,.slice a w.length c]):=yq ht.known ht.agg ht.size h2 htk rfl;rw[Go.Ab.td (hf.ev hx) hld];refine hK (a,c) m ⟨h.ext,fun p hpm=>?_,List.pairwise_cons.2 ⟨fun r hr=>⟨fun z a1 _=>?_,fun z a1 a2=>?_⟩,h.apart⟩⟩
  ·rcases List.mem_cons.1 hpm with rfl|hpm
   ·exact g3
   ·exact h.ok p hpm
  ·exact a1.elim (fun a1=>by cases a1.1) fun a1=>a1.elim
  ·have hz:RW z:=g4 z (a2.elim id fun a2=>a2.elim);obtain⟨k',hk'⟩:=nB hr
   by_cases hkk:k=k'
   ·subst hkk;rw[hp] at hk';cases hk';rcases a1 with a1|a1
    ·cases a1.1
    ·exact a1.elim (hP.rw z hz).2.1 (hP.rw z hz).2.2
   ·exact(gq h.apart hp hk' hkk).2 z a1 (.inr (.inr hz))
theorem qw {k k2 i j off rb c:Nat} {row:List (Bool × List Nat)} {e:Bool} {a:Option Addr} {w:List Nat} {p1:Pc} (ht:TyI E.P ty true 2) (hx:ev E fs x=some (ptr rb off)) (ho:off=j*2+0) (hy:ev E fs y=some (.agg #[.bool e,.slice a w.length c])) (hp:pk ps k=some (.gen (lV b n ρ RW L))) (he:L[i]? = some row) (hrb:ρ i=rb) (hj:Nat.blt j row.length=true) (hw:(pk ps k2=some p1∧p1 = .rd a c 1 w.length (w.map (eN .u64)))∨(a=none∧w = [])) :
  Od E m0 fs ps (.store ty x y) undef (cx ps k (.gen (lV b n ρ (fun z=>RW z∨gm a=some z) (L.set i (row.set j (e,w)))))):=fun t m hf h=>⟨fun b' hb'=>(by simp[aF] at hb'),fun K hK=>by
 subst ho hrb;have hj:j<row.length:=by rwa[Nat.blt_eq] at hj
 have hk:=h.get hp;have hP:MatAt m b n ρ RW L:=hk.1;have hne:row≠[]:=fun e=>by rw[e] at hj; cases hj
 have hrd:∃c',Rd m a c' 1 w.length (w.map (eN .u64))∧(a≠none→c'=c):=by
  rcases hw with⟨hw,rfl⟩|⟨rfl,rfl⟩
  ·exact⟨c,h.get hw,fun _=>rfl⟩
  ·exact⟨0,Rd.nil _ _,fun g=>absurd rfl g⟩
 have haw:∀z,gm a=some z→z<m.next∧¬Pc.ow (.gen (lV b n ρ RW L)) z∧∀r ∈ ps,¬r.ow z:=by
  rcases hw with⟨hw,rfl⟩|⟨rfl,_⟩
  ·intro z hz;have hno:∀r ∈ ps,¬r.ow z:=fun r hr g=>by
    obtain⟨k',hk'⟩:=nB hr
    by_cases hkk:k2=k'
    ·subst hkk; rw[hw] at hk'; cases hk';exact g.elim (fun g=>by cases g.1) fun g=>g.elim
    ·exact(gq h.apart hw hk' hkk).2 z g (.inl hz)
   exact⟨Rd.lt (h.get hw) hz,hno _ (iU hp),hno⟩
  ·intro z hz; cases hz
 obtain⟨h0,vs,h1,h2,h3⟩:=hP.rows i row he hne;have hcs:(Value.agg #[.bool e,.slice a w.length c]).cells=#[.bool e,.slice a w.length c]:=rfl;have hst:dj E.P ty (ptr (ρ i) (j*2+0)) (.agg #[.bool e,.slice a w.length c]) m=some (m.set (ρ i) (.cells (aB vs (j*2+0) [.bool e,.slice a w.length c]) .own)):=uQ ht.known (by rw[ht.size]; rfl) rfl (by rw[hcs]; simp) h1 (by rw[hcs]; simp only[List.length_cons,List.length_nil]; omega)
 have e2:=Go.Ab.s9 (t:=t) (E:=E) (hf.ev hx) (hf.ev hy) hst K;rw[e2];have hnext:(m.set (ρ i) (.cells (aB vs (j*2+0) [.bool e,.slice a w.length c]) .own)).next=m.next:=AMem.next_set ..
 have hget:∀z,z≠ρ i→(m.set (ρ i) (.cells (aB vs (j*2+0) [.bool e,.slice a w.length c]) .own)).get z=m.get z:=fun z hz=>by rw[AMem.bw,if_neg hz]
 have hself:sA ρ L (ρ i):=⟨i,row,he,hne,rfl⟩;have hmr:∀z,sA ρ (L.set i (row.set j (e,w))) z↔sA ρ L z:=fun z=>by
  constructor
  ·rintro⟨q,r,q2,q3,q1⟩;rcases at_set q2 with⟨e0,_,_⟩|⟨e0,q0⟩
   ·subst e0; rw[q1]; exact hself
   ·exact⟨q,r,q0,q3,q1⟩
  ·rintro⟨q,r,q2,q3,q1⟩
   by_cases e0:i=q
   ·subst e0;refine⟨i,row.set j (e,w),by rw[List.getElem?_set_self (List.getElem?_eq_some_iff.1 he).1],fun g=>?_,q1⟩
    have:=congrArg List.length g;rw[List.length_set] at this;simp at this;exact hne this
   ·exact⟨q,r,by rw[List.getElem?_set_ne e0]; exact q2,q3,q1⟩
 have h4:row.set j (e,w)≠[]:=fun g=>by
  have:=congrArg List.length g;rw[List.length_set] at this;simp at this;exact hne this
 have hap:∀z,gm a=some z→z≠ρ i:=fun z hz g=>(haw z hz).2.1 (.inr (.inr (g ▸ hself)));refine hK _ ⟨h.ext.set (Pc.lS hk rfl (.inr (.inr hself))) _,fun p hpm=>?_,e7 hp (fun r hr hapr=>⟨fun z g1 g0=>?_,fun z g1 g0=>?_⟩) h.apart⟩
 ·rcases mb hp h.apart hpm with rfl|⟨hpm,h5⟩
  ·refine⟨⟨by rw[hnext]; exact hP.lt,by rw[List.length_set]; exact hP.len,?_,fun q r hq hr=>?_,fun z hz=>?_,fun q r hq hr=>?_,fun q q' r r' hq hq' hr hr' heq=>?_⟩,fun _ z hz=>?_⟩
   ·obtain⟨cs,c1,c2,c0⟩:=hP.cells;refine⟨cs,by rw[hget b fun g=>hP.out i row he hne g.symm]; exact c1,c2,fun q r hq=>?_⟩
    rcases at_set hq with⟨e0,rfl,_⟩|⟨e0,q0⟩
    ·subst e0;exact .inr ⟨h4,by rw[List.length_set]; exact((c0 i row he).resolve_left fun g=>hne g.1).2⟩
    ·exact c0 q r q0
   ·rcases at_set hq with⟨e0,rfl,_⟩|⟨e0,q0⟩
    ·subst e0;refine⟨by rw[hnext]; exact h0,_,by rw[AMem.bw,if_pos rfl],by rw[bX,h2,List.length_set],fun q v hv=>?_⟩
     rcases at_set hv with⟨e1,rfl,q4⟩|⟨e1,q4⟩
     ·subst e1;obtain⟨c',r1,r2⟩:=hrd;refine⟨by rw[bq,if_pos ⟨by omega,by simp only[List.length_cons,List.length_nil]; omega,by omega⟩]; simp,a,c,by rw[bq,if_pos ⟨by omega,by simp only[List.length_cons,List.length_nil]; omega,by omega⟩]; simp,?_,fun z hz=>.inr hz⟩
      have r0:Rd (m.set (ρ i) (.cells (aB vs (j*2+0) [.bool e,.slice a w.length c]) .own)) a c' 1 w.length (w.map (eN .u64)):=r1.dU (by rw[hnext]; exact Nat.le_refl _) fun z hz _=>hget z (hap z hz)
      cases a with
      | none =>
       have r3:w.length=0:=by
        rcases r0.2.2 with⟨_,g⟩|⟨_,_,g,_⟩|⟨_,_,g,_⟩
        ·exact g
        ·cases g
        ·cases g
       exact⟨r0.1,by show w.length≤c; omega,.inl ⟨rfl,r3⟩⟩
      | some ad=>rw[r2 (by simp)] at r0; exact r0
     ·obtain⟨s0,a',c',s1,s3,s2⟩:=h3 q v q4;refine⟨by rw[bq,if_neg (by simp only[List.length_cons,List.length_nil]; omega)]; exact s0,a',c',by rw[bq,if_neg (by simp only[List.length_cons,List.length_nil]; omega)]; exact s1,s3.dU (by rw[hnext]; exact Nat.le_refl _) (fun z hz _=>hget z fun g=>(hP.rw z (s2 z hz)).2.2 (g ▸ hself)),fun z hz=>.inl (s2 z hz)⟩
    ·refine(hP.rows q r q0 hr).dU (by rw[hnext]; exact Nat.le_refl _) (fun z hz _=>hget z fun g=>?_) fun z hz=>.inl hz
     rcases hz with rfl|hz
     ·exact e0 (hP.inj q i r row q0 he hr hne g).symm
     ·exact(hP.rw z hz).2.2 (g ▸ hself)
   ·rcases hz with hz|hz
    ·exact⟨by rw[hnext]; exact(hP.rw z hz).1,(hP.rw z hz).2.1,fun g=>(hP.rw z hz).2.2 ((hmr z).1 g)⟩
    ·exact⟨by rw[hnext]; exact(haw z hz).1,fun g=>(haw z hz).2.1 (.inr (.inl g)),fun g=>(haw z hz).2.1 (.inr (.inr ((hmr z).1 g)))⟩
   ·rcases at_set hq with⟨e0,_,_⟩|⟨e0,q0⟩
    ·subst e0; exact hP.out i row he hne
    ·exact hP.out q r q0 hr
   ·have fix:∀q r,(L.set i (row.set j (e,w)))[q]? = some r→r≠[]→∃r',L[q]? = some r'∧r'≠[]:=fun q r hq hr=>by
     rcases at_set hq with⟨e0,_,_⟩|⟨e0,q0⟩
     ·subst e0; exact⟨row,he,hne⟩
     ·exact⟨r,q0,hr⟩
    obtain⟨s,s0,s1⟩:=fix q r hq hr;obtain⟨s',s1',s2'⟩:=fix q' r' hq' hr';exact hP.inj q q' s s' s0 s1' s1 s2' heq
   ·rcases hz with rfl|hz
    ·exact Pc.lS hk rfl (.inr (.inl rfl))
    ·exact Pc.lS hk rfl (.inr (.inr ((hmr z).1 hz)))
  ·exact Pc.fb (h.ok p hpm) (by rw[hnext]; exact Nat.le_refl _) fun z hz _=>hget z fun g=>h5.2 z (.inr (.inr (g ▸ hself))) hz
 ·rcases g1 with g1|g1
  ·cases g1.1
  ·rcases g1 with rfl|g1
   ·exact hapr.1 _ (.inr (.inl rfl)) g0
   ·exact hapr.1 _ (.inr (.inr ((hmr z).1 g1))) g0
 ·rcases g0 with g0|g0
  ·cases g0
  ·rcases g0 with(rfl|g0) | (g0|g0)
   ·exact hapr.2 _ g1 (.inr (.inl (.inl rfl)))
   ·exact hapr.2 _ g1 (.inr (.inl (.inr ((hmr z).1 g0))))
   ·exact hapr.2 _ g1 (.inr (.inr g0))
   ·exact(haw z g0).2.2 r hr g1⟩
end
abbrev kI:Int→Value:=fun n=>.int .i64 n
abbrev vB:Bool→Value:=fun b=>.bool b
def wG (m:AMem) (H:Nat→Prop) (bo:Option Nat) (xs:List (Int × Bool)):Prop:=(bo=none∧xs = [])∨∃b,bo=some b∧H b∧m.get b=some (.map (xs.map (eM kI vB)))
theorem wG.nil {m:AMem} {H:Nat→Prop}:wG m H none []:=.inl ⟨rfl,rfl⟩
def Kf (H:Nat→Prop) (M:List (Option Nat × List (Int × Bool))):GPc where
 ow:=H
 rd:=fun _=>False
 P m:=(∀b,H b→b<m.next)∧∀p ∈ M,wG m H p.1 p.2
 fr:=true
 st m m' h hn hg:=⟨fun b hb=>Nat.lt_of_lt_of_le (h.1 b hb) hn,fun p hp=>(h.2 p hp).imp id fun⟨b,h1,h2,h3⟩=>⟨b,h1,h2,by rw[hg b (.inl h2) (h.1 b h2)]; exact h3⟩⟩
 lt m b h hb:=hb.elim (h.1 b) fun h=>h.elim
section
variable {E : Env} {m0 m : AMem} {fs : Fs} {ps : List Pc} {x y z : Operand} {ty : TypeId} {H : Nat → Prop} {M : List (Option Nat × List (Int × Bool))}
theorem Hp.vm {l0:List Pc} (h:Hp m0 m (l0++[.gen (mB H)])) (hM:∀p ∈ M,wG m H p.1 p.2):Hp m0 m (l0++[.gen (Kf H M)]):=by
 have ha:=List.pairwise_append.1 h.apart;refine⟨h.ext,fun p hp=>?_,List.pairwise_append.2 ⟨ha.1,List.pairwise_singleton ..,fun p hp q hq=>?_⟩⟩
 ·rcases List.mem_append.1 hp with hp|hp
  ·exact h.ok p (List.mem_append_left _ hp)
  ·rw[List.mem_singleton.1 hp];have h0:Pc.ok m0.next m (.gen (mB H)):=h.ok _ (List.mem_append_right _ (List.mem_singleton.2 rfl))
   exact⟨⟨h0.1,hM⟩,fun h=>by cases h⟩
 ·rw[List.mem_singleton.1 hq];have h1:Pc.apart p (.gen (mB H)):=ha.2.2 p hp _ (List.mem_singleton.2 rfl);exact⟨fun b a c=>h1.1 b a c,fun b a c=>h1.2 b a c⟩
theorem Hp.Mn {l0:List Pc} {bo bo':Option Nat} {xs xs':List (Int × Bool)} (h:Hp m0 m (l0++[.gen (mB H)])) (h1:wG m H bo xs) (h2:wG m H bo' xs'):Hp m0 m (l0++[.gen (Kf H [(bo,xs),(bo',xs')])]):=h.vm fun p hp=>by
 rcases List.mem_cons.1 hp with rfl|hp
 ·exact h1
 ·rw[List.mem_singleton.1 hp]; exact h2
theorem an.L9 {k:Nat} (hp:pk ps k=some (.gen (Kf H M))):an m0 ps (cx ps k (.gen (mB H))):=fun m h =>
 h.K2 hp (fun b hb=>.inl hb) (fun b hb=>.inl hb) (Nat.le_refl _) h.ext ⟨(h.get hp).1.1,fun h=>by cases h⟩ fun _ _ _=>rfl
theorem Hp.JE {k b:Nat} {xs:List (Int × Bool)} (h:Hp m0 m ps) (hp:pk ps k=some (.obj b (.map (xs.map (eM kI vB))))):wG m (tT ps) (some b) xs:=.inr ⟨b,rfl,⟨_,iU hp,.inl ⟨rfl,rfl⟩⟩,(h.get hp).2.2⟩
theorem F2 {kt et k q:Nat} {bo:Option Nat} {xs:List (Int × Bool)} {i:Int} {v:Bool} (hu:E.P.underlying ty=some (.map kt et)) (hk:KeyE E.P kt kI) (hz:bj E.P et=some (.bool false)) (hx:ev E fs x=some (.map bo)) (hy:ev E fs y=some (.int .i64 i)) (hp:pk ps k=some (.gen (Kf H M))) (hq:M[q]? = some (bo,xs)) (hv:some ((cg xs i).getD false)=some v) :
  Od E m0 fs ps (.lookup ty x y false) (.bool v) ps:=by
 cases hv;intro t m hf h;have hM:=(h.get hp).1.2 _ (List.mem_of_getElem? hq);rcases hM with⟨h1,h2⟩|⟨b,h1,h2,h3⟩
 ·simp only at h1 h2;subst h1 h2;exact Jw (vE:=vB) (z0:=false) (k:=i) hu hk hz rfl hx hy t m hf h
 ·simp only at h1 h3;subst h1;refine⟨fun b' hb'=>?_,fun K hK=>?_⟩
  ·simp only[aF,hf.ev hx] at hb';cases hb'; exact(h.get hp).1.1 b h2
  ·have:=o9 (c:=false) (k:=i) (vE:=vB) (z0:=false) hu hk hz rfl h3;unfold aY;simp only[gG,cr,hf.ev hx,hf.ev hy,this,Option.map_some];exact hK m h
theorem JS {elem:TypeId} {i:Int} (ht:SlT E.P ty elem 1) (hx:ev E fs x=some (.int .i64 i)) (hi:decide (0≤i)=true) (hl:mS i.toNat=true) (hz:bj E.P elem=some (.slice none 0 0)) :
  Ox E m0 fs ps (.makeSlice ty x x) (fun b=>.slice (some ⟨b,0,none⟩) i.toNat i.toNat) (fun b=>.gen (lV b i.toNat (fun _=>0) (fun _=>False) (List.replicate i.toNat []))::ps):=fun t m hf hm =>
 have h:=G9 (m0:=m0) (ps:=ps) ht hx (Int.toNat_of_nonneg (of_decide_eq_true hi)).symm hl hz rfl t m hf hm
 ⟨h.1,fun K hK=>h.2 K fun b m' hm'=>hK b m' (an.JW m' hm')⟩
theorem JF {elem:TypeId} {i:Int} (ht:SlT E.P ty elem 2) (hx:ev E fs x=some (.int .i64 i)) (hi:decide (0≤i)=true) (hl:mS i.toNat=true) (hz:bj E.P elem=some (.agg #[.bool false,.slice none 0 0])) :
  Ox E m0 fs ps (.makeSlice ty x x) (fun b=>.slice (some ⟨b,0,none⟩) i.toNat i.toNat) (fun b=>.arr b 2 i.toNat (List.replicate i.toNat [.bool false,.slice none 0 0]) .own::ps) :=
 G9 (m0:=m0) (ps:=ps) ht hx (Int.toNat_of_nonneg (of_decide_eq_true hi)).symm hl hz rfl
theorem Fo {α β:Type} [DecidableEq α] {kt et b q:Nat} {kE:α→Value} {vE:β→Value} {xs:List (α × β)} {k:α} {v:β} (hu:E.P.underlying ty=some (.map kt et)) (hk:KeyE E.P kt kE) (hx:ev E fs x=some (.map (some b))) (hy:ev E fs y=some (kE k)) (hz:ev E fs z=some (vE v)) (hp:pk ps q=some (.obj b (.map (xs.map (eM kE vE))))) :
  Od E m0 fs ps (.insert ty x y z) undef (cx ps q (.obj b (.map ((ez xs k v).map (eM kE vE))))) :=
 fun t m hf h=>⟨fun b' hb'=>by simp[aF] at hb',fun K hK=>by
  have hg:=(h.get hp).2.2;have hup:cq E.P ty (.map (some b)) (kE k) (vE v) m=some (m.set b (.map ((ez xs k v).map (eM kE vE)))):=by
   simp only[cq,hu,hg,hk.ok,if_true,iE hk,ez];cases hfd:cD k xs 0 with
   | none=>simp only[Option.map_none,List.map_append,List.map_cons,List.map_nil]; rfl
   | some p =>
    obtain⟨h1,h2,h3⟩:=qj k xs 0 p hfd;simp only[Nat.sub_zero] at h3;have hst:fU (xs.map (eM kE vE)) p.1 (kE k)=true:=by
     simp only[fU,List.getElem?_map,h3,Option.map_some,eM,hk.plain,hk.same,Bool.and_self]
    simp only[Option.map_some,hst,if_true];rw[lu k v xs p.1 (by omega)]
  unfold aY;simp only[gG,cr,hf.ev hx,hf.ev hy,hf.ev hz,hup,Option.map_some];exact hK _ (h.write hp rfl rfl rfl rfl ⟨(h.get hp).1,by rw[AMem.next_set]; exact(h.get hp).2.1,by rw[AMem.bw,if_pos rfl]⟩)⟩
theorem me {α β:Type} {kE:α→Value} {vE:β→Value}:∀(xs:List (α × β)) (i:Nat),(xs.map (eM kE vE)).eraseIdx i=(xs.eraseIdx i).map (eM kE vE)
 | [],_=>rfl
 | _::_,0=>rfl
 | x::xs,i+1=>by rw[List.map_cons,List.eraseIdx_cons_succ,me xs i,List.eraseIdx_cons_succ,List.map_cons]
theorem JQ {α β:Type} [DecidableEq α] {kt et b q:Nat} {ty2:TypeId} {kE:α→Value} {vE:β→Value} {xs:List (α × β)} {k:α} {ars:Array Operand} (hu:E.P.underlying ty=some (.map kt et)) (hk:KeyE E.P kt kE) (ha:gz E fs ars.toList=some [.map (some b),kE k]) (hp:pk ps q=some (.obj b (.map (xs.map (eM kE vE))))) :
  Od E m0 fs ps (.call ⟨.builtin .delete,ars,#[ty,ty2]⟩) (.tuple #[]) (cx ps q (.obj b (.map ((DF xs k).map (eM kE vE))))) :=
 fun t m hf h=>⟨fun b' hb'=>by simp[aF] at hb',fun K hK=>by
  have hg:=(h.get hp).2.2;have hdel:∃m',aN E.P .delete #[ty,ty2] [.map (some b),kE k] m=some (.tuple #[],m')∧Hp m0 m' (cx ps q (.obj b (.map ((DF xs k).map (eM kE vE))))):=by
   have ht:(#[ty,ty2]:Array TypeId)[0]? = some ty:=rfl;simp only[aN,ht,mQ,hu,hg,hk.ok,if_true,iE hk,DF];cases hfd:cD k xs 0 with
   | none =>
    refine⟨m,rfl,?_⟩;have:cx ps q (.obj b (.map (xs.map (eM kE vE))))=ps:=by
     have:∀(l:List Pc) (k:Nat) (p:Pc),pk l k=some p→cx l k p=l:=by
      intro l
      induction l with
      | nil=>intro k p h; simp[pk] at h
      | cons q l ih =>
       intro k p h;cases k with
       | zero=>rw[gZ] at h; rw[fc,Option.some.inj h]
       | succ k=>rw[fY] at h; rw[gh,ih k p h]
     exact this ps q _ hp
    rw[this]; exact h
   | some p =>
    refine⟨_,rfl,?_⟩;exact h.write hp rfl rfl rfl rfl ⟨(h.get hp).1,by rw[AMem.next_set]; exact(h.get hp).2.1,by rw[AMem.bw,if_pos rfl,me]⟩
  obtain⟨m',h1,h2⟩:=hdel;rw[Go.Ab.dY (hf.gz ha) h1];exact hK m' h2⟩
end
end Go.Ab.W
end

section
namespace Go.Proofs.YtookeaakpiefjaaDoor
open Go Go.Ab Go.Ab.W
def rL:List Value→List Int→Bool
 | [],[]=>true
 | .int .u8 n::vs,k::ks=>n == k && rL vs ks
 | _,_=>false
theorem pH:∀{vs:List Value} {ks:List Int},rL vs ks=true→vs=ks.map (.int .u8)
 | [],[],_=>rfl
 | [],_::_,h=>by cases h
 | v::vs,[],h=>by simp[rL] at h
 | v::vs,k::ks,h=>by
  unfold rL at h
  split at h
  ·rename_i e _; cases e
  ·rename_i n vs' k' ks' e1 e2;cases e1; cases e2;simp only[Bool.and_eq_true,beq_iff_eq] at h;rw[h.1,pH h.2]; rfl
  ·cases h
def vS (m:AMem):Bool :=
 match m.get 0 with
 | some (.cells cs .ro)=>rL cs er
 | _=>false
theorem wL {m:AMem} (h:vS m=true):m.get 0=some (.cells (er.map (.int .u8)) .ro):=by
 unfold vS at h
 split at h
 ·rename_i cs hg; rw[hg,pH h]
 ·cases h
theorem wB:∀x c,vU x=some c→c.all aM=true:=by
 intro x c h;unfold vU at h
 split at h
 ·cases h;rw[List.all_map];exact List.all_eq_true.2 fun x _=>rfl
 ·cases h
theorem zW:∃fuel m',run Ao fuel (.call 6 [] LV)=some (.val (.bool true) m')∧1≤m'.wl:=we (E:=Ao) (F:=uj) (n:=1000) (g:=1) As xo
def iC (args:List Value) (m:AMem):Option (Value × AMem) :=
 match args with
 | []=>if vS m then some (.bool true,m) else none
 | _=>none
theorem sG {args:List Value} {m m':AMem} {v:Value} (h:iC args m=some (v,m')) {j:aT} {w:World} {args':List Value} (hm:MR Ao j m w) (hl:LR j args args') :
  je Ao.P (Ao.cP 6).isSome 6 args'.toArray w (kH Ao j m w v m'):=by
 unfold iC at h
 split at h
 ·split at h
  ·rename_i ht;cases h;obtain⟨fuel,m0,h1,h2⟩:=zW;refine tt (E:=Ao) (gs:=vU) Gu wB h1 h2 rfl hm (fun x c hx hg=>?_) hl;have hx:x<1:=hx;have:x=0:=by omega
   subst this;simp only[vU,if_true,Option.some.injEq] at hg;rw[←hg]; exact wL ht
  ·cases h
 ·cases h
def Be (f:FuncId):Option Prim:=if f=6 then some ⟨iC⟩ else Ej f
noncomputable def au:Env:={ P:=Tryd.prog,glob:=1,cP:=Be}
theorem D6:EnvOk au:=xi (E:=Ao) Gu (pr:=Be) fun f p hp=>by
 unfold Be at hp
 split at hp
 ·rename_i e;cases hp;subst e;exact .inr fun args m v m' h j w args' hm hl=>sG h hm hl
 ·exact .inl hp
def Gl (m:AMem):Prop:=m.get 0=some (.cells (er.map (.int .u8)) .ro)∧0<m.next
theorem Gl.ext {m m':AMem} (h:Gl m) (e:Ext m m'):Gl m':=⟨by rw[e.same 0 h.2]; exact h.1,Nat.lt_of_lt_of_le h.2 e.next⟩
def F6 (_:Nat):Option Bool:=some true
theorem Gx (n:Nat) (r:Bool) (hF:F6 n=some r) (m:AMem) (hG:Gl m):aE au 6 [] m (fun v m'=>∃_:Unit,v = .bool r∧Hp m m' []):=by
 cases hF;refine aE.cP (p:=⟨iC⟩) rfl (v:=.bool true) (m':=m) ?_ ⟨(),rfl,Hp.start m⟩;have ht:vS m=true:=by
  unfold vS;rw[hG.1];exact(by decide +kernel:rL (er.map (.int .u8)) er=true)
 show iC [] m=_
 simp only[iC,ht,if_true]
end Go.Proofs.YtookeaakpiefjaaDoor
end

section
namespace Go.Proofs.YtookeaakpiefjaaDoor
set_option maxRecDepth 100000
open Go Go.ChangeShapes Go.WideShapes Go.ChangeAt Go.WideMaps Go.WideElems Go.RowKit Go.Ab Go.Ab.W
section
variable {H : Type} {enc : TypeId × Value → H} {W : World} {sp : Nat → Bool} {held : Bool} {v : Value} {d : DataW H} {p : List MemPlace} {base : Nat}
end
theorem Kx:laidOutB Tryd.prog=true:=by kernel_rfl
theorem Ee:mapsRowed Tryd.prog=true:=by kernel_rfl
theorem Ff:sizedB Tryd.prog=true:=by kernel_rfl
theorem HG {W:World} (h:laidMetH Tryd.prog pj W):Gl (fh W)∧0<W.heap.size:=by
 rw[MakeChecks.laidMetH_plain _ _ _ (by kernel_rfl)] at h
 obtain⟨ps,hL,_⟩:=h;have ht:(Tryd.prog.globals[0]?).map (·.type)=some 109:=by kernel_rfl
 obtain⟨c,ty,fz,h1,h2⟩:=AG (L:=er) (k:=.u8) (N:=64) (t:=109) (e:=5) LF ht (by kernel_rfl) (by kernel_rfl) (by kernel_rfl) (by kernel_rfl) rfl hL
 have hs:0<W.heap.size:=(Array.getElem?_eq_some_iff.1 h1).1;refine⟨⟨?_,hs⟩,hs⟩;rw[tR h1,h2,List.map_map]
 congr 2
theorem Al {H:Type} {enc:TypeId × Value→H} {f:FuncId} {fn:Func} {s:ChangeSpec} {W:World} {args:Array Value} {ds:List (DataW H)} {before:List MemPlace} {tb:TypeId} {fresh handsOn:Bool} {absArgs:List Value} (hpr:au.cP f=none)
  (hvars:s.vars = []) (hres:fn.resultTypes.toList = [tb]) (hrs:fn.resultTypes.size=1) (htb:Tryd.prog.underlying tb=some .bool) (hpt:∀t ∈ fn.params.toList,t<Tryd.prog.types.size) (hfn:s.fn H ds = { results:=[.lit (.bool true)],args:=ds,vars:=[]})
  (hW:DataW.Whole enc Tryd.prog fn.params.toList s.vars false W args.toList ds [] before) (hs:0<W.heap.size)
  (hl:LR (jg W) absArgs args.toList) (hc:aE au f absArgs (fh W) (fun v m'=>∃_:Unit,v = .bool true∧Hp (fh W) m' [])) :
  Calls Tryd.prog f args W fun e W'=>∃v,e = .returned v∧s.post enc Tryd.prog fn false fresh handsOn false W args v W':=by
 obtain⟨v,m',⟨fuel,hrun⟩,_,rfl,hm'⟩:=hc;have hm:MR au (jg W) (fh W) W:=HO hs;have hcall:=callsIn_wide.1 (sS D6 hrun hpr hm hl);refine hcall.mono fun e W' ⟨v',he,j',sm,hv⟩=>?_;have hv':v' = .bool true:=dZ rfl hv;subst hv';have hwl:(fh W).next≤m'.wl:=by
  have h1:=hm'.ext.wl;have h2:min (fh W).wl (fh W).next=(fh W).next:=Nat.min_self _
  omega
 exact⟨_,he,B1 Kx Ee Ff hvars hres hrs htb hpt hfn hW sm.calm (sm.grown hm hwl)⟩
end Go.Proofs.YtookeaakpiefjaaDoor
end

section
namespace Go.Proofs.YtookeaakpiefjaaDoor
open Go Go.Ab Go.Ab.W
def sO (_:Nat) (x y c:Nat):Option (Nat × Nat):=gd (decide (c≤1)) (some ((x+y+c)%18446744073709551616,(x+y+c)/18446744073709551616))
def Fj (_:Nat) (x y c:Nat):Option (Nat × Nat):=gd (decide (c≤1)) (some ((x+18446744073709551616-y-c)%18446744073709551616,if x<y+c then 1 else 0))
theorem rC {V:Nat→Nat→Nat→Value} {x y c:Nat} (hc:c≤1) (m:AMem):dV V [.int .u64 ((x:Nat):Int),.int .u64 ((y:Nat):Int),.int .u64 ((c:Nat):Int)] m=some (V x y c,m):=by
 show(if Nat.ble c 1 then some (V x y c,m) else none)=_
 rw[Nat.ble_eq_true_of_le hc]; rfl
theorem kC (n:Nat) (x y c:Nat) (r:Nat × Nat) (hF:sO n x y c=some r) (m:AMem) :
  aE au 101 [.int .u64 ((x:Nat):Int),.int .u64 ((y:Nat):Int),.int .u64 ((c:Nat):Int)] m (fun v m'=>∃_:Unit,v = .tuple #[.int .u64 ((r.1:Nat):Int),.int .u64 ((r.2:Nat):Int)]∧Hp m m' []):=by
 obtain⟨hc,hF⟩:=ax hF;have hr:=Option.some.inj hF;subst hr;exact aE.cP (p:=⟨dV uJ⟩) rfl (rC (of_decide_eq_true hc) m) ⟨(),rfl,.start m⟩
theorem yI (n:Nat) (x y c:Nat) (r:Nat × Nat) (hF:Fj n x y c=some r) (m:AMem) :
  aE au 100 [.int .u64 ((x:Nat):Int),.int .u64 ((y:Nat):Int),.int .u64 ((c:Nat):Int)] m (fun v m'=>∃_:Unit,v = .tuple #[.int .u64 ((r.1:Nat):Int),.int .u64 ((r.2:Nat):Int)]∧Hp m m' []):=by
 obtain⟨hc,hF⟩:=ax hF;have hr:=Option.some.inj hF;subst hr;exact aE.cP (p:=⟨dV tN⟩) rfl (rC (of_decide_eq_true hc) m) ⟨(),by
  show tN x y c=_
  unfold tN
  split<;>rfl,.start m⟩
end Go.Proofs.YtookeaakpiefjaaDoor
end

section
namespace Go.Ab
open Go
theorem FF (y w:Nat):∀x,x<2 ^ w→y=2 ^ w-1-x→x &&& y=0:=by
 intro x hx hy;apply Nat.eq_of_testBit_eq;intro i;rw[Nat.testBit_and,hy,show 2 ^ w-1-x=2 ^ w-(x+1) by omega,Nat.testBit_two_pow_sub_succ hx,Nat.zero_testBit]
 by_cases hi:i<w
 ·simp[hi]
 ·simp[hi]
theorem EU (a b:Nat):(2*a) &&& (2*b)=2*(a &&& b):=by
 apply Nat.eq_of_testBit_eq;intro i;rw[Nat.testBit_and];cases i with
 | zero=>simp
 | succ i=>rw[Nat.testBit_succ,Nat.testBit_succ,Nat.testBit_succ,show 2*a/2=a by omega,show 2*b/2=b by omega,show 2*(a &&& b)/2=a &&& b by omega,Nat.testBit_and]
theorem Fh (a b:Nat):(2*a+1) &&& (2*b+1)=2*(a &&& b)+1:=by
 apply Nat.eq_of_testBit_eq;intro i;rw[Nat.testBit_and];cases i with
 | zero=>simp
 | succ i=>rw[Nat.testBit_succ,Nat.testBit_succ,Nat.testBit_succ,show(2*a+1)/2=a by omega,show(2*b+1)/2=b by omega,show(2*(a &&& b)+1)/2=a &&& b by omega,Nat.testBit_and]
theorem yr:∀(w x:Nat),0<x→x<2 ^ w→∃k,k<w∧x &&& (2 ^ w-x)=2 ^ k∧∃q,x=2 ^ k*(2*q+1)
 | 0,x,h0,h1=>by simp at h1; omega
 | w+1,x,h0,h1=>by
  rw[Nat.pow_succ] at h1 ⊢;rcases Nat.mod_two_eq_zero_or_one x with h|h
  ·obtain⟨y,rfl⟩:∃y,x=2*y:=⟨x/2,by omega⟩
   obtain⟨k,hk,h2,q,h3⟩:=yr w y (by omega) (by omega)
   refine⟨k+1,by omega,?_,q,?_⟩
   ·rw[show 2 ^ w*2-2*y=2*(2 ^ w-y) by omega,EU,h2,Nat.pow_succ]; omega
   ·rw[h3,Nat.pow_succ,Nat.mul_comm (2 ^ k) 2,Nat.mul_assoc]
  ·obtain⟨y,rfl⟩:∃y,x=2*y+1:=⟨x/2,by omega⟩
   refine⟨0,by omega,?_,y,by simp⟩
   rw[show 2 ^ w*2-(2*y+1)=2*(2 ^ w-1-y)+1 by omega,Fh,FF _ w y (by omega) rfl]
def tz (x:Nat):Nat:=if x=0 then 64 else Nat.log2 (x &&& (2 ^ 64-x))
theorem yj {x:Nat} (h0:0<x) (h1:x<2 ^ 64):tz x<64∧x &&& (2 ^ 64-x)=2 ^ tz x∧∃q,x=2 ^ tz x*(2*q+1):=by
 obtain⟨k,hk,h2,h3⟩:=yr 64 x h0 h1;have:tz x=k:=by unfold tz; rw[if_neg (by omega),h2,Nat.log2_two_pow]
 rw[this]; exact⟨hk,h2,h3⟩
end Go.Ab
end

section
namespace Go.Proofs.YtookeaakpiefjaaDoor
open Go Go.Ab
set_option maxRecDepth 10000
theorem Mw:Tryd.prog.underlying 3=some (.int .i64):=by kernel_rfl
theorem MD:Tryd.prog.underlying 5=some (.int .u8):=by kernel_rfl
theorem JZ:Tryd.prog.underlying 109=some (.array 64 5):=by kernel_rfl
theorem LQ:known Tryd.prog 5=true:=by kernel_rfl
theorem Mz:aq Tryd.prog 5=1:=by kernel_rfl
theorem MB:cZ Tryd.prog 5=false:=by kernel_rfl
theorem II:∀k:Fin 64,(er.map (Value.int .u8))[(2 ^ k.val*285870213051353865%2 ^ 64) >>> 58]?.map (fun v=>match v with | .int .u8 n=>decide (n=k.val) | _=>false)=some true:=by decide +kernel
theorem Iy (k:Nat) (hk:k<64):(er.map (Value.int .u8))[(2 ^ k*285870213051353865%2 ^ 64) >>> 58]? = some (.int .u8 (k:Int)):=by
 have:=II ⟨k,hk⟩;cases h:(er.map (Value.int .u8))[(2 ^ k*285870213051353865%2 ^ 64) >>> 58]? with
 | none=>rw[h] at this; cases this
 | some v =>
  rw[h] at this;simp only[Option.map_some,Option.some.injEq] at this
  split at this
  ·rw[of_decide_eq_true this]
  ·cases this
def rT (x:Nat):Nat:=2 ^ 64-x
def pE (x y:Nat):Nat:=x*y%2 ^ 64
theorem Eh (x:Nat) (h0:0<x) (h1:x<2 ^ 64):xG .neg (.int .u64 (x:Int))=some (.int .u64 ((rT x:Nat):Int)):=by
 simp only[xG,rT];have:IntKind.u64.wrap (0-(x:Int))=((2 ^ 64-x:Nat):Int):=by
  unfold IntKind.wrap IntKind.bits IntKind.signed;simp only[Bool.false_and,Bool.false_eq_true,if_false];omega
 rw[this]
theorem Ey {ty:TypeId} {P:Program} (x:Nat):aX .mul ty P (.int .u64 (x:Int)) (.int .u64 285870213051353865)=some (.int .u64 ((pE x 285870213051353865:Nat):Int)):=by
 simp only[aX,if_true,pE];have:IntKind.u64.wrap ((x:Int)*285870213051353865)=((x*285870213051353865%2 ^ 64:Nat):Int):=by
  unfold IntKind.wrap IntKind.bits IntKind.signed;simp only[Bool.false_and,Bool.false_eq_true,if_false];omega
 rw[this]
theorem Eo {ty:TypeId} {P:Program} (x:Nat):aX .shr ty P (.int .u64 (x:Int)) (.int .u64 58)=some (.int .u64 ((x >>> 58:Nat):Int)):=Ah x 58 .u64 (by omega)
theorem EF {ty:TypeId} {P:Program} (x:Nat) (h0:0<x) (h1:x<2 ^ 64):aX .and ty P (.int .u64 (x:Int)) (.int .u64 ((rT x:Nat):Int))=some (.int .u64 ((2 ^ tz x:Nat):Int)):=by
 rw[rJ x (rT x) h1 (by unfold rT; omega)]
 unfold rT;rw[(yj h0 h1).2.1]
theorem D9 (k:Nat) (_:k<64):bp Tryd.prog 109 (ptr 0 0) (.int .u64 ((pE (2 ^ k) 285870213051353865 >>> 58:Nat):Int))=some (ptr 0 (pE (2 ^ k) 285870213051353865 >>> 58)):=by
 have hlt:pE (2 ^ k) 285870213051353865 >>> 58<64:=by
  rw[Nat.shiftRight_eq_div_pow];have:pE (2 ^ k) 285870213051353865<2 ^ 64:=Nat.mod_lt _ (by omega)
  omega
 rw[Bs JZ LQ Mz hlt];simp
def Cw (k:Nat):Nat:=pE (2 ^ k) 285870213051353865
def yO (k:Nat):Nat:=Cw k >>> 58
theorem HT {ty:TypeId} {P:Program} (k:Nat):aX .mul ty P (.int .u64 ((2 ^ k:Nat):Int)) (.int .u64 285870213051353865)=some (.int .u64 ((Cw k:Nat):Int)):=Ey _
theorem Ig {ty:TypeId} {P:Program} (k:Nat):aX .shr ty P (.int .u64 ((Cw k:Nat):Int)) (.int .u64 58)=some (.int .u64 ((yO k:Nat):Int)):=Eo _
theorem GY (k:Nat) (hk:k<64):bp Tryd.prog 109 (ptr 0 0) (.int .u64 ((yO k:Nat):Int))=some (ptr 0 (yO k)):=D9 k hk
theorem CV (n:Nat) (h:n<2 ^ 63):ek Tryd.prog 5 3 (.int .u8 (n:Int))=some (.int .i64 (n:Int)):=by
 simp only[ek,MD,Mw];rw[wrap_i64 _ (by omega) (by omega)]
theorem ED (k:Nat) (hk:k<64) {m:AMem} (hm:m.get 0=some (.cells (er.map (.int .u8)) .ro)):cM Tryd.prog 5 (ptr 0 (yO k)) m=some (.int .u8 (k:Int)):=ua LQ MB hm (Iy k hk)
theorem Dx (x:Nat) (hx:x<2 ^ 64) (m:AMem) (hm:m.get 0=some (.cells (er.map (.int .u8)) .ro)):aE au 21 [.int .u64 (x:Int)] m (fun v m'=>v = .int .i64 (tz x:Int)∧m'=m):=by
 refine aE.DC (N:=14) (rs:=[.tmp 2]) rfl Tryd.func21 rfl rfl rfl ?_;simp only[ofList_cons,ofList_nil]
 (repeat refine aQ.seq ?_); refine aQ.oK fun K hK=>?_
 refine hY rfl (mE (pn _ _)) (mK rfl) ?_;refine hK _ _ ?_; clear hK K; try simp only[iG]
 (repeat refine aQ.seq ?_); refine aQ.oK fun K hK=>?_
 refine hY rfl (sr (gB (by repeat first | (apply dA; rfl) | exact eE _ _ _|assumption))) (mK rfl) ?_
 refine hY rfl (wh (gB (by repeat first | (apply dA; rfl) | exact eE _ _ _|assumption)) (pn _ _) (cU _ _ _)) (mK rfl) ?_
 refine hK _ _ ?_; clear hK K; try simp only[iG]
 by_cases h0:x=0
 ·refine aQ.cond (c:=true) ((gB (by repeat first | (apply dA; rfl) | exact eE _ _ _|assumption)).trans (by rw[h0]; rfl)) (fun _=>?_) (fun h=>by cases h)
  (repeat refine aQ.seq ?_); refine aQ.oK fun K hK=>?_
  refine hY rfl (mE (pn _ _)) (mK rfl) ?_;refine hK _ _ ?_; clear hK K; try simp only[iG]
  refine aQ.ret ?_; simp only[Bw,BZ,xR,bE,rH,eH,Option.map_some,at_set,Nat.reduceEqDiff,reduceIte];rw[h0];exact⟨by trivial,by trivial⟩
 ·have hp:0<x:=by omega
  have hk:=(yj hp hx).1;refine aQ.cond (c:=false) ((gB (by repeat first | (apply dA; rfl) | exact eE _ _ _|assumption)).trans (by rw[decide_eq_false (by omega)])) (fun h=>by cases h) (fun _=>?_)
  refine aQ.skip ?_;rw[iG]
  (repeat refine aQ.seq ?_); refine aQ.oK fun K hK=>?_
  refine hY rfl (sr (gB (by repeat first | (apply dA; rfl) | exact eE _ _ _|assumption))) (mK rfl) ?_
  refine hY rfl (sr (gB (by repeat first | (apply dA; rfl) | exact eE _ _ _|assumption))) (mK rfl) ?_
  refine hY rfl (DD (gB (by repeat first | (apply dA; rfl) | exact eE _ _ _|assumption)) (Eh x hp hx)) (mK rfl) ?_
  refine hY rfl (wh (gB (by repeat first | (apply dA; rfl) | exact eE _ _ _|assumption)) (gB (by repeat first | (apply dA; rfl) | exact eE _ _ _|assumption)) (EF x hp hx)) (mK rfl) ?_
  refine hY rfl (wh (gB (by repeat first | (apply dA; rfl) | exact eE _ _ _|assumption)) (pn _ _) (HT _)) (mK rfl) ?_
  refine hY rfl (wh (gB (by repeat first | (apply dA; rfl) | exact eE _ _ _|assumption)) (pn _ _) (Ig _)) (mK rfl) ?_
  refine hY rfl (oc rfl (gB (by repeat first | (apply dA; rfl) | exact eE _ _ _|assumption)) (GY _ hk)) (mK rfl) ?_
  refine hY rfl (td (gB (by repeat first | (apply dA; rfl) | exact eE _ _ _|assumption)) (ED _ hk hm)) (mK rfl) ?_
  refine hY rfl (Ct (gB (by repeat first | (apply dA; rfl) | exact eE _ _ _|assumption)) (CV _ (Nat.lt_trans hk (by decide)))) (mK rfl) ?_
  refine hY rfl (mE (gB (by repeat first | (apply dA; rfl) | exact eE _ _ _|assumption))) (mK rfl) ?_
  refine hK _ _ ?_; clear hK K; try simp only[iG]
  refine aQ.ret ?_; simp only[Bw,BZ,xR,bE,rH,eH,Option.map_some,at_set,Nat.reduceEqDiff,reduceIte];exact⟨by trivial,by trivial⟩
end Go.Proofs.YtookeaakpiefjaaDoor
end

section
namespace Go.Proofs.YtookeaakpiefjaaDoor
open Go Go.Ab Go.Ab.W
set_option maxRecDepth 10000
set_option maxHeartbeats 4000000
attribute [local irreducible] Tm.at Trie.set Trie.get AMem.get AMem.set AMem.alloc AMem.ww AMem.kill
def I7 (_:Nat) (x:Nat):Option Int:=gd (decide (x<2 ^ 64)) (some (tz x:Int))
theorem C3 (n x:Nat) (r:Int) (hF:I7 n x=some r) (m:AMem) (hG:Gl m):aE au 21 [.int .u64 ((x:Nat):Int)] m (fun v m'=>∃_:Unit,v = .int .i64 r∧Hp m m' []):=by
 unfold I7 at hF;obtain⟨hx,hF⟩:=ax hF;cases hF;exact(Dx x (of_decide_eq_true hx) m hG.1).mono fun v m' h=>⟨(),h.1,by rw[h.2]; exact Hp.start m⟩
end Go.Proofs.YtookeaakpiefjaaDoor
end

section
namespace Go.Proofs.YtookeaakpiefjaaDoor
open Go Go.Ab Go.Ab.W
set_option maxRecDepth 10000
def fw:List Nat:=[0,1,2,2,3,3,3,3,4,4,4,4,4,4,4,4,5,5,5,5,5,5,5,5,5,5,5,5,5,5,5,5,6,6,6,6,6,6,6,6,6,6,6,6,6,6,6,6,6,6,6,6,6,6,6,6,6,6,6,6,6,6,6,6,7,7,7,7,7,7,7,7,7,7,7,7,7,7,7,7,7,7,7,7,7,7,7,7,7,7,7,7,7,7,7,7,7,7,7,7,7,7,7,7,7,7,7,7,7,7,7,7,7,7,7,7,7,7,7,7,7,7,7,7,7,7,7,7,8,8,8,8,8,8,8,8,8,8,8,8,8,8,8,8,8,8,8,8,8,8,8,8,8,8,8,8,8,8,8,8,8,8,8,8,8,8,8,8,8,8,8,8,8,8,8,8,8,8,8,8,8,8,8,8,8,8,8,8,8,8,8,8,8,8,8,8,8,8,8,8,8,8,8,8,8,8,8,8,8,8,8,8,8,8,8,8,8,8,8,8,8,8,8,8,8,8,8,8,8,8,8,8,8,8,8,8,8,8,8,8,8,8,8,8,8,8,8,8,8,8,8,8,8,8,8,8]
def LW (_:Nat) (x1:Nat) (x2:Int):Option (Bool) :=
some (decide (uw .u64 (uw .u64 (bZ .u64 x1 (ui .u64 x2)) &&& uw .u64 1)=1))
def JG (n:Nat) (x1:Nat):(Int × Int)→Option ((Int × Int) ⊕ (Int)):=fun(v4,v5) =>
br (decide (v5<64)) (
ob (
ob (LW n x1 v5) fun r25 =>
br (r25) (
some (IntKind.wrap .i64 (v4+1))) (
some v4)) fun v23 =>
some (.inl (v23,IntKind.wrap .i64 (v5+1)))) (
some (.inr v4))
def MA (n:Nat) (x1:Nat):Option (Int) :=
ob (
bL (JG n x1) n (0,0)) fun v18 =>
some v18
def Mm (_:Nat) (x1:Int):Option (Nat) :=
some (fX .u64 1 (ui .u64 x1))
def KX (n:Nat) (x1:Int) (x6:Nat):(Nat × Int)→Option ((Nat × Int) ⊕ (Nat)):=fun(v10,v11) =>
ob (
br (decide (v11<x1)) (
ob (MA n v10) fun r64 =>
some (decide (r64<9))) (
some false)) fun v61 =>
br (v61) (
ob (
ob (LW n x6 v11) fun r75 =>
br (r75) (
ob (Mm n v11) fun r78 =>
some (uw .u64 (uw .u64 v10 ||| uw .u64 r78))) (
some v10)) fun v73 =>
some (.inl (v73,IntKind.wrap .i64 (v11+1)))) (
some (.inr v10))
def F8 (n:Nat) (x1:Int) (_:List (Int × Int)) (x6:Nat):Option (Nat) :=
ob (
bL (KX n x1 x6) n (0,0)) fun v47 =>
some v47
def Gs (_:Nat):(List (Nat) × Int)→Option ((List (Nat) × Int) ⊕ (List (Nat))):=fun(l40,v41) =>
br (decide (v41<8)) (
gd (bJ v41 8) (
ob (l40[v41.toNat]?) fun _ =>
some (.inl ((l40.set v41.toNat 18446744073709551615),IntKind.wrap .i64 (v41+1))))) (
some (.inr l40))
def tG (n:Nat) (x1:Int):Option (Nat × Nat × Nat × Nat × Nat × Nat × Nat × Nat) :=
ob (
br (decide (x1<0)) (
ob (
bL (Gs n) n (([ui .u64 x1,0,0,0,0,0,0,0]:List (Nat)),1)) fun l49 =>
some l49) (
some ([ui .u64 x1,0,0,0,0,0,0,0]:List (Nat)))) fun l30 =>
ob (JM l30) fun(x59,x60,x61,x62,x63,x64,x65,x66) =>
some (x59,x60,x61,x62,x63,x64,x65,x66)
def KF (_:Nat) (x1:Int):Option (Bool) :=
some (!decide (x1=x1))
def Lz (n:Nat) (x1:Int) (x2:Int):Option (Int) :=
ob (KF n x1) fun r4 =>
ob (KF n x2) fun r6 =>
br (r4) (
br (r6) (
some 0) (
some (-1))) (
br (r6) (
some 1) (
br (decide (x1<x2)) (
some (-1)) (
br (decide (x2<x1)) (
some 1) (
some 0))))
def Gb (n:Nat) (l1:List (Int)) (l5:List (Int)):Int→Option ((Int) ⊕ ((Int) ⊕ (Unit))):=fun v10 =>
br (decide (v10<(l1.length:Int))) (
gd (bJ v10 l1.length) (
ob (l1[v10.toNat]?) fun x32 =>
br (decide ((l5.length:Int)≤v10)) (
some (.inr (.inl 1))) (
gd (bJ v10 l5.length) (
ob (l5[v10.toNat]?) fun x38 =>
ob (Lz n x32 x38) fun r41 =>
br (!decide (r41=0)) (
some (.inr (.inl r41))) (
some (.inl (IntKind.wrap .i64 (v10+1)))))))) (
some (.inr (.inr ())))
def Lq (n:Nat) (l1:List (Int)) (l5:List (Int)):Option (Int) :=
ob (α:=(Int) ⊕ (Unit)) (
bL (Gb n l1 l5) n 0) fun r44=>match r44 with
| .inl v27 =>
some v27
| .inr _ =>
br (decide ((l1.length:Int)<(l5.length:Int))) (
some (-1)) (
some 0)
def Gd (n:Nat) (l1:List (Int × Int)) (x1:Int):(Int × Int × Int)→Option ((Int × Int × Int) ⊕ ((Unit) ⊕ (Unit))):=fun(v1,v2,v0) =>
br (decide (v0<(l1.length:Int))) (
gd (bJ v0 l1.length) (
ob (l1[v0.toNat]?) fun(x3,x4) =>
ob (
br (decide (x3<0)) (
some true) (
br (decide (x4≤x3)) (
some true) (
br (decide (x1≤x4)) (
some true) (
ob (Lq n [v1,v2] [x3,x4]) fun r0 =>
some (decide (0≤r0)))))) fun v3 =>
br (v3) (
some (.inr (.inl ()))) (
some (.inl (x3,x4,IntKind.wrap .i64 (v0+1)))))) (
some (.inr (.inr ())))
def Lm (n:Nat) (x1:Int) (l1:List (Int × Int)):Option (Int) :=
ob (
br (decide (x1<1)) (
some true) (
br (decide (64<x1)) (
some true) (
some (decide (200<(l1.length:Int)))))) fun v0 =>
br (v0) (
some 180) (
ob (α:=(Unit) ⊕ (Unit)) (
bL (Gd n l1 x1) n (-1,-1,0)) fun r0=>match r0 with
| .inl _ =>
some 180
| .inr _ =>
some 0)
def I1 (_:Nat) (x1:Nat):Option (Int) :=
ob (
br (decide (4294967296≤x1)) (
some (bZ .u64 x1 32,32)) (
some (x1,0))) fun(v3,v4) =>
ob (
br (decide (65536≤v3)) (
some (bZ .u64 v3 16,IntKind.wrap .i64 (v4+16))) (
some (v3,v4))) fun(v9,v10) =>
ob (
br (decide (256≤v9)) (
some (bZ .u64 v9 8,IntKind.wrap .i64 (v10+8))) (
some (v9,v10))) fun(v15,v16) =>
gd (bJ ((uw .u8 v15:Nat):Int) 256) (
ob (fw[((uw .u8 v15:Nat):Int).toNat]?) fun y22 =>
some (IntKind.wrap .i64 (v16+(IntKind.wrap .i64 ((y22:Nat):Int)))))
def FV (n:Nat) (x1:Int) (l2:List (Int × Int)) (x6:Nat):Option (Int) :=
ob (Lm n x1 l2) fun r9 =>
br (!decide (r9=0)) (
some r9) (
ob (
br (decide (x6=0)) (
some true) (
ob (I1 n x6) fun r27 =>
some (decide (x1<r27)))) fun v24 =>
br (v24) (
some 2) (
some 0))
def Gw (n:Nat):(List (Nat) × List (Nat) × Nat × Int)→Option ((List (Nat) × List (Nat) × Nat × Int) ⊕ (List (Nat) × Nat)):=fun(l36,l37,v38,v39) =>
br (decide (v39<8)) (
gd (bJ v39 8) (
ob (l36[v39.toNat]?) fun x60 =>
gd (bJ v39 8) (
ob (l37[v39.toNat]?) fun x63 =>
ob (Fj n x60 x63 v38) fun(r66,r67) =>
gd (bJ v39 8) (
some (.inl ((l36.set v39.toNat r66),l37,r67,IntKind.wrap .i64 (v39+1))))))) (
some (.inr (l36,v38)))
def KB (n:Nat) (x1:Nat) (x2:Nat) (x3:Nat) (x4:Nat) (x5:Nat) (x6:Nat) (x7:Nat) (x8:Nat) (x9:Nat) (x10:Nat) (x11:Nat) (x12:Nat) (x13:Nat) (x14:Nat) (x15:Nat) (x16:Nat):Option (Nat × Nat × Nat × Nat × Nat × Nat × Nat × Nat × Nat) :=
ob (
bL (Gw n) n (([x1,x2,x3,x4,x5,x6,x7,x8]:List (Nat)),([x9,x10,x11,x12,x13,x14,x15,x16]:List (Nat)),0,0)) fun(l56,v57) =>
ob (JM l56) fun(x72,x73,x74,x75,x76,x77,x78,x79) =>
some (x72,x73,x74,x75,x76,x77,x78,x79,v57)
def Kw (n:Nat) (x1:Nat) (x2:Nat) (x3:Nat) (x4:Nat) (x5:Nat) (x6:Nat) (x7:Nat) (x8:Nat):Option (Bool × Nat × Nat × Nat × Nat × Nat × Nat × Nat × Nat) :=
ob (
br (decide (bZ .u64 x8 63=1)) (
ob (KB n 0 0 0 0 0 0 0 0 x1 x2 x3 x4 x5 x6 x7 x8) fun(r34,r35,r36,r37,r38,r39,r40,r41,_) =>
some (decide (bZ .u64 x8 63=1),r34,r35,r36,r37,r38,r39,r40,r41)) (
some (decide (bZ .u64 x8 63=1),x1,x2,x3,x4,x5,x6,x7,x8))) fun(v23,v24,v25,v26,v27,v28,v29,v30,v31) =>
some (v23,v24,v25,v26,v27,v28,v29,v30,v31)
def pY (_:Nat) (l2:List (Nat)):Int→Option ((Int) ⊕ (Int)):=fun v9 =>
ob (
br (decide (0<v9)) (
gd (bJ (IntKind.wrap .i64 (v9-1)) l2.length) (
ob (l2[(IntKind.wrap .i64 (v9-1)).toNat]?) fun x71 =>
some (decide (x71=0)))) (
some false)) fun v66 =>
br (v66) (
some (.inl (IntKind.wrap .i64 (v9-1)))) (
some (.inr v9))
def ze (n:Nat) (x1:Bool) (l2:List (Nat)):Option (Bool × List Nat) :=
ob (
bL (pY n l2) n (l2.length:Int)) fun v43 =>
br (x1) (
gd (okB 0 v43 l2.length) (
some (decide (0<v43),((l2.drop (0:Int).toNat).take ((v43:Int).toNat-(0:Int).toNat))))) (
gd (okB 0 v43 l2.length) (
some (false,((l2.drop (0:Int).toNat).take ((v43:Int).toNat-(0:Int).toNat)))))
def Gn (n:Nat) (x1:Nat) (x2:Nat) (x3:Nat) (x4:Nat) (x5:Nat) (x6:Nat) (x7:Nat) (x8:Nat):Option (Bool × List Nat) :=
ob (Kw n x1 x2 x3 x4 x5 x6 x7 x8) fun(r12,r13,r14,r15,r16,r17,r18,r19,r20) =>
gd (mS (([]:List (Nat))++[r13,r14,r15,r16,r17,r18,r19,r20]).length) (
ob (ze n r12 (([]:List (Nat))++[r13,r14,r15,r16,r17,r18,r19,r20])) fun(r26,l27) =>
some (r26,l27))
def D4 (_:Nat) (x1:Bool) (l2:List (Nat)):Option (Int) :=
br (x1) (
some (-1)) (
br (decide ((l2.length:Int)=0)) (
some 0) (
some 1))
def uP (_:Nat):(List (Int) × Int)→Option ((List (Int) × Int) ⊕ (List (Int))):=fun(l12,v13) =>
br (decide (v13<((64:Int).toNat:Int))) (
gd (bJ v13 ((64:Int).toNat)) (
ob (l12[v13.toNat]?) fun _ =>
some (.inl ((l12.set v13.toNat v13),IntKind.wrap .i64 (v13+1))))) (
some (.inr l12))
def Ja (n:Nat):Option (List Int) :=
gd (decide ((0:Int)≤64)) (gd (mS ((64:Int).toNat)) (
ob (
bL (uP n) n ((List.replicate (64:Int).toNat (0:Int)),0)) fun l21 =>
some l21))
def CF (_:Nat) (x1:Nat) (x2:Int) (x3:Int):Option (Bool) :=
gd (decide (0≤x2)) (
br (decide (uw .u64 (uw .u64 (bZ .u64 x1 x2.toNat) &&& uw .u64 1)=1)) (
gd (decide (0≤x3)) (
some (decide (uw .u64 (uw .u64 (bZ .u64 x1 x3.toNat) &&& uw .u64 1)=1)))) (
some false))
def jq (_:Nat) (l1:List (Int)):Int→Option ((Int) ⊕ (Int)):=fun v7 =>
gd (bJ v7 l1.length) (
ob (l1[v7.toNat]?) fun x20 =>
br (!decide (x20=v7)) (
gd (bJ v7 l1.length) (
some (.inl x20))) (
some (.inr v7)))
def Gv (n:Nat) (l1:List (Int)) (x5:Int):Option (Int) :=
ob (
bL (jq n l1) n x5) fun v16 =>
some v16
def ry (n:Nat) (x1:Int):Option (Bool × List Nat) :=
ob (tG n x1) fun(r4,r5,r6,r7,r8,r9,r10,r11) =>
ob (Gn n r4 r5 r6 r7 r8 r9 r10 r11) fun(r13,l14) =>
some (r13,l14)
def p7 (n:Nat) (l1:List (Nat)) (l2:List (Nat)):(List (Nat) × Nat × Nat × Int)→Option ((List (Nat) × Nat × Nat × Int) ⊕ (List (Nat) × Nat × Nat)):=fun(l3,n0,v1,v0) =>
br (decide (v0<(l1.length:Int))) (
gd (bJ v0 l1.length) (
ob (l1[v0.toNat]?) fun x3 =>
ob (
br (decide (v0<(l2.length:Int))) (
gd (bJ v0 l2.length) (
ob (l2[v0.toNat]?) fun x4 =>
some x4)) (
some 0)) fun v2 =>
ob (sO n x3 v2 v1) fun(r0,r1) =>
gd (bJ v0 n0) (
ob (l3[v0.toNat]?) fun _ =>
some (.inl ((l3.set v0.toNat r0),n0,r1,IntKind.wrap .i64 (v0+1)))))) (
some (.inr (l3,n0,v1)))
def J0 (n:Nat) (l2:List (Nat)) (l3:List (Nat)):Option (List Nat) :=
ob (
br (decide ((l2.length:Int)<(l3.length:Int))) (
some (l3,l2)) (
some (l2,l3))) fun(l1,l5) =>
gd (decide (0≤IntKind.wrap .i64 ((l1.length:Int)+1))) (gd (mS ((IntKind.wrap .i64 ((l1.length:Int)+1)).toNat)) (
ob (
bL (p7 n l1 l5) n ((List.replicate (IntKind.wrap .i64 ((l1.length:Int)+1)).toNat (0:Nat)),(IntKind.wrap .i64 ((l1.length:Int)+1)).toNat,0,0)) fun(l4,n0,v0) =>
gd (bJ (l1.length:Int) n0) (
ob (l4[(l1.length:Int).toNat]?) fun _ =>
some (l4.set ((l1.length:Int).toNat) v0))))
def oj (_:Nat) (l1:List (Nat)) (l5:List (Nat)):Int→Option ((Int) ⊕ ((Int) ⊕ (Unit))):=fun v11 =>
br (decide (0≤v11)) (
gd (bJ v11 l1.length) (
ob (l1[v11.toNat]?) fun x33 =>
gd (bJ v11 l5.length) (
ob (l5[v11.toNat]?) fun x38 =>
br (decide (x33<x38)) (
some (.inr (.inl (-1)))) (
gd (bJ v11 l1.length) (
gd (bJ v11 l5.length) (
br (decide (x38<x33)) (
some (.inr (.inl 1))) (
some (.inl (IntKind.wrap .i64 (v11-1)))))))))) (
some (.inr (.inr ())))
def I8 (n:Nat) (l1:List (Nat)) (l5:List (Nat)):Option (Int) :=
br (!decide ((l1.length:Int)=(l5.length:Int))) (
some (IntKind.wrap .i64 ((l1.length:Int)-(l5.length:Int)))) (
ob (α:=(Int) ⊕ (Unit)) (
bL (oj n l1 l5) n (IntKind.wrap .i64 ((l1.length:Int)-1))) fun r45=>match r45 with
| .inl v28 =>
some v28
| .inr _ =>
some 0)
def rF (n:Nat) (l1:List (Nat)) (l2:List (Nat)):(List (Nat) × Nat × Int)→Option ((List (Nat) × Nat × Int) ⊕ (List (Nat))):=fun(l3,v1,v0) =>
br (decide (v0<(l1.length:Int))) (
gd (bJ v0 l1.length) (
ob (l1[v0.toNat]?) fun x3 =>
ob (
br (decide (v0<(l2.length:Int))) (
gd (bJ v0 l2.length) (
ob (l2[v0.toNat]?) fun x4 =>
some x4)) (
some 0)) fun v2 =>
ob (Fj n x3 v2 v1) fun(r0,r1) =>
gd (bJ v0 ((l1.length:Int).toNat)) (
ob (l3[v0.toNat]?) fun _ =>
some (.inl ((l3.set v0.toNat r0),r1,IntKind.wrap .i64 (v0+1)))))) (
some (.inr l3))
def I6 (n:Nat) (l1:List (Nat)) (l2:List (Nat)):Option (List Nat) :=
gd (decide (0≤(l1.length:Int))) (gd (mS ((l1.length:Int).toNat)) (
ob (
bL (rF n l1 l2) n ((List.replicate (l1.length:Int).toNat (0:Nat)),0,0)) fun l3 =>
some l3))
def A2 (n:Nat) (x1:Bool) (l2:List (Nat)) (x7:Bool) (l8:List (Nat)):Option (Bool × List Nat) :=
br ((x1 == x7)) (
ob (J0 n l2 l8) fun l18 =>
ob (ze n x1 l18) fun(r22,l23) =>
some (r22,l23)) (
ob (
ob (I8 n l2 l8) fun r39 =>
br (decide (r39<0)) (
some (x7,l8,x1,l2)) (
some (x1,l2,x7,l8))) fun(v30,l31,_,l35) =>
ob (I6 n l31 l35) fun l44 =>
ob (ze n v30 l44) fun(r48,l49) =>
some (r48,l49))
def AK (_:Nat) (x1:Nat) (x2:Nat):Option (Nat × Nat) :=
ob (some (uw .u64 ((uw .u64 (uw .u64 x1 &&& uw .u64 4294967295))*(uw .u64 (uw .u64 x2 &&& uw .u64 4294967295))))) fun y3 =>
ob (some (uw .u64 ((bZ .u64 x1 32)*(uw .u64 (uw .u64 x2 &&& uw .u64 4294967295))))) fun y5 =>
ob (some (uw .u64 (uw .u64 (uw .u64 (y5+(bZ .u64 y3 32))) &&& uw .u64 4294967295))) fun y7 =>
ob (some (uw .u64 ((uw .u64 (uw .u64 x1 &&& uw .u64 4294967295))*(bZ .u64 x2 32)))) fun y9 =>
ob (some (uw .u64 ((uw .u64 ((bZ .u64 x1 32)*(bZ .u64 x2 32)))+(bZ .u64 (uw .u64 (y5+(bZ .u64 y3 32))) 32)))) fun y11 =>
some (uw .u64 (y11+(bZ .u64 (uw .u64 (y7+y9)) 32)),uw .u64 (x1*x2))
def nq (n:Nat) (l1:List (Nat)) (x3:Nat) (v1:Int) (n0:Nat):(List (Nat) × Nat × Int)→Option ((List (Nat) × Nat × Int) ⊕ (List (Nat) × Nat)):=fun(l2,v2,v0) =>
br (decide (v0<(l1.length:Int))) (
gd (bJ v0 l1.length) (
ob (l1[v0.toNat]?) fun x4 =>
ob (AK n x3 x4) fun(r0,r1) =>
gd (bJ (IntKind.wrap .i64 (v1+v0)) n0) (
ob (l2[(IntKind.wrap .i64 (v1+v0)).toNat]?) fun x5 =>
ob (sO n x5 r1 0) fun(r2,r3) =>
ob (sO n r2 v2 0) fun(r4,r5) =>
gd (bJ (IntKind.wrap .i64 (v1+v0)) n0) (
some (.inl ((l2.set ((IntKind.wrap .i64 (v1+v0)).toNat) r4),uw .u64 ((uw .u64 (r0+r3))+r5),IntKind.wrap .i64 (v0+1))))))) (
some (.inr (l2,v2)))
def nE (n:Nat) (l2:List (Nat)) (l1:List (Nat)):(List (Nat) × Nat × Int)→Option ((List (Nat) × Nat × Int) ⊕ (List (Nat) × Nat)):=fun(l3,n0,v0) =>
br (decide (v0<(l2.length:Int))) (
gd (bJ v0 l2.length) (
ob (l2[v0.toNat]?) fun x3 =>
ob (
bL (nq n l1 x3 v0 n0) n (l3,0,0)) fun(l4,v1) =>
gd (bJ (IntKind.wrap .i64 (v0+(l1.length:Int))) n0) (
ob (l4[(IntKind.wrap .i64 (v0+(l1.length:Int))).toNat]?) fun _ =>
some (.inl ((l4.set ((IntKind.wrap .i64 (v0+(l1.length:Int))).toNat) v1),n0,IntKind.wrap .i64 (v0+1)))))) (
some (.inr (l3,n0)))
def Bf (n:Nat) (l1:List (Nat)) (l2:List (Nat)):Option (List Nat) :=
gd (decide (0≤IntKind.wrap .i64 ((l1.length:Int)+(l2.length:Int)))) (gd (mS ((IntKind.wrap .i64 ((l1.length:Int)+(l2.length:Int))).toNat)) (
ob (
bL (nE n l1 l2) n ((List.replicate (IntKind.wrap .i64 ((l1.length:Int)+(l2.length:Int))).toNat (0:Nat)),(IntKind.wrap .i64 ((l1.length:Int)+(l2.length:Int))).toNat,0)) fun(l3,_) =>
some l3))
def Jb (n:Nat) (x1:Bool) (l2:List (Nat)) (x7:Bool) (l8:List (Nat)):Option (Bool × List Nat) :=
ob (Bf n l2 l8) fun l17 =>
ob (ze n (!(x1 == x7)) l17) fun(r21,l22) =>
some (r21,l22)
def Hn (n:Nat) (x1:Bool) (l2:List (Nat)):Option (Bool × List Nat) :=
ob (ze n (!x1) l2) fun(r10,l11) =>
some (r10,l11)
def IU (n:Nat) (x1:Bool) (l2:List (Nat)) (x7:Bool) (l8:List (Nat)):Option (Bool × List Nat) :=
ob (Hn n x7 l8) fun(r17,l18) =>
ob (A2 n x1 l2 r17 l18) fun(r23,l24) =>
some (r23,l24)
def AI (n:Nat) (x1:Nat):Option (Int) :=
ob (I1 n x1) fun r3 =>
some (IntKind.wrap .i64 (64-r3))
def pa (_:Nat):(Nat × Nat × Nat × Nat × Nat × Nat × Nat × Nat)→Option ((Nat × Nat × Nat × Nat × Nat × Nat × Nat × Nat) ⊕ (Nat × Nat × Nat × Nat × Nat × Nat × Nat)):=fun(v20,v21,v22,v23,v24,v25,v26,v27) =>
ob (
br (decide (4294967296≤v26)) (
some true) (
some (decide (uw .u64 ((uw .u64 (4294967296*v27))+v24)<uw .u64 (v26*v23))))) fun v63 =>
br (v63) (
br (decide (4294967296≤uw .u64 (v27+v22))) (
some (.inr (v20,v21,v22,v23,v24,v25,e9 .u64 v26 1))) (
some (.inl (v20,v21,v22,v23,v24,v25,e9 .u64 v26 1,uw .u64 (v27+v22))))) (
some (.inr (v20,v21,v22,v23,v24,v25,v26)))
def eV (_:Nat) (v3:Nat) (v4:Nat) (v2:Nat):(Nat × Nat)→Option ((Nat × Nat) ⊕ (Nat)):=fun(v1,v0) =>
ob (
br (decide (4294967296≤v0)) (
some true) (
some (decide (uw .u64 ((uw .u64 (4294967296*v1))+v3)<uw .u64 (v0*v4))))) fun v5 =>
br (v5) (
br (decide (4294967296≤uw .u64 (v1+v2))) (
some (.inr (e9 .u64 v0 1))) (
some (.inl (uw .u64 (v1+v2),e9 .u64 v0 1)))) (
some (.inr v0))
def BF (n:Nat) (x1:Nat) (x2:Nat) (x3:Nat):Option (Nat × Nat) :=
br (decide (x3=0)) (
none) (
br (decide (x3≤x1)) (
none) (
br (decide (x1=0)) (
gd (decide (0<x3)) (
gd (decide (0<x3)) (
some (uw .u64 (x2/x3),x2%x3)))) (
ob (AI n x3) fun r0 =>
ob (some (uw .u64 (uw .u64 (fX .u64 x1 (ui .u64 r0)) ||| uw .u64 (bZ .u64 x2 (e9 .u64 64 (ui .u64 r0)))))) fun y2 =>
gd (decide (0<bZ .u64 (fX .u64 x3 (ui .u64 r0)) 32)) (
ob (some (uw .u64 ((uw .u64 (y2/(bZ .u64 (fX .u64 x3 (ui .u64 r0)) 32)))*(bZ .u64 (fX .u64 x3 (ui .u64 r0)) 32)))) fun y4 =>
ob (
bL (pa n) n (fX .u64 x3 (ui .u64 r0),ui .u64 r0,bZ .u64 (fX .u64 x3 (ui .u64 r0)) 32,uw .u64 (uw .u64 (fX .u64 x3 (ui .u64 r0)) &&& uw .u64 4294967295),bZ .u64 (fX .u64 x2 (ui .u64 r0)) 32,uw .u64 (uw .u64 (fX .u64 x2 (ui .u64 r0)) &&& uw .u64 4294967295),uw .u64 (y2/(bZ .u64 (fX .u64 x3 (ui .u64 r0)) 32)),e9 .u64 y2 y4)) fun(v1,v5,v0,v6,v7,v2,v3) =>
ob (some (e9 .u64 (uw .u64 ((uw .u64 (y2*4294967296))+v7)) (uw .u64 (v3*v1)))) fun y3 =>
gd (decide (0<v0)) (
ob (
bL (eV n v2 v6 v0) n (e9 .u64 y3 (uw .u64 ((uw .u64 (y3/v0))*v0)),uw .u64 (y3/v0))) fun v4 =>
ob (some (e9 .u64 (uw .u64 ((uw .u64 (y3*4294967296))+v2)) (uw .u64 (v4*v1)))) fun y5 =>
some (uw .u64 ((uw .u64 (v3*4294967296))+v4),bZ .u64 y5 v5))))))
def FI (n:Nat) (l1:List (Nat)):Option (Int) :=
br (decide ((l1.length:Int)=0)) (
some 0) (
gd (bJ (IntKind.wrap .i64 ((l1.length:Int)-1)) l1.length) (
ob (l1[(IntKind.wrap .i64 ((l1.length:Int)-1)).toNat]?) fun x9 =>
ob (AI n x9) fun r12 =>
some (IntKind.wrap .i64 ((IntKind.wrap .i64 (64*(l1.length:Int)))-r12))))
def CA (_:Nat) (l2:List (Nat)) (x3:Int):(List (Nat) × Nat × Int)→Option ((List (Nat) × Nat × Int) ⊕ (List (Nat) × Nat)):=fun(l1,n0,v0) =>
br (decide (v0<(l2.length:Int))) (
ob (
gd (bJ v0 l2.length) (
ob (l2[v0.toNat]?) fun x4 =>
gd (bJ (IntKind.wrap .i64 (v0+(IntKind.wrap .i64 (Int.tdiv x3 64)))) n0) (
ob (l1[(IntKind.wrap .i64 (v0+(IntKind.wrap .i64 (Int.tdiv x3 64)))).toNat]?) fun x5 =>
gd (decide (0≤Int.tmod x3 64)) (
ob (some (uw .u64 (uw .u64 x5 ||| uw .u64 (fX .u64 x4 (Int.tmod x3 64).toNat)))) fun y2 =>
gd (bJ (IntKind.wrap .i64 (v0+(IntKind.wrap .i64 (Int.tdiv x3 64)))) n0) (
br (decide (0<Int.tmod x3 64)) (
ob (some (IntKind.wrap .i64 ((IntKind.wrap .i64 (v0+(IntKind.wrap .i64 (Int.tdiv x3 64))))+1))) fun y3 =>
gd (decide (0≤IntKind.wrap .i64 (64-(Int.tmod x3 64)))) (
gd (bJ y3 n0) (
ob ((l1.set ((IntKind.wrap .i64 (v0+(IntKind.wrap .i64 (Int.tdiv x3 64)))).toNat) y2)[y3.toNat]?) fun _ =>
some ((l1.set ((IntKind.wrap .i64 (v0+(IntKind.wrap .i64 (Int.tdiv x3 64)))).toNat) y2).set y3.toNat (bZ .u64 x4 (IntKind.wrap .i64 (64-(Int.tmod x3 64))).toNat))))) (
some (l1.set ((IntKind.wrap .i64 (v0+(IntKind.wrap .i64 (Int.tdiv x3 64)))).toNat) y2))))))) fun l3 =>
some (.inl (l3,n0,IntKind.wrap .i64 (v0+1)))) (
some (.inr (l1,n0)))
def Hr (n:Nat) (l1:List (Nat)) (x3:Int):Option (List Nat) :=
ob (some (IntKind.wrap .i64 ((l1.length:Int)+(IntKind.wrap .i64 (Int.tdiv x3 64))))) fun y2 =>
gd (decide (0≤IntKind.wrap .i64 (y2+1))) (gd (mS ((IntKind.wrap .i64 (y2+1)).toNat)) (
ob (
bL (CA n l1 x3) n ((List.replicate (IntKind.wrap .i64 (y2+1)).toNat (0:Nat)),(IntKind.wrap .i64 (y2+1)).toNat,0)) fun(l2,_) =>
ob (ze n false l2) fun(_,l3) =>
some l3))
def rI (n:Nat) (l1:List (Nat)) (l6:List (Nat)):(List (Nat) × Nat × Int)→Option ((List (Nat) × Nat × Int) ⊕ (List (Nat) × Nat)):=fun(l37,v38,v39) =>
br (decide (0≤v39)) (
gd (bJ v39 l1.length) (
ob (l1[v39.toNat]?) fun x67 =>
gd (bJ 0 l6.length) (
ob (l6[(0:Int).toNat]?) fun x72 =>
ob (BF n v38 x67 x72) fun(r75,r76) =>
gd (bJ v39 ((l1.length:Int).toNat)) (
ob (l37[v39.toNat]?) fun _ =>
some (.inl ((l37.set v39.toNat r75),r76,IntKind.wrap .i64 (v39-1))))))) (
some (.inr (l37,v38)))
def FZ (n:Nat) (l5:List (Nat)) (l3:List (Nat)):(List (Nat) × List (Nat) × Int)→Option ((List (Nat) × List (Nat) × Int) ⊕ (List (Nat) × List (Nat))):=fun(l1,l2,v0) =>
br (decide (0≤v0)) (
ob (
ob (Hr n l5 v0) fun l4 =>
ob (I8 n l2 l4) fun r0 =>
br (decide (0≤r0)) (
ob (I6 n l2 l4) fun l6 =>
ob (ze n false l6) fun(_,l7) =>
gd (bJ (IntKind.wrap .i64 (Int.tdiv v0 64)) ((l3.length:Int).toNat)) (
ob (l1[(IntKind.wrap .i64 (Int.tdiv v0 64)).toNat]?) fun x3 =>
gd (decide (0≤Int.tmod v0 64)) (
ob (some (uw .u64 (uw .u64 x3 ||| uw .u64 (fX .u64 1 (Int.tmod v0 64).toNat)))) fun y2 =>
gd (bJ (IntKind.wrap .i64 (Int.tdiv v0 64)) ((l3.length:Int).toNat)) (
some ((l1.set ((IntKind.wrap .i64 (Int.tdiv v0 64)).toNat) y2),l7))))) (
some (l1,l2))) fun(l8,l9) =>
some (.inl (l8,l9,IntKind.wrap .i64 (v0-1)))) (
some (.inr (l1,l2)))
def I5 (n:Nat) (l1:List (Nat)) (l2:List (Nat)):Option (List Nat × List Nat) :=
gd (decide (0≤(l1.length:Int))) (gd (mS ((l1.length:Int).toNat)) (
br (decide ((l2.length:Int)=1)) (
ob (
bL (rI n l1 l2) n ((List.replicate (l1.length:Int).toNat (0:Nat)),0,IntKind.wrap .i64 ((l1.length:Int)-1))) fun(l3,v0) =>
ob (ze n false ([v0])) fun(_,l4) =>
some (l3,l4)) (
ob (FI n l1) fun r0 =>
ob (FI n l2) fun r1 =>
ob (
bL (FZ n l2 l1) n ((List.replicate (l1.length:Int).toNat (0:Nat)),l1,IntKind.wrap .i64 (r0-r1))) fun(l5,l6) =>
some (l5,l6))))
def Hc (n:Nat) (x1:Bool) (l2:List (Nat)) (x7:Bool) (l8:List (Nat)):Option (Bool × List Nat × Bool × List Nat) :=
ob (I5 n l2 l8) fun(l18,l22) =>
ob (ze n (!(x1 == x7)) l18) fun(r27,l28) =>
ob (ze n x1 l22) fun(r33,l34) =>
ob (
br (r33) (
ob (A2 n r33 l34 false l8) fun(r65,l66) =>
ob (A2 n r27 l28 (!x7) ([1])) fun(r73,l74) =>
some (r73,l74,r65,l66)) (
some (r27,l28,r33,l34))) fun(v54,l55,v58,l59) =>
some (v54,l55,v58,l59)
def jQ (n:Nat) (l2:List (Int × Int)) (x5:Nat) (l4:List (Int × Bool)):(Int × List (Int) × Nat)→Option ((Int × List (Int) × Nat) ⊕ ((Bool × List (Nat) × List (Int) × Nat) ⊕ (List (Int) × Nat))):=fun(v0,l1,n0) =>
br (decide (v0<(l2.length:Int))) (
gd (bJ v0 l2.length) (
ob (l2[v0.toNat]?) fun(x3,x4) =>
ob (α:=(Bool × List (Nat) × List (Int) × Nat) ⊕ (List (Int) × Nat)) (
ob (CF n x5 x3 x4) fun r2 =>
br (r2) (
ob (α:=(Bool × List (Nat) × List (Int) × Nat) ⊕ (List (Int) × Nat)) (
ob (
ob (some ((cg l4 v0).getD false)) fun y2 =>
br (y2) (
ob (
ob (Gv n l1 x3) fun r0 =>
ob (Gv n l1 x4) fun r1 =>
gd (bJ (ma r0 r1) l1.length) (
ob (l1[(ma r0 r1).toNat]?) fun _ =>
some (!decide (r0=r1),(l1.set ((ma r0 r1).toNat) (mi r0 r1))))) fun(v1,l5) =>
some (l5,l1.length,!v1)) (
some (l1,n0,false))) fun(l3,n1,v2) =>
br (v2) (
ob (ry n 0) fun(r3,l6) =>
some (.inl (r3,l6,l3,n1))) (
some (.inr (l3,n1)))) fun r4=>match r4 with
| .inl (v3,l7,l8,n2) =>
some (.inl (v3,l7,l8,n2))
| .inr (l9,n3) =>
some (.inr (l9,n3))) (
some (.inr (l1,n0)))) fun r5=>match r5 with
| .inl (v4,l10,l11,n4) =>
some (.inr (.inl (v4,l10,l11,n4)))
| .inr (l12,n5) =>
some (.inl (IntKind.wrap .i64 (v0+1),l12,n5)))) (
some (.inr (.inr (l1,n0))))
def uF (_:Nat) (n0:Nat) (l2:List (Int)):(Int × List (Int × Int))→Option ((Int × List (Int × Int)) ⊕ (Int × List (Int × Int))):=fun(v0,l1) =>
gd (bJ v0 n0) (
ob (l2[v0.toNat]?) fun x3 =>
br (!decide (x3=v0)) (
gd (bJ v0 n0) (
some (.inl (x3,l1)))) (
some (.inr (v0,l1))))
def Dh (_:Nat) (n0:Nat) (l1:List (Int)):Int→Option ((Int) ⊕ (Int)):=fun v0 =>
gd (bJ v0 n0) (
ob (l1[v0.toNat]?) fun x3 =>
br (!decide (x3=v0)) (
gd (bJ v0 n0) (
some (.inl x3))) (
some (.inr v0)))
def nX (n:Nat) (x3:Nat) (n0:Nat) (l2:List (Int)) (v1:Int):(List (Int × Int) × Int)→Option ((List (Int × Int) × Int) ⊕ (List (Int × Int))):=fun(l1,v0) =>
br (decide (v0<64)) (
ob (
ob (
gd (decide (0≤v0)) (
br (decide (uw .u64 (uw .u64 (bZ .u64 x3 v0.toNat) &&& uw .u64 1)=1)) (
ob (
ob (
bL (Dh n n0 l2) n v0) fun v2 =>
some v2) fun v3 =>
br (decide (v3=v0)) (
some (!decide (v0=v1))) (
some false)) (
some false))) fun v4 =>
br (v4) (
ob (some (l1.length)) fun y2 =>
some (ez l1 v0 (y2:Int))) (
some l1)) fun l3 =>
some (.inl (l3,IntKind.wrap .i64 (v0+1)))) (
some (.inr l1))
def pN (_:Nat) (y3:Nat) (l2:List (Int × Int)):(List (List (Bool × List Nat)) × Int)→Option ((List (List (Bool × List Nat)) × Int) ⊕ (List (List (Bool × List Nat)))):=fun(l1,v0) =>
br (decide (v0<((y3:Int).toNat:Int))) (
ob (some (l2.length)) fun y2 =>
gd (decide (0≤(y2:Int))) (gd (mS ((y2:Int).toNat)) (
gd (bJ v0 ((y3:Int).toNat)) (
ob (l1[v0.toNat]?) fun _ =>
gd (decide (0<(y2:Int).toNat)) (
some (.inl ((l1.set v0.toNat (List.replicate ((y2:Int).toNat) (false,[]))),IntKind.wrap .i64 (v0+1)))))))) (
some (.inr l1))
def zj (_:Nat) (n0:Nat) (l1:List (Int)):Int→Option ((Int) ⊕ (Int)):=fun v0 =>
gd (bJ v0 n0) (
ob (l1[v0.toNat]?) fun x3 =>
br (!decide (x3=v0)) (
gd (bJ v0 n0) (
some (.inl x3))) (
some (.inr v0)))
def zm (_:Nat) (n0:Nat) (l1:List (Int)):Int→Option ((Int) ⊕ (Int)):=fun v0 =>
gd (bJ v0 n0) (
ob (l1[v0.toNat]?) fun x3 =>
br (!decide (x3=v0)) (
gd (bJ v0 n0) (
some (.inl x3))) (
some (.inr v0)))
def q8 (n:Nat) (l10:List (Int × Int)) (x5:Nat) (n0:Nat) (l15:List (Int)) (l16:List (Int × Bool)) (l1:List (Int × Int)) (y2:Nat):(Int × List (List (Bool × List Nat)))→Option ((Int × List (List (Bool × List Nat))) ⊕ (List (List (Bool × List Nat)))):=fun(v2,l2) =>
br (decide (v2<(l10.length:Int))) (
gd (bJ v2 l10.length) (
ob (l10[v2.toNat]?) fun(x3,x4) =>
ob (
ob (CF n x5 x3 x4) fun r0 =>
br (r0) (
ob (
ob (
ob (
bL (zj n n0 l15) n x3) fun v3 =>
some v3) fun v0 =>
ob (
ob (
bL (zm n n0 l15) n x4) fun v4 =>
some v4) fun v1 =>
ob (
ob (some ((cg l16 v2).getD false)) fun y11 =>
br (y11) (
some true) (
some (decide (v0=v1)))) fun v5 =>
br (v5) (
some l2) (
ob (
ob (some ((cg l1 v0).getD (0:Int),(cg l1 v0).isSome)) fun(y3,y12) =>
ob (some ((cg l1 v0).getD (0:Int),(cg l1 v0).isSome)) fun(y4,y13) =>
ob (
br (y12) (
some y13) (
some false)) fun v6 =>
br (v6) (
gd (bJ y3 ((y2:Int).toNat)) (
ob (l2[y3.toNat]?) fun l3 =>
gd (decide (0<l3.length)) (
gd (bJ y3 ((y2:Int).toNat)) (
ob (l2[y3.toNat]?) fun l11 =>
gd (decide (0<l11.length)) (
gd (bJ y4 l11.length) (
ob (l11[y4.toNat]?) fun(x6,l17) =>
ob (ry n 1) fun(r1,l18) =>
ob (A2 n x6 l17 r1 l18) fun(r2,l19) =>
gd (bJ y4 l3.length) (
gd (Nat.blt y4.toNat l3.length) (
some (l2.set y3.toNat (l3.set y4.toNat (r2,l19))))))))))) (
some l2)) fun l4 =>
ob (
ob (some ((cg l1 v1).getD (0:Int),(cg l1 v1).isSome)) fun(y5,y14) =>
ob (some ((cg l1 v1).getD (0:Int),(cg l1 v1).isSome)) fun(y6,y15) =>
ob (
br (y14) (
some y15) (
some false)) fun v7 =>
br (v7) (
gd (bJ y5 ((y2:Int).toNat)) (
ob (l4[y5.toNat]?) fun l5 =>
gd (decide (0<l5.length)) (
gd (bJ y5 ((y2:Int).toNat)) (
ob (l4[y5.toNat]?) fun l12 =>
gd (decide (0<l12.length)) (
gd (bJ y6 l12.length) (
ob (l12[y6.toNat]?) fun(x7,l20) =>
ob (ry n 1) fun(r3,l21) =>
ob (A2 n x7 l20 r3 l21) fun(r4,l22) =>
gd (bJ y6 l5.length) (
gd (Nat.blt y6.toNat l5.length) (
some (l4.set y5.toNat (l5.set y6.toNat (r4,l22))))))))))) (
some l4)) fun l6 =>
ob (
ob (some ((cg l1 v0).getD (0:Int),(cg l1 v0).isSome)) fun(y7,y16) =>
ob (some ((cg l1 v1).getD (0:Int),(cg l1 v1).isSome)) fun(y8,y17) =>
ob (
br (y16) (
some y17) (
some false)) fun v8 =>
br (v8) (
gd (bJ y7 ((y2:Int).toNat)) (
ob (l6[y7.toNat]?) fun l7 =>
gd (decide (0<l7.length)) (
gd (bJ y7 ((y2:Int).toNat)) (
ob (l6[y7.toNat]?) fun l13 =>
gd (decide (0<l13.length)) (
gd (bJ y8 l13.length) (
ob (l13[y8.toNat]?) fun(x8,l23) =>
ob (ry n (-1)) fun(r5,l24) =>
ob (A2 n x8 l23 r5 l24) fun(r6,l25) =>
gd (bJ y8 l7.length) (
gd (Nat.blt y8.toNat l7.length) (
some (l6.set y7.toNat (l7.set y8.toNat (r6,l25))))))))))) (
some l6)) fun l8 =>
ob (
ob (some ((cg l1 v1).getD (0:Int),(cg l1 v1).isSome)) fun(y9,y18) =>
ob (some ((cg l1 v0).getD (0:Int),(cg l1 v0).isSome)) fun(y10,y19) =>
ob (
br (y18) (
some y19) (
some false)) fun v9 =>
br (v9) (
gd (bJ y9 ((y2:Int).toNat)) (
ob (l8[y9.toNat]?) fun l9 =>
gd (decide (0<l9.length)) (
gd (bJ y9 ((y2:Int).toNat)) (
ob (l8[y9.toNat]?) fun l14 =>
gd (decide (0<l14.length)) (
gd (bJ y10 l14.length) (
ob (l14[y10.toNat]?) fun(x9,l26) =>
ob (ry n (-1)) fun(r7,l27) =>
ob (A2 n x9 l26 r7 l27) fun(r8,l28) =>
gd (bJ y10 l9.length) (
gd (Nat.blt y10.toNat l9.length) (
some (l8.set y9.toNat (l9.set y10.toNat (r8,l28))))))))))) (
some l8)) fun l29 =>
some l29)) fun l30 =>
some l30) (
some l2)) fun l31 =>
some (.inl (IntKind.wrap .i64 (v2+1),l31)))) (
some (.inr l2))
def po (n:Nat) (y2:Nat) (v2:Int) (v1:Int) (x3:Bool) (l6:List Nat) (v3:Bool) (l7:List (Nat)):(List (List (Bool × List Nat)) × Int)→Option ((List (List (Bool × List Nat)) × Int) ⊕ (List (List (Bool × List Nat)))):=fun(l1,v0) =>
br (decide (v0<((y2:Int).toNat:Int))) (
gd (bJ v2 ((y2:Int).toNat)) (
ob (l1[v2.toNat]?) fun l3 =>
gd (decide (0<l3.length)) (
gd (bJ v0 l3.length) (
ob (l3[v0.toNat]?) fun(x4,l8) =>
gd (bJ v1 ((y2:Int).toNat)) (
ob (l1[v1.toNat]?) fun l4 =>
gd (decide (0<l4.length)) (
gd (bJ v1 l4.length) (
ob (l4[v1.toNat]?) fun(x5,l9) =>
ob (Jb n x4 l8 x5 l9) fun(r0,l10) =>
gd (bJ v1 ((y2:Int).toNat)) (
ob (l1[v1.toNat]?) fun l5 =>
gd (decide (0<l5.length)) (
gd (bJ v0 l5.length) (
ob (l5[v0.toNat]?) fun(x6,l11) =>
ob (Jb n x3 l6 x6 l11) fun(r1,l12) =>
ob (IU n r0 l10 r1 l12) fun(r2,l13) =>
gd (bJ v2 ((y2:Int).toNat)) (
ob (l1[v2.toNat]?) fun l2 =>
gd (decide (0<l2.length)) (
ob (Hc n r2 l13 v3 l7) fun(r3,l14,_,_) =>
gd (bJ v0 l2.length) (
gd (Nat.blt v0.toNat l2.length) (
some (.inl ((l1.set v2.toNat (l2.set v0.toNat (r3,l14))),IntKind.wrap .i64 (v0+1))))))))))))))))) (
some (.inr l1))
def nr (n:Nat) (y2:Nat) (v1:Int) (v2:Bool) (l3:List (Nat)):(List (List (Bool × List Nat)) × Int)→Option ((List (List (Bool × List Nat)) × Int) ⊕ (List (List (Bool × List Nat)))):=fun(l1,v0) =>
br (decide (v0<((y2:Int).toNat:Int))) (
gd (bJ v0 ((y2:Int).toNat)) (
ob (l1[v0.toNat]?) fun l2 =>
gd (decide (0<l2.length)) (
gd (bJ v1 l2.length) (
ob (l2[v1.toNat]?) fun(x3,l4) =>
ob (
bL (po n y2 v0 v1 x3 l4 v2 l3) n (l1,v1)) fun l5 =>
some (.inl (l5,IntKind.wrap .i64 (v0+1))))))) (
some (.inr l1))
def iu (n:Nat) (y2:Nat):(List (List (Bool × List Nat)) × Bool × List (Nat) × Int)→Option ((List (List (Bool × List Nat)) × Bool × List (Nat) × Int) ⊕ ((Bool × List (Nat)) ⊕ (Bool × List (Nat)))):=fun(l3,v1,l4,v0) =>
br (decide (v0<((y2:Int).toNat:Int))) (
gd (bJ v0 ((y2:Int).toNat)) (
ob (l3[v0.toNat]?) fun l1 =>
gd (decide (0<l1.length)) (
gd (bJ v0 l1.length) (
ob (l1[v0.toNat]?) fun(x3,l6) =>
ob (D4 n x3 l6) fun r0 =>
br (decide (r0=0)) (
ob (ry n 0) fun(r1,l7) =>
some (.inr (.inl (r1,l7)))) (
ob (
bL (nr n y2 v0 v1 l4) n (l3,IntKind.wrap .i64 (v0+1))) fun l5 =>
gd (bJ v0 ((y2:Int).toNat)) (
ob (l5[v0.toNat]?) fun l2 =>
gd (decide (0<l2.length)) (
gd (bJ v0 l2.length) (
ob (l2[v0.toNat]?) fun(x4,l8) =>
some (.inl (l5,x4,l8,IntKind.wrap .i64 (v0+1))))))))))) (
some (.inr (.inr (v1,l4))))
def tx (n:Nat) (_:Int) (l3:List (Int × Int)) (x3:Nat) (l5:List (Int × Bool)) (l6:List (Int × Bool)):Option (Bool × List Nat) :=
ob (Ja n) fun l4 =>
ob (
some ()) fun _ =>
ob (α:=(Bool × List (Nat) × List (Int) × Nat) ⊕ (List (Int) × Nat)) (
ob (α:=(Bool × List (Nat) × List (Int) × Nat) ⊕ (List (Int) × Nat)) (
bL (jQ n l3 x3 l5) n (0,l4,l4.length)) fun r0=>match r0 with
| .inl (v0,l7,l8,n1) =>
some (.inl (v0,l7,l8,n1))
| .inr (l9,n2) =>
some (.inr (l9,n2))) fun r1=>match r1 with
| .inl (v1,l10,_,_) =>
some (v1,l10)
| .inr (l1,n0) =>
ob (I7 n x3) fun r2 =>
ob (
ob (
bL (uF n n0 l1) n (r2,([]:List (Int × Int)))) fun(v2,l11) =>
some (v2,l11)) fun(v3,l12) =>
ob (
bL (nX n x3 n0 l1 v3) n (l12,0)) fun l2 =>
ob (some (l2.length)) fun y2 =>
gd (decide (0≤(y2:Int))) (gd (mS ((y2:Int).toNat)) (
ob (
bL (pN n y2 l2) n ((List.replicate (y2:Int).toNat ([]:List (Bool × List Nat))),0)) fun l13 =>
ob (
some ()) fun _ =>
ob (
ob (
bL (q8 n l3 x3 n0 l1 l6 l2 y2) n (0,l13)) fun l14 =>
some l14) fun l15 =>
ob (
ob (ry n 1) fun(r3,l16) =>
ob (α:=(Bool × List (Nat)) ⊕ (Bool × List (Nat))) (
bL (iu n y2) n (l15,r3,l16,0)) fun r4=>match r4 with
| .inl (v4,l17) =>
some (v4,l17)
| .inr (v5,l18) =>
some (v5,l18)) fun(v6,l19) =>
some (v6,l19)))
def I3 (n:Nat) (x1:Bool) (l2:List (Nat)) (x6:Bool) (l7:List (Nat)):Option (Int) :=
ob (IU n x1 l2 x6 l7) fun(r14,l15) =>
ob (D4 n r14 l15) fun r20 =>
some r20
def fT (n:Nat) (l5:List (Int × Int)) (x3:Nat) (x1:Int):(Int × Bool × List (Nat) × List (Int × Bool) × List (Int × Bool) × List (Int))→Option ((Int × Bool × List (Nat) × List (Int × Bool) × List (Int × Bool) × List (Int)) ⊕ (Bool × List (Nat) × List (Int × Bool) × List (Int × Bool) × List (Int))):=fun(v0,v1,l1,l2,l3,l4) =>
br (decide (v0<(l5.length:Int))) (
gd (bJ v0 l5.length) (
ob (l5[v0.toNat]?) fun(x4,x5) =>
ob (
ob (CF n x3 x4 x5) fun r1 =>
br (r1) (
ob (
ob (tx n x1 l5 x3 (ez l2 v0 true) l3) fun(r0,l6) =>
ob (I3 n v1 l1 r0 l6) fun r2 =>
br (decide (r2<0)) (
gd (mS (l4++[v0]).length) (
some (v1,l1,(ez l2 v0 true),l3,(l4++[v0])))) (
ob (IU n v1 l1 r0 l6) fun(r3,l7) =>
some (r3,l7,(DF (ez l2 v0 true) v0),(ez l3 v0 true),l4))) fun(v2,l8,l9,l10,l11) =>
some (v2,l8,l9,l10,l11)) (
some (v1,l1,l2,l3,l4))) fun(v3,l12,l13,l14,l15) =>
some (.inl (IntKind.wrap .i64 (v0+1),v3,l12,l13,l14,l15)))) (
some (.inr (v1,l1,l2,l3,l4)))
def DX (n:Nat) (x1:Int) (l1:List (Int × Int)) (x3:Nat) (x4:Nat) (x5:Nat) (x6:Nat) (x7:Nat) (x8:Nat) (x9:Nat) (x10:Nat) (x11:Nat):Option (List Int × Int) :=
ob (FV n x1 l1 x3) fun r1 =>
br (!decide (r1=0)) (
some ([],r1)) (
ob (Gn n x4 x5 x6 x7 x8 x9 x10 x11) fun(r0,l2) =>
ob (
ob (D4 n r0 l2) fun r2 =>
br (decide (r2<0)) (
some true) (
ob (tx n x1 l1 x3 [] []) fun(r3,l3) =>
ob (I3 n r0 l2 r3 l3) fun r4 =>
some (decide (0≤r4)))) fun v0 =>
br (v0) (
some ([],2)) (
ob (
some (([]:List (Int × Bool)),([]:List (Int × Bool)))) fun(l4,l5) =>
ob (
ob (
bL (fT n l1 x3 x1) n (0,r0,l2,l4,l5,([]:List (Int)))) fun(v1,l6,l7,l8,l9) =>
some (v1,l6,l7,l8,l9)) fun(_,_,_,_,l10) =>
some (l10,0)))
def Gq (_:Nat):(List (Nat) × List (Nat) × Int)→Option ((List (Nat) × List (Nat) × Int) ⊕ ((Int) ⊕ (Unit))):=fun(l32,l33,v34) =>
br (decide (0≤v34)) (
gd (bJ v34 8) (
ob (l32[v34.toNat]?) fun x52 =>
gd (bJ v34 8) (
ob (l33[v34.toNat]?) fun x55 =>
br (!decide (x52=x55)) (
gd (bJ v34 8) (
gd (bJ v34 8) (
br (decide (x52<x55)) (
some (.inr (.inl (-1)))) (
some (.inr (.inl 1)))))) (
some (.inl (l32,l33,IntKind.wrap .i64 (v34-1))))))) (
some (.inr (.inr ())))
def La (n:Nat) (x1:Nat) (x2:Nat) (x3:Nat) (x4:Nat) (x5:Nat) (x6:Nat) (x7:Nat) (x8:Nat) (x9:Nat) (x10:Nat) (x11:Nat) (x12:Nat) (x13:Nat) (x14:Nat) (x15:Nat) (x16:Nat):Option (Int) :=
ob (α:=(Int) ⊕ (Unit)) (
bL (Gq n) n (([x1,x2,x3,x4,x5,x6,x7,x8]:List (Nat)),([x9,x10,x11,x12,x13,x14,x15,x16]:List (Nat)),7)) fun r62=>match r62 with
| .inl v49 =>
some v49
| .inr _ =>
some 0
def KP (n:Nat) (x1:Bool) (x2:Nat) (x3:Nat) (x4:Nat) (x5:Nat) (x6:Nat) (x7:Nat) (x8:Nat) (x9:Nat):Option (Nat × Nat × Nat × Nat × Nat × Nat × Nat × Nat × Int) :=
ob (La n x2 x3 x4 x5 x6 x7 x8 x9 0 0 0 0 0 0 0 9223372036854775808) fun r24 =>
ob (
br (decide (0<r24)) (
some true) (
br (decide (r24=0)) (
some (!x1)) (
some false))) fun v27 =>
br (v27) (
some (0,0,0,0,0,0,0,0,6)) (
ob (
br (x1) (
ob (KB n 0 0 0 0 0 0 0 0 x2 x3 x4 x5 x6 x7 x8 x9) fun(r54,r55,r56,r57,r58,r59,r60,r61,_) =>
some (r54,r55,r56,r57,r58,r59,r60,r61)) (
some (x2,x3,x4,x5,x6,x7,x8,x9))) fun(v44,v45,v46,v47,v48,v49,v50,v51) =>
some (v44,v45,v46,v47,v48,v49,v50,v51,0))
def Gm (n:Nat) (x1:Bool) (l2:List (Nat)):Option (Nat × Nat × Nat × Nat × Nat × Nat × Nat × Nat × Int) :=
br (decide (8<(l2.length:Int))) (
some (0,0,0,0,0,0,0,0,6)) (
gd (decide ((l2:List (Nat)).length≤8)) (
ob (JM ((l2:List (Nat))++([0,0,0,0,0,0,0,0]:List (Nat)).drop (l2:List (Nat)).length)) fun(x12,x13,x14,x15,x16,x17,x18,x19) =>
ob (KP n x1 x12 x13 x14 x15 x16 x17 x18 x19) fun(r21,r22,r23,r24,r25,r26,r27,r28,r29) =>
some (r21,r22,r23,r24,r25,r26,r27,r28,r29)))
def ym (n:Nat) (x1:Int) (l2:List (Int × Int)) (x6:Nat):Option (Nat × Nat × Nat × Nat × Nat × Nat × Nat × Nat × Int) :=
ob (FV n x1 l2 x6) fun r10 =>
br (!decide (r10=0)) (
some (0,0,0,0,0,0,0,0,r10)) (
ob (tx n x1 l2 x6 [] []) fun(r13,l14) =>
ob (Gm n r13 l14) fun(r19,r20,r21,r22,r23,r24,r25,r26,r27) =>
some (r19,r20,r21,r22,r23,r24,r25,r26,r27))
def Lx (_:Nat) (x1:Nat):Option (Int) :=
ob (some (uw .u64 ((uw .u64 (uw .u64 (bZ .u64 x1 1) &&& uw .u64 6148914691236517205))+(uw .u64 (uw .u64 x1 &&& uw .u64 6148914691236517205))))) fun y2 =>
ob (some (uw .u64 ((uw .u64 (uw .u64 (bZ .u64 y2 2) &&& uw .u64 3689348814741910323))+(uw .u64 (uw .u64 y2 &&& uw .u64 3689348814741910323))))) fun y4 =>
ob (some (uw .u64 (uw .u64 (uw .u64 ((bZ .u64 y4 4)+y4)) &&& uw .u64 1085102592571150095))) fun y6 =>
ob (some (uw .u64 ((uw .u64 (y6+(bZ .u64 y6 8)))+(bZ .u64 (uw .u64 (y6+(bZ .u64 y6 8))) 16)))) fun y8 =>
ob (some (Ha .i64 (IntKind.wrap .i64 ((uw .u64 (y8+(bZ .u64 y8 32)):Nat):Int)) 127)) fun y10 =>
some y10
def F4 (n:Nat) (l3:List (Int)) (l2:List (Int × Int)) (x6:Nat):(List (Int) × Nat × Int × Int)→Option ((List (Int) × Nat × Int × Int) ⊕ ((Unit) ⊕ (Unit))):=fun(l1,n0,v1,v0) =>
br (decide (v0<(l3.length:Int))) (
gd (bJ v0 l3.length) (
ob (l3[v0.toNat]?) fun x3 =>
ob (
br (decide (x3≤v1)) (
some (l1,n0,true)) (
br (decide ((l2.length:Int)≤x3)) (
some (l1,n0,true)) (
gd (bJ x3 l2.length) (
ob (l2[x3.toNat]?) fun(x4,x5) =>
ob (CF n x6 x4 x5) fun r2 =>
br (!r2) (
some (l1,n0,true)) (
gd (bJ x3 l2.length) (
ob (
ob (Gv n l1 x4) fun r0 =>
ob (Gv n l1 x5) fun r1 =>
gd (bJ (ma r0 r1) l1.length) (
ob (l1[(ma r0 r1).toNat]?) fun _ =>
some (!decide (r0=r1),(l1.set ((ma r0 r1).toNat) (mi r0 r1))))) fun(v2,l4) =>
some (l4,l1.length,!v2))))))) fun(l5,n1,v3) =>
br (v3) (
some (.inr (.inl ()))) (
some (.inl (l5,n1,x3,IntKind.wrap .i64 (v0+1)))))) (
some (.inr (.inr ())))
def zQ (n:Nat) (x1:Int) (l1:List (Int × Int)) (x3:Nat) (l2:List (Int)):Option (Int) :=
ob (FV n x1 l1 x3) fun r0 =>
br (!decide (r0=0)) (
some r0) (
ob (Ja n) fun l3 =>
ob (α:=(Unit) ⊕ (Unit)) (
bL (F4 n l2 l1 x3) n (l3,l3.length,-1,0)) fun r1=>match r1 with
| .inl _ =>
some 300
| .inr _ =>
ob (Lx n x3) fun r2 =>
br (!decide ((l2.length:Int)=IntKind.wrap .i64 (r2-1))) (
some 300) (
some 0))
def GD (_:Nat) (l1:List (Int)) (x5:Int):Int→Option ((Int) ⊕ ((Int) ⊕ (Unit))):=fun v7 =>
br (decide (v7<(l1.length:Int))) (
gd (bJ v7 l1.length) (
ob (l1[v7.toNat]?) fun x21 =>
br (decide (x5=x21)) (
some (.inr (.inl v7))) (
some (.inl (IntKind.wrap .i64 (v7+1)))))) (
some (.inr (.inr ())))
def Lb (n:Nat) (l1:List (Int)) (x5:Int):Option (Int) :=
ob (α:=(Int) ⊕ (Unit)) (
bL (GD n l1 x5) n 0) fun r25=>match r25 with
| .inl v16 =>
some v16
| .inr _ =>
some (-1)
def KJ (n:Nat) (l1:List (Int)) (x5:Int):Option (Bool) :=
ob (Lb n l1 x5) fun r7 =>
some (decide (0≤r7))
def Dz (n:Nat) (l2:List (Int × Int)) (x3:Nat):(Int × List (Int))→Option ((Int × List (Int)) ⊕ (List (Int))):=fun(v0,l1) =>
br (decide (v0<(l2.length:Int))) (
gd (bJ v0 l2.length) (
ob (l2[v0.toNat]?) fun(x4,x5) =>
ob (
ob (CF n x3 x4 x5) fun r0 =>
br (r0) (
ob (
gd (mS (l1++[v0]).length) (
some (l1++[v0]))) fun l3 =>
some l3) (
some l1)) fun l4 =>
some (.inl (IntKind.wrap .i64 (v0+1),l4)))) (
some (.inr l1))
def mL (n:Nat) (l1:List (Int)) (l5:List (Int)) (x1:Int) (l6:List (Int × Int)) (x4:Nat):(List (Int × Bool) × List (Int × Bool) × Bool × List (Nat) × Int)→Option ((List (Int × Bool) × List (Int × Bool) × Bool × List (Nat) × Int) ⊕ (Bool × List (Nat))):=fun(l2,l3,v1,l4,v0) =>
br (decide (v0<(l1.length:Int))) (
gd (bJ v0 l1.length) (
ob (l1[v0.toNat]?) fun x3 =>
ob (
ob (KJ n l5 x3) fun r0 =>
br (r0) (
ob (ry n 0) fun(r1,l7) =>
some (r1,l7,(ez l2 x3 true),l3)) (
ob (tx n x1 l6 x4 (ez l2 x3 true) l3) fun(r2,l8) =>
some (r2,l8,(DF (ez l2 x3 true) x3),(ez l3 x3 true)))) fun(v2,l9,l10,l11) =>
ob (A2 n v1 l4 v2 l9) fun(r3,l12) =>
some (.inl (l10,l11,r3,l12,IntKind.wrap .i64 (v0+1))))) (
some (.inr (v1,l4)))
def I9 (n:Nat) (x1:Int) (l1:List (Int × Int)) (x3:Nat) (l2:List (Int)):Option (Nat × Nat × Nat × Nat × Nat × Nat × Nat × Nat × Int) :=
ob (zQ n x1 l1 x3 l2) fun r0 =>
br (!decide (r0=0)) (
some (0,0,0,0,0,0,0,0,r0)) (
ob (
some ()) fun _ =>
ob (
ob (
bL (Dz n l1 x3) n (0,([]:List (Int)))) fun l3 =>
some l3) fun l4 =>
ob (
ob (ry n 0) fun(r1,l5) =>
ob (
bL (mL n l4 l2 x1 l1 x3) n (([]:List (Int × Bool)),([]:List (Int × Bool)),r1,l5,0)) fun(v0,l6) =>
some (v0,l6)) fun(v1,l7) =>
ob (Gm n v1 l7) fun(r2,r3,r4,r5,r6,r7,r8,r9,r10) =>
some (r2,r3,r4,r5,r6,r7,r8,r9,r10))
def Gh (_:Nat) (l1:List (Int)) (l2:List (Int × Int)) (x6:Int):(Nat × Bool × Int)→Option ((Nat × Bool × Int) ⊕ (Nat × Bool)):=fun(v0,v2,v1) =>
br (decide (v1<(l1.length:Int))) (
ob (
gd (bJ v1 l1.length) (
ob (l1[v1.toNat]?) fun x3 =>
gd (bJ x3 l2.length) (
ob (l2[x3.toNat]?) fun(x4,x5) =>
gd (decide (0≤x4)) (
gd (bJ x3 l2.length) (
gd (decide (0≤x5)) (
ob (some (uw .u64 (uw .u64 (fX .u64 1 x4.toNat) ||| uw .u64 (fX .u64 1 x5.toNat)))) fun y2 =>
ob (
br (!decide (x3=x6)) (
br (!decide (uw .u64 (uw .u64 v0 &&& uw .u64 y2)=0)) (
some (!decide (uw .u64 (uw .u64 v0 &&& uw .u64 y2)=y2))) (
some false)) (
some false)) fun v3 =>
br (v3) (
some (uw .u64 (uw .u64 v0 ||| uw .u64 y2),true)) (
some (v0,v2)))))))) fun(v4,v5) =>
some (.inl (v4,v5,IntKind.wrap .i64 (v1+1)))) (
some (.inr (v0,v2)))
def Gt (n:Nat) (l1:List (Int)) (l2:List (Int × Int)) (x3:Int):(Nat × Bool)→Option ((Nat × Bool) ⊕ (Nat)):=fun(v0,v1) =>
br (v1) (
ob (
bL (Gh n l1 l2 x3) n (v0,false,0)) fun(v2,v3) =>
some (.inl (v2,v3))) (
some (.inr v0))
def JD (n:Nat) (_:Int) (l1:List (Int × Int)) (l2:List (Int)) (x4:Int) (x3:Int):Option (Nat) :=
gd (decide (0≤x3)) (
ob (
bL (Gt n l2 l1 x4) n (fX .u64 1 x3.toNat,true)) fun v0 =>
some v0)
def Kt (n:Nat) (x1:Int) (l2:List (Int × Int)) (x6:Nat) (l7:List (Int)) (x11:Int):Option (Nat × Nat × Int) :=
ob (zQ n x1 l2 x6 l7) fun r14 =>
br (!decide (r14=0)) (
some (0,0,r14)) (
ob (KJ n l7 x11) fun r17 =>
br (!r17) (
some (0,0,2)) (
ob (I7 n x6) fun r20 =>
ob (JD n x1 l2 l7 x11 r20) fun r22 =>
some (r22,zg .u64 x6 r22,0)))
def Gk (_:Nat) (x11:Int) (x12:Int) (x1:Int) (x6:Nat):Int→Option ((Int) ⊕ ((Unit) ⊕ (Unit))):=fun v18 =>
br (decide (v18<2)) (
gd (bJ v18 2) (
ob ([x11,x12][v18.toNat]?) fun x61 =>
ob (
br (decide (x61<0)) (
some true) (
br (decide (x1≤x61)) (
some true) (
gd (decide (0≤x61)) (
some (decide (uw .u64 (uw .u64 (bZ .u64 x6 x61.toNat) &&& uw .u64 1)=0)))))) fun v67 =>
br (v67) (
some (.inr (.inl ()))) (
some (.inl (IntKind.wrap .i64 (v18+1)))))) (
some (.inr (.inr ())))
def Gp (n:Nat) (l1:List (Int)) (l2:List (Int × Int)) (x1:Int) (x5:Int) (l3:List (Int)):(Int × Int)→Option ((Int × Int) ⊕ ((List (Int) × Int) ⊕ (Int))):=fun(v0,v1) =>
br (decide (v1<(l1.length:Int))) (
gd (bJ v1 l1.length) (
ob (l1[v1.toNat]?) fun x6 =>
gd (bJ x6 l2.length) (
ob (l2[x6.toNat]?) fun(x3,x4) =>
ob (
br (!decide (x3=v0)) (
br (!decide (x4=v0)) (
some true) (
ob (JD n x1 l2 l1 x6 (IntKind.wrap .i64 ((IntKind.wrap .i64 (x3+x4))-v0))) fun r0 =>
gd (decide (0≤x5)) (
some (decide (uw .u64 (uw .u64 (bZ .u64 r0 x5.toNat) &&& uw .u64 1)=0))))) (
ob (JD n x1 l2 l1 x6 (IntKind.wrap .i64 ((IntKind.wrap .i64 (x3+x4))-v0))) fun r1 =>
gd (decide (0≤x5)) (
some (decide (uw .u64 (uw .u64 (bZ .u64 r1 x5.toNat) &&& uw .u64 1)=0))))) fun v2 =>
br (v2) (
some (.inl (v0,IntKind.wrap .i64 (v1+1)))) (
gd (mS (l3++[IntKind.wrap .i64 ((IntKind.wrap .i64 (x3+x4))-v0)]).length) (
some (.inr (.inl ((l3++[IntKind.wrap .i64 ((IntKind.wrap .i64 (x3+x4))-v0)]),IntKind.wrap .i64 ((IntKind.wrap .i64 (x3+x4))-v0))))))))) (
some (.inr (.inr v0)))
def F1 (n:Nat) (x3:Int) (l3:List (Int)) (l4:List (Int × Int)) (x1:Int):(List (Int) × Nat × Int)→Option ((List (Int) × Nat × Int) ⊕ (List (Int) × Nat)):=fun(l1,n0,v0) =>
br (!decide (v0=x3)) (
ob (α:=(List (Int) × Int) ⊕ (Int)) (
bL (Gp n l3 l4 x1 x3 l1) n (v0,0)) fun r0=>match r0 with
| .inl (l2,v1) =>
some (.inl (l2,l2.length,v1))
| .inr v2 =>
some (.inl (l1,n0,v2))) (
some (.inr (l1,n0)))
def Hu (n:Nat) (x1:Int) (l1:List (Int × Int)) (x4:Nat) (l2:List (Int)) (x3:Int) (x5:Int):Option (List Int × Int) :=
ob (zQ n x1 l1 x4 l2) fun r0 =>
br (!decide (r0=0)) (
some ([],r0)) (
ob (α:=(Unit) ⊕ (Unit)) (
bL (Gk n x3 x5 x1 x4) n 0) fun r1=>match r1 with
| .inl _ =>
some ([],2)
| .inr _ =>
ob (
bL (F1 n x5 l2 l1 x1) n ([x3],1,x3)) fun(l3,_) =>
some (l3,0))
def GP (_:Nat) (l1:List (Int)) (l5:List (Int)):Int→Option ((Int) ⊕ ((Unit) ⊕ (Unit))):=fun v11 =>
br (decide (v11<(l1.length:Int))) (
gd (bJ v11 l1.length) (
ob (l1[v11.toNat]?) fun x29 =>
gd (bJ v11 l5.length) (
ob (l5[v11.toNat]?) fun x34 =>
br (!decide (x29=x34)) (
some (.inr (.inl ()))) (
some (.inl (IntKind.wrap .i64 (v11+1))))))) (
some (.inr (.inr ())))
def Kj (n:Nat) (l1:List (Int)) (l5:List (Int)):Option (Bool) :=
br (!decide ((l1.length:Int)=(l5.length:Int))) (
some false) (
ob (α:=(Unit) ⊕ (Unit)) (
bL (GP n l1 l5) n 0) fun r38=>match r38 with
| .inl _ =>
some false
| .inr _ =>
some true)
def Cr (n:Nat):(List (Nat) × Nat × Int)→Option ((List (Nat) × Nat × Int) ⊕ (List (Nat))):=fun(l1,v1,v0) =>
br (decide (0<v1)) (
br (decide (v0=16)) (
some (.inr l1)) (
gd (bJ v0 16) (
ob (l1[v0.toNat]?) fun x3 =>
ob (sO n x3 0 v1) fun(r0,r1) =>
gd (bJ v0 16) (
some (.inl ((l1.set v0.toNat r0),r1,IntKind.wrap .i64 (v0+1))))))) (
some (.inr l1))
def Bv (n:Nat) (x5:Nat) (x6:Nat) (x7:Nat) (x8:Nat) (x9:Nat) (x10:Nat) (x11:Nat) (x12:Nat) (x3:Nat) (v1:Int):(List (Nat) × Int)→Option ((List (Nat) × Int) ⊕ (List (Nat))):=fun(l1,v0) =>
br (decide (v0<8)) (
ob (
gd (bJ v0 8) (
ob ([x5,x6,x7,x8,x9,x10,x11,x12][v0.toNat]?) fun x4 =>
ob (
br (!decide (x3=0)) (
some (!decide (x4=0))) (
some false)) fun v2 =>
br (v2) (
ob (
ob (AK n x3 x4) fun(r1,r2) =>
gd (bJ (IntKind.wrap .i64 (v1+v0)) 16) (
ob (l1[(IntKind.wrap .i64 (v1+v0)).toNat]?) fun x13 =>
ob (sO n x13 r2 0) fun(r0,r3) =>
gd (bJ (IntKind.wrap .i64 (v1+v0)) 16) (
gd (bJ (IntKind.wrap .i64 ((IntKind.wrap .i64 (v1+v0))+1)) 16) (
ob ((l1.set ((IntKind.wrap .i64 (v1+v0)).toNat) r0)[(IntKind.wrap .i64 ((IntKind.wrap .i64 (v1+v0))+1)).toNat]?) fun x14 =>
ob (sO n x14 r1 r3) fun(r4,r5) =>
gd (bJ (IntKind.wrap .i64 ((IntKind.wrap .i64 (v1+v0))+1)) 16) (
ob (
bL (Cr n) n (((l1.set ((IntKind.wrap .i64 (v1+v0)).toNat) r0).set ((IntKind.wrap .i64 ((IntKind.wrap .i64 (v1+v0))+1)).toNat) r4),r5,IntKind.wrap .i64 ((IntKind.wrap .i64 (v1+v0))+2))) fun l2 =>
some l2))))) fun l3 =>
some l3) (
some l1))) fun l4 =>
some (.inl (l4,IntKind.wrap .i64 (v0+1)))) (
some (.inr l1))
def BW (n:Nat) (x1:Nat) (x2:Nat) (x3:Nat) (x4:Nat) (x5:Nat) (x6:Nat) (x7:Nat) (x8:Nat) (x9:Nat) (x10:Nat) (x11:Nat) (x12:Nat) (x13:Nat) (x14:Nat) (x15:Nat) (x16:Nat):(List (Nat) × Int)→Option ((List (Nat) × Int) ⊕ (List (Nat))):=fun(l1,v0) =>
br (decide (v0<8)) (
gd (bJ v0 8) (
ob ([x1,x2,x3,x4,x5,x6,x7,x8][v0.toNat]?) fun x17 =>
ob (
bL (Bv n x9 x10 x11 x12 x13 x14 x15 x16 x17 v0) n (l1,0)) fun l2 =>
some (.inl (l2,IntKind.wrap .i64 (v0+1))))) (
some (.inr l1))
def GV (n:Nat) (x1:Nat) (x2:Nat) (x3:Nat) (x4:Nat) (x5:Nat) (x6:Nat) (x7:Nat) (x8:Nat) (x9:Nat) (x10:Nat) (x11:Nat) (x12:Nat) (x13:Nat) (x14:Nat) (x15:Nat) (x16:Nat):Option (Nat × Nat × Nat × Nat × Nat × Nat × Nat × Nat × Nat) :=
ob (
bL (BW n x1 x2 x3 x4 x5 x6 x7 x8 x9 x10 x11 x12 x13 x14 x15 x16) n (([0,0,0,0,0,0,0,0,0,0,0,0,0,0,0,0]:List (Nat)),0)) fun l1 =>
ob (It l1) fun(x17,x18,x19,x20,x21,x22,x23,x24,x25,x26,x27,x28,x29,x30,x31,x32) =>
ob (some (uw .u64 (uw .u64 (uw .u64 (uw .u64 0 ||| uw .u64 x25)) ||| uw .u64 x26))) fun y2 =>
ob (some (uw .u64 (uw .u64 (uw .u64 (uw .u64 y2 ||| uw .u64 x27)) ||| uw .u64 x28))) fun y3 =>
ob (some (uw .u64 (uw .u64 (uw .u64 (uw .u64 y3 ||| uw .u64 x29)) ||| uw .u64 x30))) fun y4 =>
ob (some (uw .u64 (uw .u64 (uw .u64 (uw .u64 y4 ||| uw .u64 x31)) ||| uw .u64 x32))) fun y5 =>
some (x17,x18,x19,x20,x21,x22,x23,x24,y5)
def Hm (_:Nat) (x1:Nat) (x2:Nat) (x3:Nat) (x4:Nat) (x5:Nat) (x6:Nat) (x7:Nat) (x8:Nat):Option (Bool) :=
some (decide (x1=0) && decide (x2=0) && decide (x3=0) && decide (x4=0) && decide (x5=0) && decide (x6=0) && decide (x7=0) && decide (x8=0))
def IJ (n:Nat) (x1:Bool) (x2:Nat) (x3:Nat) (x4:Nat) (x5:Nat) (x6:Nat) (x7:Nat) (x8:Nat) (x9:Nat):Option (Bool × Nat × Nat × Nat × Nat × Nat × Nat × Nat × Nat) :=
br (x1) (
ob (Hm n x2 x3 x4 x5 x6 x7 x8 x9) fun r14 =>
some (!r14,x2,x3,x4,x5,x6,x7,x8,x9)) (
some (false,x2,x3,x4,x5,x6,x7,x8,x9))
def Hv (n:Nat) (x1:Bool) (x2:Nat) (x3:Nat) (x4:Nat) (x5:Nat) (x6:Nat) (x7:Nat) (x8:Nat) (x9:Nat) (x10:Bool) (x11:Nat) (x12:Nat) (x13:Nat) (x14:Nat) (x15:Nat) (x16:Nat) (x17:Nat) (x18:Nat):Option (Bool × Nat × Nat × Nat × Nat × Nat × Nat × Nat × Nat × Bool) :=
ob (GV n x2 x3 x4 x5 x6 x7 x8 x9 x11 x12 x13 x14 x15 x16 x17 x18) fun(r23,r24,r25,r26,r27,r28,r29,r30,r31) =>
ob (IJ n (!(x1 == x10)) r23 r24 r25 r26 r27 r28 r29 r30) fun(r34,r35,r36,r37,r38,r39,r40,r41,r42) =>
some (r34,r35,r36,r37,r38,r39,r40,r41,r42,decide (0<r31))
def DY (n:Nat) (x1:Nat) (x2:Nat) (x3:Nat) (x4:Nat) (x5:Nat) (x6:Nat) (x7:Nat) (x8:Nat) (x9:Nat) (x10:Nat) (x11:Nat) (x12:Nat) (x13:Nat) (x14:Nat) (x15:Nat) (x16:Nat):Option (Nat × Nat × Nat × Nat × Nat × Nat × Nat × Nat × Int) :=
ob (
ob (
some ()) fun _ =>
ob (Kw n x1 x2 x3 x4 x5 x6 x7 x8) fun(r0,r1,r2,r3,r4,r5,r6,r7,r8) =>
ob (Kw n x9 x10 x11 x12 x13 x14 x15 x16) fun(r9,r10,r11,r12,r13,r14,r15,r16,r17) =>
ob (Hv n r0 r1 r2 r3 r4 r5 r6 r7 r8 r9 r10 r11 r12 r13 r14 r15 r16 r17) fun(r18,r19,r20,r21,r22,r23,r24,r25,r26,r27) =>
br (r27) (
some (0,0,0,0,0,0,0,0,6)) (
ob (KP n r18 r19 r20 r21 r22 r23 r24 r25 r26) fun(r28,r29,r30,r31,r32,r33,r34,r35,r36) =>
some (r28,r29,r30,r31,r32,r33,r34,r35,r36))) fun(v0,v1,v2,v3,v4,v5,v6,v7,v8) =>
some (v0,v1,v2,v3,v4,v5,v6,v7,v8)
def GL (n:Nat) (x9:Int) (x1:Nat) (x2:Nat) (x3:Nat) (x4:Nat) (x5:Nat) (x6:Nat) (x7:Nat) (x8:Nat):(Nat × Nat × Nat × Nat × Nat × Nat × Nat × Nat × Int)→Option ((Nat × Nat × Nat × Nat × Nat × Nat × Nat × Nat × Int) ⊕ ((Int) ⊕ (Nat × Nat × Nat × Nat × Nat × Nat × Nat × Nat))):=fun(v0,v1,v2,v3,v4,v5,v6,v7,v8) =>
br (decide (v8<x9)) (
ob (DY n v0 v1 v2 v3 v4 v5 v6 v7 x1 x2 x3 x4 x5 x6 x7 x8) fun(r0,r1,r2,r3,r4,r5,r6,r7,r8) =>
br (!decide (r8=0)) (
some (.inr (.inl r8))) (
ob (
br ((decide (r0=0) && decide (r1=0) && decide (r2=0) && decide (r3=0) && decide (r4=0) && decide (r5=0) && decide (r6=0) && decide (r7=0))) (
some true) (
ob (tG n 1) fun(r9,r10,r11,r12,r13,r14,r15,r16) =>
br ((decide (r0=r9) && decide (r1=r10) && decide (r2=r11) && decide (r3=r12) && decide (r4=r13) && decide (r5=r14) && decide (r6=r15) && decide (r7=r16))) (
ob (tG n 1) fun(r17,r18,r19,r20,r21,r22,r23,r24) =>
some (decide (x1=r17) && decide (x2=r18) && decide (x3=r19) && decide (x4=r20) && decide (x5=r21) && decide (x6=r22) && decide (x7=r23) && decide (x8=r24))) (
some false))) fun v9 =>
br (v9) (
some (.inr (.inr (r0,r1,r2,r3,r4,r5,r6,r7)))) (
some (.inl (r0,r1,r2,r3,r4,r5,r6,r7,IntKind.wrap .i64 (v8+1)))))) (
some (.inr (.inr (v0,v1,v2,v3,v4,v5,v6,v7))))
def Lc (n:Nat) (x1:Nat) (x2:Nat) (x4:Nat) (x5:Nat) (x6:Nat) (x7:Nat) (x8:Nat) (x9:Nat) (x3:Int):Option (Nat × Nat × Nat × Nat × Nat × Nat × Nat × Nat × Int) :=
ob (
br (decide (x3<0)) (
some true) (
some (decide (600<x3)))) fun v0 =>
br (v0) (
some (0,0,0,0,0,0,0,0,2)) (
ob (tG n 1) fun(r0,r1,r2,r3,r4,r5,r6,r7) =>
ob (α:=(Int) ⊕ (Nat × Nat × Nat × Nat × Nat × Nat × Nat × Nat)) (
bL (GL n x3 x1 x2 x4 x5 x6 x7 x8 x9) n (r0,r1,r2,r3,r4,r5,r6,r7,0)) fun r8=>match r8 with
| .inl v1 =>
some (0,0,0,0,0,0,0,0,v1)
| .inr (v2,v3,v4,v5,v6,v7,v8,v9) =>
some (v2,v3,v4,v5,v6,v7,v8,v9,0))
def F9 (_:Nat) (x1:Int) (v33:Int):(List (Int × Int) × Int)→Option ((List (Int × Int) × Int) ⊕ (List (Int × Int))):=fun(l71,v73) =>
br (decide (v73<x1)) (
gd (mS (l71++[(v33,v73)]).length) (
some (.inl ((l71++[(v33,v73)]),IntKind.wrap .i64 (v73+1))))) (
some (.inr l71))
def GN (n:Nat) (x1:Int):(List (Int × Int) × Int)→Option ((List (Int × Int) × Int) ⊕ (List (Int × Int))):=fun(l31,v33) =>
br (decide (v33<x1)) (
ob (
bL (F9 n x1 v33) n (l31,IntKind.wrap .i64 (v33+1))) fun l81 =>
some (.inl (l81,IntKind.wrap .i64 (v33+1)))) (
some (.inr l31))
def GI (n:Nat) (x1:Int):Option (Int × List (Int × Int)) :=
ob (
bL (GN n x1) n (([]:List (Int × Int)),0)) fun l62 =>
some (x1,l62)
def Ga (n:Nat):(List (Nat) × List (Nat))→Option ((List (Nat) × List (Nat)) ⊕ (List (Nat))):=fun(l26,l29) =>
br (decide (0<(l29.length:Int))) (
ob (I5 n l26 l29) fun(_,l57) =>
some (.inl (l29,l57))) (
some (.inr l26))
def Ld (n:Nat) (_:Bool) (l2:List (Nat)) (_:Bool) (l8:List (Nat)):Option (Bool × List Nat) :=
ob (
bL (Ga n) n (l2,l8)) fun l48 =>
some (false,l48)
def KM (n:Nat) (x1:Bool) (l2:List (Nat)) (x7:Bool) (l8:List (Nat)):Option (Bool × List Nat × Bool × List Nat) :=
ob (Ld n x1 l2 x7 l8) fun(r17,l18) =>
ob (Hc n x1 l2 r17 l18) fun(r24,l25,_,_) =>
ob (Hc n x7 l8 r17 l18) fun(r37,l38,_,_) =>
ob (
br (r37) (
ob (Hn n r24 l25) fun(r72,l73) =>
ob (Hn n r37 l38) fun(r78,l79) =>
some (r72,l73,r78,l79)) (
some (r24,l25,r37,l38))) fun(v62,l63,v66,l67) =>
some (v62,l63,v66,l67)
def KI (n:Nat) (x1:Bool) (l2:List (Nat)) (x6:Bool) (l7:List (Nat)):Option (Nat × Nat × Nat × Nat × Nat × Nat × Nat × Nat × Nat × Nat × Nat × Nat × Nat × Nat × Nat × Nat × Int) :=
ob (Gm n x1 l2) fun(r14,r15,r16,r17,r18,r19,r20,r21,r22) =>
ob (Gm n x6 l7) fun(r25,r26,r27,r28,r29,r30,r31,r32,r33) =>
ob (
br (!decide (r22=0)) (
some true) (
some (!decide (r33=0)))) fun v42 =>
br (v42) (
some (0,0,0,0,0,0,0,0,0,0,0,0,0,0,0,0,6)) (
some (r14,r15,r16,r17,r18,r19,r20,r21,r25,r26,r27,r28,r29,r30,r31,r32,0))
def LG (n:Nat) (x1:Nat) (x2:Nat) (x3:Nat) (x4:Nat) (x5:Nat) (x6:Nat) (x7:Nat) (x8:Nat) (x9:Nat) (x10:Nat) (x11:Nat) (x12:Nat) (x13:Nat) (x14:Nat) (x15:Nat) (x16:Nat):Option (Nat × Nat × Nat × Nat × Nat × Nat × Nat × Nat × Nat × Nat × Nat × Nat × Nat × Nat × Nat × Nat × Int) :=
br ((decide (x9=0) && decide (x10=0) && decide (x11=0) && decide (x12=0) && decide (x13=0) && decide (x14=0) && decide (x15=0) && decide (x16=0))) (
some (0,0,0,0,0,0,0,0,0,0,0,0,0,0,0,0,7)) (
ob (Gn n x1 x2 x3 x4 x5 x6 x7 x8) fun(r22,l23) =>
ob (Gn n x9 x10 x11 x12 x13 x14 x15 x16) fun(r28,l29) =>
ob (KM n r22 l23 r28 l29) fun(r34,l35,r39,l40) =>
ob (KI n r34 l35 r39 l40) fun(r45,r46,r47,r48,r49,r50,r51,r52,r53,r54,r55,r56,r57,r58,r59,r60,r61) =>
some (r45,r46,r47,r48,r49,r50,r51,r52,r53,r54,r55,r56,r57,r58,r59,r60,r61))
def KC (n:Nat) (x1:Int) (x2:Int):Option (Nat × Nat × Nat × Nat × Nat × Nat × Nat × Nat × Nat × Nat × Nat × Nat × Nat × Nat × Nat × Nat × Int) :=
ob (tG n x1) fun(r5,r6,r7,r8,r9,r10,r11,r12) =>
ob (tG n x2) fun(r14,r15,r16,r17,r18,r19,r20,r21) =>
ob (LG n r5 r6 r7 r8 r9 r10 r11 r12 r14 r15 r16 r17 r18 r19 r20 r21) fun(r23,r24,r25,r26,r27,r28,r29,r30,r31,r32,r33,r34,r35,r36,r37,r38,r39) =>
some (r23,r24,r25,r26,r27,r28,r29,r30,r31,r32,r33,r34,r35,r36,r37,r38,r39)
def DZ (n:Nat) (x1:Int) (l1:List (Int × Int)) (x4:Nat) (x3:Int):Option (Nat × Nat × Nat × Nat × Nat × Nat × Nat × Nat × Nat × Nat × Nat × Nat × Nat × Nat × Nat × Nat × Int) :=
ob (FV n x1 l1 x4) fun r0 =>
br (!decide (r0=0)) (
some (0,0,0,0,0,0,0,0,0,0,0,0,0,0,0,0,r0)) (
ob (
br (decide (x3<0)) (
some true) (
br (decide ((l1.length:Int)≤x3)) (
some true) (
gd (bJ x3 l1.length) (
ob (l1[x3.toNat]?) fun(x5,x6) =>
ob (CF n x4 x5 x6) fun r2 =>
some (!r2))))) fun v0 =>
br (v0) (
some (0,0,0,0,0,0,0,0,0,0,0,0,0,0,0,0,2)) (
ob (tx n x1 l1 x4 [] []) fun(r1,l2) =>
ob (D4 n r1 l2) fun r3 =>
br (decide (r3=0)) (
some (0,0,0,0,0,0,0,0,0,0,0,0,0,0,0,0,7)) (
ob (tx n x1 l1 x4 (ez ([]:List (Int × Bool)) x3 true) []) fun(r4,l3) =>
ob (KM n r4 l3 r1 l2) fun(r5,l4,r6,l5) =>
ob (KI n r5 l4 r6 l5) fun(r7,r8,r9,r10,r11,r12,r13,r14,r15,r16,r17,r18,r19,r20,r21,r22,r23) =>
some (r7,r8,r9,r10,r11,r12,r13,r14,r15,r16,r17,r18,r19,r20,r21,r22,r23))))
def LM (_:Nat):Option (Int × List (Int × Int)) :=
some (4,[(0,1),(0,3),(1,2),(2,3)])
def tD (n:Nat):(Bool × Int)→Option ((Bool × Int) ⊕ (Bool)):=fun(v1,v0) =>
br (decide (v0≤12)) (
ob (
ob (tG n v0) fun(r0,r1,r2,r3,r4,r5,r6,r7) =>
ob (Lc n r0 r1 r2 r3 r4 r5 r6 r7 (ma (IntKind.wrap .i64 (v0-2)) (0:Int))) fun(r8,r9,r10,r11,r12,r13,r14,r15,_) =>
ob (GI n v0) fun(r16,l1) =>
gd (decide (0≤v0)) (
ob (ym n r16 l1 (e9 .u64 (fX .u64 1 v0.toNat) 1)) fun(r17,r18,r19,r20,r21,r22,r23,r24,r25) =>
br (v1) (
br ((decide (r17=r8) && decide (r18=r9) && decide (r19=r10) && decide (r20=r11) && decide (r21=r12) && decide (r22=r13) && decide (r23=r14) && decide (r24=r15))) (
some (decide (r25=0))) (
some false)) (
some false))) fun v2 =>
some (.inl (v2,IntKind.wrap .i64 (v0+1)))) (
some (.inr v1))
def Ir (_:Nat):(List (Int × Int) × Int)→Option ((List (Int × Int) × Int) ⊕ (List (Int × Int))):=fun(l1,v0) =>
br (decide (v0<16)) (
ob (
ob (
br (decide (Int.tmod v0 4<3)) (
gd (mS (l1++[(v0,IntKind.wrap .i64 (v0+1))]).length) (
some (l1++[(v0,IntKind.wrap .i64 (v0+1))]))) (
some l1)) fun l2 =>
br (decide (v0<12)) (
gd (mS (l2++[(v0,IntKind.wrap .i64 (v0+4))]).length) (
some (l2++[(v0,IntKind.wrap .i64 (v0+4))]))) (
some l2)) fun l3 =>
some (.inl (l3,IntKind.wrap .i64 (v0+1)))) (
some (.inr l1))
def HH (_:Nat):(List (Int × Int) × Int)→Option ((List (Int × Int) × Int) ⊕ (List (Int × Int))):=fun(l1,v0) =>
br (decide (v0<63)) (
gd (mS (l1++[(v0,IntKind.wrap .i64 (v0+1))]).length) (
some (.inl ((l1++[(v0,IntKind.wrap .i64 (v0+1))]),IntKind.wrap .i64 (v0+1))))) (
some (.inr l1))
def F5 (n:Nat):Option (Bool) :=
ob (F6 n) fun r1 =>
br (!r1) (
some false) (
ob (
bL (tD n) n (true,1)) fun v0 =>
ob (
bL (Ir n) n (([]:List (Int × Int)),0)) fun l3 =>
gd (mS (([]:List (Int × Int))++[(0,1),(0,63)]).length) (
ob (
bL (HH n) n ((([]:List (Int × Int))++[(0,1),(0,63)]),1)) fun l2 =>
ob (
br (v0) (
ob (
some ()) fun _ =>
ob (ym n 16 l3 65535) fun(r2,r3,r4,r5,r6,r7,r8,r9,r10) =>
ob (
ob (tG n 100352) fun(r11,r12,r13,r14,r15,r16,r17,r18) =>
br ((decide (r2=r11) && decide (r3=r12) && decide (r4=r13) && decide (r5=r14) && decide (r6=r15) && decide (r7=r16) && decide (r8=r17) && decide (r9=r18))) (
some (decide (r10=0))) (
some false)) fun v1 =>
br (v1) (
ob (
some ()) fun _ =>
ob (ym n 64 l2 18446744073709551615) fun(r19,r20,r21,r22,r23,r24,r25,r26,r27) =>
ob (
ob (tG n 64) fun(r28,r29,r30,r31,r32,r33,r34,r35) =>
br ((decide (r19=r28) && decide (r20=r29) && decide (r21=r30) && decide (r22=r31) && decide (r23=r32) && decide (r24=r33) && decide (r25=r34) && decide (r26=r35))) (
some (decide (r27=0))) (
some false)) fun v2 =>
br (v2) (
ob (
some ()) fun _ =>
ob (ym n 64 l2 (e9 .u64 18446744073709551615 1)) fun(r36,r37,r38,r39,r40,r41,r42,r43,r44) =>
ob (
ob (tG n 1) fun(r45,r46,r47,r48,r49,r50,r51,r52) =>
br ((decide (r36=r45) && decide (r37=r46) && decide (r38=r47) && decide (r39=r48) && decide (r40=r49) && decide (r41=r50) && decide (r42=r51) && decide (r43=r52))) (
some (decide (r44=0))) (
some false)) fun v3 =>
br (v3) (
ob (
ob (KC n 63 64) fun(r53,r54,r55,r56,r57,r58,r59,r60,r61,r62,r63,r64,r65,r66,r67,r68,_) =>
some (r53,r54,r55,r56,r57,r58,r59,r60,r61,r62,r63,r64,r65,r66,r67,r68)) fun(v4,v5,v6,v7,v8,v9,v10,v11,v12,v13,v14,v15,v16,v17,v18,v19) =>
ob (DZ n 64 l2 18446744073709551615 1) fun(r69,r70,r71,r72,r73,r74,r75,r76,r77,r78,r79,r80,r81,r82,r83,r84,r85) =>
ob (
br ((decide (r69=v4) && decide (r70=v5) && decide (r71=v6) && decide (r72=v7) && decide (r73=v8) && decide (r74=v9) && decide (r75=v10) && decide (r76=v11) && decide (r77=v12) && decide (r78=v13) && decide (r79=v14) && decide (r80=v15) && decide (r81=v16) && decide (r82=v17) && decide (r83=v18) && decide (r84=v19))) (
some (decide (r85=0))) (
some false)) fun v20 =>
br (v20) (
ob (
ob (KC n 2 10) fun(r86,r87,r88,r89,r90,r91,r92,r93,r94,r95,r96,r97,r98,r99,r100,r101,_) =>
some (r86,r87,r88,r89,r90,r91,r92,r93,r94,r95,r96,r97,r98,r99,r100,r101)) fun(v21,v22,v23,v24,v25,v26,v27,v28,v29,v30,v31,v32,v33,v34,v35,v36) =>
ob (GI n 10) fun(r102,l4) =>
ob (DZ n r102 l4 1023 44) fun(r103,r104,r105,r106,r107,r108,r109,r110,r111,r112,r113,r114,r115,r116,r117,r118,r119) =>
ob (
br ((decide (r103=v21) && decide (r104=v22) && decide (r105=v23) && decide (r106=v24) && decide (r107=v25) && decide (r108=v26) && decide (r109=v27) && decide (r110=v28) && decide (r111=v29) && decide (r112=v30) && decide (r113=v31) && decide (r114=v32) && decide (r115=v33) && decide (r116=v34) && decide (r117=v35) && decide (r118=v36))) (
some (decide (r119=0))) (
some false)) fun v37 =>
some v37) (
some false)) (
some false)) (
some false)) (
some false)) (
some false)) fun v38 =>
ob (GI n 10) fun(r120,l5) =>
ob (tG n 99999999) fun(r121,r122,r123,r124,r125,r126,r127,r128) =>
ob (DX n r120 l5 1023 r121 r122 r123 r124 r125 r126 r127 r128) fun(l6,r129) =>
ob (
br (v38) (
br (decide (r129=0)) (
ob (
some ()) fun _ =>
ob (GI n 10) fun(r130,l7) =>
ob (I9 n r130 l7 1023 l6) fun(r131,r132,r133,r134,r135,r136,r137,r138,r139) =>
ob (
ob (tG n 99999999) fun(r140,r141,r142,r143,r144,r145,r146,r147) =>
br ((decide (r131=r140) && decide (r132=r141) && decide (r133=r142) && decide (r134=r143) && decide (r135=r144) && decide (r136=r145) && decide (r137=r146) && decide (r138=r147))) (
some (decide (r139=0))) (
some false)) fun v39 =>
br (v39) (
ob (
some ()) fun _ =>
ob (GI n 10) fun(r148,l8) =>
ob (tG n 0) fun(r149,r150,r151,r152,r153,r154,r155,r156) =>
ob (DX n r148 l8 1023 r149 r150 r151 r152 r153 r154 r155 r156) fun(l9,r157) =>
ob (
ob (Kj n l9 ([0,1,2,3,4,5,6,7,8])) fun r158 =>
br (r158) (
some (decide (r157=0))) (
some false)) fun v40 =>
some v40) (
some false)) (
some false)) (
some false)) fun v41 =>
ob (LM n) fun(r0,l1) =>
ob (Kt n r0 l1 15 ([0,1,2]) 3) fun(_,_,r159) =>
ob (Kt n r0 l1 15 ([0,1]) 3) fun(_,_,r160) =>
ob (Kt n 2 ([(1,0)]) 0 [] 0) fun(_,_,r161) =>
ob (
br (v41) (
ob (
some ()) fun _ =>
ob (ym n 2 ([(1,0)]) 0) fun(r162,r163,r164,r165,r166,r167,r168,r169,r170) =>
ob (
br ((decide (r162=0) && decide (r163=0) && decide (r164=0) && decide (r165=0) && decide (r166=0) && decide (r167=0) && decide (r168=0) && decide (r169=0))) (
some (decide (r170=180))) (
some false)) fun v42 =>
br (v42) (
ob (
some ()) fun _ =>
ob (ym n r0 l1 0) fun(r171,r172,r173,r174,r175,r176,r177,r178,r179) =>
ob (
br ((decide (r171=0) && decide (r172=0) && decide (r173=0) && decide (r174=0) && decide (r175=0) && decide (r176=0) && decide (r177=0) && decide (r178=0))) (
some (decide (r179=2))) (
some false)) fun v43 =>
br (v43) (
ob (
some ()) fun _ =>
ob (ym n r0 l1 16) fun(r180,r181,r182,r183,r184,r185,r186,r187,r188) =>
ob (
br ((decide (r180=0) && decide (r181=0) && decide (r182=0) && decide (r183=0) && decide (r184=0) && decide (r185=0) && decide (r186=0) && decide (r187=0))) (
some (decide (r188=2))) (
some false)) fun v44 =>
br (v44) (
ob (
some ()) fun _ =>
ob (DZ n r0 l1 15 (-1)) fun(r189,r190,r191,r192,r193,r194,r195,r196,r197,r198,r199,r200,r201,r202,r203,r204,r205) =>
ob (
br ((decide (r189=0) && decide (r190=0) && decide (r191=0) && decide (r192=0) && decide (r193=0) && decide (r194=0) && decide (r195=0) && decide (r196=0) && decide (r197=0) && decide (r198=0) && decide (r199=0) && decide (r200=0) && decide (r201=0) && decide (r202=0) && decide (r203=0) && decide (r204=0))) (
some (decide (r205=2))) (
some false)) fun v45 =>
br (v45) (
ob (
some ()) fun _ =>
ob (DZ n r0 l1 15 4) fun(r206,r207,r208,r209,r210,r211,r212,r213,r214,r215,r216,r217,r218,r219,r220,r221,r222) =>
ob (
br ((decide (r206=0) && decide (r207=0) && decide (r208=0) && decide (r209=0) && decide (r210=0) && decide (r211=0) && decide (r212=0) && decide (r213=0) && decide (r214=0) && decide (r215=0) && decide (r216=0) && decide (r217=0) && decide (r218=0) && decide (r219=0) && decide (r220=0) && decide (r221=0))) (
some (decide (r222=2))) (
some false)) fun v46 =>
br (v46) (
ob (
some ()) fun _ =>
ob (DZ n 3 ([(0,1)]) 7 0) fun(r223,r224,r225,r226,r227,r228,r229,r230,r231,r232,r233,r234,r235,r236,r237,r238,r239) =>
ob (
br ((decide (r223=0) && decide (r224=0) && decide (r225=0) && decide (r226=0) && decide (r227=0) && decide (r228=0) && decide (r229=0) && decide (r230=0) && decide (r231=0) && decide (r232=0) && decide (r233=0) && decide (r234=0) && decide (r235=0) && decide (r236=0) && decide (r237=0) && decide (r238=0))) (
some (decide (r239=7))) (
some false)) fun v47 =>
br (v47) (
ob (
some ()) fun _ =>
ob (I9 n r0 l1 15 []) fun(r240,r241,r242,r243,r244,r245,r246,r247,r248) =>
ob (
br ((decide (r240=0) && decide (r241=0) && decide (r242=0) && decide (r243=0) && decide (r244=0) && decide (r245=0) && decide (r246=0) && decide (r247=0))) (
some (decide (r248=300))) (
some false)) fun v48 =>
br (v48) (
br (decide (r159=2)) (
br (decide (r160=300)) (
some (decide (r161=180))) (
some false)) (
some false)) (
some false)) (
some false)) (
some false)) (
some false)) (
some false)) (
some false)) (
some false)) (
some false)) fun v49 =>
ob (F6 n) fun r249 =>
br (r249) (
br (v49) (
ob (zQ n r0 l1 4 []) fun r250 =>
br (decide (r250=0)) (
ob (zQ n r0 l1 5 []) fun r251 =>
br (decide (r251=300)) (
ob (zQ n r0 l1 15 ([0,1,4])) fun r252 =>
br (decide (r252=300)) (
ob (zQ n r0 l1 15 ([-1,0,1])) fun r253 =>
br (decide (r253=300)) (
ob (zQ n r0 l1 7 ([0,2])) fun r254 =>
br (decide (r254=0)) (
ob (zQ n r0 l1 7 ([0,1])) fun r255 =>
br (decide (r255=300)) (
ob (zQ n r0 l1 16 []) fun r256 =>
br (decide (r256=2)) (
ob (
some ()) fun _ =>
ob (Hu n r0 l1 15 ([0,1,2]) 2 2) fun(l10,r257) =>
ob (
ob (Kj n l10 ([2])) fun r258 =>
br (r258) (
some (decide (r257=0))) (
some false)) fun v50 =>
br (v50) (
ob (
some ()) fun _ =>
ob (Hu n r0 l1 15 ([0,1,2]) 4 0) fun(l11,r259) =>
ob (
br (decide ((l11.length:Int)=0)) (
some (decide (r259=2))) (
some false)) fun v51 =>
br (v51) (
ob (
some ()) fun _ =>
ob (Hu n r0 l1 7 ([0,2]) 0 3) fun(l12,r260) =>
ob (
br (decide ((l12.length:Int)=0)) (
some (decide (r260=2))) (
some false)) fun v52 =>
br (v52) (
ob (
some ()) fun _ =>
ob (Hu n r0 l1 15 ([0,1,2]) 0 (-1)) fun(l13,r261) =>
ob (
br (decide ((l13.length:Int)=0)) (
some (decide (r261=2))) (
some false)) fun v53 =>
br (v53) (
ob (
some ()) fun _ =>
ob (Hu n r0 l1 15 [] (-1) 0) fun(l14,r262) =>
ob (
br (decide ((l14.length:Int)=0)) (
some (decide (r262=300))) (
some false)) fun v54 =>
br (v54) (
ob (
some ()) fun _ =>
ob (tG n 0) fun(r263,r264,r265,r266,r267,r268,r269,r270) =>
ob (DX n r0 l1 4 r263 r264 r265 r266 r267 r268 r269 r270) fun(l15,r271) =>
ob (
ob (Kj n l15 []) fun r272 =>
br (r272) (
some (decide (r271=0))) (
some false)) fun v55 =>
br (v55) (
ob (
some ()) fun _ =>
ob (tG n 0) fun(r273,r274,r275,r276,r277,r278,r279,r280) =>
ob (DX n r0 l1 5 r273 r274 r275 r276 r277 r278 r279 r280) fun(l16,r281) =>
ob (
br (decide ((l16.length:Int)=0)) (
some (decide (r281=2))) (
some false)) fun v56 =>
some v56) (
some false)) (
some false)) (
some false)) (
some false)) (
some false)) (
some false)) (
some false)) (
some false)) (
some false)) (
some false)) (
some false)) (
some false)) (
some false)) (
some false)) (
some false)))
end Go.Proofs.YtookeaakpiefjaaDoor
end

section
namespace Go.Ab.W
open Go Go.Ab
section
variable {P : Program} {ty el : TypeId}
theorem ft {eq:TypeId→Value→Value→Option Bool} {xs ys:Array Value} {t off:Nat} {rest:List (TypeId × Nat)} {x y:Value} {b r:Bool} (h1:eS P t xs off=some x) (h2:eS P t ys off=some y) (h3:eq t x y=some b) (h4:fW eq P xs ys rest=some r):fW eq P xs ys ((t,off)::rest)=some (b && r):=by
 unfold fW;rw[h1,h2]
 dsimp only
 rw[h3];cases b with
 | true=>exact h4
 | false=>rfl
theorem nP {k:IntKind} (he:P.underlying el=some (.int k)) (d:Nat) (x y:Nat):iO P (d+1) el (.int k ((x:Nat):Int)) (.int k ((y:Nat):Int))=some (decide (x=y)):=by
 simp only[iO,he,if_true]
 congr 1
 rw[Bool.eq_iff_iff];simp only[beq_iff_eq,decide_eq_true_eq];omega
theorem xh {k:IntKind} (hu:P.underlying ty=some (.array 8 el)) (hk:known P el=true) (hs:aq P el=1) (ha:cZ P el=false) (he:P.underlying el=some (.int k)) (d:Nat) (x0 y0 x1 y1 x2 y2 x3 y3 x4 y4 x5 y5 x6 y6 x7 y7:Nat) :
  iO P (d+2) ty (.agg #[.int k ((x0:Nat):Int),.int k ((x1:Nat):Int),.int k ((x2:Nat):Int),.int k ((x3:Nat):Int),.int k ((x4:Nat):Int),.int k ((x5:Nat):Int),.int k ((x6:Nat):Int),.int k ((x7:Nat):Int)])
   (.agg #[.int k ((y0:Nat):Int),.int k ((y1:Nat):Int),.int k ((y2:Nat):Int),.int k ((y3:Nat):Int),.int k ((y4:Nat):Int),.int k ((y5:Nat):Int),.int k ((y6:Nat):Int),.int k ((y7:Nat):Int)]) =
   some (decide (x0=y0) && decide (x1=y1) && decide (x2=y2) && decide (x3=y3) && decide (x4=y4) && decide (x5=y5) && decide (x6=y6) && decide (x7=y7)):=by
 have hp:∀(cs:Array Value) (i:Nat) (v:Value),cs[i]? = some v→eS P el cs i=some v:=fun cs i v h=>by
  unfold eS;rw[hk,ha,h]; rfl
 show iO P ((d+1)+1) ty _ _=_
 unfold iO;simp only[hu,hk,if_true,hs]
 show fW _ P _ _ [(el,0),(el,1),(el,2),(el,3),(el,4),(el,5),(el,6),(el,7)]=_
 simp only[Bool.and_assoc];rw[ft (hp _ 0 _ rfl) (hp _ 0 _ rfl) (nP he d x0 y0) (ft (hp _ 1 _ rfl) (hp _ 1 _ rfl) (nP he d x1 y1) (ft (hp _ 2 _ rfl) (hp _ 2 _ rfl) (nP he d x2 y2) (ft (hp _ 3 _ rfl) (hp _ 3 _ rfl) (nP he d x3 y3) (ft (hp _ 4 _ rfl) (hp _ 4 _ rfl) (nP he d x4 y4) (ft (hp _ 5 _ rfl) (hp _ 5 _ rfl) (nP he d x5 y5) (ft (hp _ 6 _ rfl) (hp _ 6 _ rfl) (nP he d x6 y6) (ft (hp _ 7 _ rfl) (hp _ 7 _ rfl) (nP he d x7 y7) rfl)))))))];simp only[Bool.and_true]
theorem Gf {k:IntKind} (hu:P.underlying ty=some (.array 8 el)) (hk:known P el=true) (hs:aq P el=1) (ha:cZ P el=false) (he:P.underlying el=some (.int k)) (x0 y0 x1 y1 x2 y2 x3 y3 x4 y4 x5 y5 x6 y6 x7 y7:Nat) :
  iO P Op.maxDepth ty (.agg #[.int k ((x0:Nat):Int),.int k ((x1:Nat):Int),.int k ((x2:Nat):Int),.int k ((x3:Nat):Int),.int k ((x4:Nat):Int),.int k ((x5:Nat):Int),.int k ((x6:Nat):Int),.int k ((x7:Nat):Int)])
   (.agg #[.int k ((y0:Nat):Int),.int k ((y1:Nat):Int),.int k ((y2:Nat):Int),.int k ((y3:Nat):Int),.int k ((y4:Nat):Int),.int k ((y5:Nat):Int),.int k ((y6:Nat):Int),.int k ((y7:Nat):Int)]) =
   some (decide (x0=y0) && decide (x1=y1) && decide (x2=y2) && decide (x3=y3) && decide (x4=y4) && decide (x5=y5) && decide (x6=y6) && decide (x7=y7)) :=
 xh hu hk hs ha he 9998 x0 y0 x1 y1 x2 y2 x3 y3 x4 y4 x5 y5 x6 y6 x7 y7
theorem Jo {k : IntKind} {w : TypeId} {fs : Array _} (hu2 : P.underlying ty = some (.struct fs)) (hst : (P.stoodInHeld ty || fs.any (·.name == "_")) = false) (hm : fs.toList.map (fun f => (f.type, f.offset)) = [(w, 0), (w, 8)])
  (hkw:known P w=true) (haw:cZ P w=true) (hsw:aq P w=8)
  (hu:P.underlying w=some (.array 8 el)) (hk:known P el=true) (hs:aq P el=1) (ha:cZ P el=false) (he:P.underlying el=some (.int k)) (x0 y0 x1 y1 x2 y2 x3 y3 x4 y4 x5 y5 x6 y6 x7 y7 x8 y8 x9 y9 x10 y10 x11 y11 x12 y12 x13 y13 x14 y14 x15 y15:Nat) :
  iO P Op.maxDepth ty (.agg #[.int k ((x0:Nat):Int),.int k ((x1:Nat):Int),.int k ((x2:Nat):Int),.int k ((x3:Nat):Int),.int k ((x4:Nat):Int),.int k ((x5:Nat):Int),.int k ((x6:Nat):Int),.int k ((x7:Nat):Int),.int k ((x8:Nat):Int),.int k ((x9:Nat):Int),.int k ((x10:Nat):Int),.int k ((x11:Nat):Int),.int k ((x12:Nat):Int),.int k ((x13:Nat):Int),.int k ((x14:Nat):Int),.int k ((x15:Nat):Int)]) (.agg #[.int k ((y0:Nat):Int),.int k ((y1:Nat):Int),.int k ((y2:Nat):Int),.int k ((y3:Nat):Int),.int k ((y4:Nat):Int),.int k ((y5:Nat):Int),.int k ((y6:Nat):Int),.int k ((y7:Nat):Int),.int k ((y8:Nat):Int),.int k ((y9:Nat):Int),.int k ((y10:Nat):Int),.int k ((y11:Nat):Int),.int k ((y12:Nat):Int),.int k ((y13:Nat):Int),.int k ((y14:Nat):Int),.int k ((y15:Nat):Int)])=some (decide (x0=y0) && decide (x1=y1) && decide (x2=y2) && decide (x3=y3) && decide (x4=y4) && decide (x5=y5) && decide (x6=y6) && decide (x7=y7) && decide (x8=y8) && decide (x9=y9) && decide (x10=y10) && decide (x11=y11) && decide (x12=y12) && decide (x13=y13) && decide (x14=y14) && decide (x15=y15)):=by
 have hp0:∀a0 a1 a2 a3 a4 a5 a6 a7 b0 b1 b2 b3 b4 b5 b6 b7:Value,eS P w #[a0,a1,a2,a3,a4,a5,a6,a7,b0,b1,b2,b3,b4,b5,b6,b7] 0=some (.agg #[a0,a1,a2,a3,a4,a5,a6,a7]):=fun _ _ _ _ _ _ _ _ _ _ _ _ _ _ _ _=>by
  unfold eS;rw[hkw,haw,hsw]; rfl
 have hp8:∀a0 a1 a2 a3 a4 a5 a6 a7 b0 b1 b2 b3 b4 b5 b6 b7:Value,eS P w #[a0,a1,a2,a3,a4,a5,a6,a7,b0,b1,b2,b3,b4,b5,b6,b7] 8=some (.agg #[b0,b1,b2,b3,b4,b5,b6,b7]):=fun _ _ _ _ _ _ _ _ _ _ _ _ _ _ _ _=>by
  unfold eS;rw[hkw,haw,hsw]; rfl
 show iO P (9999+1) ty _ _=_
 unfold iO;simp only[hu2,hst,Bool.false_eq_true,if_false,hm];rw[ft (hp0 ..) (hp0 ..) (xh hu hk hs ha he 9997 x0 y0 x1 y1 x2 y2 x3 y3 x4 y4 x5 y5 x6 y6 x7 y7) (ft (hp8 ..) (hp8 ..) (xh hu hk hs ha he 9997 x8 y8 x9 y9 x10 y10 x11 y11 x12 y12 x13 y13 x14 y14 x15 y15) rfl)];simp only[Bool.and_true,Bool.and_assoc]
def JN (P:Program) (ty w:TypeId):Bool:=match P.underlying ty with
 | some (.struct fs) => !(P.stoodInHeld ty || fs.any (·.name == "_")) && (fs.toList.map (fun f => (f.type, f.offset)) == [(w, 0), (w, 8)]) && known P w && cZ P w && (aq P w == 8)
 | _=>false
theorem Hl {k:IntKind} {w:TypeId} (h:JN P ty w=true)
  (hu:P.underlying w=some (.array 8 el)) (hk:known P el=true) (hs:aq P el=1) (ha:cZ P el=false) (he:P.underlying el=some (.int k)) (x0 y0 x1 y1 x2 y2 x3 y3 x4 y4 x5 y5 x6 y6 x7 y7 x8 y8 x9 y9 x10 y10 x11 y11 x12 y12 x13 y13 x14 y14 x15 y15:Nat) :
  iO P Op.maxDepth ty (.agg #[.int k ((x0:Nat):Int),.int k ((x1:Nat):Int),.int k ((x2:Nat):Int),.int k ((x3:Nat):Int),.int k ((x4:Nat):Int),.int k ((x5:Nat):Int),.int k ((x6:Nat):Int),.int k ((x7:Nat):Int),.int k ((x8:Nat):Int),.int k ((x9:Nat):Int),.int k ((x10:Nat):Int),.int k ((x11:Nat):Int),.int k ((x12:Nat):Int),.int k ((x13:Nat):Int),.int k ((x14:Nat):Int),.int k ((x15:Nat):Int)]) (.agg #[.int k ((y0:Nat):Int),.int k ((y1:Nat):Int),.int k ((y2:Nat):Int),.int k ((y3:Nat):Int),.int k ((y4:Nat):Int),.int k ((y5:Nat):Int),.int k ((y6:Nat):Int),.int k ((y7:Nat):Int),.int k ((y8:Nat):Int),.int k ((y9:Nat):Int),.int k ((y10:Nat):Int),.int k ((y11:Nat):Int),.int k ((y12:Nat):Int),.int k ((y13:Nat):Int),.int k ((y14:Nat):Int),.int k ((y15:Nat):Int)])=some (decide (x0=y0) && decide (x1=y1) && decide (x2=y2) && decide (x3=y3) && decide (x4=y4) && decide (x5=y5) && decide (x6=y6) && decide (x7=y7) && decide (x8=y8) && decide (x9=y9) && decide (x10=y10) && decide (x11=y11) && decide (x12=y12) && decide (x13=y13) && decide (x14=y14) && decide (x15=y15)):=by
 unfold JN at h
 split at h
 ·rename_i fs hf;simp only[Bool.and_eq_true,Bool.not_eq_true',beq_iff_eq] at h;exact Jo hf h.1.1.1.1 h.1.1.1.2 h.1.1.2 h.1.2 h.2 hu hk hs ha he x0 y0 x1 y1 x2 y2 x3 y3 x4 y4 x5 y5 x6 y6 x7 y7 x8 y8 x9 y9 x10 y10 x11 y11 x12 y12 x13 y13 x14 y14 x15 y15
 ·cases h
end
def Kl:Option Nat→Value
 | none=>.nilFunc
 | some f=>.func (.func f) #[] #[]
section
variable {E : Env} {n : Nat} {m0 : AMem} {fs : Fs} {ps : List Pc} {x : Operand} {v : Value} {ty : TypeId}
theorem GG {el:TypeId} {len b o o' k lo hi:Nat} {cs:List Value} {tg:Tag} {lx hx:Option Operand} {l h:Option Value} (ht:ArT E.P ty el len 1) (hv:ev E fs x=some (ptr b o)) (e1:zx E fs lx=some l) (e2:zx E fs hx=some h) (hp:pk ps k=some (.obj b (.cells cs tg))) (htg:zK tg=true)
  (hl:l=none∧lo=0∨∃k,l=some (.int k (lo:Int))) (hh:h=none∧hi=len∨∃k,h=some (.int k (hi:Int))) (h1:Nat.ble lo hi=true) (h2:Nat.ble hi len=true) (h3:Nat.blt lo len=true) (ho:o'=o+lo) :
  Od E m0 fs ps (.slice ty x lx hx none) (.slice (some ⟨b,o',none⟩) (hi-lo) (len-lo)) ps :=
 fun t m hf hm=>⟨fun b' hb'=>by
  have:dW (ptr b o)=some b:=rfl;simp only[aF,hf.ev hv,Option.bind_some,this] at hb';cases hb'; exact(hm.get hp).2.1,fun K hK=>by
  have hg:=(hm.get hp).2.2;have hlo:=Nat.le_of_ble_eq_true h1;have hhi:=Nat.le_of_ble_eq_true h2;rw[Nat.blt_eq] at h3;have hb:dJ len len l h none=some (lo,hi,len):=kz hlo hhi hl hh;have hs:bP E.P ty (ptr b o) l h none m=some (.slice (some ⟨b,o',none⟩) (hi-lo) (len-lo)):=by
   subst ho;have hne:¬len=lo:=by omega
   cases tg with
   | more s=>cases htg
   | ro=>simp only[bP,ptr,ht.und,ht.known,if_true,hg,hb,ht.size,if_neg hne,Nat.mul_one]
   | own=>simp only[bP,ptr,ht.und,ht.known,if_true,hg,hb,ht.size,if_neg hne,Nat.mul_one]
  rw[Go.Ab.sH (hf.ev hv) (hf.zx e1) (hf.zx e2) rfl hs]; exact hK m hm⟩
theorem Ix {el:TypeId} {b o len k cap:Nat} (ht:E.P.underlying ty=some (.array k el)) (hv:ev E fs x=some (.slice (some ⟨b,o,none⟩) len cap)) (h1:Nat.ble k len=true) :
  Od E m0 fs ps (.sliceToArrayPointer ty x) (ptr b o) ps :=
 .pure (fun _=>rfl) fun t m hf K=>by
  have hs:nV E.P ty (.slice (some ⟨b,o,none⟩) len cap)=some (ptr b o):=by
   simp only[nV,ht,if_pos (Nat.le_of_ble_eq_true h1)]
  show dM (match al E t x with|some p=>(nV E.P ty p).map fun v=>(v,m) | none=>none) K=_
  rw[hf.ev hv]
  show dM ((nV E.P ty _).map _) K=_
  rw[hs]; rfl
end
class TyC (P:Program) (ty:TypeId) (ag:outParam Bool) (sz:outParam Nat):Prop where
 t:TyI P ty ag sz
class FaC (P:Program) (ty:TypeId) (f:Nat) (off:outParam Nat):Prop where
 t:∀b o:Nat,aZ P ty (ptr b o) f=some (ptr b (o+off))
class SlC (P:Program) (ty:TypeId) (el:outParam TypeId) (w:outParam Nat):Prop where
 t:SlT P ty el w
class ArC (P:Program) (ty:TypeId) (el:outParam TypeId) (len w:outParam Nat):Prop where
 t:ArT P ty el len w
class UsC (P:Program) (ty:TypeId) (el:outParam TypeId):Prop where
 t:P.underlying ty=some (.slice el)
section
variable {E : Env} {n : Nat} {m0 : AMem} {fs : Fs} {ps ps' : List Pc} {ops : Array Oper} {os : List Oper} {K : Tm → AMem → Prop} {dr : Bool}
variable {ty : TypeId} {p : String} {af : Array Edge} {d : Option Nat} {o : Op} {g : Option (Nat × Bool)} {v : Value}
theorem Wo.Me {j:Nat} {b:Bool} (hg:qE ops fs (some (j,b)) true) (k:Wo dr E n ops K (⟨d,o,ty,p,af,none⟩::os) m0 fs ps):Wo dr E n ops K (⟨d,o,ty,p,af,some (j,b)⟩::os) m0 fs ps:=by
 cases dr with
 | false =>
  intro t m hf hm;have h:=k t m hf hm;simp only[jy,hg t _ _ _ _ _ hf,if_true];simp only[jy,gn t _ _ _ _ _ hf,if_true] at h;exact h
 | true =>
  intro t m w hf hm hw;have h:=k t m w hf hm hw;simp only[gD,hg t _ _ _ _ _ hf,if_true];simp only[gD,gn t _ _ _ _ _ hf,if_true] at h;exact h
end
section
variable {k : IntKind} {P : Program} {ty : TypeId}
theorem HS (_:k.signed=true) (a b:Int):aX .add ty P (.int k a) (.int k b)=some (.int k (k.wrap (a+b))):=dL _ _ _
theorem HD (_:k.signed=true) (a b:Int):aX .sub ty P (.int k a) (.int k b)=some (.int k (k.wrap (a-b))):=tu _ _ _
theorem GW (_:k.signed=true) (a b:Int):aX .lss ty P (.int k a) (.int k b)=some (.bool (decide (a<b))):=ee _ _ _
theorem H3 (_:k.signed=true) (a b:Int):aX .leq ty P (.int k a) (.int k b)=some (.bool (decide (a≤b))):=uf _ _ _
theorem Ic (_:k.signed=true) (a b:Int):aX .gtr ty P (.int k a) (.int k b)=some (.bool (decide (b<a))):=o3 _ _ _
theorem H7 (_:k.signed=true) (a b:Int):aX .geq ty P (.int k a) (.int k b)=some (.bool (decide (b≤a))):=oO _ _ _
theorem G4 (_:k.signed=true) (a b:Int):aX .eql ty P (.int k a) (.int k b)=some (.bool (decide (a=b))):=cU _ _ _
theorem I0 (_:k.signed=true) (a b:Int):aX .neq ty P (.int k a) (.int k b)=some (.bool (!decide (a=b))):=IL _ _
theorem G5 (_:k.signed=false) (a b:Nat):aX .lss ty P (.int k (a:Int)) (.int k (b:Int))=some (.bool (decide (a<b))):=Hf _ _
theorem HM (_:k.signed=false) (a b:Nat):aX .leq ty P (.int k (a:Int)) (.int k (b:Int))=some (.bool (decide (a≤b))):=Hz _ _
theorem Hy (_:k.signed=false) (a b:Nat):aX .gtr ty P (.int k (a:Int)) (.int k (b:Int))=some (.bool (decide (b<a))):=Hq _ _
theorem IW (_:k.signed=false) (a b:Nat):aX .geq ty P (.int k (a:Int)) (.int k (b:Int))=some (.bool (decide (b≤a))):=GZ _ _
theorem IQ (_:k.signed=false) (a b:Nat):aX .eql ty P (.int k (a:Int)) (.int k (b:Int))=some (.bool (decide (a=b))):=Dt _ _
theorem Hx (_:k.signed=false) (a b:Nat):aX .neq ty P (.int k (a:Int)) (.int k (b:Int))=some (.bool (!decide (a=b))):=Iv _ _
end
section
variable {E : Env} {n : Nat} {m0 : AMem} {fs : Fs} {ps ps' : List Pc} {ops : Array Oper} {os : List Oper} {K : Tm → AMem → Prop} {dr : Bool}
variable {ty ty' oty : TypeId} {p : String} {af : Array Edge} {d : Nat} {dd : Option Nat} {o : Op} {a b r v : Value} {x y c : Operand}
theorem Wo.kN (k:Wo dr E n ops K (⟨dd,o,ty,p,af,none⟩::os) m0 fs ps):Wo dr E n ops K (⟨dd,o,ty,p,af,none⟩::os) m0 fs ps:=k
theorem Wo.kG {g:Nat × Bool} (k:Wo dr E n ops K (⟨dd,o,ty,p,af,some g⟩::os) m0 fs ps):Wo dr E n ops K (⟨dd,o,ty,p,af,some g⟩::os) m0 fs ps:=k
def Has (ps:List Pc) (q:Pc):Prop:=∃k,pk ps k=some q
theorem Has.z {q:Pc}:Has (q::ps) q:=⟨0,rfl⟩
theorem Has.s {q q':Pc} (h:Has ps q):Has (q'::ps) q:=by obtain⟨k,h⟩:=h; exact⟨k+1,h⟩
theorem Wo.ML (h:ev E fs x=some v) (hd:Nat.blt d n=true) (k:Wo dr E n ops K os m0 ((d,v)::fs) ps):Wo dr E n ops K (⟨some d,.move x,ty,p,af,none⟩::os) m0 fs ps:=Wo.od (ai h) hd k
theorem Wo.Mv (h:ev E fs x=some v) (hd:Nat.blt d n=true) (k:Wo dr E n ops K os m0 ((d,v)::fs) ps):Wo dr E n ops K (⟨some d,.assign x,ty,p,af,none⟩::os) m0 fs ps:=Wo.od (cc h) hd k
theorem Wo.MH {op:BinOp} (h:ev E fs x=some a) (h':ev E fs y=some b) (hr:aX op oty E.P a b=some r) (hd:Nat.blt d n=true) (k:Wo dr E n ops K os m0 ((d,r)::fs) ps):Wo dr E n ops K (⟨some d,.binOp op oty x y ty',ty,p,af,none⟩::os) m0 fs ps:=Wo.od (aG h h' hr) hd k
theorem Wo.Mk {f:Nat} (h:ev E fs x=some a) (hr:aZ E.P oty a f=some r) (hd:Nat.blt d n=true) (k:Wo dr E n ops K os m0 ((d,r)::fs) ps):Wo dr E n ops K (⟨some d,.fieldAddr oty x f,ty,p,af,none⟩::os) m0 fs ps:=Wo.od (iy h hr) hd k
def D3 (ps:List Pc) (q q':Pc) (ps':List Pc):Prop:=∃k,pk ps k=some q∧cx ps k q'=ps'
theorem D3.z {q q':Pc}:D3 (q::ps) q q' (q'::ps):=⟨0,rfl,rfl⟩
theorem D3.s {q q' r:Pc} (h:D3 ps q q' ps'):D3 (r::ps) q q' (r::ps'):=by obtain⟨k,h,h'⟩:=h; exact⟨k+1,h,by rw[←h']; rfl⟩
theorem Wo.Mr {b:Bool} (hc:ev E fs c=some (.bool b)) (hb:b=true) (h:ev E fs x=some v) (hd:Nat.blt d n=true) (k:Wo dr E n ops K os m0 ((d,v)::fs) ps):Wo dr E n ops K (⟨some d,.pick c x y,ty,p,af,none⟩::os) m0 fs ps:=Wo.od (dn hc hb h) hd k
theorem Wo.Ml {b:Bool} (hc:ev E fs c=some (.bool b)) (hb:b=false) (h:ev E fs y=some v) (hd:Nat.blt d n=true) (k:Wo dr E n ops K os m0 ((d,v)::fs) ps):Wo dr E n ops K (⟨some d,.pick c x y,ty,p,af,none⟩::os) m0 fs ps:=Wo.od (dk hc hb h) hd k
theorem Wo.Mo (hc:ev E fs c=some (.bool true)) (h:ev E fs x=some v) (hd:Nat.blt d n=true) (k:Wo dr E n ops K os m0 ((d,v)::fs) ps):Wo dr E n ops K (⟨some d,.pick c x y,ty,p,af,none⟩::os) m0 fs ps:=Wo.od (HW hc h) hd k
theorem Wo.MC (hc:ev E fs c=some (.bool false)) (h:ev E fs y=some v) (hd:Nat.blt d n=true) (k:Wo dr E n ops K os m0 ((d,v)::fs) ps):Wo dr E n ops K (⟨some d,.pick c x y,ty,p,af,none⟩::os) m0 fs ps:=Wo.od (aC hc h) hd k
theorem Wo.MG {i:Nat} {vs:Array Value} (h:ev E fs x=some (.tuple vs)) (hr:vs[i]? = some r) (hd:Nat.blt d n=true) (k:Wo dr E n ops K os m0 ((d,r)::fs) ps):Wo dr E n ops K (⟨some d,.extract x i,ty,p,af,none⟩::os) m0 fs ps:=Wo.od (cF h hr) hd k
theorem Wo.Mx {b:Bool} (h:ev E fs x=some (.bool b)) (hd:Nat.blt d n=true) (k:Wo dr E n ops K os m0 ((d,.bool (!b))::fs) ps):Wo dr E n ops K (⟨some d,.unOp .not oty x,ty,p,af,none⟩::os) m0 fs ps:=Wo.od (DD h rfl) hd k
theorem Wo.MF {el:TypeId} {len w b o i:Nat} {kd:IntKind} (ht:ArT E.P oty el len w) (h:ev E fs x=some (ptr b o)) (h':ev E fs y=some (.int kd (i:Int))) (hi:i<len) (hd:Nat.blt d n=true) (k:Wo dr E n ops K os m0 ((d,ptr b (o+i*w))::fs) ps):Wo dr E n ops K (⟨some d,.indexAddr oty x y,ty,p,af,none⟩::os) m0 fs ps:=Wo.od (tM h h' (u6 ht hi)) hd k
theorem Wo.LC {elem:TypeId} {b o w l cap:Nat} {i:Int} {kd:IntKind} (ht:SlT E.P oty elem w) (hx:ev E fs x=some (.slice (some ⟨b,o,none⟩) l cap)) (hy:ev E fs y=some (.int kd i)) (hi:0≤i∧i.toNat<l) (hd:Nat.blt d n=true) (k:Wo dr E n ops K os m0 ((d,ptr b (o+i.toNat*w+0))::fs) ps):Wo dr E n ops K (⟨some d,.indexAddr oty x y,ty,p,af,none⟩::os) m0 fs ps:=Wo.od (kR ht hx hy hi) hd k
theorem Wo.LA {elem:TypeId} {b w l cap:Nat} {i:Int} {kd:IntKind} (ht:SlT E.P oty elem w) (hx:ev E fs x=some (.slice (some ⟨b,0,none⟩) l cap)) (hy:ev E fs y=some (.int kd i)) (hi:0≤i∧i.toNat<l) (hd:Nat.blt d n=true) (k:Wo dr E n ops K os m0 ((d,ptr b (i.toNat*w+0))::fs) ps):Wo dr E n ops K (⟨some d,.indexAddr oty x y,ty,p,af,none⟩::os) m0 fs ps:=Wo.od (dC ht hx hy hi) hd k
def wj (ps:List Pc) (a:Option Addr):Prop:=∃k q,pk ps k=some q∧(gm a=q.oT∨a=none)
theorem wj.z {q:Pc} {a:Option Addr} (h:gm a=q.oT):wj (q::ps) a:=⟨0,q,rfl,.inl h⟩
theorem wj.s {q:Pc} {a:Option Addr} (h:wj ps a):wj (q::ps) a:=by obtain⟨k,r,h⟩:=h; exact⟨k+1,r,h⟩
theorem Wo.Mf {l cap:Nat} {a:Option Addr} {ars:Array Operand} {elem:TypeId} (hu:E.P.underlying oty=some (.slice elem)) (ha:gz E fs ars.toList=some [.slice a l cap]) (hp:wj ps a) (hd:Nat.blt d n=true) (k:Wo dr E n ops K os m0 ((d,.int .i64 (l:Int))::fs) ps):Wo dr E n ops K (⟨some d,.call ⟨.builtin .len,ars,#[oty]⟩,ty,p,af,none⟩::os) m0 fs ps:=by
 obtain⟨_,_,hp,hb⟩:=hp;exact Wo.od (Ln hu ha hp hb) hd k
theorem Wo.zT {j:Nat} {q:Bool} (hd:(ops[j]?).bind (·.dst)=some d) (h:lk fs d=some (.bool q)) (hq:q=true) (k:Wo dr E n ops K (⟨dd,o,ty,p,af,none⟩::os) m0 fs ps):Wo dr E n ops K (⟨dd,o,ty,p,af,some (j,true)⟩::os) m0 fs ps:=Wo.Me (gg hd h (aS hq)) k
theorem Wo.zF {j:Nat} {q:Bool} (hd:(ops[j]?).bind (·.dst)=some d) (h:lk fs d=some (.bool q)) (hq:q=false) (k:Wo dr E n ops K (⟨dd,o,ty,p,af,none⟩::os) m0 fs ps):Wo dr E n ops K (⟨dd,o,ty,p,af,some (j,false)⟩::os) m0 fs ps:=Wo.Me (gg hd h (gk hq)) k
theorem Wo.Mg {j d':Nat} {q:Bool} (hd:(ops[j]?).bind (·.dst)=some d') (h:lk fs d'=some (.bool q)) (hq:q=false) (hd':Nat.blt d n=true) (k:Wo dr E n ops K os m0 ((d,undef)::fs) ps):Wo dr E n ops K (⟨some d,o,ty,p,af,some (j,true)⟩::os) m0 fs ps:=Wo.s (gg hd h (bz hq)) hd' k
theorem Wo.MJ {j d':Nat} {q:Bool} (hd:(ops[j]?).bind (·.dst)=some d') (h:lk fs d'=some (.bool q)) (hq:q=true) (hd':Nat.blt d n=true) (k:Wo dr E n ops K os m0 ((d,undef)::fs) ps):Wo dr E n ops K (⟨some d,o,ty,p,af,some (j,false)⟩::os) m0 fs ps:=Wo.s (gg hd h (vT hq)) hd' k
theorem Wo.Mp {j d':Nat} {q:Bool} (hd:(ops[j]?).bind (·.dst)=some d') (h:lk fs d'=some undef) (hd':Nat.blt d n=true) (k:Wo dr E n ops K os m0 ((d,undef)::fs) ps):Wo dr E n ops K (⟨some d,o,ty,p,af,some (j,q)⟩::os) m0 fs ps:=Wo.s (gu hd h) hd' k
end
structure Bx (Q:Prop):Prop where
 v:Q
theorem wz {P Q:Prop} (k:Q) (h:Bx Q→P:=by
  intro h
  repeat first
   | refine Wk.seq ?_
   | refine Wk.region ?_
   | (apply Wk.lQ; exact rfl; first|assumption|exact rfl)
   | (apply Wk.J4; exact rfl; first|assumption|exact rfl)
   | refine Wk.skip ?_
   | refine Wk.ret ?_
   | refine Wk.exit ?_
   | refine Wk.block ?_
   | (apply Wk.draw; kernel_rfl)
  repeat first
   | ((first|refine Wo.kN ?_ | (refine Wo.kG ?_; first | (apply Wo.zT; exact rfl; exact rfl; first|assumption|with_reducible exact rfl) | (apply Wo.zF; exact rfl; exact rfl; first|assumption|with_reducible exact rfl))); first
    | (apply Wo.ML; exact rfl; exact rfl)
    | (apply Wo.Mv; exact rfl; exact rfl)
    | (apply Wo.MH; exact rfl; exact rfl; (first | (apply HS; exact rfl) | (apply GW; exact rfl) | (apply HD; exact rfl) | (apply G4; exact rfl) | (apply I0; exact rfl) | (apply H7; exact rfl) | (apply Ic; exact rfl) | (apply H3; exact rfl) | (apply IQ; exact rfl) | (apply Hx; exact rfl) | (apply G5; exact rfl) | (apply HM; exact rfl) | (apply IW; exact rfl) | (apply Hy; exact rfl) | (apply lN; exact rfl) | (apply mM; exact rfl) | (apply mZ; exact rfl) | (apply sQ; exact rfl) | (apply Ex; exact rfl)); exact rfl)
    | (apply Wo.Mk; exact rfl; exact FaC.t _ _; exact rfl)
    | (apply Wo.zld; exact TyC.t; exact rfl; (repeat first|exact Has.z|refine Has.s ?_); exact rfl; exact rfl)
    | (apply Wo.zldr; exact TyC.t; exact rfl; (repeat first|exact Has.z|refine Has.s ?_); exact aK (by assumption); exact rfl; exact rfl; exact rfl)
    | (apply Wo.zlda; exact TyC.t; exact rfl; (repeat first|exact Has.z|refine Has.s ?_); exact aK (by assumption); exact rfl; exact rfl; exact rfl)
    | (apply Wo.zst; exact TyC.t; exact rfl; exact rfl; (repeat first|exact D3.z|apply D3.s); exact rfl; exact rfl)
    | (apply Wo.Mr; exact rfl; assumption; exact rfl; exact rfl)
    | (apply Wo.Ml; exact rfl; assumption; exact rfl; exact rfl)
    | (apply Wo.Mo; exact rfl; exact rfl; exact rfl)
    | (apply Wo.MC; exact rfl; exact rfl; exact rfl)
    | (apply Wo.MG; exact rfl; exact rfl; exact rfl)
    | (apply Wo.Mx; exact rfl; exact rfl)
    | (apply Wo.MF; exact ArC.t; exact rfl; exact rfl; decide; exact rfl)
    | (apply Wo.LA; exact SlC.t; exact rfl; exact rfl; assumption; exact rfl)
    | (apply Wo.LC; exact SlC.t; exact rfl; exact rfl; assumption; exact rfl)
    | (apply Wo.Mf; exact UsC.t; exact rfl; (repeat first|exact wj.z rfl|refine wj.s ?_); exact rfl))
   | (refine Wo.kG ?_; first
    | (apply Wo.Mg; exact rfl; exact rfl; (first|assumption|with_reducible exact rfl); exact rfl)
    | (apply Wo.MJ; exact rfl; exact rfl; (first|assumption|with_reducible exact rfl); exact rfl)
    | (apply Wo.Mp; exact rfl; exact rfl; exact rfl))
  try refine Wo.nil ?_
  repeat first
   | refine At.tn ?_
   | refine At.te ?_
   | refine At.tr ?_
   | refine At.bn ?_
   | refine At.be ?_
   | refine At.br ?_
   | refine At.bx rfl ?_
  exact h.v):P:=h ⟨k⟩
theorem ak {P Q:Prop} (k:Q) (h:Bx Q→P:=by intro h; refine wz ?_; refine wz ?_; exact h.v):P:=h ⟨k⟩
theorem eD {P Q:Prop} (k:Q) (h:Bx Q→P:=by intro h; refine wz ?_; refine wz ?_; refine wz ?_; exact h.v):P:=h ⟨k⟩
theorem LU {P Q:Prop} (k:Q) (h:Bx Q→P:=by intro h; refine wz ?_; refine wz ?_; refine wz ?_; refine wz ?_; exact h.v):P:=h ⟨k⟩
section
variable {E : Env} {n : Nat} {m0 : AMem} {fs : Fs} {ps : List Pc} {fn : FuncId} {ro : Option Nat} {c : Code} {Q : AExit → Tm → AMem → Prop}
def Wl (E:Env) (n:Nat) (fn:FuncId) (ro:Option Nat) (c:Code) (Q:AExit→Tm→AMem→Prop) (m0:AMem) (fs:Fs) (ps:List Pc):Prop:=∀t m,Fr t fs→Hp m0 m ps→jL E n fn ro c Q t m
theorem Wk.Km (h:Wl E n fn ro c Q m0 fs ps):Wk E n fn ro (.loop c) Q m0 fs ps:=fun t m hf hm=>.loop (h t m hf hm)
theorem Wl.round (h:Wk E n fn ro c (ke (jL E n fn ro c Q) Q) m0 fs ps):Wl E n fn ro c Q m0 fs ps:=fun t m hf hm=>.round (h t m hf hm)
theorem At.tl (h:Wl E n fn ro c Q m0 fs ps):At (ke (jL E n fn ro c Q) Q) .normal m0 fs ps:=h
end
theorem cf {β:Type} {i:Int} {n:Nat} {k:Option β} {r:β} (h:gd (bJ i n) k=some r):(0≤i∧i.toNat<n)∧k=some r:=⟨j9 (ax h).1,(ax h).2⟩
section
variable {E : Env} {n : Nat} {m0 : AMem} {fs fs' : Fs} {ps ps' : List Pc} {ops : Array Oper} {os : List Oper} {K : Tm → AMem → Prop} {dr : Bool} {fn : FuncId} {ro : Option Nat} {c : Code} {Q : AExit → Tm → AMem → Prop}
variable {ty oty : TypeId} {p : String} {af : Array Edge} {d : Nat} {g : Option (Nat × Bool)} {x : Operand} {v : Value}
theorem ae {γ:Type} {G:γ→En} {e:AExit} (g:γ) (ks:List Nat) (he:e=(G g).e:=by rfl) (hs:sub fs (G g).fs:=by repeat first|exact sn|refine sc rfl ?_) (hn:jH ks=true:=by rfl) (hp:ay ps ks=some (G g).ps:=by rfl):At (nI m0 G) e m0 fs ps:=At.en g he hs (an.ay ks hn hp)
theorem ar {α:Type} {V:α→Value} {N:α→List Pc} {rs:List ResultVar} {vs:List Value} (x:α) (ks:List Nat) (hr:Res1 E fs ps rs vs:=by repeat first|exact .nil | (apply Res1.tmp; exact rfl) | (apply Res1.zc; exact TyC.t; exact rfl; (repeat first|exact Has.z|refine Has.s ?_); exact rfl)) (hv:eH vs=V x:=by rfl) (hn:jH ks=true:=by rfl) (hp:ay ps ks=some (N x):=by rfl):At (pZ E rs fun v m=>∃x,v=V x∧Hp m0 m (N x)) .ret m0 fs ps:=.ret hr fun _ hm=>⟨x,hv,hm.ay ks hn hp⟩
def ap {ρ:Type} {δ:ρ→Type} (X:(r:ρ)→δ r→En) (r:ρ):δ r→En:=X r
theorem lo {σ ρ γ:Type} {δ:ρ→Type} {body:σ→Option (σ ⊕ ρ)} {X:(r:ρ)→δ r→En} {N:Nat} {s:σ} {r:ρ} (h:bL body N s=some r) (g:γ) (ks:List Nat) (I:σ→γ→En)
  (hb:∀s g r,body s=some r→Wk E n fn ro c (match r with | .inl s'=>nI m0 (I s') | .inr r=>nI m0 (X r)) m0 (I s g).fs (I s g).ps)
  (hs:sub fs (I s g).fs:=by repeat first|exact sn|refine sc rfl ?_) (hd:jH ks=true:=by rfl) (hp:ay ps ks=some (I s g).ps:=by rfl)
  (hn:∀s g,(I s g).e = .normal:=by exact fun _ _=>rfl) (hx:∀r g,(X r g).e≠.normal:=by intro r d; first | (intro e; cases e; done) | (rcases r with r|r<;>first | (intro e; cases e; done) | (rcases r with r|r<;>first | (intro e; cases e; done) | (rcases r with r|r<;>intro e<;>cases e)))):Wk E n fn ro (.loop c) (nI m0 (ap X r)) m0 fs ps:=.np hs (an.ay ks hd hp) (Wk.loop body I X hb hn hx N s r h g)
theorem ct {ρ γ:Type} (F:ρ→γ→En) (r:ρ) (h:Wk E n fn ro c (nI m0 (ap F r)) m0 fs ps) (k:∀g,At Q (F r g).e m0 (F r g).fs (F r g).ps):Wk E n fn ro c Q m0 fs ps:=.cut h k
theorem wb (k:∀b,Wo dr E n ops K os m0 ((d,ptr b 0)::fs) (.obj b (.cells v.cells.toList .own)::ps)) (h:ev E fs x=some v:=by rfl) (hd:Nat.blt d n=true:=by rfl):Wo dr E n ops K (⟨some d,.box oty x,ty,p,af,none⟩::os) m0 fs ps:=Wo.x (K7 h) gn hd k
theorem wa {z:Value} (hz:bj E.P oty=some z) (k:∀b,Wo dr E n ops K os m0 ((d,ptr b 0)::fs) (.obj b (.cells z.cells.toList .own)::ps)) (hp:bh z=true:=by rfl) (hd:Nat.blt d n=true:=by rfl):Wo dr E n ops K (⟨some d,.alloc oty,ty,p,af,none⟩::os) m0 fs ps:=Wo.x (Ii hz hp) gn hd k
theorem cw {f:FuncId} {F:Func} {args:List Value} {rs:List ResultVar} {N:Nat} {R:Value→AMem→Prop} {m:AMem} (hf:E.P.funcs[f]? = some F) (hm:Hp m0 m ps) (h:Wk E N f none c (pZ E rs R) m0 (wq args 0 []) ps) (hp:E.cP f=none:=by rfl) (hb:F.body=some c:=by rfl) (hrs:F.results.toList=rs:=by rfl) (hN:max args.length F.ntmps=N:=by rfl):aE E f args m R:=aD hp hf hb hrs hN hm h
variable {m : AMem} {a : Option Addr} {cap w l : Nat} {es : List (List Value)}
theorem Hp.q (h:Hp m0 m ps) (k:Nat) {p:Pc} (hp:pk ps k=some p:=by rfl) (hi:IsRd p a cap w l es:=by first|exact .rd _ _ _ _ _|exact .sl _ _ _ _|exact .arr _ _ _ _ _):Rd m a cap w l es:=h.rd hp hi
theorem Hp.no (h:Hp m0 m ps) (k:Nat) (hp:pk ps k=some (.rd a cap w l es):=by rfl):∀b,gm a=some b→¬tT ps b:=h.Ji hp
theorem Hp.i (h:Hp m0 m ps) (hr:Rd m a cap w l es) (ho:(ps.all Pc.E3)=true:=by rfl):Hp m0 m (.rd a cap w l es::ps):=h.qX ho hr
variable {α : Type} {V : α → Value} {N : α → List Pc} {R : α → Pc} {f : Operand} {q : FuncId} {ars : Array Operand} {ts : Array TypeId} {args : List Value} {prs : List (Nat × Nat)} {ss : List Nk}
theorem wc (hg:qE ops fs g true) (hc:∀m,Hp m0 m ps→aE E q args m (fun v m'=>∃x,v=V x∧Hp m m' (N x))) (k:∀x,Wo dr E n ops K os m0 ((d,V x)::fs) (N x++ps)) (hf:ev E fs f=some (.func (.func q) #[] #[]):=by rfl) (ha:gz E fs ars.toList=some args:=by rfl) (ho:∀x,sR (N x)=true:=by exact fun _=>rfl) (hd:Nat.blt d n=true:=by rfl):Wo dr E n ops K (⟨some d,.call ⟨.value f,ars,ts⟩,ty,p,af,g⟩::os) m0 fs ps:=Wo.x (Lk hf ha hc ho) hg hd k
theorem wv (hg:qE ops fs g true) (hc:∀m,Hp m0 m ps→aE E q args m (fun v m'=>∃x,v=V x∧Hp m m' [R x,.gen (mB (tT ps))])) (k:∀x,Wo dr E n ops K os m0 ((d,V x)::fs) (R x::ps)) (hf:ev E fs f=some (.func (.func q) #[] #[]):=by rfl) (ha:gz E fs ars.toList=some args:=by rfl) (ho:∀x,lZ [R x]=true:=by exact fun _=>rfl) (hd:Nat.blt d n=true:=by rfl):Wo dr E n ops K (⟨some d,.call ⟨.value f,ars,ts⟩,ty,p,af,g⟩::os) m0 fs ps:=Wo.x (uL (N:=fun x=>[R x]) hf ha hc ho) hg hd k
theorem nc (hg:qE ops fs g true) (hc:∀m,Hp m0 m ps→aE E q args m (fun v m'=>∃x,v=V x∧Hp m m' (N x))) (k:∀x,Wn E n ops prs K os (.call::ss) m0 ((d,V x)::fs) (N x++ps)) (hf:ev E fs f=some (.func (.func q) #[] #[]):=by rfl) (ha:gz E fs ars.toList=some args:=by rfl) (ho:∀x,sR (N x)=true:=by exact fun _=>rfl) (hd:Nat.blt d n=true:=by rfl):Wn E n ops prs K (⟨some d,.call ⟨.value f,ars,ts⟩,ty,p,af,g⟩::os) ss m0 fs ps:=Wn.c (KV hf ha hc ho) hg hd k
theorem nv (hg:qE ops fs g true) (hc:∀m,Hp m0 m ps→aE E q args m (fun v m'=>∃x,v=V x∧Hp m m' [R x,.gen (mB (tT ps))])) (k:∀x,Wn E n ops prs K os (.call::ss) m0 ((d,V x)::fs) (R x::ps)) (hf:ev E fs f=some (.func (.func q) #[] #[]):=by rfl) (ha:gz E fs ars.toList=some args:=by rfl) (ho:∀x,lZ [R x]=true:=by exact fun _=>rfl) (hd:Nat.blt d n=true:=by rfl):Wn E n ops prs K (⟨some d,.call ⟨.value f,ars,ts⟩,ty,p,af,g⟩::os) ss m0 fs ps:=Wn.c (yZ (N:=fun x=>[R x]) hf ha hc ho) hg hd k
end
end Go.Ab.W
end
