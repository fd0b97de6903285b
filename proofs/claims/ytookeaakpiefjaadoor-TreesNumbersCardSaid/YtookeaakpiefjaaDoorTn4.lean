/- A part of the proof. -/
import Derived.Test.YtookeaakpiefjaaDoorTn3
section
namespace Go.Ab.W
open Go Go.Ab
attribute [local irreducible] Tm.at Trie.set Trie.get AMem.get AMem.set AMem.alloc AMem.ww AMem.kill
section
variable {α : Type}
def Kw:List α→Option (α × α × α × α × α × α × α × α)
 | [a,b,c,d,e,f,g,h]=>some (a,b,c,d,e,f,g,h)
 | _=>none
theorem pC {xs:List α} {a b c d e f g h:α} (hx:Kw xs=some (a,b,c,d,e,f,g,h)):xs = [a,b,c,d,e,f,g,h]:=by
 unfold Kw at hx
 split at hx
 ·cases hx; rfl
 ·cases hx
end
section
variable {E : Env} {n : Nat} {m0 m : AMem} {fs : Fs} {ps : List Pc} {x y z : Operand} {ty : TypeId}
theorem ah.rm {α:Type} {xs:List α} {f:α→List Value} {k b w l:Nat} {cs:List Value} (hp:pk ps k=some (.obj b (.cells cs .own))) (hx:cs=(xs.map f).flatten) (hl:xs.length=l) (he:Enc f w) (h0:Nat.blt 0 w=true):ah m0 ps (cD ps k (.arr b w l (xs.map f) .own)):=fun m h=>by
 subst hx;exact h.put hp rfl rfl rfl (Nat.le_refl _) h.ext ⟨(h.get hp).1,(h.get hp).2.1,(h.get hp).2.2,by rw[List.length_map]; exact hl,fun e hm=>by obtain⟨x,_,rfl⟩:=List.mem_map.1 hm; exact he.1 x,.inl rfl,by rwa[Nat.blt_eq] at h0⟩ fun _ _ _=>rfl
theorem ah.zn {α:Type} {xs ys:List α} {f:α→List Value} {k b w l:Nat} {cs:List Value} {tg:Tag} (hp:pk ps k=some (.arr b w l (xs.map f) tg)) (hx:xs=ys) (hc:(ys.map f).flatten=cs):ah m0 ps (cD ps k (.obj b (.cells cs tg))):=fun m h=>by
 subst hx hc;exact h.put hp rfl rfl rfl (Nat.le_refl _) h.ext ⟨(h.get hp).1,(h.get hp).2.1,(h.get hp).2.2.1⟩ fun _ _ _=>rfl
theorem oi {el:TypeId} {b len w:Nat} {i:Int} {kd:IntKind} (h:ArT E.P ty el len w) (hx:ev E fs x=some (ptr b 0)) (hy:ev E fs y=some (.int kd i)) (hi:0≤i∧i.toNat<len):Od E m0 fs ps (.indexAddr ty x y) (ptr b (i.toNat*w+0)) ps:=by
 obtain⟨j,rfl⟩:=Int.eq_ofNat_of_zero_le hi.1;have hj:j<len:=by simpa using hi.2
 refine jE hx hy ?_;rw[jV h (b:=b) (o:=0) hj];simp
end
section
variable {E : Env} {n : Nat} {m0 m : AMem} {fs : Fs} {ps : List Pc}
theorem Hp.mI {m0 m:AMem} {l0:List Pc} {H:Nat→Prop} {a:Option Addr} {cap w l:Nat} {es:List (List Value)} (h:Hp m0 m (l0++[.gen (cg H)])) (ho:(l0.all Pc.H4)=true) (hr:Rd m a cap w l es) (ha:∀b,iD a=some b→¬H b):Hp m0 m (.rd a cap w l es::(l0++[.gen (cg H)])) :=
 ⟨h.ext,fun p hp=>by
  rcases List.mem_cons.1 hp with rfl|hp
  ·exact hr
  ·exact h.ok p hp,List.pairwise_cons.2 ⟨fun q hq=>⟨fun b a=>a.elim (fun a=>by cases a.1) fun a=>a.elim,fun b h1 h2=>by
   rcases List.mem_append.1 hq with hq|hq
   ·exact absurd h1 (Pc.zG (List.all_eq_true.1 ho q hq) b)
   ·rw[List.mem_singleton.1 hq] at h1;rcases h1 with h1|h1
    ·cases h1.1
    ·exact ha b (h2.elim id fun h=>h.elim) h1⟩,h.apart⟩⟩
def vw (l:List Pc):Bool:=l.all Pc.bound
theorem eF {α:Type} {V:α→Value} {N:α→List Pc} {f:Operand} {g:FuncId} {ars:Array Operand} {ts:Array TypeId} {args:List Value} (hf:ev E fs f=some (.func (.func g) #[] #[])) (ha:iq E fs ars.toList=some args) (hc:∀m,Hp m0 m ps→aF E g args m (fun v m'=>∃x,v=V x∧Hp m m' (N x++[.gen (cg (AT ps))]))) (ho:∀x,vw (N x)=true):Ox E m0 fs ps (.call ⟨.value f,ars,ts⟩) V (fun x=>N x++ps) :=
 e6 hf ha fun m hm=>by
  simp only[List.nil_append,List.append_nil];exact(hc m hm).mono fun v m' ⟨x,e,h⟩=>⟨x,e,hm.D0 h fun p hp=>List.all_eq_true.1 (ho x) p hp⟩
theorem ef {α:Type} {V:α→Value} {N:α→List Pc} {f:Operand} {g:FuncId} {ars:Array Operand} {ts:Array TypeId} {args:List Value} (hf:ev E fs f=some (.func (.func g) #[] #[])) (ha:iq E fs ars.toList=some args) (hc:∀m,Hp m0 m ps→aF E g args m (fun v m'=>∃x,v=V x∧Hp m m' (N x++[.gen (cg (AT ps))]))) (ho:∀x,vw (N x)=true):Oc E m0 fs ps (.call ⟨.value f,ars,ts⟩) V (fun x=>N x++ps) :=
 fun t m hfr hm hwl=>⟨fun b hb=>(by simp[aE] at hb),fun K hK=>by
  show jz E (ar E t f) (aZ E t ars.toList) m _
  rw[hfr.ev hf,hfr.iq ha,pf];refine(hc m hm).mono fun v m' ⟨x,e,h⟩=>?_;rw[e];refine hK x m' (hm.D0 h fun p hp=>List.all_eq_true.1 (ho x) p hp) ?_;have:=h.ext.wl;omega⟩
end
section
variable {E : Env} {n : Nat} {m0 : AMem} {fs : Fs} {ps : List Pc} {ops : Array Oper} {os : List Oper} {dr : Bool}
theorem Wo.cP {K:Tm→AMem→Prop} {α:Type} {f:α→List Value} {k w l cap:Nat} {a:Option Addr} {xs:List α} (hp:pk ps k=some (.rd a cap w l (xs.map f))) (h:l=xs.length→Wo dr E n ops K os m0 fs ps):Wo dr E n ops K os m0 fs ps:=by
 have key:∀m,Hp m0 m ps→l=xs.length:=fun m hm=>Cp hm hp;cases dr with
 | false=>exact fun t m hf hm=>h (key m hm) t m hf hm
 | true=>exact fun t m w hf hm hw=>h (key m hm) t m w hf hm hw
theorem Wn.cP {prs:List (Nat × Nat)} {K:Tm→AMem→Prop} {ss:List Nk} {α:Type} {f:α→List Value} {k w l cap:Nat} {a:Option Addr} {xs:List α} (hp:pk ps k=some (.rd a cap w l (xs.map f))) (h:l=xs.length→Wn E n ops prs K os ss m0 fs ps):Wn E n ops prs K os ss m0 fs ps :=
 fun t m ns hf hm hn=>h (Cp hm hp) t m ns hf hm hn
end
section
variable {E : Env} {m0 : AMem} {fs : Fs} {ps : List Pc} {ty : TypeId}
theorem Jp {α:Type} {f:α→List Value} {elem t0:TypeId} {w k c0 l l1:Nat} {a a0:Option Addr} {xs ys:List α} {ars:Array Operand} (he:Enc f w) (ht:SlT E.P ty elem w) (h2:∃e0,E.P.underlying t0=some (.slice e0)) (ha:iq E fs ars.toList=some [.slice a l l,.slice a0 l1 c0]) (hp:pk ps k=some (.sl a w l (xs.map f))) (hr:∀m,Hp m0 m ps→Rd m a0 c0 w l1 (ys.map f)) (hl:oD (xs++ys).length=true) :
  Ox E m0 fs ps (.call ⟨.builtin .append,ars,#[ty,t0]⟩) (fun a':Option Addr=>.slice a' (xs++ys).length (xs++ys).length) (fun a'=>cD ps k (.sl a' w (xs++ys).length ((xs++ys).map f))):=fun t m hf hm=>⟨fun b hb=>(by simp[aE] at hb),fun K hK=>by
 have h0:l=xs.length:=by
  have:=hm.get hp;rcases this with⟨h3,h0,_⟩|⟨b,tg,_,h0⟩
  ·rw[h3,List.map_eq_nil_iff.1 h0]; rfl
  ·have:=h0.2.2.2.1; rw[List.length_map] at this; exact this.symm
 have h4:l1=ys.length:=by
  have:=(hr m hm).1; rw[List.length_map] at this; exact this.symm
 have e0:l+l1=(xs++ys).length:=by rw[h0,h4,List.length_append]
 obtain⟨a',m',h5,h1⟩:=q8 (n:=l) ht h2 hm hp (hr m hm) (he.sx ys) (he.ia ys) (by rw[e0]; exact hl)
 have:aJ E.P .append #[ty,t0] [.slice a l l,.slice a0 l1 c0] m=some (.slice a' (l+l1) (l+l1),m'):=h5;rw[Go.Ab.dZ (hf.iq ha) this];have e1:xs.map f++ys.map f=(xs++ys).map f:=List.map_append.symm;rw[e1,e0] at h1;rw[e0];exact hK a' m' h1⟩
end
section
theorem lU (c:Value) (cs:List Value) (o:Nat) (vs:List Value):aB (c::cs) (o+1) vs=c::aB cs o vs:=by cases vs<;>rfl
theorem eJ:∀(cs:List Value) (o:Nat),aB cs o []=cs
 | [],0=>rfl
 | _::_,0=>rfl
 | [],_+1=>rfl
 | c::cs,o+1=>by rw[lU,eJ cs o]
theorem oa {f:Nat→List Value} {v:Nat→Value} (hf:∀x,f x = [v x]):∀{ys xs zs:List Nat},ys++xs.drop ys.length=zs→ys.length≤xs.length→aB (xs.map f).flatten 0 (ys.map f).flatten=(zs.map f).flatten
 | [],xs,zs,h,_=>by
  rw[List.nil_append,List.length_nil,List.drop_zero] at h;rw[h];exact eJ _ 0
 | y::ys,[],zs,_,hl=>by simp at hl
 | y::ys,x::xs,zs,h,hl=>by
  have ih:=oa hf (ys:=ys) (xs:=xs) (zs:=ys++xs.drop ys.length) rfl (by simpa using hl)
  subst h;simp only[List.map_cons,List.flatten_cons,hf,List.cons_append,List.nil_append,List.length_cons,List.drop_succ_cons] at ih ⊢
  show v y::aB _ 0 _=_
  rw[ih]
theorem JT {f:Nat→List Value} {v:Nat→Value} (hf:∀x,f x = [v x]) {c:Value} {ys xs zs:List Nat} (h:ys++xs.drop ys.length=zs) (hl:ys.length≤xs.length):aB (c::(xs.map f).flatten) 1 (ys.map f).flatten=c::(zs.map f).flatten:=by
 rw[show(1:Nat)=0+1 from rfl,lU,oa hf h hl]
variable {E : Env} {m0 : AMem} {fs : Fs} {ps : List Pc} {ty : TypeId}
theorem JD {f:Nat→List Value} {elem t0:TypeId} {k b o q c0 l1:Nat} {a0:Option Addr} {cs cs':List Value} {ys:List Nat} {ars:Array Operand} (he:Enc f 1) (ht:SlT E.P ty elem 1) (ha:iq E fs ars.toList=some [.slice (some ⟨b,o,none⟩) q q,.slice a0 l1 c0]) (hp:pk ps k=some (.obj b (.cells cs .own))) (hr:∀m,Hp m0 m ps→Rd m a0 c0 1 l1 (ys.map f)) (hq:decide (ys.length≤q)=true) (ho:Nat.ble (o+q) cs.length=true) (hs:aB cs o (ys.map f).flatten=cs') :
  Od E m0 fs ps (.call ⟨.builtin .copy,ars,#[ty,t0]⟩) (.int .i64 (ys.length:Int)) (cD ps k (.obj b (.cells cs' .own))):=fun t m hf hm=>⟨fun b hb=>(by simp[aE] at hb),fun K hK=>by
 have h0:l1=ys.length:=by
  have:=(hr m hm).1; rw[List.length_map] at this; exact this.symm
 have hq':=of_decide_eq_true hq;have ho':=Nat.le_of_ble_eq_true ho;have hc:=(hr m hm).cells;have hmin:min l1 q=l1:=by omega
 have hone:aQ (ys.map f).flatten=true:=by
  unfold aQ;rw[List.all_eq_true];intro x hx;obtain⟨e,h3,h4⟩:=List.mem_flatten.1 hx;exact List.all_eq_true.1 (he.ia ys e h3) x h4
 have hlen:(ys.map f).flatten.length=ys.length:=by
  clear hs hr hq hK h0 hq' hc hone
  induction ys with
  | nil=>rfl
  | cons x l ih=>rw[List.map_cons,List.flatten_cons,List.length_append,ih,he.1 x,List.length_cons]; omega
 have hg:=(hm.get hp).2.2;have hsrc:cH (aw E.P elem) (.slice a0 l1 c0) (min l1 q) m=some (ys.map f).flatten:=by rw[ht.size,hmin]; exact hc
 cases hy:ys with
 | nil =>
  subst hy;have e0:cs'=cs:=by rw[←hs]; exact eJ cs o
  have h1:min l1 q=0:=by rw[hmin,h0]; rfl
  have:aJ E.P .copy #[ty,t0] [.slice (some ⟨b,o,none⟩) q q,.slice a0 l1 c0] m=some (.int .i64 0,m):=by
   show pA E.P ty _ _ m=_
   unfold pA;rw[h1] at hsrc;simp only[ht.und,ht.known,Bool.not_true,Bool.false_eq_true,if_false,h1,hsrc,hone]
  rw[Go.Ab.dZ (hf.iq ha) this];exact hK m (by rw[e0]; exact hm.put hp rfl rfl rfl (Nat.le_refl _) hm.ext (hm.get hp) fun _ _ _=>rfl)
 | cons y y2 =>
  have h2:min l1 q=y2.length+1:=by rw[hmin,h0,hy]; rfl
  have hst:m.cT b o (ys.map f).flatten=some (m.set b (.cells cs' .own)):=by
   have hne:(ys.map f).flatten≠[]:=fun e=>by rw[e,hy] at hlen; cases hlen
   unfold AMem.cT
   split
   ·rename_i e; exact absurd e hne
   ·rw[hg];simp only[hlen];rw[if_pos (by omega),hs]
  have:aJ E.P .copy #[ty,t0] [.slice (some ⟨b,o,none⟩) q q,.slice a0 l1 c0] m=some (.int .i64 (ys.length:Int),m.set b (.cells cs' .own)):=by
   show pA E.P ty _ _ m=_
   unfold pA;rw[h2] at hsrc;simp only[ht.und,ht.known,Bool.not_true,Bool.false_eq_true,if_false,h2,hsrc,hone,hst,Option.map_some];rw[hy]; rfl
  rw[Go.Ab.dZ (hf.iq ha) this];have hw:Hp m0 (m.set b (.cells cs' .own)) (cD ps k (.obj b (.cells cs' .own))):=hm.write (o':=.cells cs' .own) (p':=.obj b (.cells cs' .own)) hp rfl rfl rfl rfl ⟨(hm.get hp).1,by rw[AMem.next_set]; exact(hm.get hp).2.1,by rw[AMem.bz,if_pos rfl]⟩
  exact hK _ hw⟩
end
end Go.Ab.W
end

section
namespace Go.Ab.W
open Go Go.Ab
section
variable {α : Type}
def C5 (m:AMem) (R:Nat→Prop) (w:Nat) (f:α→List Value) (cs:List Value) (L:List (List α)):Prop :=
 cs.length=L.length∧∀(i:Nat) (l:List α),L[i]? = some l→∃a c,cs[i]? = some (.slice a l.length c)∧Rd m a c w l.length (l.map f)∧∀b,iD a=some b→R b
theorem C5.dW {m m':AMem} {R:Nat→Prop} {w:Nat} {f:α→List Value} {cs:List Value} {L:List (List α)} (h:C5 m R w f cs L) (hn:m.next≤m'.next) (hg:∀b,R b→b<m.next→m'.get b=m.get b):C5 m' R w f cs L :=
 ⟨h.1,fun i l hi=>by
  obtain⟨a,c,h1,h2,h3⟩:=h.2 i l hi;exact⟨a,c,h1,h2.dW hn fun b hb hlt=>hg b (h3 b hb) hlt,h3⟩⟩
end
section
variable {α : Type} {E : Env} {m0 m : AMem} {fs : Fs} {ps : List Pc} {f : α → List Value} {w : Nat}
variable {x : Operand} {ty : TypeId}
theorem zP {k n cap:Nat} {a:Option Addr} {ars:Array Operand} {p:Pc} {elem:TypeId} (hu:E.P.underlying ty=some (.slice elem)) (ha:iq E fs ars.toList=some [.slice a n cap]) (hp:pk ps k=some p) (hb:∀b,iD a=some b→p.any b) :
  Od E m0 fs ps (.call ⟨.builtin .len,ars,#[ty]⟩) (.int .i64 (n:Int)) ps :=
 fun t m hf h=>⟨fun b hb'=>by
  simp only[aE,hf.iq ha] at hb';have hab:er (.slice a n cap)=iD a:=by cases a<;>rfl
  rw[hab] at hb';exact Pc.ik (h.get hp) (hb b hb'),fun K hK=>by
  have:aJ E.P .len #[ty] [.slice a n cap] m=some (.int .i64 (n:Int),m):=by
   have ht:(#[ty]:Array TypeId)[0]? = some ty:=rfl;simp only[aJ,ht,Option.bind_some,hu]
  rw[Go.Ab.dZ (hf.iq ha) this]; exact hK m h⟩
variable {N : Nat} {ops : Array Oper} {os : List Oper} {dr : Bool}
end
end Go.Ab.W
end

section
namespace Go.Ab.W
open Go Go.Ab
attribute [local irreducible] Tm.at Trie.set Trie.get AMem.get AMem.set AMem.alloc AMem.ww AMem.kill
section
variable {α : Type} {E : Env} {m0 m : AMem} {fs : Fs} {ps : List Pc} {f : α → List Value} {w : Nat} {ty : TypeId}
theorem C5.one {R:Nat→Prop} {cs:List Value} {L:List (List α)} (h:C5 m R w f cs L):ia (cs.map fun c=>[c]):=fun e he=>by
 obtain⟨c,hc,rfl⟩:=List.mem_map.1 he;obtain⟨i,hi,rfl⟩:=List.mem_iff_getElem.1 hc;obtain⟨a,cap,h1,_⟩:=h.2 i (L[i]'(by rw[←h.1]; exact hi)) (by simp)
 rw[List.getElem?_eq_getElem hi] at h1;rw[Option.some.inj h1]; rfl
end
section
variable {α : Type} {E : Env} {n : Nat} {m0 m : AMem} {fs : Fs} {ps : List Pc} {f : α → List Value} {w : Nat} {ops : Array Oper} {os : List Oper} {prs : List (Nat × Nat)} {K : Tm → AMem → Prop} {ss : List Nk}
end
def yR (m:AMem) (RW:Nat→Prop) (rb:Nat) (row:List (Bool × List Nat)):Prop :=
 rb<m.next∧∃vs,m.get rb=some (.cells vs .own)∧vs.length=row.length*2∧∀(j:Nat) (x:Bool × List Nat),row[j]? = some x→vs[j*2]? = some (.bool x.1)∧∃a c,vs[j*2+1]? = some (.slice a x.2.length c)∧Rd m a c 1 x.2.length (x.2.map (eN .u64))∧∀b,iD a=some b→RW b
theorem yR.dW {m m':AMem} {RW RW':Nat→Prop} {rb:Nat} {row:List (Bool × List Nat)} (h:yR m RW rb row) (hn:m.next≤m'.next) (hg:∀b,(b=rb∨RW b)→b<m.next→m'.get b=m.get b) (hs:∀b,RW b→RW' b):yR m' RW' rb row:=by
 obtain⟨h1,vs,h2,h3,h4⟩:=h;refine⟨Nat.lt_of_lt_of_le h1 hn,vs,by rw[hg rb (.inl rfl) h1]; exact h2,h3,fun j x hx=>?_⟩
 obtain⟨g1,a,c,g2,g3,g4⟩:=h4 j x hx;exact⟨g1,a,c,g2,g3.dW hn fun b hb hlt=>hg b (.inr (g4 b hb)) hlt,fun b hb=>hs b (g4 b hb)⟩
def sN (ρ:Nat→Nat) (L:List (List (Bool × List Nat))) (x:Nat):Prop:=∃i row,L[i]? = some row∧row≠[]∧x=ρ i
structure MatAt (m:AMem) (b n:Nat) (ρ:Nat→Nat) (RW:Nat→Prop) (L:List (List (Bool × List Nat))):Prop where
 lt:b<m.next
 len:n=L.length
 cells:∃cs,m.get b=some (.cells cs .own)∧cs.length=n∧∀(i:Nat) (row:List (Bool × List Nat)),L[i]? = some row→(row = []∧cs[i]? = some (.slice none 0 0))∨(row≠[]∧cs[i]? = some (.slice (some ⟨ρ i,0,none⟩) row.length row.length))
 rows:∀(i:Nat) (row:List (Bool × List Nat)),L[i]? = some row→row≠[]→yR m RW (ρ i) row
 rw:∀x,RW x→x<m.next∧x≠b∧¬sN ρ L x
 out:∀(i:Nat) (row:List (Bool × List Nat)),L[i]? = some row→row≠[]→ρ i≠b
 inj:∀(i j:Nat) (row row':List (Bool × List Nat)),L[i]? = some row→L[j]? = some row'→row≠[]→row'≠[]→ρ i=ρ j→i=j
def cl (b n:Nat) (ρ:Nat→Nat) (RW:Nat→Prop) (L:List (List (Bool × List Nat))):GPc where
 ow x:=x=b∨sN ρ L x
 rd x:=RW x
 P m:=MatAt m b n ρ RW L
 st m m' h hn hg:=by
  refine⟨Nat.lt_of_lt_of_le h.lt hn,h.len,?_,fun i row hi hne=>(h.rows i row hi hne).dW hn (fun x hx hlt=>?_) fun _ h=>h,fun x hx=>⟨Nat.lt_of_lt_of_le (h.rw x hx).1 hn,(h.rw x hx).2⟩,h.out,h.inj⟩
  ·obtain⟨cs,h1,h2⟩:=h.cells;exact⟨cs,by rw[hg b (.inl (.inl rfl)) h.lt]; exact h1,h2⟩
  ·rcases hx with rfl|hx
   ·exact hg _ (.inl (.inr ⟨i,row,hi,hne,rfl⟩)) hlt
   ·exact hg _ (.inr hx) hlt
 lt m x h hx:=by
  rcases hx with(rfl|⟨i,row,h1,h2,rfl⟩) | hx
  ·exact h.lt
  ·exact(h.rows i row h1 h2).1
  ·exact(h.rw x hx).1
theorem oO {b n:Nat} {ρ:Nat→Nat} {RW:Nat→Prop} {L:List (List (Bool × List Nat))}:∀x,iD (some ⟨b,0,none⟩)=some x→Pc.any (.gen (cl b n ρ RW L)) x:=fun x h=>by cases h; exact .inr (.inl (.inl rfl))
section
variable {E : Env} {m0 m : AMem} {fs : Fs} {ps : List Pc} {x y : Operand} {ty : TypeId} {b n : Nat} {ρ : Nat → Nat} {RW : Nat → Prop} {L : List (List (Bool × List Nat))}
theorem nb (v:Value):∀n:Nat,(List.replicate n [v]).flatten=List.replicate n v
 | 0=>rfl
 | n+1=>by rw[List.replicate_succ,List.flatten_cons,nb v n,List.replicate_succ]; rfl
theorem ah.J9:ah m0 (.arr b 1 n (List.replicate n [.slice none 0 0]) .own::ps) (.gen (cl b n (fun _=>0) (fun _=>False) (List.replicate n []))::ps):=fun m h=>by
 have h0:w7 m0.next m b 1 n (List.replicate n [.slice none 0 0]) .own:=h.ok _ (List.mem_cons_self ..)
 have hno:∀x,¬sN (fun _=>0) (List.replicate n []) x:=fun x ⟨i,row,h1,h2,_⟩=>h2 (List.eq_of_mem_replicate (List.mem_of_getElem? h1));have ha:=List.pairwise_cons.1 h.apart;refine⟨h.ext,fun p hp=>?_,List.pairwise_cons.2 ⟨fun r hr=>⟨fun z h1 h2=>?_,fun z h1 h2=>?_⟩,ha.2⟩⟩
 ·rcases List.mem_cons.1 hp with rfl|hp
  ·refine⟨⟨h0.2.1,by simp,⟨_,h0.2.2.1,by rw[nb]; simp,fun i row hi=>.inl ⟨List.eq_of_mem_replicate (List.mem_of_getElem? hi),?_⟩⟩,fun i row hi hne=>absurd (List.eq_of_mem_replicate (List.mem_of_getElem? hi)) hne,fun x hx=>hx.elim,fun i row hi hne=>absurd (List.eq_of_mem_replicate (List.mem_of_getElem? hi)) hne,fun i j row row' hi _ hne=>absurd (List.eq_of_mem_replicate (List.mem_of_getElem? hi)) hne⟩,fun _ z hz=>?_⟩
   ·have hlt:=(List.getElem?_eq_some_iff.1 hi).1;rw[nb,List.getElem?_replicate,if_pos (by simpa using hlt)]
   ·rcases hz with rfl|hz
    ·exact h0.1
    ·exact absurd hz (hno z)
  ·exact h.ok p (List.mem_cons_of_mem _ hp)
 ·rcases h1 with h1|h1
  ·cases h1.1
  ·rcases h1 with rfl|h1
   ·exact(ha.1 r hr).1 _ (.inl ⟨rfl,rfl⟩) h2
   ·exact absurd h1 (hno z)
 ·rcases h2 with h2|h2
  ·cases h2
  ·rcases h2 with(rfl|h2) | h2
   ·exact(ha.1 r hr).2 _ h1 (.inl rfl)
   ·exact absurd h2 (hno z)
   ·exact h2.elim
theorem zD (l:Nat):∀j,j<l→(List.replicate l [Value.bool false,.slice none 0 0]).flatten[j*2]? = some (.bool false)∧(List.replicate l [Value.bool false,.slice none 0 0]).flatten[j*2+1]? = some (.slice none 0 0):=by
 induction l with
 | zero=>intro j h; cases h
 | succ l ih =>
  intro j hj;rw[List.replicate_succ,List.flatten_cons];cases j with
  | zero=>exact⟨rfl,rfl⟩
  | succ j =>
   have:=ih j (by omega)
   refine⟨?_,?_⟩
   ·rw[show(j+1)*2=j*2+2 by omega]; exact this.1
   ·rw[show(j+1)*2+1=(j*2+1)+2 by omega]; exact this.2
theorem Dr (l:Nat):(List.replicate l [Value.bool false,.slice none 0 0]).flatten.length=l*2:=by
 induction l with
 | zero=>rfl
 | succ l ih=>rw[List.replicate_succ,List.flatten_cons,List.length_append,ih]; simp only[List.length_cons,List.length_nil]; omega
theorem at_set {α:Type} {l:List α} {i j:Nat} {v x:α} (h:(l.set i v)[j]? = some x):(i=j∧x=v∧j<l.length)∨(i≠j∧l[j]? = some x):=by
 rw[List.getElem?_set] at h
 by_cases e:i=j
 ·rw[if_pos e] at h
  split at h
  ·exact .inl ⟨e,(Option.some.inj h).symm,by omega⟩
  ·cases h
 ·rw[if_neg e] at h; exact .inr ⟨e,h⟩
theorem FG {k l i off rb:Nat} {r0:List (Bool × List Nat)} (ht:TyI E.P ty false 1) (hx:ev E fs x=some (ptr b off)) (ho:off=i) (hy:ev E fs y=some (.slice (some ⟨rb,0,none⟩) l l)) (hp:pk ps k=some (.gen (cl b n ρ RW L))) (he:L[i]? = some r0) (hl:0<l) :
  Od E m0 fs (.arr rb 2 l (List.replicate l [.bool false,.slice none 0 0]) .own::ps) (.store ty x y) undef (cD ps k (.gen (cl b n (fun j=>if j=i then rb else ρ j) RW (L.set i (List.replicate l (false,[])))))):=fun t m hf h=>⟨fun b' hb'=>(by simp[aE] at hb'),fun K hK=>by
 subst ho;have hk:=h.get (k:=k+1) hp;have hP:MatAt m b n ρ RW L:=hk.1;have h0:w7 m0.next m rb 2 l (List.replicate l [.bool false,.slice none 0 0]) .own:=h.ok _ (List.mem_cons_self ..)
 have ha:=(List.pairwise_cons.1 h.apart).1;have hak:=ha _ (iU hp);have hi:off<L.length:=(List.getElem?_eq_some_iff.1 he).1;obtain⟨cs,c1,c0,c2⟩:=hP.cells;have hst:dw E.P ty (ptr b off) (.slice (some ⟨rb,0,none⟩) l l) m=some (m.set b (.cells (cs.set off (.slice (some ⟨rb,0,none⟩) l l)) .own)):=Dt ht.known ht.size rfl c1 (by rw[c0,hP.len]; exact hi)
 have e:=Go.Ab.uk (t:=t) (E:=E) (hf.ev hx) (hf.ev hy) hst K;rw[e];have hrbb:rb≠b:=fun e=>hak.1 rb (.inl ⟨rfl,rfl⟩) (.inr (.inl (.inl e)));have hrbm:¬sN ρ L rb:=fun g=>hak.1 rb (.inl ⟨rfl,rfl⟩) (.inr (.inl (.inr g)));have hrbw:¬RW rb:=fun g=>hak.1 rb (.inl ⟨rfl,rfl⟩) (.inr (.inr g));have hget:∀z,z≠b→(m.set b (.cells (cs.set off (.slice (some ⟨rb,0,none⟩) l l)) .own)).get z=m.get z:=fun z hz=>by rw[AMem.bz,if_neg hz]
 have hnext:(m.set b (.cells (cs.set off (.slice (some ⟨rb,0,none⟩) l l)) .own)).next=m.next:=AMem.next_set ..
 have hne:(List.replicate l ((false,[]):Bool × List Nat))≠[]:=by
  intro e;have:=congrArg List.length e;simp at this; omega
 have hmr:∀z,sN (fun j=>if j=off then rb else ρ j) (L.set off (List.replicate l (false,[]))) z→z=rb∨sN ρ L z:=fun z ⟨j,row,g1,g0,g3⟩=>by
  rcases at_set g1 with⟨e0,_,_⟩|⟨e0,g2⟩
  ·simp only[if_pos e0.symm] at g3; exact .inl g3
  ·simp only[if_neg (fun e:j=off=>e0 e.symm)] at g3; exact .inr ⟨j,row,g2,g0,g3⟩
 refine hK _ ⟨h.ext.set (Pc.mY hk rfl (.inr (.inl rfl))) _,fun p hpm=>?_,eV hp (fun r hr hap=>⟨fun z g1 g0=>?_,fun z g1 g0=>?_⟩) (List.pairwise_cons.1 h.apart).2⟩
 ·rcases mU hp (List.pairwise_cons.1 h.apart).2 hpm with rfl|⟨hpm,hap⟩
  ·refine⟨⟨by rw[hnext]; exact hP.lt,by rw[List.length_set]; exact hP.len,⟨_,by rw[AMem.bz,if_pos rfl],by rw[List.length_set]; exact c0,fun j row hj=>?_⟩,fun j row hj hne'=>?_,fun z hz=>⟨by rw[hnext]; exact(hP.rw z hz).1,(hP.rw z hz).2.1,fun g=>?_⟩,fun j row hj hne'=>?_,fun j j' row row' hj hj' h1 h2 heq=>?_⟩,fun _ z hz=>?_⟩
   ·rcases at_set hj with⟨e0,rfl,_⟩|⟨e0,g2⟩
    ·subst e0;refine .inr ⟨hne,?_⟩;rw[List.getElem?_set_self (by rw[c0,hP.len]; exact hi)]
     simp
    ·rw[List.getElem?_set_ne e0];simp only[if_neg (fun e:j=off=>e0 e.symm)];exact c2 j row g2
   ·rcases at_set hj with⟨e0,rfl,_⟩|⟨e0,g2⟩
    ·subst e0;simp only[if_true];refine⟨by rw[hnext]; exact h0.2.1,_,by rw[hget rb hrbb]; exact h0.2.2.1,by rw[Dr]; simp,fun j x hx=>?_⟩
     have hjl:j<l:=by have:=(List.getElem?_eq_some_iff.1 hx).1; simpa using this
     have hx':x=(false,[]):=List.eq_of_mem_replicate (List.mem_of_getElem? hx);subst hx';exact⟨(zD l j hjl).1,none,0,(zD l j hjl).2,Rd.nil _ _,fun _ h=>by cases h⟩
    ·simp only[if_neg (fun e:j=off=>e0 e.symm)];exact(hP.rows j row g2 hne').dW (by rw[hnext]; exact Nat.le_refl _) (fun z hz _=>hget z (fun e=>by
      rcases hz with hz|hz
      ·exact hP.out j row g2 hne' (by rw[←hz]; exact e)
      ·exact(hP.rw z hz).2.1 e)) fun _ h=>h
   ·rcases hmr z g with rfl|g
    ·exact hrbw hz
    ·exact(hP.rw z hz).2.2 g
   ·rcases at_set hj with⟨e0,_,_⟩|⟨e0,g2⟩
    ·simp only[if_pos e0.symm]; exact hrbb
    ·simp only[if_neg (fun e:j=off=>e0 e.symm)]; exact hP.out j row g2 hne'
   ·rcases at_set hj with⟨e0,_,_⟩|⟨e0,g2⟩<;>rcases at_set hj' with⟨e1,_,_⟩|⟨e1,g4⟩
    ·exact e0.symm.trans e1
    ·simp only[if_pos e0.symm,if_neg (fun e:j'=off=>e1 e.symm)] at heq;exact absurd ⟨j',row',g4,h2,heq⟩ hrbm
    ·simp only[if_neg (fun e:j=off=>e0 e.symm),if_pos e1.symm] at heq;exact absurd ⟨j,row,g2,h1,heq.symm⟩ hrbm
    ·simp only[if_neg (fun e:j=off=>e0 e.symm),if_neg (fun e:j'=off=>e1 e.symm)] at heq;exact hP.inj j j' row row' g2 g4 h1 h2 heq
   ·rcases hz with rfl|hz
    ·exact Pc.mY hk rfl (.inr (.inl rfl))
    ·rcases hmr z hz with rfl|hz
     ·exact h0.1
     ·exact Pc.mY hk rfl (.inr (.inr hz))
  ·exact Pc.fg (h.ok p (List.mem_cons_of_mem _ hpm)) (by rw[hnext]; exact Nat.le_refl _) fun z hz _=>hget z fun e=>hap.2 z (.inr (.inl e)) hz
 ·rcases g1 with g1|g1
  ·cases g1.1
  ·rcases g1 with rfl|g1
   ·exact hap.1 _ (.inr (.inl rfl)) g0
   ·rcases hmr z g1 with rfl|g1
    ·exact(ha r hr).1 _ (.inl ⟨rfl,rfl⟩) g0
    ·exact hap.1 _ (.inr (.inr g1)) g0
 ·rcases g0 with g0|g0
  ·cases g0
  ·rcases g0 with(rfl|g0) | g0
   ·exact hap.2 _ g1 (.inr (.inl (.inl rfl)))
   ·rcases hmr z g0 with rfl|g0
    ·exact(ha r hr).2 _ g1 (.inl rfl)
    ·exact hap.2 _ g1 (.inr (.inl (.inr g0)))
   ·exact hap.2 _ g1 (.inr (.inr g0))⟩
theorem dE {k i off:Nat} {row:List (Bool × List Nat)} (ht:TyI E.P ty false 1) (hx:ev E fs x=some (ptr b off)) (ho:off=i) (hp:pk ps k=some (.gen (cl b n ρ RW L))) (he:L[i]? = some row) (hl:0<row.length) :
  Ox E m0 fs ps (.load ty x) (fun r:{ rb:Nat // ρ i=rb}=>.slice (some ⟨r.1,0,none⟩) row.length row.length) (fun _=>ps):=fun t m hf h=>by
 subst ho;have hP:MatAt m b n ρ RW L:=(h.get hp).1;obtain⟨cs,c1,c2,c3⟩:=hP.cells;have hne:row≠[]:=fun e=>by rw[e] at hl; cases hl
 have hc:cs[off]? = some (.slice (some ⟨ρ off,0,none⟩) row.length row.length):=((c3 off row he).resolve_left fun g=>hne g.1).2;refine⟨fun b' hb'=>?_,fun K hK=>?_⟩
 ·have hx':ar E t x=some (ptr b off):=hf.ev hx;simp only[aE,hx',Option.bind_some] at hb';cases hb'; exact hP.lt
 ·rw[Go.Ab.ta (hf.ev hx) (th ht.known ht.agg c1 hc)];exact hK ⟨ρ off,rfl⟩ m h
theorem ie {k i j off rb:Nat} {row:List (Bool × List Nat)} {e:Bool} {w:List Nat} (ht:TyI E.P ty true 2) (hx:ev E fs x=some (ptr rb off)) (ho:off=j*2+0) (hp:pk ps k=some (.gen (cl b n ρ RW L))) (he:L[i]? = some row) (hrb:ρ i=rb) (hj:row[j]? = some (e,w)) :
  Ox E m0 fs ps (.load ty x) (fun r:Option Addr × Nat=>.agg #[.bool e,.slice r.1 w.length r.2]) (fun r=>.rd r.1 r.2 1 w.length (w.map (eN .u64))::ps):=fun t m hf h=>by
 subst ho hrb;have hk:=h.get hp;have hP:MatAt m b n ρ RW L:=hk.1;have hne:row≠[]:=fun e=>by rw[e] at hj; simp at hj
 obtain⟨h1,vs,h2,h3,h4⟩:=hP.rows i row he hne;obtain⟨g1,a,c,g2,g3,g4⟩:=h4 j (e,w) hj;refine⟨fun b' hb'=>?_,fun K hK=>?_⟩
 ·have hx':ar E t x=some (ptr (ρ i) (j*2+0)):=hf.ev hx;simp only[aE,hx',Option.bind_some] at hb';cases hb'; exact h1
 ·have htk:(vs.drop (j*2+0)).take 2 = [.bool e,.slice a w.length c]:=by
   refine List.ext_getElem? fun i=>?_;rw[List.getElem?_take];rcases i with _|_|i
   ·rw[if_pos (by decide),List.getElem?_drop]; exact g1
   ·rw[if_pos (by decide),List.getElem?_drop]; exact g2
   ·rw[if_neg (by omega)]; rfl
  have hld:cR E.P ty (ptr (ρ i) (j*2+0)) m=some (.agg #[.bool e,.slice a w.length c]):=Ak ht.known ht.agg ht.size h2 htk rfl;rw[Go.Ab.ta (hf.ev hx) hld];refine hK (a,c) m ⟨h.ext,fun p hpm=>?_,List.pairwise_cons.2 ⟨fun r hr=>⟨fun z a1 _=>?_,fun z a1 a2=>?_⟩,h.apart⟩⟩
  ·rcases List.mem_cons.1 hpm with rfl|hpm
   ·exact g3
   ·exact h.ok p hpm
  ·exact a1.elim (fun a1=>by cases a1.1) fun a1=>a1.elim
  ·have hz:RW z:=g4 z (a2.elim id fun a2=>a2.elim);obtain⟨k',hk'⟩:=ng hr
   by_cases hkk:k=k'
   ·subst hkk;rw[hp] at hk';cases hk';rcases a1 with a1|a1
    ·cases a1.1
    ·exact a1.elim (hP.rw z hz).2.1 (hP.rw z hz).2.2
   ·exact(gD h.apart hp hk' hkk).2 z a1 (.inr (.inr hz))
theorem qf {k k2 i j off rb c:Nat} {row:List (Bool × List Nat)} {e:Bool} {a:Option Addr} {w:List Nat} {p1:Pc} (ht:TyI E.P ty true 2) (hx:ev E fs x=some (ptr rb off)) (ho:off=j*2+0) (hy:ev E fs y=some (.agg #[.bool e,.slice a w.length c])) (hp:pk ps k=some (.gen (cl b n ρ RW L))) (he:L[i]? = some row) (hrb:ρ i=rb) (hj:Nat.blt j row.length=true) (hw:(pk ps k2=some p1∧p1 = .rd a c 1 w.length (w.map (eN .u64)))∨(a=none∧w = [])) :
  Od E m0 fs ps (.store ty x y) undef (cD ps k (.gen (cl b n ρ (fun z=>RW z∨iD a=some z) (L.set i (row.set j (e,w)))))):=fun t m hf h=>⟨fun b' hb'=>(by simp[aE] at hb'),fun K hK=>by
 subst ho hrb;have hj:j<row.length:=by rwa[Nat.blt_eq] at hj
 have hk:=h.get hp;have hP:MatAt m b n ρ RW L:=hk.1;have hne:row≠[]:=fun e=>by rw[e] at hj; cases hj
 have hrd:∃c',Rd m a c' 1 w.length (w.map (eN .u64))∧(a≠none→c'=c):=by
  rcases hw with⟨hw,rfl⟩|⟨rfl,rfl⟩
  ·exact⟨c,h.get hw,fun _=>rfl⟩
  ·exact⟨0,Rd.nil _ _,fun g=>absurd rfl g⟩
 have haw:∀z,iD a=some z→z<m.next∧¬Pc.ow (.gen (cl b n ρ RW L)) z∧∀r ∈ ps,¬r.ow z:=by
  rcases hw with⟨hw,rfl⟩|⟨rfl,_⟩
  ·intro z hz;have hno:∀r ∈ ps,¬r.ow z:=fun r hr g=>by
    obtain⟨k',hk'⟩:=ng hr
    by_cases hkk:k2=k'
    ·subst hkk; rw[hw] at hk'; cases hk';exact g.elim (fun g=>by cases g.1) fun g=>g.elim
    ·exact(gD h.apart hw hk' hkk).2 z g (.inl hz)
   exact⟨Rd.lt (h.get hw) hz,hno _ (iU hp),hno⟩
  ·intro z hz; cases hz
 obtain⟨h0,vs,h1,h2,h3⟩:=hP.rows i row he hne;have hcs:(Value.agg #[.bool e,.slice a w.length c]).cells=#[.bool e,.slice a w.length c]:=rfl;have hst:dw E.P ty (ptr (ρ i) (j*2+0)) (.agg #[.bool e,.slice a w.length c]) m=some (m.set (ρ i) (.cells (aB vs (j*2+0) [.bool e,.slice a w.length c]) .own)):=wo ht.known (by rw[ht.size]; rfl) rfl (by rw[hcs]; simp) h1 (by rw[hcs]; simp only[List.length_cons,List.length_nil]; omega)
 have e2:=Go.Ab.uk (t:=t) (E:=E) (hf.ev hx) (hf.ev hy) hst K;rw[e2];have hnext:(m.set (ρ i) (.cells (aB vs (j*2+0) [.bool e,.slice a w.length c]) .own)).next=m.next:=AMem.next_set ..
 have hget:∀z,z≠ρ i→(m.set (ρ i) (.cells (aB vs (j*2+0) [.bool e,.slice a w.length c]) .own)).get z=m.get z:=fun z hz=>by rw[AMem.bz,if_neg hz]
 have hself:sN ρ L (ρ i):=⟨i,row,he,hne,rfl⟩;have hmr:∀z,sN ρ (L.set i (row.set j (e,w))) z↔sN ρ L z:=fun z=>by
  constructor
  ·rintro⟨q,r,q2,q3,q1⟩;rcases at_set q2 with⟨e0,_,_⟩|⟨e0,q0⟩
   ·subst e0; rw[q1]; exact hself
   ·exact⟨q,r,q0,q3,q1⟩
  ·rintro⟨q,r,q2,q3,q1⟩
   by_cases e0:i=q
   ·subst e0;refine⟨i,row.set j (e,w),by rw[List.getElem?_set_self (List.getElem?_eq_some_iff.1 he).1],fun g=>?_,q1⟩
    have:=congrArg List.length g;rw[List.length_set] at this;simp at this;exact hne this
   ·exact⟨q,r,by rw[List.getElem?_set_ne e0]; exact q2,q3,q1⟩
 have h4:row.set j (e,w)≠[]:=fun g=>by
  have:=congrArg List.length g;rw[List.length_set] at this;simp at this;exact hne this
 have hap:∀z,iD a=some z→z≠ρ i:=fun z hz g=>(haw z hz).2.1 (.inr (.inr (g ▸ hself)));refine hK _ ⟨h.ext.set (Pc.mY hk rfl (.inr (.inr hself))) _,fun p hpm=>?_,eV hp (fun r hr hapr=>⟨fun z g1 g0=>?_,fun z g1 g0=>?_⟩) h.apart⟩
 ·rcases mU hp h.apart hpm with rfl|⟨hpm,h5⟩
  ·refine⟨⟨by rw[hnext]; exact hP.lt,by rw[List.length_set]; exact hP.len,?_,fun q r hq hr=>?_,fun z hz=>?_,fun q r hq hr=>?_,fun q q' r r' hq hq' hr hr' heq=>?_⟩,fun _ z hz=>?_⟩
   ·obtain⟨cs,c1,c2,c0⟩:=hP.cells;refine⟨cs,by rw[hget b fun g=>hP.out i row he hne g.symm]; exact c1,c2,fun q r hq=>?_⟩
    rcases at_set hq with⟨e0,rfl,_⟩|⟨e0,q0⟩
    ·subst e0;exact .inr ⟨h4,by rw[List.length_set]; exact((c0 i row he).resolve_left fun g=>hne g.1).2⟩
    ·exact c0 q r q0
   ·rcases at_set hq with⟨e0,rfl,_⟩|⟨e0,q0⟩
    ·subst e0;refine⟨by rw[hnext]; exact h0,_,by rw[AMem.bz,if_pos rfl],by rw[cd,h2,List.length_set],fun q v hv=>?_⟩
     rcases at_set hv with⟨e1,rfl,q4⟩|⟨e1,q4⟩
     ·subst e1;obtain⟨c',r1,r2⟩:=hrd;refine⟨by rw[bj,if_pos ⟨by omega,by simp only[List.length_cons,List.length_nil]; omega,by omega⟩]; simp,a,c,by rw[bj,if_pos ⟨by omega,by simp only[List.length_cons,List.length_nil]; omega,by omega⟩]; simp,?_,fun z hz=>.inr hz⟩
      have r0:Rd (m.set (ρ i) (.cells (aB vs (j*2+0) [.bool e,.slice a w.length c]) .own)) a c' 1 w.length (w.map (eN .u64)):=r1.dW (by rw[hnext]; exact Nat.le_refl _) fun z hz _=>hget z (hap z hz)
      cases a with
      | none =>
       have r3:w.length=0:=by
        rcases r0.2.2 with⟨_,g⟩|⟨_,_,g,_⟩|⟨_,_,g,_⟩
        ·exact g
        ·cases g
        ·cases g
       exact⟨r0.1,by show w.length≤c; omega,.inl ⟨rfl,r3⟩⟩
      | some ad=>rw[r2 (by simp)] at r0; exact r0
     ·obtain⟨s0,a',c',s1,s3,s2⟩:=h3 q v q4;refine⟨by rw[bj,if_neg (by simp only[List.length_cons,List.length_nil]; omega)]; exact s0,a',c',by rw[bj,if_neg (by simp only[List.length_cons,List.length_nil]; omega)]; exact s1,s3.dW (by rw[hnext]; exact Nat.le_refl _) (fun z hz _=>hget z fun g=>(hP.rw z (s2 z hz)).2.2 (g ▸ hself)),fun z hz=>.inl (s2 z hz)⟩
    ·refine(hP.rows q r q0 hr).dW (by rw[hnext]; exact Nat.le_refl _) (fun z hz _=>hget z fun g=>?_) fun z hz=>.inl hz
     rcases hz with rfl|hz
     ·exact e0 (hP.inj q i r row q0 he hr hne g).symm
     ·exact(hP.rw z hz).2.2 (g ▸ hself)
   ·rcases hz with hz|hz
    ·exact⟨by rw[hnext]; exact(hP.rw z hz).1,(hP.rw z hz).2.1,fun g=>(hP.rw z hz).2.2 ((hmr z).1 g)⟩
    ·exact⟨by rw[hnext]; exact(haw z hz).1,fun g=>(haw z hz).2.1 (.inr (.inl g)),fun g=>(haw z hz).2.1 (.inr (.inr ((hmr z).1 g)))⟩
   ·rcases at_set hq with⟨e0,_,_⟩|⟨e0,q0⟩
    ·subst e0; exact hP.out i row he hne
    ·exact hP.out q r q0 hr
   ·have fix:∀q r,(L.set i (row.set j (e,w)))[q]? = some r→r≠[]→∃r',L[q]? = some r'∧r'≠[]:=fun q r hq hr=>by
     rcases at_set hq with⟨e0,_,_⟩|⟨e0,q0⟩
     ·subst e0; exact⟨row,he,hne⟩
     ·exact⟨r,q0,hr⟩
    obtain⟨s,s0,s1⟩:=fix q r hq hr;obtain⟨s',s1',s2'⟩:=fix q' r' hq' hr';exact hP.inj q q' s s' s0 s1' s1 s2' heq
   ·rcases hz with rfl|hz
    ·exact Pc.mY hk rfl (.inr (.inl rfl))
    ·exact Pc.mY hk rfl (.inr (.inr ((hmr z).1 hz)))
  ·exact Pc.fg (h.ok p hpm) (by rw[hnext]; exact Nat.le_refl _) fun z hz _=>hget z fun g=>h5.2 z (.inr (.inr (g ▸ hself))) hz
 ·rcases g1 with g1|g1
  ·cases g1.1
  ·rcases g1 with rfl|g1
   ·exact hapr.1 _ (.inr (.inl rfl)) g0
   ·exact hapr.1 _ (.inr (.inr ((hmr z).1 g1))) g0
 ·rcases g0 with g0|g0
  ·cases g0
  ·rcases g0 with(rfl|g0) | (g0|g0)
   ·exact hapr.2 _ g1 (.inr (.inl (.inl rfl)))
   ·exact hapr.2 _ g1 (.inr (.inl (.inr ((hmr z).1 g0))))
   ·exact hapr.2 _ g1 (.inr (.inr g0))
   ·exact(haw z g0).2.2 r hr g1⟩
end
abbrev kI:Int→Value:=fun n=>.int .i64 n
abbrev vB:Bool→Value:=fun b=>.bool b
def A7 (m:AMem) (H:Nat→Prop) (bo:Option Nat) (xs:List (Int × Bool)):Prop:=(bo=none∧xs = [])∨∃b,bo=some b∧H b∧m.get b=some (.map (xs.map (eM kI vB)))
theorem A7.nil {m:AMem} {H:Nat→Prop}:A7 m H none []:=.inl ⟨rfl,rfl⟩
def dk (H:Nat→Prop) (M:List (Option Nat × List (Int × Bool))):GPc where
 ow:=H
 rd:=fun _=>False
 P m:=(∀b,H b→b<m.next)∧∀p ∈ M,A7 m H p.1 p.2
 fr:=true
 st m m' h hn hg:=⟨fun b hb=>Nat.lt_of_lt_of_le (h.1 b hb) hn,fun p hp=>(h.2 p hp).imp id fun⟨b,h1,h2,h3⟩=>⟨b,h1,h2,by rw[hg b (.inl h2) (h.1 b h2)]; exact h3⟩⟩
 lt m b h hb:=hb.elim (h.1 b) fun h=>h.elim
section
variable {E : Env} {m0 m : AMem} {fs : Fs} {ps : List Pc} {x y z : Operand} {ty : TypeId} {H : Nat → Prop} {M : List (Option Nat × List (Int × Bool))}
theorem Hp.vm {l0:List Pc} (h:Hp m0 m (l0++[.gen (cg H)])) (hM:∀p ∈ M,A7 m H p.1 p.2):Hp m0 m (l0++[.gen (dk H M)]):=by
 have ha:=List.pairwise_append.1 h.apart;refine⟨h.ext,fun p hp=>?_,List.pairwise_append.2 ⟨ha.1,List.pairwise_singleton ..,fun p hp q hq=>?_⟩⟩
 ·rcases List.mem_append.1 hp with hp|hp
  ·exact h.ok p (List.mem_append_left _ hp)
  ·rw[List.mem_singleton.1 hp];have h0:Pc.ok m0.next m (.gen (cg H)):=h.ok _ (List.mem_append_right _ (List.mem_singleton.2 rfl))
   exact⟨⟨h0.1,hM⟩,fun h=>by cases h⟩
 ·rw[List.mem_singleton.1 hq];have h1:Pc.apart p (.gen (cg H)):=ha.2.2 p hp _ (List.mem_singleton.2 rfl);exact⟨fun b a c=>h1.1 b a c,fun b a c=>h1.2 b a c⟩
theorem Hp.LY {l0:List Pc} {bo bo':Option Nat} {xs xs':List (Int × Bool)} (h:Hp m0 m (l0++[.gen (cg H)])) (h1:A7 m H bo xs) (h2:A7 m H bo' xs'):Hp m0 m (l0++[.gen (dk H [(bo,xs),(bo',xs')])]):=h.vm fun p hp=>by
 rcases List.mem_cons.1 hp with rfl|hp
 ·exact h1
 ·rw[List.mem_singleton.1 hp]; exact h2
theorem ah.LB {k:Nat} (hp:pk ps k=some (.gen (dk H M))):ah m0 ps (cD ps k (.gen (cg H))):=fun m h =>
 h.La hp (fun b hb=>.inl hb) (fun b hb=>.inl hb) (Nat.le_refl _) h.ext ⟨(h.get hp).1.1,fun h=>by cases h⟩ fun _ _ _=>rfl
theorem Hp.K0 {k b:Nat} {xs:List (Int × Bool)} (h:Hp m0 m ps) (hp:pk ps k=some (.obj b (.map (xs.map (eM kI vB))))):A7 m (AT ps) (some b) xs:=.inr ⟨b,rfl,⟨_,iU hp,.inl ⟨rfl,rfl⟩⟩,(h.get hp).2.2⟩
theorem GY {kt et k q:Nat} {bo:Option Nat} {xs:List (Int × Bool)} {i:Int} {v:Bool} (hu:E.P.underlying ty=some (.map kt et)) (hk:KeyE E.P kt kI) (hz:bD E.P et=some (.bool false)) (hx:ev E fs x=some (.map bo)) (hy:ev E fs y=some (.int .i64 i)) (hp:pk ps k=some (.gen (dk H M))) (hq:M[q]? = some (bo,xs)) (hv:some ((ca xs i).getD false)=some v) :
  Od E m0 fs ps (.lookup ty x y false) (.bool v) ps:=by
 cases hv;intro t m hf h;have hM:=(h.get hp).1.2 _ (List.mem_of_getElem? hq);rcases hM with⟨h1,h2⟩|⟨b,h1,h2,h3⟩
 ·simp only at h1 h2;subst h1 h2;exact JZ (vE:=vB) (z0:=false) (k:=i) hu hk hz rfl hx hy t m hf h
 ·simp only at h1 h3;subst h1;refine⟨fun b' hb'=>?_,fun K hK=>?_⟩
  ·simp only[aE,hf.ev hx] at hb';cases hb'; exact(h.get hp).1.1 b h2
  ·have:=wT (c:=false) (k:=i) (vE:=vB) (z0:=false) hu hk hz rfl h3;unfold bf;simp only[jj,cB,hf.ev hx,hf.ev hy,this,Option.map_some];exact hK m h
theorem KF {elem:TypeId} {i:Int} (ht:SlT E.P ty elem 1) (hx:ev E fs x=some (.int .i64 i)) (hi:decide (0≤i)=true) (hl:oD i.toNat=true) (hz:bD E.P elem=some (.slice none 0 0)) :
  Ox E m0 fs ps (.makeSlice ty x x) (fun b=>.slice (some ⟨b,0,none⟩) i.toNat i.toNat) (fun b=>.gen (cl b i.toNat (fun _=>0) (fun _=>False) (List.replicate i.toNat []))::ps):=fun t m hf hm =>
 have h:=Ie (m0:=m0) (ps:=ps) ht hx (Int.toNat_of_nonneg (of_decide_eq_true hi)).symm hl hz rfl t m hf hm
 ⟨h.1,fun K hK=>h.2 K fun b m' hm'=>hK b m' (ah.J9 m' hm')⟩
theorem Kn {elem:TypeId} {i:Int} (ht:SlT E.P ty elem 2) (hx:ev E fs x=some (.int .i64 i)) (hi:decide (0≤i)=true) (hl:oD i.toNat=true) (hz:bD E.P elem=some (.agg #[.bool false,.slice none 0 0])) :
  Ox E m0 fs ps (.makeSlice ty x x) (fun b=>.slice (some ⟨b,0,none⟩) i.toNat i.toNat) (fun b=>.arr b 2 i.toNat (List.replicate i.toNat [.bool false,.slice none 0 0]) .own::ps) :=
 Ie (m0:=m0) (ps:=ps) ht hx (Int.toNat_of_nonneg (of_decide_eq_true hi)).symm hl hz rfl
theorem mL {α β:Type} {kE:α→Value} {vE:β→Value}:∀(xs:List (α × β)) (i:Nat),(xs.map (eM kE vE)).eraseIdx i=(xs.eraseIdx i).map (eM kE vE)
 | [],_=>rfl
 | _::_,0=>rfl
 | x::xs,i+1=>by rw[List.map_cons,List.eraseIdx_cons_succ,mL xs i,List.eraseIdx_cons_succ,List.map_cons]
theorem JG {α β:Type} [DecidableEq α] {kt et b q:Nat} {ty2:TypeId} {kE:α→Value} {vE:β→Value} {xs:List (α × β)} {k:α} {ars:Array Operand} (hu:E.P.underlying ty=some (.map kt et)) (hk:KeyE E.P kt kE) (ha:iq E fs ars.toList=some [.map (some b),kE k]) (hp:pk ps q=some (.obj b (.map (xs.map (eM kE vE))))) :
  Od E m0 fs ps (.call ⟨.builtin .delete,ars,#[ty,ty2]⟩) (.tuple #[]) (cD ps q (.obj b (.map ((sy xs k).map (eM kE vE))))) :=
 fun t m hf h=>⟨fun b' hb'=>by simp[aE] at hb',fun K hK=>by
  have hg:=(h.get hp).2.2;have hdel:∃m',aJ E.P .delete #[ty,ty2] [.map (some b),kE k] m=some (.tuple #[],m')∧Hp m0 m' (cD ps q (.obj b (.map ((sy xs k).map (eM kE vE))))):=by
   have ht:(#[ty,ty2]:Array TypeId)[0]? = some ty:=rfl;simp only[aJ,ht,lX,hu,hg,hk.ok,if_true,kA hk,sy];cases hfd:bW k xs 0 with
   | none =>
    refine⟨m,rfl,?_⟩;have:cD ps q (.obj b (.map (xs.map (eM kE vE))))=ps:=by
     have:∀(l:List Pc) (k:Nat) (p:Pc),pk l k=some p→cD l k p=l:=by
      intro l
      induction l with
      | nil=>intro k p h; simp[pk] at h
      | cons q l ih =>
       intro k p h;cases k with
       | zero=>rw[gW] at h; rw[ff,Option.some.inj h]
       | succ k=>rw[fT] at h; rw[fW,ih k p h]
     exact this ps q _ hp
    rw[this]; exact h
   | some p =>
    refine⟨_,rfl,?_⟩;exact h.write hp rfl rfl rfl rfl ⟨(h.get hp).1,by rw[AMem.next_set]; exact(h.get hp).2.1,by rw[AMem.bz,if_pos rfl,mL]⟩
  obtain⟨m',h1,h2⟩:=hdel;rw[Go.Ab.dZ (hf.iq ha) h1];exact hK m' h2⟩
end
end Go.Ab.W
end

section
namespace Go.Proofs.YtookeaakpiefjaaDoor
open Go Go.Ab Go.Ab.W
def rH:List Value→List Int→Bool
 | [],[]=>true
 | .int .u8 n::vs,k::ks=>n == k && rH vs ks
 | _,_=>false
theorem qb:∀{vs:List Value} {ks:List Int},rH vs ks=true→vs=ks.map (.int .u8)
 | [],[],_=>rfl
 | [],_::_,h=>by cases h
 | v::vs,[],h=>by simp[rH] at h
 | v::vs,k::ks,h=>by
  unfold rH at h
  split at h
  ·rename_i e _; cases e
  ·rename_i n vs' k' ks' e1 e2;cases e1; cases e2;simp only[Bool.and_eq_true,beq_iff_eq] at h;rw[h.1,qb h.2]; rfl
  ·cases h
def vf (m:AMem):Bool :=
 match m.get 0 with
 | some (.cells cs .ro)=>rH cs ep
 | _=>false
theorem xX {m:AMem} (h:vf m=true):m.get 0=some (.cells (ep.map (.int .u8)) .ro):=by
 unfold vf at h
 split at h
 ·rename_i cs hg; rw[hg,qb h]
 ·cases h
theorem wb:∀x c,wN x=some c→c.all aI=true:=by
 intro x c h;unfold wN at h
 split at h
 ·cases h;rw[List.all_map];exact List.all_eq_true.2 fun x _=>rfl
 ·cases h
theorem Br:∃fuel m',run A2 fuel (.call 6 [] LI)=some (.val (.bool true) m')∧1≤m'.wl:=uL (E:=A2) (F:=s9) (n:=1000) (g:=1) A6 yw
def iA (args:List Value) (m:AMem):Option (Value × AMem) :=
 match args with
 | []=>if vf m then some (.bool true,m) else none
 | _=>none
theorem tA {args:List Value} {m m':AMem} {v:Value} (h:iA args m=some (v,m')) {j:aN} {w:World} {args':List Value} (hm:MR A2 j m w) (hl:LR j args args') :
  iQ A2.P (A2.dd 6).isSome 6 args'.toArray w (kN A2 j m w v m'):=by
 unfold iA at h
 split at h
 ·split at h
  ·rename_i ht;cases h;obtain⟨fuel,m0,h1,h2⟩:=Br;refine tS (E:=A2) (gs:=wN) GF wb h1 h2 rfl hm (fun x c hx hg=>?_) hl;have hx:x<1:=hx;have:x=0:=by omega
   subst this;simp only[wN,if_true,Option.some.injEq] at hg;rw[←hg]; exact xX ht
  ·cases h
 ·cases h
def D1 (f:FuncId):Option Prim:=if f=6 then some ⟨iA⟩ else Gb f
noncomputable def aD:Env:={ P:=Tryd.prog,glob:=1,dd:=D1}
theorem Gh:EnvOk aD:=xf (E:=A2) GF (pr:=D1) fun f p hp=>by
 unfold D1 at hp
 split at hp
 ·rename_i e;cases hp;subst e;exact .inr fun args m v m' h j w args' hm hl=>tA h hm hl
 ·exact .inl hp
def Gl (m:AMem):Prop:=m.get 0=some (.cells (ep.map (.int .u8)) .ro)∧0<m.next
theorem Gl.ext {m m':AMem} (h:Gl m) (e:Ext m m'):Gl m':=⟨by rw[e.same 0 h.2]; exact h.1,Nat.lt_of_lt_of_le h.2 e.next⟩
def F6 (_:Nat):Option Bool:=some true
theorem Ke (n:Nat) (r:Bool) (hF:F6 n=some r) (m:AMem) (hG:Gl m):aF aD 6 [] m (fun v m'=>∃x:Unit,v = .bool r∧Hp m m' []):=by
 cases hF;refine aF.dd (p:=⟨iA⟩) rfl (v:=.bool true) (m':=m) ?_ ⟨(),rfl,Hp.start m⟩;have ht:vf m=true:=by
  unfold vf;rw[hG.1];exact(by decide +kernel:rH (ep.map (.int .u8)) ep=true)
 show iA [] m=_
 simp only[iA,ht,if_true]
end Go.Proofs.YtookeaakpiefjaaDoor
end

section
namespace Go.Proofs.YtookeaakpiefjaaDoor
set_option maxRecDepth 100000
open Go Go.ChangeShapes Go.WideShapes Go.ChangeAt Go.WideMaps Go.WideElems Go.RowKit Go.Ab Go.Ab.W
theorem K4:D4 Tryd.prog 5 25=some [.int .u8,.int .u8,.int .u16,.sl 78]:=by kernel_rfl
theorem Jo:D4 Tryd.prog 5 78=some [.int .u8,.int .u8]:=by kernel_rfl
theorem Ks:Tryd.prog.underlying 27=some (.int .u32):=by kernel_rfl
theorem Kj:Tryd.prog.underlying 26=some (.int .u64):=by kernel_rfl
section
variable {H : Type} {enc : TypeId × Value → H} {W : World} {sp : Nat → Bool} {held : Bool} {v : Value} {d : DataW H} {p : List MemPlace} {base : Nat}
theorem yp {P:Program} {t1 t2 t3 t4:TypeId} {args:Array Value} {ds:List (DataW H)} {ps:List MemPlace} (h:DataW.TrodAll enc P W base sp held [t1,t2,t3,t4] args.toList ds ps) :
  ∃v1 v2 v3 v4 d1 d2 d3 d4 p1 p2 p3 p4,args=#[v1,v2,v3,v4]∧ds = [d1,d2,d3,d4]∧ps=p1++p2++p3++p4∧DataW.Trod enc P W base sp held t1 v1 d1 p1∧DataW.Trod enc P W base sp held t2 v2 d2 p2∧DataW.Trod enc P W base sp held t3 v3 d3 p3∧DataW.Trod enc P W base sp held t4 v4 d4 p4:=by
 obtain⟨v1,w1,d1,e1,p1,q1,hargs,rfl,rfl,h1,g1⟩:=trodAll_cons h;obtain⟨v2,w2,d2,e2,p2,q2,rfl,rfl,rfl,h2,g2⟩:=trodAll_cons g1;obtain⟨v3,w3,d3,e3,p3,q3,rfl,rfl,rfl,h3,g3⟩:=trodAll_cons g2;obtain⟨v4,w4,d4,e4,p4,q4,rfl,rfl,rfl,h4,g4⟩:=trodAll_cons g3;obtain⟨rfl,rfl,rfl⟩:=trodAll_nil g4;exact⟨v1,v2,v3,v4,d1,d2,d3,d4,p1,p2,p3,p4,by cases args; simp_all,rfl,by simp,h1,h2,h3,h4⟩
theorem Hg:∀(n:Nat) (cs:List Value) (x:DataW H × List MemPlace),DataW.trod enc Tryd.prog W 0 sp held n 78 cs=some x→∃p:Nat × Nat,cs=eP (eN .u8) (eN .u8) p∧p.1<256∧p.2<256:=by
 intro n cs x h;obtain⟨v1,cs,rfl,h1,h⟩:=fX (vh 5 78 _ Jo n _ x h);obtain⟨v2,cs,rfl,h2,h⟩:=fX h;obtain rfl:=uG h;obtain⟨a,rfl,ha⟩:=sU h1;obtain⟨b,rfl,hb⟩:=sU h2;exact⟨(a,b),rfl,ha,hb⟩
theorem Kx (hok:Value.okWide Tryd.prog W .any base 25 v) (hs:0<W.heap.size) (h:DataW.Trod enc Tryd.prog W 0 sp held 25 v d p):∃(x1 x2 x3:Nat) (l:List (Nat × Nat)) (a:Option Addr) (c:Nat),
  VR (fJ W) (.agg #[.int .u8 ((x1:Nat):Int),.int .u8 ((x2:Nat):Int),.int .u16 ((x3:Nat):Int),.slice a l.length c]) v∧x1<256∧x2<256∧x3<65536∧(∀q ∈ l,q.1<256∧q.2<256)∧l.length≤maxLen∧Rd (ew W) a c 2 l.length (l.map (eP (eN .u8) (eN .u8))):=by
 obtain⟨cs,rfl,_⟩:=okWide_struct (t:=25) (fs:=Tryd.prog.underlying 25 |>.elim #[] fun u=>match u with | .struct fs=>fs|_=>#[]) (by kernel_rfl) hok
 obtain⟨n,h⟩:=h;obtain⟨v1,r,hr,h1,h⟩:=fX (yg K4 h);obtain⟨v2,r,rfl,h2,h⟩:=fX h;obtain⟨v3,r,rfl,h3,h⟩:=fX h;obtain⟨v4,r,rfl,h4,h⟩:=fX h;obtain rfl:=uG h;obtain⟨x1,rfl,g1⟩:=sU h1;obtain⟨x2,rfl,g2⟩:=sU h2;obtain⟨x3,rfl,g3⟩:=Gt h3;obtain⟨a,c,l,e1,e2,e3,e4⟩:=HH (f:=eP (eN .u8) (eN .u8)) (w:=2) (by kernel_rfl) (by omega) hs (fun q=>rfl) Hg h4
 refine⟨x1,x2,x3,l,a,c,?_,g1,g2,g3,e3,e4,e2⟩;refine IF (l:=[.int .u8 ((x1:Nat):Int),.int .u8 ((x2:Nat):Int),.int .u16 ((x3:Nat):Int),.slice a l.length c]) ?_;rw[hr];exact .cons (.int _ _) (.cons (.int _ _) (.cons (.int _ _) (.cons e1 (.nil _))))
theorem JU (hok:Value.okWide Tryd.prog W .any base 26 v) (h:DataW.Trod enc Tryd.prog W 0 sp held 26 v d p):∃n:Nat,v = .int .u64 ((n:Nat):Int)∧n<2 ^ 64:=by
 obtain⟨k,rfl⟩:=okWide_int Kj hok;obtain⟨n,h⟩:=h;obtain⟨m,e,_,hw⟩:=DataW.trod_int Kj h;exact E5 (enc:=enc) (P:=Tryd.prog) (W:=W) (base:=0) (sp:=sp) (held:=held) ⟨m,by cases e; rfl,hw⟩
theorem G0 (hok:Value.okWide Tryd.prog W .any base 27 v) (h:DataW.Trod enc Tryd.prog W 0 sp held 27 v d p):∃n:Nat,v = .int .u32 ((n:Nat):Int)∧n<4294967296:=by
 obtain⟨k,rfl⟩:=okWide_int Ks hok;obtain⟨n,h⟩:=h;obtain⟨m,e,_,hw⟩:=DataW.trod_int Ks h;exact FO (enc:=enc) (P:=Tryd.prog) (W:=W) (base:=0) (sp:=sp) (held:=held) ⟨m,by cases e; rfl,hw⟩
end
theorem KI:laidOutB Tryd.prog=true:=by kernel_rfl
theorem Gg:mapsRowed Tryd.prog=true:=by kernel_rfl
theorem EP:sizedB Tryd.prog=true:=by kernel_rfl
theorem Hl {W:World} (h:laidMetH Tryd.prog qv W):Gl (ew W)∧0<W.heap.size:=by
 rw[MakeChecks.laidMetH_plain _ _ _ (by kernel_rfl)] at h
 obtain⟨ps,hL,_⟩:=h;have ht:(Tryd.prog.globals[0]?).map (·.type)=some 109:=by kernel_rfl
 obtain⟨c,ty,fz,h1,h2⟩:=Av (L:=ep) (k:=.u8) (N:=64) (t:=109) (e:=5) Lw ht (by kernel_rfl) (by kernel_rfl) (by kernel_rfl) (by kernel_rfl) rfl hL
 have hs:0<W.heap.size:=(Array.getElem?_eq_some_iff.1 h1).1;refine⟨⟨?_,hs⟩,hs⟩;rw[mJ h1,h2,List.map_map]
 congr 2
theorem Bl {H:Type} {enc:TypeId × Value→H} {f:FuncId} {fn:Func} {s:ChangeSpec} {W:World} {args:Array Value} {ds:List (DataW H)} {before:List MemPlace} {tb:TypeId} {fresh handsOn:Bool} {absArgs:List Value} (hpr:aD.dd f=none)
  (hvars:s.vars = []) (hres:fn.resultTypes.toList = [tb]) (hrs:fn.resultTypes.size=1) (htb:Tryd.prog.underlying tb=some .bool) (hpt:∀t ∈ fn.params.toList,t<Tryd.prog.types.size) (hfn:s.fn H ds = { results:=[.lit (.bool true)],args:=ds,vars:=[]})
  (hW:DataW.Whole enc Tryd.prog fn.params.toList s.vars false W args.toList ds [] before) (hs:0<W.heap.size)
  (hl:LR (fJ W) absArgs args.toList) (hc:aF aD f absArgs (ew W) (fun v m'=>∃x:Unit,v = .bool true∧Hp (ew W) m' [])) :
  Calls Tryd.prog f args W fun e W'=>∃v,e = .returned v∧s.post enc Tryd.prog fn false fresh handsOn false W args v W':=by
 obtain⟨v,m',⟨fuel,hrun⟩,_,rfl,hm'⟩:=hc;have hm:MR aD (fJ W) (ew W) W:=IG hs;have hcall:=callsIn_wide.1 (ur Gh hrun hpr hm hl);refine hcall.mono fun e W' ⟨v',he,j',sm,hv⟩=>?_;have hv':v' = .bool true:=dX rfl hv;subst hv';have hwl:(ew W).next≤m'.wl:=by
  have h1:=hm'.ext.wl;have h2:min (ew W).wl (ew W).next=(ew W).next:=Nat.min_self _
  omega
 exact⟨_,he,BQ KI Gg EP hvars hres hrs htb hpt hfn hW sm.calm (sm.grown hm hwl)⟩
end Go.Proofs.YtookeaakpiefjaaDoor
end

section
namespace Go.Proofs.YtookeaakpiefjaaDoor
open Go Go.Ab Go.Ab.W
def AM (_:Nat) (x y c:Nat):Option (Nat × Nat):=gd (decide (c≤1)) (some ((x+y+c)%18446744073709551616,(x+y+c)/18446744073709551616))
def EI (_:Nat) (x y c:Nat):Option (Nat × Nat):=gd (decide (c≤1)) (some ((x+18446744073709551616-y-c)%18446744073709551616,if x<y+c then 1 else 0))
theorem rV {V:Nat→Nat→Nat→Value} {x y c:Nat} (hc:c≤1) (m:AMem):dP V [.int .u64 ((x:Nat):Int),.int .u64 ((y:Nat):Int),.int .u64 ((c:Nat):Int)] m=some (V x y c,m):=by
 show(if Nat.ble c 1 then some (V x y c,m) else none)=_
 rw[Nat.ble_eq_true_of_le hc]; rfl
theorem tQ (n:Nat) (x y c:Nat) (r:Nat × Nat) (hF:AM n x y c=some r) (m:AMem) :
  aF aD 101 [.int .u64 ((x:Nat):Int),.int .u64 ((y:Nat):Int),.int .u64 ((c:Nat):Int)] m (fun v m'=>∃_:Unit,v = .tuple #[.int .u64 ((r.1:Nat):Int),.int .u64 ((r.2:Nat):Int)]∧Hp m m' []):=by
 obtain⟨hc,hF⟩:=aj hF;have hr:=Option.some.inj hF;subst hr;exact aF.dd (p:=⟨dP wI⟩) rfl (rV (of_decide_eq_true hc) m) ⟨(),rfl,.start m⟩
theorem zl (n:Nat) (x y c:Nat) (r:Nat × Nat) (hF:EI n x y c=some r) (m:AMem) :
  aF aD 100 [.int .u64 ((x:Nat):Int),.int .u64 ((y:Nat):Int),.int .u64 ((c:Nat):Int)] m (fun v m'=>∃_:Unit,v = .tuple #[.int .u64 ((r.1:Nat):Int),.int .u64 ((r.2:Nat):Int)]∧Hp m m' []):=by
 obtain⟨hc,hF⟩:=aj hF;have hr:=Option.some.inj hF;subst hr;exact aF.dd (p:=⟨dP uA⟩) rfl (rV (of_decide_eq_true hc) m) ⟨(),by
  show uA x y c=_
  unfold uA
  split<;>rfl,.start m⟩
end Go.Proofs.YtookeaakpiefjaaDoor
end

section
namespace Go.Ab
open Go
theorem E2 (y w:Nat):∀x,x<2 ^ w→y=2 ^ w-1-x→x &&& y=0:=by
 intro x hx hy;apply Nat.eq_of_testBit_eq;intro i;rw[Nat.testBit_and,hy,show 2 ^ w-1-x=2 ^ w-(x+1) by omega,Nat.testBit_two_pow_sub_succ hx,Nat.zero_testBit]
 by_cases hi:i<w
 ·simp[hi]
 ·simp[hi]
theorem Gy (a b:Nat):(2*a) &&& (2*b)=2*(a &&& b):=by
 apply Nat.eq_of_testBit_eq;intro i;rw[Nat.testBit_and];cases i with
 | zero=>simp
 | succ i=>rw[Nat.testBit_succ,Nat.testBit_succ,Nat.testBit_succ,show 2*a/2=a by omega,show 2*b/2=b by omega,show 2*(a &&& b)/2=a &&& b by omega,Nat.testBit_and]
theorem Gm (a b:Nat):(2*a+1) &&& (2*b+1)=2*(a &&& b)+1:=by
 apply Nat.eq_of_testBit_eq;intro i;rw[Nat.testBit_and];cases i with
 | zero=>simp
 | succ i=>rw[Nat.testBit_succ,Nat.testBit_succ,Nat.testBit_succ,show(2*a+1)/2=a by omega,show(2*b+1)/2=b by omega,show(2*(a &&& b)+1)/2=a &&& b by omega,Nat.testBit_and]
theorem zY:∀(w x:Nat),0<x→x<2 ^ w→∃k,k<w∧x &&& (2 ^ w-x)=2 ^ k∧∃q,x=2 ^ k*(2*q+1)
 | 0,x,h0,h1=>by simp at h1; omega
 | w+1,x,h0,h1=>by
  rw[Nat.pow_succ] at h1 ⊢;rcases Nat.mod_two_eq_zero_or_one x with h|h
  ·obtain⟨y,rfl⟩:∃y,x=2*y:=⟨x/2,by omega⟩
   obtain⟨k,hk,h2,q,h3⟩:=zY w y (by omega) (by omega)
   refine⟨k+1,by omega,?_,q,?_⟩
   ·rw[show 2 ^ w*2-2*y=2*(2 ^ w-y) by omega,Gy,h2,Nat.pow_succ]; omega
   ·rw[h3,Nat.pow_succ,Nat.mul_comm (2 ^ k) 2,Nat.mul_assoc]
  ·obtain⟨y,rfl⟩:∃y,x=2*y+1:=⟨x/2,by omega⟩
   refine⟨0,by omega,?_,y,by simp⟩
   rw[show 2 ^ w*2-(2*y+1)=2*(2 ^ w-1-y)+1 by omega,Gm,E2 _ w y (by omega) rfl]
def tz (x:Nat):Nat:=if x=0 then 64 else Nat.log2 (x &&& (2 ^ 64-x))
theorem pH {x:Nat} (h0:0<x) (h1:x<2 ^ 64):tz x<64∧x &&& (2 ^ 64-x)=2 ^ tz x∧∃q,x=2 ^ tz x*(2*q+1):=by
 obtain⟨k,hk,h2,h3⟩:=zY 64 x h0 h1;have:tz x=k:=by unfold tz; rw[if_neg (by omega),h2,Nat.log2_two_pow]
 rw[this]; exact⟨hk,h2,h3⟩
end Go.Ab
end

section
namespace Go.Proofs.YtookeaakpiefjaaDoor
open Go Go.Ab
set_option maxRecDepth 10000
theorem LQ:Tryd.prog.underlying 3=some (.int .i64):=by kernel_rfl
theorem LU:Tryd.prog.underlying 5=some (.int .u8):=by kernel_rfl
theorem Kf:Tryd.prog.underlying 109=some (.array 64 5):=by kernel_rfl
theorem LD:known Tryd.prog 5=true:=by kernel_rfl
theorem L9:aw Tryd.prog 5=1:=by kernel_rfl
theorem LX:dR Tryd.prog 5=false:=by kernel_rfl
theorem II:∀k:Fin 64,(ep.map (Value.int .u8))[(2 ^ k.val*285870213051353865%2 ^ 64) >>> 58]?.map (fun v=>match v with | .int .u8 n=>decide (n=k.val) | _=>false)=some true:=by decide +kernel
theorem IK (k:Nat) (hk:k<64):(ep.map (Value.int .u8))[(2 ^ k*285870213051353865%2 ^ 64) >>> 58]? = some (.int .u8 (k:Int)):=by
 have:=II ⟨k,hk⟩;cases h:(ep.map (Value.int .u8))[(2 ^ k*285870213051353865%2 ^ 64) >>> 58]? with
 | none=>rw[h] at this; cases this
 | some v =>
  rw[h] at this;simp only[Option.map_some,Option.some.injEq] at this
  split at this
  ·rw[of_decide_eq_true this]
  ·cases this
def rQ (x:Nat):Nat:=2 ^ 64-x
def qu (x y:Nat):Nat:=x*y%2 ^ 64
theorem E8 (x:Nat) (h0:0<x) (h1:x<2 ^ 64):xY .neg (.int .u64 (x:Int))=some (.int .u64 ((rQ x:Nat):Int)):=by
 simp only[xY,rQ];have:IntKind.u64.wrap (0-(x:Int))=((2 ^ 64-x:Nat):Int):=by
  unfold IntKind.wrap IntKind.bits IntKind.signed;simp only[Bool.false_and,Bool.false_eq_true,if_false];omega
 rw[this]
theorem Fw {ty:TypeId} {P:Program} (x:Nat):bw .mul ty P (.int .u64 (x:Int)) (.int .u64 285870213051353865)=some (.int .u64 ((qu x 285870213051353865:Nat):Int)):=by
 simp only[bw,if_true,qu];have:IntKind.u64.wrap ((x:Int)*285870213051353865)=((x*285870213051353865%2 ^ 64:Nat):Int):=by
  unfold IntKind.wrap IntKind.bits IntKind.signed;simp only[Bool.false_and,Bool.false_eq_true,if_false];omega
 rw[this]
theorem FC {ty:TypeId} {P:Program} (x:Nat):bw .shr ty P (.int .u64 (x:Int)) (.int .u64 58)=some (.int .u64 ((x >>> 58:Nat):Int)):=Bv x 58 .u64 (by omega)
theorem Gs {ty:TypeId} {P:Program} (x:Nat) (h0:0<x) (h1:x<2 ^ 64):bw .and ty P (.int .u64 (x:Int)) (.int .u64 ((rQ x:Nat):Int))=some (.int .u64 ((2 ^ tz x:Nat):Int)):=by
 rw[sj x (rQ x) h1 (by unfold rQ; omega)]
 unfold rQ;rw[(pH h0 h1).2.1]
theorem Fm (k:Nat) (hk:k<64):bh Tryd.prog 109 (ptr 0 0) (.int .u64 ((qu (2 ^ k) 285870213051353865 >>> 58:Nat):Int))=some (ptr 0 (qu (2 ^ k) 285870213051353865 >>> 58)):=by
 have hlt:qu (2 ^ k) 285870213051353865 >>> 58<64:=by
  rw[Nat.shiftRight_eq_div_pow];have:qu (2 ^ k) 285870213051353865<2 ^ 64:=Nat.mod_lt _ (by omega)
  omega
 rw[B5 Kf LD L9 hlt];simp
def B4 (k:Nat):Nat:=qu (2 ^ k) 285870213051353865
def zr (k:Nat):Nat:=B4 k >>> 58
theorem I5 {ty:TypeId} {P:Program} (k:Nat):bw .mul ty P (.int .u64 ((2 ^ k:Nat):Int)) (.int .u64 285870213051353865)=some (.int .u64 ((B4 k:Nat):Int)):=Fw _
theorem HQ {ty:TypeId} {P:Program} (k:Nat):bw .shr ty P (.int .u64 ((B4 k:Nat):Int)) (.int .u64 58)=some (.int .u64 ((zr k:Nat):Int)):=FC _
theorem Ii (k:Nat) (hk:k<64):bh Tryd.prog 109 (ptr 0 0) (.int .u64 ((zr k:Nat):Int))=some (ptr 0 (zr k)):=Fm k hk
theorem El (n:Nat) (h:n<2 ^ 63):ek Tryd.prog 5 3 (.int .u8 (n:Int))=some (.int .i64 (n:Int)):=by
 simp only[ek,LU,LQ];rw[wrap_i64 _ (by omega) (by omega)]
theorem EX (k:Nat) (hk:k<64) {m:AMem} (hm:m.get 0=some (.cells (ep.map (.int .u8)) .ro)):cR Tryd.prog 5 (ptr 0 (zr k)) m=some (.int .u8 (k:Int)):=th LD LX hm (IK k hk)
theorem BF (x:Nat) (hx:x<2 ^ 64) (m:AMem) (hm:m.get 0=some (.cells (ep.map (.int .u8)) .ro)):aF aD 21 [.int .u64 (x:Int)] m (fun v m'=>v = .int .i64 (tz x:Int)∧m'=m):=by
 refine aF.D2 (N:=14) (rs:=[.tmp 2]) rfl Tryd.func21 rfl rfl rfl ?_;simp only[ofList_cons,ofList_nil]
 (repeat refine aM.seq ?_); refine aM.oX fun K hK=>?_
 refine gQ rfl (lV (pO _ _)) (mV rfl) ?_;refine hK _ _ ?_; clear hK K; try simp only[iH]
 (repeat refine aM.seq ?_); refine aM.oX fun K hK=>?_
 refine gQ rfl (sA (gh (by repeat first | (apply dF; rfl) | exact eA _ _ _|assumption))) (mV rfl) ?_
 refine gQ rfl (vH (gh (by repeat first | (apply dF; rfl) | exact eA _ _ _|assumption)) (pO _ _) (bu _ _ _)) (mV rfl) ?_
 refine hK _ _ ?_; clear hK K; try simp only[iH]
 by_cases h0:x=0
 ·refine aM.cond (c:=true) ((gh (by repeat first | (apply dF; rfl) | exact eA _ _ _|assumption)).trans (by rw[h0]; rfl)) (fun _=>?_) (fun h=>by cases h)
  (repeat refine aM.seq ?_); refine aM.oX fun K hK=>?_
  refine gQ rfl (lV (pO _ _)) (mV rfl) ?_;refine hK _ _ ?_; clear hK K; try simp only[iH]
  refine aM.ret ?_; simp only[Cv,Ci,xD,bO,rM,eS,Option.map_some,at_set,Nat.reduceEqDiff,reduceIte];rw[h0];exact⟨by trivial,by trivial⟩
 ·have hp:0<x:=by omega
  have hk:=(pH hp hx).1;refine aM.cond (c:=false) ((gh (by repeat first | (apply dF; rfl) | exact eA _ _ _|assumption)).trans (by rw[decide_eq_false (by omega)])) (fun h=>by cases h) (fun _=>?_)
  refine aM.skip ?_;rw[iH]
  (repeat refine aM.seq ?_); refine aM.oX fun K hK=>?_
  refine gQ rfl (sA (gh (by repeat first | (apply dF; rfl) | exact eA _ _ _|assumption))) (mV rfl) ?_
  refine gQ rfl (sA (gh (by repeat first | (apply dF; rfl) | exact eA _ _ _|assumption))) (mV rfl) ?_
  refine gQ rfl (lb (gh (by repeat first | (apply dF; rfl) | exact eA _ _ _|assumption)) (E8 x hp hx)) (mV rfl) ?_
  refine gQ rfl (vH (gh (by repeat first | (apply dF; rfl) | exact eA _ _ _|assumption)) (gh (by repeat first | (apply dF; rfl) | exact eA _ _ _|assumption)) (Gs x hp hx)) (mV rfl) ?_
  refine gQ rfl (vH (gh (by repeat first | (apply dF; rfl) | exact eA _ _ _|assumption)) (pO _ _) (I5 _)) (mV rfl) ?_
  refine gQ rfl (vH (gh (by repeat first | (apply dF; rfl) | exact eA _ _ _|assumption)) (pO _ _) (HQ _)) (mV rfl) ?_
  refine gQ rfl (ou rfl (gh (by repeat first | (apply dF; rfl) | exact eA _ _ _|assumption)) (Ii _ hk)) (mV rfl) ?_
  refine gQ rfl (ta (gh (by repeat first | (apply dF; rfl) | exact eA _ _ _|assumption)) (EX _ hk hm)) (mV rfl) ?_
  refine gQ rfl (DV (gh (by repeat first | (apply dF; rfl) | exact eA _ _ _|assumption)) (El _ (Nat.lt_trans hk (by decide)))) (mV rfl) ?_
  refine gQ rfl (lV (gh (by repeat first | (apply dF; rfl) | exact eA _ _ _|assumption))) (mV rfl) ?_
  refine hK _ _ ?_; clear hK K; try simp only[iH]
  refine aM.ret ?_; simp only[Cv,Ci,xD,bO,rM,eS,Option.map_some,at_set,Nat.reduceEqDiff,reduceIte];exact⟨by trivial,by trivial⟩
end Go.Proofs.YtookeaakpiefjaaDoor
end

section
namespace Go.Proofs.YtookeaakpiefjaaDoor
open Go Go.Ab Go.Ab.W
set_option maxRecDepth 10000
set_option maxHeartbeats 4000000
attribute [local irreducible] Tm.at Trie.set Trie.get AMem.get AMem.set AMem.alloc AMem.ww AMem.kill
def J4 (n:Nat) (x:Nat):Option Int:=gd (decide (x<2 ^ 64)) (some (tz x:Int))
theorem Hj (n x:Nat) (r:Int) (hF:J4 n x=some r) (m:AMem) (hG:Gl m):aF aD 21 [.int .u64 ((x:Nat):Int)] m (fun v m'=>∃x:Unit,v = .int .i64 r∧Hp m m' []):=by
 unfold J4 at hF;obtain⟨hx,hF⟩:=aj hF;cases hF;exact(BF x (of_decide_eq_true hx) m hG.1).mono fun v m' h=>⟨(),h.1,by rw[h.2]; exact Hp.start m⟩
end Go.Proofs.YtookeaakpiefjaaDoor
end

section
namespace Go.Proofs.YtookeaakpiefjaaDoor
open Go Go.Ab Go.Ab.W
set_option maxRecDepth 10000
def fo:List Nat:=[0,1,2,2,3,3,3,3,4,4,4,4,4,4,4,4,5,5,5,5,5,5,5,5,5,5,5,5,5,5,5,5,6,6,6,6,6,6,6,6,6,6,6,6,6,6,6,6,6,6,6,6,6,6,6,6,6,6,6,6,6,6,6,6,7,7,7,7,7,7,7,7,7,7,7,7,7,7,7,7,7,7,7,7,7,7,7,7,7,7,7,7,7,7,7,7,7,7,7,7,7,7,7,7,7,7,7,7,7,7,7,7,7,7,7,7,7,7,7,7,7,7,7,7,7,7,7,7,8,8,8,8,8,8,8,8,8,8,8,8,8,8,8,8,8,8,8,8,8,8,8,8,8,8,8,8,8,8,8,8,8,8,8,8,8,8,8,8,8,8,8,8,8,8,8,8,8,8,8,8,8,8,8,8,8,8,8,8,8,8,8,8,8,8,8,8,8,8,8,8,8,8,8,8,8,8,8,8,8,8,8,8,8,8,8,8,8,8,8,8,8,8,8,8,8,8,8,8,8,8,8,8,8,8,8,8,8,8,8,8,8,8,8,8,8,8,8,8,8,8,8,8,8,8,8,8]
def Ea (n:Nat) (l1:List (Nat × Nat)) (y2:Int) (v1:Int) (v2:Int):(Bool × Int)→Option ((Bool × Int) ⊕ (Bool)):=fun(v3,v0) =>
ob (
br (decide (v0<(l1.length:Int))) (
some (decide (v0<3))) (
some false)) fun v4 =>
br (v4) (
ob (
gd (bZ v0 l1.length) (
ob (l1[v0.toNat]?) fun(x3,x4) =>
gd (decide (y2≠0)) (
gd (bZ v0 l1.length) (
gd (decide (y2≠0)) (
br (v3) (
some true) (
br (decide (Int.tmod (IntKind.wrap .i64 ((x3:Nat):Int)) y2=v1)) (
br (decide (Int.tmod (IntKind.wrap .i64 ((x4:Nat):Int)) y2=v2)) (
some true) (
br (decide (Int.tmod (IntKind.wrap .i64 ((x3:Nat):Int)) y2=v2)) (
some (decide (Int.tmod (IntKind.wrap .i64 ((x4:Nat):Int)) y2=v1))) (
some false))) (
br (decide (Int.tmod (IntKind.wrap .i64 ((x3:Nat):Int)) y2=v2)) (
some (decide (Int.tmod (IntKind.wrap .i64 ((x4:Nat):Int)) y2=v1))) (
some false)))))))) fun v5 =>
some (.inl (v5,IntKind.wrap .i64 (v0+1)))) (
some (.inr v3))
def CQ (n:Nat) (y2:Int) (v1:Int) (v3:Int) (x3:Nat) (l2:List (Nat × Nat)):(List (Int × Int) × Int × Int)→Option ((List (Int × Int) × Int × Int) ⊕ (List (Int × Int) × Int)):=fun(l1,v2,v0) =>
br (decide (v0<y2)) (
ob (
ob (
br (decide (v0=IntKind.wrap .i64 (v1+v3))) (
some true) (
br (decide (v0=IntKind.wrap .i64 (v1+1))) (
gd (decide (v3≠0)) (
some (!decide (Int.tmod v0 v3=0)))) (
some false))) fun v4 =>
ob (
br (v4) (
ob (
ob (
br (decide (Int.tmod v2 2=1)) (
ob (some (bI .u16 x3 (ui .u64 (Int.tmod (IntKind.wrap .i64 (Int.tdiv v2 2)) 16)))) fun y3 =>
some (decide (uw .u16 (uw .u16 y3 &&& uw .u16 1)=1))) (
some false)) fun v6 =>
br (v6) (
some false) (
some v4)) fun v7 =>
some (IntKind.wrap .i64 (v2+1),v7)) (
some (v2,v4))) fun(v5,v8) =>
ob (
cx (Ea n l2 y2 v1 v0) n (v8,0)) fun v9 =>
br (v9) (
gd (oD (l1++[(v1,v0)]).length) (
some ((l1++[(v1,v0)]),v5))) (
some (l1,v5))) fun(l3,v10) =>
some (.inl (l3,v10,IntKind.wrap .i64 (v0+1)))) (
some (.inr (l1,v2)))
def Dp (n:Nat) (y2:Int) (x3:Nat) (l2:List (Nat × Nat)):(Int × List (Int × Int) × Int × Int)→Option ((Int × List (Int × Int) × Int × Int) ⊕ (List (Int × Int))):=fun(v1,l1,v2,v0) =>
br (decide (v0<y2)) (
ob (
cx (CQ n y2 v0 v1 x3 l2) n (l1,v2,IntKind.wrap .i64 (v0+1))) fun(l3,v3) =>
some (.inl (v1,l3,v3,IntKind.wrap .i64 (v0+1)))) (
some (.inr l1))
def F7 (n:Nat) (x1:Nat) (x2:Nat) (x3:Nat) (l1:List (Nat × Nat)):Option (Int × List (Int × Int)) :=
ob (some (IntKind.wrap .i64 ((IntKind.wrap .i64 (1+(IntKind.wrap .i64 ((x1%4:Nat):Int))))*(IntKind.wrap .i64 (1+(IntKind.wrap .i64 ((x2%3:Nat):Int))))))) fun y2 =>
ob (
cx (Dp n y2 x3 l1) n (IntKind.wrap .i64 (1+(IntKind.wrap .i64 ((x1%4:Nat):Int))),([]:List (Int × Int)),0,0)) fun l2 =>
some (y2,l2)
def I9 (n:Nat) (x1:Nat) (x2:Int):Option (Bool) :=
some (decide (uw .u64 (uw .u64 (bI .u64 x1 (ui .u64 x2)) &&& uw .u64 1)=1))
def uQ (n:Nat) (x1:Nat):(Int × Int)→Option ((Int × Int) ⊕ (Int)):=fun(v4,v5) =>
br (decide (v5<64)) (
ob (
ob (I9 n x1 v5) fun r25 =>
br (r25) (
some (IntKind.wrap .i64 (v4+1))) (
some v4)) fun v23 =>
some (.inl (v23,IntKind.wrap .i64 (v5+1)))) (
some (.inr v4))
def JS (n:Nat) (x1:Nat):Option (Int) :=
ob (
cx (uQ n x1) n (0,0)) fun v18 =>
some v18
def KC (n:Nat) (x1:Int):Option (Nat) :=
some (fc .u64 1 (ui .u64 x1))
def yi (n:Nat) (x1:Int) (x6:Nat):(Nat × Int)→Option ((Nat × Int) ⊕ (Nat)):=fun(v10,v11) =>
ob (
br (decide (v11<x1)) (
ob (JS n v10) fun r64 =>
some (decide (r64<9))) (
some false)) fun v61 =>
br (v61) (
ob (
ob (I9 n x6 v11) fun r75 =>
br (r75) (
ob (KC n v11) fun r78 =>
some (uw .u64 (uw .u64 v10 ||| uw .u64 r78))) (
some v10)) fun v73 =>
some (.inl (v73,IntKind.wrap .i64 (v11+1)))) (
some (.inr v10))
def F8 (n:Nat) (x1:Int) (l2:List (Int × Int)) (x6:Nat):Option (Nat) :=
ob (
cx (yi n x1 x6) n (0,0)) fun v47 =>
some v47
def G3 (n:Nat):(List (Nat) × Int)→Option ((List (Nat) × Int) ⊕ (List (Nat))):=fun(l40,v41) =>
br (decide (v41<8)) (
gd (bZ v41 8) (
ob (l40[v41.toNat]?) fun x52 =>
some (.inl ((l40.set v41.toNat 18446744073709551615),IntKind.wrap .i64 (v41+1))))) (
some (.inr l40))
def yk (n:Nat) (x1:Int):Option (Nat × Nat × Nat × Nat × Nat × Nat × Nat × Nat) :=
ob (
br (decide (x1<0)) (
ob (
cx (G3 n) n (([ui .u64 x1,0,0,0,0,0,0,0]:List (Nat)),1)) fun l49 =>
some l49) (
some ([ui .u64 x1,0,0,0,0,0,0,0]:List (Nat)))) fun l30 =>
ob (Kw l30) fun(x59,x60,x61,x62,x63,x64,x65,x66) =>
some (x59,x60,x61,x62,x63,x64,x65,x66)
def Ha (n:Nat) (x1:Int):Option (Bool) :=
some (!decide (x1=x1))
def IP (n:Nat) (x1:Int) (x2:Int):Option (Int) :=
ob (Ha n x1) fun r4 =>
ob (Ha n x2) fun r6 =>
br (r4) (
br (r6) (
some 0) (
some (-1))) (
br (r6) (
some 1) (
br (decide (x1<x2)) (
some (-1)) (
br (decide (x2<x1)) (
some 1) (
some 0))))
def jy (n:Nat) (l1:List (Int)) (l5:List (Int)):Int→Option ((Int) ⊕ ((Int) ⊕ (Unit))):=fun v10 =>
br (decide (v10<(l1.length:Int))) (
gd (bZ v10 l1.length) (
ob (l1[v10.toNat]?) fun x32 =>
br (decide ((l5.length:Int)≤v10)) (
some (.inr (.inl 1))) (
gd (bZ v10 l5.length) (
ob (l5[v10.toNat]?) fun x38 =>
ob (IP n x32 x38) fun r41 =>
br (!decide (r41=0)) (
some (.inr (.inl r41))) (
some (.inl (IntKind.wrap .i64 (v10+1)))))))) (
some (.inr (.inr ())))
def G1 (n:Nat) (l1:List (Int)) (l5:List (Int)):Option (Int) :=
ob (α:=(Int) ⊕ (Unit)) (
cx (jy n l1 l5) n 0) fun r44=>match r44 with
| .inl v27 =>
some v27
| .inr _ =>
br (decide ((l1.length:Int)<(l5.length:Int))) (
some (-1)) (
some 0)
def pt (n:Nat) (l1:List (Int × Int)) (x1:Int):(Int × Int × Int)→Option ((Int × Int × Int) ⊕ ((Unit) ⊕ (Unit))):=fun(v1,v2,v0) =>
br (decide (v0<(l1.length:Int))) (
gd (bZ v0 l1.length) (
ob (l1[v0.toNat]?) fun(x3,x4) =>
ob (
br (decide (x3<0)) (
some true) (
br (decide (x4≤x3)) (
some true) (
br (decide (x1≤x4)) (
some true) (
ob (G1 n [v1,v2] [x3,x4]) fun r0 =>
some (decide (0≤r0)))))) fun v3 =>
br (v3) (
some (.inr (.inl ()))) (
some (.inl (x3,x4,IntKind.wrap .i64 (v0+1)))))) (
some (.inr (.inr ())))
def Jr (n:Nat) (x1:Int) (l1:List (Int × Int)):Option (Int) :=
ob (
br (decide (x1<1)) (
some true) (
br (decide (64<x1)) (
some true) (
some (decide (200<(l1.length:Int)))))) fun v0 =>
br (v0) (
some 180) (
ob (α:=(Unit) ⊕ (Unit)) (
cx (pt n l1 x1) n (-1,-1,0)) fun r0=>match r0 with
| .inl _ =>
some 180
| .inr _ =>
some 0)
def Ji (n:Nat) (x1:Nat):Option (Int) :=
ob (
br (decide (4294967296≤x1)) (
some (bI .u64 x1 32,32)) (
some (x1,0))) fun(v3,v4) =>
ob (
br (decide (65536≤v3)) (
some (bI .u64 v3 16,IntKind.wrap .i64 (v4+16))) (
some (v3,v4))) fun(v9,v10) =>
ob (
br (decide (256≤v9)) (
some (bI .u64 v9 8,IntKind.wrap .i64 (v10+8))) (
some (v9,v10))) fun(v15,v16) =>
gd (bZ ((uw .u8 v15:Nat):Int) 256) (
ob (fo[((uw .u8 v15:Nat):Int).toNat]?) fun y22 =>
some (IntKind.wrap .i64 (v16+(IntKind.wrap .i64 ((y22:Nat):Int)))))
def GX (n:Nat) (x1:Int) (l2:List (Int × Int)) (x6:Nat):Option (Int) :=
ob (Jr n x1 l2) fun r9 =>
br (!decide (r9=0)) (
some r9) (
ob (
br (decide (x6=0)) (
some true) (
ob (Ji n x6) fun r27 =>
some (decide (x1<r27)))) fun v24 =>
br (v24) (
some 2) (
some 0))
def jA (n:Nat):(List (Nat) × List (Nat) × Nat × Int)→Option ((List (Nat) × List (Nat) × Nat × Int) ⊕ (List (Nat) × Nat)):=fun(l36,l37,v38,v39) =>
br (decide (v39<8)) (
gd (bZ v39 8) (
ob (l36[v39.toNat]?) fun x60 =>
gd (bZ v39 8) (
ob (l37[v39.toNat]?) fun x63 =>
ob (EI n x60 x63 v38) fun(r66,r67) =>
gd (bZ v39 8) (
some (.inl ((l36.set v39.toNat r66),l37,r67,IntKind.wrap .i64 (v39+1))))))) (
some (.inr (l36,v38)))
def Jc (n:Nat) (x1:Nat) (x2:Nat) (x3:Nat) (x4:Nat) (x5:Nat) (x6:Nat) (x7:Nat) (x8:Nat) (x9:Nat) (x10:Nat) (x11:Nat) (x12:Nat) (x13:Nat) (x14:Nat) (x15:Nat) (x16:Nat):Option (Nat × Nat × Nat × Nat × Nat × Nat × Nat × Nat × Nat) :=
ob (
cx (jA n) n (([x1,x2,x3,x4,x5,x6,x7,x8]:List (Nat)),([x9,x10,x11,x12,x13,x14,x15,x16]:List (Nat)),0,0)) fun(l56,v57) =>
ob (Kw l56) fun(x72,x73,x74,x75,x76,x77,x78,x79) =>
some (x72,x73,x74,x75,x76,x77,x78,x79,v57)
def KB (n:Nat) (x1:Nat) (x2:Nat) (x3:Nat) (x4:Nat) (x5:Nat) (x6:Nat) (x7:Nat) (x8:Nat):Option (Bool × Nat × Nat × Nat × Nat × Nat × Nat × Nat × Nat) :=
ob (
br (decide (bI .u64 x8 63=1)) (
ob (Jc n 0 0 0 0 0 0 0 0 x1 x2 x3 x4 x5 x6 x7 x8) fun(r34,r35,r36,r37,r38,r39,r40,r41,r42) =>
some (decide (bI .u64 x8 63=1),r34,r35,r36,r37,r38,r39,r40,r41)) (
some (decide (bI .u64 x8 63=1),x1,x2,x3,x4,x5,x6,x7,x8))) fun(v23,v24,v25,v26,v27,v28,v29,v30,v31) =>
some (v23,v24,v25,v26,v27,v28,v29,v30,v31)
def gI (n:Nat) (l2:List (Nat)):Int→Option ((Int) ⊕ (Int)):=fun v9 =>
ob (
br (decide (0<v9)) (
gd (bZ (IntKind.wrap .i64 (v9-1)) l2.length) (
ob (l2[(IntKind.wrap .i64 (v9-1)).toNat]?) fun x71 =>
some (decide (x71=0)))) (
some false)) fun v66 =>
br (v66) (
some (.inl (IntKind.wrap .i64 (v9-1)))) (
some (.inr v9))
def uD (n:Nat) (x1:Bool) (l2:List (Nat)):Option (Bool × List Nat) :=
ob (
cx (gI n l2) n (l2.length:Int)) fun v43 =>
br (x1) (
gd (okB 0 v43 l2.length) (
some (decide (0<v43),((l2.drop (0:Int).toNat).take ((v43:Int).toNat-(0:Int).toNat))))) (
gd (okB 0 v43 l2.length) (
some (false,((l2.drop (0:Int).toNat).take ((v43:Int).toNat-(0:Int).toNat)))))
def Fx (n:Nat) (x1:Nat) (x2:Nat) (x3:Nat) (x4:Nat) (x5:Nat) (x6:Nat) (x7:Nat) (x8:Nat):Option (Bool × List Nat) :=
ob (KB n x1 x2 x3 x4 x5 x6 x7 x8) fun(r12,r13,r14,r15,r16,r17,r18,r19,r20) =>
gd (oD (([]:List (Nat))++[r13,r14,r15,r16,r17,r18,r19,r20]).length) (
ob (uD n r12 (([]:List (Nat))++[r13,r14,r15,r16,r17,r18,r19,r20])) fun(r26,l27) =>
some (r26,l27))
def Hs (n:Nat) (x1:Bool) (l2:List (Nat)):Option (Int) :=
br (x1) (
some (-1)) (
br (decide ((l2.length:Int)=0)) (
some 0) (
some 1))
def vp (n:Nat):(List (Int) × Int)→Option ((List (Int) × Int) ⊕ (List (Int))):=fun(l12,v13) =>
br (decide (v13<((64:Int).toNat:Int))) (
gd (bZ v13 ((64:Int).toNat)) (
ob (l12[v13.toNat]?) fun x24 =>
some (.inl ((l12.set v13.toNat v13),IntKind.wrap .i64 (v13+1))))) (
some (.inr l12))
def I8 (n:Nat):Option (List Int) :=
gd (decide ((0:Int)≤64)) (gd (oD ((64:Int).toNat)) (
ob (
cx (vp n) n ((List.replicate (64:Int).toNat (0:Int)),0)) fun l21 =>
some l21))
def EB (n:Nat) (x1:Nat) (x2:Int) (x3:Int):Option (Bool) :=
gd (decide (0≤x2)) (
br (decide (uw .u64 (uw .u64 (bI .u64 x1 x2.toNat) &&& uw .u64 1)=1)) (
gd (decide (0≤x3)) (
some (decide (uw .u64 (uw .u64 (bI .u64 x1 x3.toNat) &&& uw .u64 1)=1)))) (
some false))
def jD (n:Nat) (l1:List (Int)):Int→Option ((Int) ⊕ (Int)):=fun v7 =>
gd (bZ v7 l1.length) (
ob (l1[v7.toNat]?) fun x20 =>
br (!decide (x20=v7)) (
gd (bZ v7 l1.length) (
some (.inl x20))) (
some (.inr v7)))
def GD (n:Nat) (l1:List (Int)) (x5:Int):Option (Int) :=
ob (
cx (jD n l1) n x5) fun v16 =>
some v16
def sB (n:Nat) (x1:Int):Option (Bool × List Nat) :=
ob (yk n x1) fun(r4,r5,r6,r7,r8,r9,r10,r11) =>
ob (Fx n r4 r5 r6 r7 r8 r9 r10 r11) fun(r13,l14) =>
some (r13,l14)
def pd (n:Nat) (l1:List (Nat)) (l2:List (Nat)):(List (Nat) × Nat × Nat × Int)→Option ((List (Nat) × Nat × Nat × Int) ⊕ (List (Nat) × Nat × Nat)):=fun(l3,n0,v1,v0) =>
br (decide (v0<(l1.length:Int))) (
gd (bZ v0 l1.length) (
ob (l1[v0.toNat]?) fun x3 =>
ob (
br (decide (v0<(l2.length:Int))) (
gd (bZ v0 l2.length) (
ob (l2[v0.toNat]?) fun x4 =>
some x4)) (
some 0)) fun v2 =>
ob (AM n x3 v2 v1) fun(r0,r1) =>
gd (bZ v0 n0) (
ob (l3[v0.toNat]?) fun x5 =>
some (.inl ((l3.set v0.toNat r0),n0,r1,IntKind.wrap .i64 (v0+1)))))) (
some (.inr (l3,n0,v1)))
def KN (n:Nat) (l2:List (Nat)) (l3:List (Nat)):Option (List Nat) :=
ob (
br (decide ((l2.length:Int)<(l3.length:Int))) (
some (l3,l2)) (
some (l2,l3))) fun(l1,l5) =>
gd (decide (0≤IntKind.wrap .i64 ((l1.length:Int)+1))) (gd (oD ((IntKind.wrap .i64 ((l1.length:Int)+1)).toNat)) (
ob (
cx (pd n l1 l5) n ((List.replicate (IntKind.wrap .i64 ((l1.length:Int)+1)).toNat (0:Nat)),(IntKind.wrap .i64 ((l1.length:Int)+1)).toNat,0,0)) fun(l4,n0,v0) =>
gd (bZ (l1.length:Int) n0) (
ob (l4[(l1.length:Int).toNat]?) fun x3 =>
some (l4.set ((l1.length:Int).toNat) v0))))
def ov (n:Nat) (l1:List (Nat)) (l5:List (Nat)):Int→Option ((Int) ⊕ ((Int) ⊕ (Unit))):=fun v11 =>
br (decide (0≤v11)) (
gd (bZ v11 l1.length) (
ob (l1[v11.toNat]?) fun x33 =>
gd (bZ v11 l5.length) (
ob (l5[v11.toNat]?) fun x38 =>
br (decide (x33<x38)) (
some (.inr (.inl (-1)))) (
gd (bZ v11 l1.length) (
gd (bZ v11 l5.length) (
br (decide (x38<x33)) (
some (.inr (.inl 1))) (
some (.inl (IntKind.wrap .i64 (v11-1)))))))))) (
some (.inr (.inr ())))
def Jj (n:Nat) (l1:List (Nat)) (l5:List (Nat)):Option (Int) :=
br (!decide ((l1.length:Int)=(l5.length:Int))) (
some (IntKind.wrap .i64 ((l1.length:Int)-(l5.length:Int)))) (
ob (α:=(Int) ⊕ (Unit)) (
cx (ov n l1 l5) n (IntKind.wrap .i64 ((l1.length:Int)-1))) fun r45=>match r45 with
| .inl v28 =>
some v28
| .inr _ =>
some 0)
def rN (n:Nat) (l1:List (Nat)) (l2:List (Nat)):(List (Nat) × Nat × Int)→Option ((List (Nat) × Nat × Int) ⊕ (List (Nat))):=fun(l3,v1,v0) =>
br (decide (v0<(l1.length:Int))) (
gd (bZ v0 l1.length) (
ob (l1[v0.toNat]?) fun x3 =>
ob (
br (decide (v0<(l2.length:Int))) (
gd (bZ v0 l2.length) (
ob (l2[v0.toNat]?) fun x4 =>
some x4)) (
some 0)) fun v2 =>
ob (EI n x3 v2 v1) fun(r0,r1) =>
gd (bZ v0 ((l1.length:Int).toNat)) (
ob (l3[v0.toNat]?) fun x5 =>
some (.inl ((l3.set v0.toNat r0),r1,IntKind.wrap .i64 (v0+1)))))) (
some (.inr l3))
def Je (n:Nat) (l1:List (Nat)) (l2:List (Nat)):Option (List Nat) :=
gd (decide (0≤(l1.length:Int))) (gd (oD ((l1.length:Int).toNat)) (
ob (
cx (rN n l1 l2) n ((List.replicate (l1.length:Int).toNat (0:Nat)),0,0)) fun l3 =>
some l3))
def Bn (n:Nat) (x1:Bool) (l2:List (Nat)) (x7:Bool) (l8:List (Nat)):Option (Bool × List Nat) :=
br ((x1 == x7)) (
ob (KN n l2 l8) fun l18 =>
ob (uD n x1 l18) fun(r22,l23) =>
some (r22,l23)) (
ob (
ob (Jj n l2 l8) fun r39 =>
br (decide (r39<0)) (
some (x7,l8,x1,l2)) (
some (x1,l2,x7,l8))) fun(v30,l31,v34,l35) =>
ob (Je n l31 l35) fun l44 =>
ob (uD n v30 l44) fun(r48,l49) =>
some (r48,l49))
def Ev (n:Nat) (x1:Nat) (x2:Nat):Option (Nat × Nat) :=
ob (some (uw .u64 ((uw .u64 (uw .u64 x1 &&& uw .u64 4294967295))*(uw .u64 (uw .u64 x2 &&& uw .u64 4294967295))))) fun y3 =>
ob (some (uw .u64 ((bI .u64 x1 32)*(uw .u64 (uw .u64 x2 &&& uw .u64 4294967295))))) fun y5 =>
ob (some (uw .u64 (uw .u64 (uw .u64 (y5+(bI .u64 y3 32))) &&& uw .u64 4294967295))) fun y7 =>
ob (some (uw .u64 ((uw .u64 (uw .u64 x1 &&& uw .u64 4294967295))*(bI .u64 x2 32)))) fun y9 =>
ob (some (uw .u64 ((uw .u64 ((bI .u64 x1 32)*(bI .u64 x2 32)))+(bI .u64 (uw .u64 (y5+(bI .u64 y3 32))) 32)))) fun y11 =>
some (uw .u64 (y11+(bI .u64 (uw .u64 (y7+y9)) 32)),uw .u64 (x1*x2))
def nG (n:Nat) (l1:List (Nat)) (x3:Nat) (v1:Int) (n0:Nat):(List (Nat) × Nat × Int)→Option ((List (Nat) × Nat × Int) ⊕ (List (Nat) × Nat)):=fun(l2,v2,v0) =>
br (decide (v0<(l1.length:Int))) (
gd (bZ v0 l1.length) (
ob (l1[v0.toNat]?) fun x4 =>
ob (Ev n x3 x4) fun(r0,r1) =>
gd (bZ (IntKind.wrap .i64 (v1+v0)) n0) (
ob (l2[(IntKind.wrap .i64 (v1+v0)).toNat]?) fun x5 =>
ob (AM n x5 r1 0) fun(r2,r3) =>
ob (AM n r2 v2 0) fun(r4,r5) =>
gd (bZ (IntKind.wrap .i64 (v1+v0)) n0) (
some (.inl ((l2.set ((IntKind.wrap .i64 (v1+v0)).toNat) r4),uw .u64 ((uw .u64 (r0+r3))+r5),IntKind.wrap .i64 (v0+1))))))) (
some (.inr (l2,v2)))
def nB (n:Nat) (l2:List (Nat)) (l1:List (Nat)):(List (Nat) × Nat × Int)→Option ((List (Nat) × Nat × Int) ⊕ (List (Nat) × Nat)):=fun(l3,n0,v0) =>
br (decide (v0<(l2.length:Int))) (
gd (bZ v0 l2.length) (
ob (l2[v0.toNat]?) fun x3 =>
ob (
cx (nG n l1 x3 v0 n0) n (l3,0,0)) fun(l4,v1) =>
gd (bZ (IntKind.wrap .i64 (v0+(l1.length:Int))) n0) (
ob (l4[(IntKind.wrap .i64 (v0+(l1.length:Int))).toNat]?) fun x4 =>
some (.inl ((l4.set ((IntKind.wrap .i64 (v0+(l1.length:Int))).toNat) v1),n0,IntKind.wrap .i64 (v0+1)))))) (
some (.inr (l3,n0)))
def Et (n:Nat) (l1:List (Nat)) (l2:List (Nat)):Option (List Nat) :=
gd (decide (0≤IntKind.wrap .i64 ((l1.length:Int)+(l2.length:Int)))) (gd (oD ((IntKind.wrap .i64 ((l1.length:Int)+(l2.length:Int))).toNat)) (
ob (
cx (nB n l1 l2) n ((List.replicate (IntKind.wrap .i64 ((l1.length:Int)+(l2.length:Int))).toNat (0:Nat)),(IntKind.wrap .i64 ((l1.length:Int)+(l2.length:Int))).toNat,0)) fun(l3,n0) =>
some l3))
def Jb (n:Nat) (x1:Bool) (l2:List (Nat)) (x7:Bool) (l8:List (Nat)):Option (Bool × List Nat) :=
ob (Et n l2 l8) fun l17 =>
ob (uD n (!(x1 == x7)) l17) fun(r21,l22) =>
some (r21,l22)
def JW (n:Nat) (x1:Bool) (l2:List (Nat)):Option (Bool × List Nat) :=
ob (uD n (!x1) l2) fun(r10,l11) =>
some (r10,l11)
def HU (n:Nat) (x1:Bool) (l2:List (Nat)) (x7:Bool) (l8:List (Nat)):Option (Bool × List Nat) :=
ob (JW n x7 l8) fun(r17,l18) =>
ob (Bn n x1 l2 r17 l18) fun(r23,l24) =>
some (r23,l24)
def AJ (n:Nat) (x1:Nat):Option (Int) :=
ob (Ji n x1) fun r3 =>
some (IntKind.wrap .i64 (64-r3))
def qn (n:Nat):(Nat × Nat × Nat × Nat × Nat × Nat × Nat × Nat)→Option ((Nat × Nat × Nat × Nat × Nat × Nat × Nat × Nat) ⊕ (Nat × Nat × Nat × Nat × Nat × Nat × Nat)):=fun(v20,v21,v22,v23,v24,v25,v26,v27) =>
ob (
br (decide (4294967296≤v26)) (
some true) (
some (decide (uw .u64 ((uw .u64 (4294967296*v27))+v24)<uw .u64 (v26*v23))))) fun v63 =>
br (v63) (
br (decide (4294967296≤uw .u64 (v27+v22))) (
some (.inr (v20,v21,v22,v23,v24,v25,gK .u64 v26 1))) (
some (.inl (v20,v21,v22,v23,v24,v25,gK .u64 v26 1,uw .u64 (v27+v22))))) (
some (.inr (v20,v21,v22,v23,v24,v25,v26)))
def eU (n:Nat) (v3:Nat) (v4:Nat) (v2:Nat):(Nat × Nat)→Option ((Nat × Nat) ⊕ (Nat)):=fun(v1,v0) =>
ob (
br (decide (4294967296≤v0)) (
some true) (
some (decide (uw .u64 ((uw .u64 (4294967296*v1))+v3)<uw .u64 (v0*v4))))) fun v5 =>
br (v5) (
br (decide (4294967296≤uw .u64 (v1+v2))) (
some (.inr (gK .u64 v0 1))) (
some (.inl (uw .u64 (v1+v2),gK .u64 v0 1)))) (
some (.inr v0))
def Cg (n:Nat) (x1:Nat) (x2:Nat) (x3:Nat):Option (Nat × Nat) :=
br (decide (x3=0)) (
none) (
br (decide (x3≤x1)) (
none) (
br (decide (x1=0)) (
gd (decide (0<x3)) (
gd (decide (0<x3)) (
some (uw .u64 (x2/x3),x2%x3)))) (
ob (AJ n x3) fun r0 =>
ob (some (uw .u64 (uw .u64 (fc .u64 x1 (ui .u64 r0)) ||| uw .u64 (bI .u64 x2 (gK .u64 64 (ui .u64 r0)))))) fun y2 =>
gd (decide (0<bI .u64 (fc .u64 x3 (ui .u64 r0)) 32)) (
ob (some (uw .u64 ((uw .u64 (y2/(bI .u64 (fc .u64 x3 (ui .u64 r0)) 32)))*(bI .u64 (fc .u64 x3 (ui .u64 r0)) 32)))) fun y4 =>
ob (
cx (qn n) n (fc .u64 x3 (ui .u64 r0),ui .u64 r0,bI .u64 (fc .u64 x3 (ui .u64 r0)) 32,uw .u64 (uw .u64 (fc .u64 x3 (ui .u64 r0)) &&& uw .u64 4294967295),bI .u64 (fc .u64 x2 (ui .u64 r0)) 32,uw .u64 (uw .u64 (fc .u64 x2 (ui .u64 r0)) &&& uw .u64 4294967295),uw .u64 (y2/(bI .u64 (fc .u64 x3 (ui .u64 r0)) 32)),gK .u64 y2 y4)) fun(v1,v5,v0,v6,v7,v2,v3) =>
ob (some (gK .u64 (uw .u64 ((uw .u64 (y2*4294967296))+v7)) (uw .u64 (v3*v1)))) fun y3 =>
gd (decide (0<v0)) (
ob (
cx (eU n v2 v6 v0) n (gK .u64 y3 (uw .u64 ((uw .u64 (y3/v0))*v0)),uw .u64 (y3/v0))) fun v4 =>
ob (some (gK .u64 (uw .u64 ((uw .u64 (y3*4294967296))+v2)) (uw .u64 (v4*v1)))) fun y5 =>
some (uw .u64 ((uw .u64 (v3*4294967296))+v4),bI .u64 y5 v5))))))
def EN (n:Nat) (l1:List (Nat)):Option (Int) :=
br (decide ((l1.length:Int)=0)) (
some 0) (
gd (bZ (IntKind.wrap .i64 ((l1.length:Int)-1)) l1.length) (
ob (l1[(IntKind.wrap .i64 ((l1.length:Int)-1)).toNat]?) fun x9 =>
ob (AJ n x9) fun r12 =>
some (IntKind.wrap .i64 ((IntKind.wrap .i64 (64*(l1.length:Int)))-r12))))
def CF (n:Nat) (l2:List (Nat)) (x3:Int):(List (Nat) × Nat × Int)→Option ((List (Nat) × Nat × Int) ⊕ (List (Nat) × Nat)):=fun(l1,n0,v0) =>
br (decide (v0<(l2.length:Int))) (
ob (
gd (bZ v0 l2.length) (
ob (l2[v0.toNat]?) fun x4 =>
gd (bZ (IntKind.wrap .i64 (v0+(IntKind.wrap .i64 (Int.tdiv x3 64)))) n0) (
ob (l1[(IntKind.wrap .i64 (v0+(IntKind.wrap .i64 (Int.tdiv x3 64)))).toNat]?) fun x5 =>
gd (decide (0≤Int.tmod x3 64)) (
ob (some (uw .u64 (uw .u64 x5 ||| uw .u64 (fc .u64 x4 (Int.tmod x3 64).toNat)))) fun y2 =>
gd (bZ (IntKind.wrap .i64 (v0+(IntKind.wrap .i64 (Int.tdiv x3 64)))) n0) (
br (decide (0<Int.tmod x3 64)) (
ob (some (IntKind.wrap .i64 ((IntKind.wrap .i64 (v0+(IntKind.wrap .i64 (Int.tdiv x3 64))))+1))) fun y3 =>
gd (decide (0≤IntKind.wrap .i64 (64-(Int.tmod x3 64)))) (
gd (bZ y3 n0) (
ob ((l1.set ((IntKind.wrap .i64 (v0+(IntKind.wrap .i64 (Int.tdiv x3 64)))).toNat) y2)[y3.toNat]?) fun x6 =>
some ((l1.set ((IntKind.wrap .i64 (v0+(IntKind.wrap .i64 (Int.tdiv x3 64)))).toNat) y2).set y3.toNat (bI .u64 x4 (IntKind.wrap .i64 (64-(Int.tmod x3 64))).toNat))))) (
some (l1.set ((IntKind.wrap .i64 (v0+(IntKind.wrap .i64 (Int.tdiv x3 64)))).toNat) y2))))))) fun l3 =>
some (.inl (l3,n0,IntKind.wrap .i64 (v0+1)))) (
some (.inr (l1,n0)))
def Hd (n:Nat) (l1:List (Nat)) (x3:Int):Option (List Nat) :=
ob (some (IntKind.wrap .i64 ((l1.length:Int)+(IntKind.wrap .i64 (Int.tdiv x3 64))))) fun y2 =>
gd (decide (0≤IntKind.wrap .i64 (y2+1))) (gd (oD ((IntKind.wrap .i64 (y2+1)).toNat)) (
ob (
cx (CF n l1 x3) n ((List.replicate (IntKind.wrap .i64 (y2+1)).toNat (0:Nat)),(IntKind.wrap .i64 (y2+1)).toNat,0)) fun(l2,n0) =>
ob (uD n false l2) fun(r0,l3) =>
some l3))
def rL (n:Nat) (l1:List (Nat)) (l6:List (Nat)):(List (Nat) × Nat × Int)→Option ((List (Nat) × Nat × Int) ⊕ (List (Nat) × Nat)):=fun(l37,v38,v39) =>
br (decide (0≤v39)) (
gd (bZ v39 l1.length) (
ob (l1[v39.toNat]?) fun x67 =>
gd (bZ 0 l6.length) (
ob (l6[(0:Int).toNat]?) fun x72 =>
ob (Cg n v38 x67 x72) fun(r75,r76) =>
gd (bZ v39 ((l1.length:Int).toNat)) (
ob (l37[v39.toNat]?) fun x78 =>
some (.inl ((l37.set v39.toNat r75),r76,IntKind.wrap .i64 (v39-1))))))) (
some (.inr (l37,v38)))
def G5 (n:Nat) (l5:List (Nat)) (l3:List (Nat)):(List (Nat) × List (Nat) × Int)→Option ((List (Nat) × List (Nat) × Int) ⊕ (List (Nat) × List (Nat))):=fun(l1,l2,v0) =>
br (decide (0≤v0)) (
ob (
ob (Hd n l5 v0) fun l4 =>
ob (Jj n l2 l4) fun r0 =>
br (decide (0≤r0)) (
ob (Je n l2 l4) fun l6 =>
ob (uD n false l6) fun(r1,l7) =>
gd (bZ (IntKind.wrap .i64 (Int.tdiv v0 64)) ((l3.length:Int).toNat)) (
ob (l1[(IntKind.wrap .i64 (Int.tdiv v0 64)).toNat]?) fun x3 =>
gd (decide (0≤Int.tmod v0 64)) (
ob (some (uw .u64 (uw .u64 x3 ||| uw .u64 (fc .u64 1 (Int.tmod v0 64).toNat)))) fun y2 =>
gd (bZ (IntKind.wrap .i64 (Int.tdiv v0 64)) ((l3.length:Int).toNat)) (
some ((l1.set ((IntKind.wrap .i64 (Int.tdiv v0 64)).toNat) y2),l7))))) (
some (l1,l2))) fun(l8,l9) =>
some (.inl (l8,l9,IntKind.wrap .i64 (v0-1)))) (
some (.inr (l1,l2)))
def JJ (n:Nat) (l1:List (Nat)) (l2:List (Nat)):Option (List Nat × List Nat) :=
gd (decide (0≤(l1.length:Int))) (gd (oD ((l1.length:Int).toNat)) (
br (decide ((l2.length:Int)=1)) (
ob (
cx (rL n l1 l2) n ((List.replicate (l1.length:Int).toNat (0:Nat)),0,IntKind.wrap .i64 ((l1.length:Int)-1))) fun(l3,v0) =>
ob (uD n false ([v0])) fun(r2,l4) =>
some (l3,l4)) (
ob (EN n l1) fun r0 =>
ob (EN n l2) fun r1 =>
ob (
cx (G5 n l2 l1) n ((List.replicate (l1.length:Int).toNat (0:Nat)),l1,IntKind.wrap .i64 (r0-r1))) fun(l5,l6) =>
some (l5,l6))))
def Ka (n:Nat) (x1:Bool) (l2:List (Nat)) (x7:Bool) (l8:List (Nat)):Option (Bool × List Nat × Bool × List Nat) :=
ob (JJ n l2 l8) fun(l18,l22) =>
ob (uD n (!(x1 == x7)) l18) fun(r27,l28) =>
ob (uD n x1 l22) fun(r33,l34) =>
ob (
br (r33) (
ob (Bn n r33 l34 false l8) fun(r65,l66) =>
ob (Bn n r27 l28 (!x7) ([1])) fun(r73,l74) =>
some (r73,l74,r65,l66)) (
some (r27,l28,r33,l34))) fun(v54,l55,v58,l59) =>
some (v54,l55,v58,l59)
def kj (n:Nat) (l2:List (Int × Int)) (x5:Nat) (l4:List (Int × Bool)):(Int × List (Int) × Nat)→Option ((Int × List (Int) × Nat) ⊕ ((Bool × List (Nat) × List (Int) × Nat) ⊕ (List (Int) × Nat))):=fun(v0,l1,n0) =>
br (decide (v0<(l2.length:Int))) (
gd (bZ v0 l2.length) (
ob (l2[v0.toNat]?) fun(x3,x4) =>
ob (α:=(Bool × List (Nat) × List (Int) × Nat) ⊕ (List (Int) × Nat)) (
ob (EB n x5 x3 x4) fun r2 =>
br (r2) (
ob (α:=(Bool × List (Nat) × List (Int) × Nat) ⊕ (List (Int) × Nat)) (
ob (
ob (some ((ca l4 v0).getD false)) fun y2 =>
br (y2) (
ob (
ob (GD n l1 x3) fun r0 =>
ob (GD n l1 x4) fun r1 =>
gd (bZ (ma r0 r1) l1.length) (
ob (l1[(ma r0 r1).toNat]?) fun x6 =>
some (!decide (r0=r1),(l1.set ((ma r0 r1).toNat) (mi r0 r1))))) fun(v1,l5) =>
some (l5,l1.length,!v1)) (
some (l1,n0,false))) fun(l3,n1,v2) =>
br (v2) (
ob (sB n 0) fun(r3,l6) =>
some (.inl (r3,l6,l3,n1))) (
some (.inr (l3,n1)))) fun r4=>match r4 with
| .inl (v3,l7,l8,n2) =>
some (.inl (v3,l7,l8,n2))
| .inr (l9,n3) =>
some (.inr (l9,n3))) (
some (.inr (l1,n0)))) fun r5=>match r5 with
| .inl (v4,l10,l11,n4) =>
some (.inr (.inl (v4,l10,l11,n4)))
| .inr (l12,n5) =>
some (.inl (IntKind.wrap .i64 (v0+1),l12,n5)))) (
some (.inr (.inr (l1,n0))))
def wL (n:Nat) (n0:Nat) (l2:List (Int)):(Int × List (Int × Int))→Option ((Int × List (Int × Int)) ⊕ (Int × List (Int × Int))):=fun(v0,l1) =>
gd (bZ v0 n0) (
ob (l2[v0.toNat]?) fun x3 =>
br (!decide (x3=v0)) (
gd (bZ v0 n0) (
some (.inl (x3,l1)))) (
some (.inr (v0,l1))))
def Ee (n:Nat) (n0:Nat) (l1:List (Int)):Int→Option ((Int) ⊕ (Int)):=fun v0 =>
gd (bZ v0 n0) (
ob (l1[v0.toNat]?) fun x3 =>
br (!decide (x3=v0)) (
gd (bZ v0 n0) (
some (.inl x3))) (
some (.inr v0)))
def oo (n:Nat) (x3:Nat) (n0:Nat) (l2:List (Int)) (v1:Int):(List (Int × Int) × Int)→Option ((List (Int × Int) × Int) ⊕ (List (Int × Int))):=fun(l1,v0) =>
br (decide (v0<64)) (
ob (
ob (
gd (decide (0≤v0)) (
br (decide (uw .u64 (uw .u64 (bI .u64 x3 v0.toNat) &&& uw .u64 1)=1)) (
ob (
ob (
cx (Ee n n0 l2) n v0) fun v2 =>
some v2) fun v3 =>
br (decide (v3=v0)) (
some (!decide (v0=v1))) (
some false)) (
some false))) fun v4 =>
br (v4) (
ob (some (l1.length)) fun y2 =>
some (cL l1 v0 (y2:Int))) (
some l1)) fun l3 =>
some (.inl (l3,IntKind.wrap .i64 (v0+1)))) (
some (.inr l1))
def qC (n:Nat) (y3:Nat) (l2:List (Int × Int)):(List (List (Bool × List Nat)) × Int)→Option ((List (List (Bool × List Nat)) × Int) ⊕ (List (List (Bool × List Nat)))):=fun(l1,v0) =>
br (decide (v0<((y3:Int).toNat:Int))) (
ob (some (l2.length)) fun y2 =>
gd (decide (0≤(y2:Int))) (gd (oD ((y2:Int).toNat)) (
gd (bZ v0 ((y3:Int).toNat)) (
ob (l1[v0.toNat]?) fun l3 =>
gd (decide (0<(y2:Int).toNat)) (
some (.inl ((l1.set v0.toNat (List.replicate ((y2:Int).toNat) (false,[]))),IntKind.wrap .i64 (v0+1)))))))) (
some (.inr l1))
def zU (n:Nat) (n0:Nat) (l1:List (Int)):Int→Option ((Int) ⊕ (Int)):=fun v0 =>
gd (bZ v0 n0) (
ob (l1[v0.toNat]?) fun x3 =>
br (!decide (x3=v0)) (
gd (bZ v0 n0) (
some (.inl x3))) (
some (.inr v0)))
def zz (n:Nat) (n0:Nat) (l1:List (Int)):Int→Option ((Int) ⊕ (Int)):=fun v0 =>
gd (bZ v0 n0) (
ob (l1[v0.toNat]?) fun x3 =>
br (!decide (x3=v0)) (
gd (bZ v0 n0) (
some (.inl x3))) (
some (.inr v0)))
def rn (n:Nat) (l10:List (Int × Int)) (x5:Nat) (n0:Nat) (l15:List (Int)) (l16:List (Int × Bool)) (l1:List (Int × Int)) (y2:Nat):(Int × List (List (Bool × List Nat)))→Option ((Int × List (List (Bool × List Nat))) ⊕ (List (List (Bool × List Nat)))):=fun(v2,l2) =>
br (decide (v2<(l10.length:Int))) (
gd (bZ v2 l10.length) (
ob (l10[v2.toNat]?) fun(x3,x4) =>
ob (
ob (EB n x5 x3 x4) fun r0 =>
br (r0) (
ob (
ob (
ob (
cx (zU n n0 l15) n x3) fun v3 =>
some v3) fun v0 =>
ob (
ob (
cx (zz n n0 l15) n x4) fun v4 =>
some v4) fun v1 =>
ob (
ob (some ((ca l16 v2).getD false)) fun y11 =>
br (y11) (
some true) (
some (decide (v0=v1)))) fun v5 =>
br (v5) (
some l2) (
ob (
ob (some ((ca l1 v0).getD (0:Int),(ca l1 v0).isSome)) fun(y3,y12) =>
ob (some ((ca l1 v0).getD (0:Int),(ca l1 v0).isSome)) fun(y4,y13) =>
ob (
br (y12) (
some y13) (
some false)) fun v6 =>
br (v6) (
gd (bZ y3 ((y2:Int).toNat)) (
ob (l2[y3.toNat]?) fun l3 =>
gd (decide (0<l3.length)) (
gd (bZ y3 ((y2:Int).toNat)) (
ob (l2[y3.toNat]?) fun l11 =>
gd (decide (0<l11.length)) (
gd (bZ y4 l11.length) (
ob (l11[y4.toNat]?) fun(x6,l17) =>
ob (sB n 1) fun(r1,l18) =>
ob (Bn n x6 l17 r1 l18) fun(r2,l19) =>
gd (bZ y4 l3.length) (
gd (Nat.blt y4.toNat l3.length) (
some (l2.set y3.toNat (l3.set y4.toNat (r2,l19))))))))))) (
some l2)) fun l4 =>
ob (
ob (some ((ca l1 v1).getD (0:Int),(ca l1 v1).isSome)) fun(y5,y14) =>
ob (some ((ca l1 v1).getD (0:Int),(ca l1 v1).isSome)) fun(y6,y15) =>
ob (
br (y14) (
some y15) (
some false)) fun v7 =>
br (v7) (
gd (bZ y5 ((y2:Int).toNat)) (
ob (l4[y5.toNat]?) fun l5 =>
gd (decide (0<l5.length)) (
gd (bZ y5 ((y2:Int).toNat)) (
ob (l4[y5.toNat]?) fun l12 =>
gd (decide (0<l12.length)) (
gd (bZ y6 l12.length) (
ob (l12[y6.toNat]?) fun(x7,l20) =>
ob (sB n 1) fun(r3,l21) =>
ob (Bn n x7 l20 r3 l21) fun(r4,l22) =>
gd (bZ y6 l5.length) (
gd (Nat.blt y6.toNat l5.length) (
some (l4.set y5.toNat (l5.set y6.toNat (r4,l22))))))))))) (
some l4)) fun l6 =>
ob (
ob (some ((ca l1 v0).getD (0:Int),(ca l1 v0).isSome)) fun(y7,y16) =>
ob (some ((ca l1 v1).getD (0:Int),(ca l1 v1).isSome)) fun(y8,y17) =>
ob (
br (y16) (
some y17) (
some false)) fun v8 =>
br (v8) (
gd (bZ y7 ((y2:Int).toNat)) (
ob (l6[y7.toNat]?) fun l7 =>
gd (decide (0<l7.length)) (
gd (bZ y7 ((y2:Int).toNat)) (
ob (l6[y7.toNat]?) fun l13 =>
gd (decide (0<l13.length)) (
gd (bZ y8 l13.length) (
ob (l13[y8.toNat]?) fun(x8,l23) =>
ob (sB n (-1)) fun(r5,l24) =>
ob (Bn n x8 l23 r5 l24) fun(r6,l25) =>
gd (bZ y8 l7.length) (
gd (Nat.blt y8.toNat l7.length) (
some (l6.set y7.toNat (l7.set y8.toNat (r6,l25))))))))))) (
some l6)) fun l8 =>
ob (
ob (some ((ca l1 v1).getD (0:Int),(ca l1 v1).isSome)) fun(y9,y18) =>
ob (some ((ca l1 v0).getD (0:Int),(ca l1 v0).isSome)) fun(y10,y19) =>
ob (
br (y18) (
some y19) (
some false)) fun v9 =>
br (v9) (
gd (bZ y9 ((y2:Int).toNat)) (
ob (l8[y9.toNat]?) fun l9 =>
gd (decide (0<l9.length)) (
gd (bZ y9 ((y2:Int).toNat)) (
ob (l8[y9.toNat]?) fun l14 =>
gd (decide (0<l14.length)) (
gd (bZ y10 l14.length) (
ob (l14[y10.toNat]?) fun(x9,l26) =>
ob (sB n (-1)) fun(r7,l27) =>
ob (Bn n x9 l26 r7 l27) fun(r8,l28) =>
gd (bZ y10 l9.length) (
gd (Nat.blt y10.toNat l9.length) (
some (l8.set y9.toNat (l9.set y10.toNat (r8,l28))))))))))) (
some l8)) fun l29 =>
some l29)) fun l30 =>
some l30) (
some l2)) fun l31 =>
some (.inl (IntKind.wrap .i64 (v2+1),l31)))) (
some (.inr l2))
def pg (n:Nat) (y2:Nat) (v2:Int) (v1:Int) (x3:Bool) (l6:List Nat) (v3:Bool) (l7:List (Nat)):(List (List (Bool × List Nat)) × Int)→Option ((List (List (Bool × List Nat)) × Int) ⊕ (List (List (Bool × List Nat)))):=fun(l1,v0) =>
br (decide (v0<((y2:Int).toNat:Int))) (
gd (bZ v2 ((y2:Int).toNat)) (
ob (l1[v2.toNat]?) fun l3 =>
gd (decide (0<l3.length)) (
gd (bZ v0 l3.length) (
ob (l3[v0.toNat]?) fun(x4,l8) =>
gd (bZ v1 ((y2:Int).toNat)) (
ob (l1[v1.toNat]?) fun l4 =>
gd (decide (0<l4.length)) (
gd (bZ v1 l4.length) (
ob (l4[v1.toNat]?) fun(x5,l9) =>
ob (Jb n x4 l8 x5 l9) fun(r0,l10) =>
gd (bZ v1 ((y2:Int).toNat)) (
ob (l1[v1.toNat]?) fun l5 =>
gd (decide (0<l5.length)) (
gd (bZ v0 l5.length) (
ob (l5[v0.toNat]?) fun(x6,l11) =>
ob (Jb n x3 l6 x6 l11) fun(r1,l12) =>
ob (HU n r0 l10 r1 l12) fun(r2,l13) =>
gd (bZ v2 ((y2:Int).toNat)) (
ob (l1[v2.toNat]?) fun l2 =>
gd (decide (0<l2.length)) (
ob (Ka n r2 l13 v3 l7) fun(r3,l14,r4,l15) =>
gd (bZ v0 l2.length) (
gd (Nat.blt v0.toNat l2.length) (
some (.inl ((l1.set v2.toNat (l2.set v0.toNat (r3,l14))),IntKind.wrap .i64 (v0+1))))))))))))))))) (
some (.inr l1))
def nI (n:Nat) (y2:Nat) (v1:Int) (v2:Bool) (l3:List (Nat)):(List (List (Bool × List Nat)) × Int)→Option ((List (List (Bool × List Nat)) × Int) ⊕ (List (List (Bool × List Nat)))):=fun(l1,v0) =>
br (decide (v0<((y2:Int).toNat:Int))) (
gd (bZ v0 ((y2:Int).toNat)) (
ob (l1[v0.toNat]?) fun l2 =>
gd (decide (0<l2.length)) (
gd (bZ v1 l2.length) (
ob (l2[v1.toNat]?) fun(x3,l4) =>
ob (
cx (pg n y2 v0 v1 x3 l4 v2 l3) n (l1,v1)) fun l5 =>
some (.inl (l5,IntKind.wrap .i64 (v0+1))))))) (
some (.inr l1))
def ic (n:Nat) (y2:Nat):(List (List (Bool × List Nat)) × Bool × List (Nat) × Int)→Option ((List (List (Bool × List Nat)) × Bool × List (Nat) × Int) ⊕ ((Bool × List (Nat)) ⊕ (Bool × List (Nat)))):=fun(l3,v1,l4,v0) =>
br (decide (v0<((y2:Int).toNat:Int))) (
gd (bZ v0 ((y2:Int).toNat)) (
ob (l3[v0.toNat]?) fun l1 =>
gd (decide (0<l1.length)) (
gd (bZ v0 l1.length) (
ob (l1[v0.toNat]?) fun(x3,l6) =>
ob (Hs n x3 l6) fun r0 =>
br (decide (r0=0)) (
ob (sB n 0) fun(r1,l7) =>
some (.inr (.inl (r1,l7)))) (
ob (
cx (nI n y2 v0 v1 l4) n (l3,IntKind.wrap .i64 (v0+1))) fun l5 =>
gd (bZ v0 ((y2:Int).toNat)) (
ob (l5[v0.toNat]?) fun l2 =>
gd (decide (0<l2.length)) (
gd (bZ v0 l2.length) (
ob (l2[v0.toNat]?) fun(x4,l8) =>
some (.inl (l5,x4,l8,IntKind.wrap .i64 (v0+1))))))))))) (
some (.inr (.inr (v1,l4))))
def w6 (n:Nat) (x1:Int) (l3:List (Int × Int)) (x3:Nat) (l5:List (Int × Bool)) (l6:List (Int × Bool)):Option (Bool × List Nat) :=
ob (I8 n) fun l4 =>
ob (
some ()) fun _ =>
ob (α:=(Bool × List (Nat) × List (Int) × Nat) ⊕ (List (Int) × Nat)) (
ob (α:=(Bool × List (Nat) × List (Int) × Nat) ⊕ (List (Int) × Nat)) (
cx (kj n l3 x3 l5) n (0,l4,l4.length)) fun r0=>match r0 with
| .inl (v0,l7,l8,n1) =>
some (.inl (v0,l7,l8,n1))
| .inr (l9,n2) =>
some (.inr (l9,n2))) fun r1=>match r1 with
| .inl (v1,l10,l20,n3) =>
some (v1,l10)
| .inr (l1,n0) =>
ob (J4 n x3) fun r2 =>
ob (
ob (
cx (wL n n0 l1) n (r2,([]:List (Int × Int)))) fun(v2,l11) =>
some (v2,l11)) fun(v3,l12) =>
ob (
cx (oo n x3 n0 l1 v3) n (l12,0)) fun l2 =>
ob (some (l2.length)) fun y2 =>
gd (decide (0≤(y2:Int))) (gd (oD ((y2:Int).toNat)) (
ob (
cx (qC n y2 l2) n ((List.replicate (y2:Int).toNat ([]:List (Bool × List Nat))),0)) fun l13 =>
ob (
some ()) fun _ =>
ob (
ob (
cx (rn n l3 x3 n0 l1 l6 l2 y2) n (0,l13)) fun l14 =>
some l14) fun l15 =>
ob (
ob (sB n 1) fun(r3,l16) =>
ob (α:=(Bool × List (Nat)) ⊕ (Bool × List (Nat))) (
cx (ic n y2) n (l15,r3,l16,0)) fun r4=>match r4 with
| .inl (v4,l17) =>
some (v4,l17)
| .inr (v5,l18) =>
some (v5,l18)) fun(v6,l19) =>
some (v6,l19)))
def Jf (n:Nat) (x1:Bool) (l2:List (Nat)) (x6:Bool) (l7:List (Nat)):Option (Int) :=
ob (HU n x1 l2 x6 l7) fun(r14,l15) =>
ob (Hs n r14 l15) fun r20 =>
some r20
def nQ (n:Nat) (l5:List (Int × Int)) (x3:Nat) (x1:Int):(Int × Bool × List (Nat) × List (Int × Bool) × List (Int × Bool) × List (Int))→Option ((Int × Bool × List (Nat) × List (Int × Bool) × List (Int × Bool) × List (Int)) ⊕ (Bool × List (Nat) × List (Int × Bool) × List (Int × Bool) × List (Int))):=fun(v0,v1,l1,l2,l3,l4) =>
br (decide (v0<(l5.length:Int))) (
gd (bZ v0 l5.length) (
ob (l5[v0.toNat]?) fun(x4,x5) =>
ob (
ob (EB n x3 x4 x5) fun r1 =>
br (r1) (
ob (
ob (w6 n x1 l5 x3 (cL l2 v0 true) l3) fun(r0,l6) =>
ob (Jf n v1 l1 r0 l6) fun r2 =>
br (decide (r2<0)) (
gd (oD (l4++[v0]).length) (
some (v1,l1,(cL l2 v0 true),l3,(l4++[v0])))) (
ob (HU n v1 l1 r0 l6) fun(r3,l7) =>
some (r3,l7,(sy (cL l2 v0 true) v0),(cL l3 v0 true),l4))) fun(v2,l8,l9,l10,l11) =>
some (v2,l8,l9,l10,l11)) (
some (v1,l1,l2,l3,l4))) fun(v3,l12,l13,l14,l15) =>
some (.inl (IntKind.wrap .i64 (v0+1),v3,l12,l13,l14,l15)))) (
some (.inr (v1,l1,l2,l3,l4)))
def xK (n:Nat) (x1:Int) (l1:List (Int × Int)) (x3:Nat) (x4:Nat) (x5:Nat) (x6:Nat) (x7:Nat) (x8:Nat) (x9:Nat) (x10:Nat) (x11:Nat):Option (List Int × Int) :=
ob (GX n x1 l1 x3) fun r1 =>
br (!decide (r1=0)) (
some ([],r1)) (
ob (Fx n x4 x5 x6 x7 x8 x9 x10 x11) fun(r0,l2) =>
ob (
ob (Hs n r0 l2) fun r2 =>
br (decide (r2<0)) (
some true) (
ob (w6 n x1 l1 x3 [] []) fun(r3,l3) =>
ob (Jf n r0 l2 r3 l3) fun r4 =>
some (decide (0≤r4)))) fun v0 =>
br (v0) (
some ([],2)) (
ob (
some (([]:List (Int × Bool)),([]:List (Int × Bool)))) fun(l4,l5) =>
ob (
ob (
cx (nQ n l1 x3 x1) n (0,r0,l2,l4,l5,([]:List (Int)))) fun(v1,l6,l7,l8,l9) =>
some (v1,l6,l7,l8,l9)) fun(v2,l11,l12,l13,l10) =>
some (l10,0)))
def GL (n:Nat):(List (Nat) × List (Nat) × Int)→Option ((List (Nat) × List (Nat) × Int) ⊕ ((Int) ⊕ (Unit))):=fun(l32,l33,v34) =>
br (decide (0≤v34)) (
gd (bZ v34 8) (
ob (l32[v34.toNat]?) fun x52 =>
gd (bZ v34 8) (
ob (l33[v34.toNat]?) fun x55 =>
br (!decide (x52=x55)) (
gd (bZ v34 8) (
gd (bZ v34 8) (
br (decide (x52<x55)) (
some (.inr (.inl (-1)))) (
some (.inr (.inl 1)))))) (
some (.inl (l32,l33,IntKind.wrap .i64 (v34-1))))))) (
some (.inr (.inr ())))
def Lp (n:Nat) (x1:Nat) (x2:Nat) (x3:Nat) (x4:Nat) (x5:Nat) (x6:Nat) (x7:Nat) (x8:Nat) (x9:Nat) (x10:Nat) (x11:Nat) (x12:Nat) (x13:Nat) (x14:Nat) (x15:Nat) (x16:Nat):Option (Int) :=
ob (α:=(Int) ⊕ (Unit)) (
cx (GL n) n (([x1,x2,x3,x4,x5,x6,x7,x8]:List (Nat)),([x9,x10,x11,x12,x13,x14,x15,x16]:List (Nat)),7)) fun r62=>match r62 with
| .inl v49 =>
some v49
| .inr _ =>
some 0
def Ls (n:Nat) (x1:Bool) (x2:Nat) (x3:Nat) (x4:Nat) (x5:Nat) (x6:Nat) (x7:Nat) (x8:Nat) (x9:Nat):Option (Nat × Nat × Nat × Nat × Nat × Nat × Nat × Nat × Int) :=
ob (Lp n x2 x3 x4 x5 x6 x7 x8 x9 0 0 0 0 0 0 0 9223372036854775808) fun r24 =>
ob (
br (decide (0<r24)) (
some true) (
br (decide (r24=0)) (
some (!x1)) (
some false))) fun v27 =>
br (v27) (
some (0,0,0,0,0,0,0,0,6)) (
ob (
br (x1) (
ob (Jc n 0 0 0 0 0 0 0 0 x2 x3 x4 x5 x6 x7 x8 x9) fun(r54,r55,r56,r57,r58,r59,r60,r61,r62) =>
some (r54,r55,r56,r57,r58,r59,r60,r61)) (
some (x2,x3,x4,x5,x6,x7,x8,x9))) fun(v44,v45,v46,v47,v48,v49,v50,v51) =>
some (v44,v45,v46,v47,v48,v49,v50,v51,0))
def Iq (n:Nat) (x1:Bool) (l2:List (Nat)):Option (Nat × Nat × Nat × Nat × Nat × Nat × Nat × Nat × Int) :=
br (decide (8<(l2.length:Int))) (
some (0,0,0,0,0,0,0,0,6)) (
gd (decide ((l2:List (Nat)).length≤8)) (
ob (Kw ((l2:List (Nat))++([0,0,0,0,0,0,0,0]:List (Nat)).drop (l2:List (Nat)).length)) fun(x12,x13,x14,x15,x16,x17,x18,x19) =>
ob (Ls n x1 x12 x13 x14 x15 x16 x17 x18 x19) fun(r21,r22,r23,r24,r25,r26,r27,r28,r29) =>
some (r21,r22,r23,r24,r25,r26,r27,r28,r29)))
def KP (n:Nat) (x1:Int) (l2:List (Int × Int)) (x6:Nat):Option (Nat × Nat × Nat × Nat × Nat × Nat × Nat × Nat × Int) :=
ob (GX n x1 l2 x6) fun r10 =>
br (!decide (r10=0)) (
some (0,0,0,0,0,0,0,0,r10)) (
ob (w6 n x1 l2 x6 [] []) fun(r13,l14) =>
ob (Iq n r13 l14) fun(r19,r20,r21,r22,r23,r24,r25,r26,r27) =>
some (r19,r20,r21,r22,r23,r24,r25,r26,r27))
def J7 (n:Nat) (x1:Nat) (x2:Nat) (x3:Nat) (x4:Nat) (x5:Nat) (x6:Nat) (x7:Nat) (x8:Nat):Option (Int × Int) :=
ob (yk n (IntKind.wrap .i64 ((x1:Nat):Int))) fun(r11,r12,r13,r14,r15,r16,r17,r18) =>
br (!(decide (r11=x1) && decide (r12=x2) && decide (r13=x3) && decide (r14=x4) && decide (r15=x5) && decide (r16=x6) && decide (r17=x7) && decide (r18=x8))) (
some (0,6)) (
some (IntKind.wrap .i64 ((x1:Nat):Int),0))
def JF (n:Nat) (x1:Nat):Option (Int) :=
ob (some (uw .u64 ((uw .u64 (uw .u64 (bI .u64 x1 1) &&& uw .u64 6148914691236517205))+(uw .u64 (uw .u64 x1 &&& uw .u64 6148914691236517205))))) fun y2 =>
ob (some (uw .u64 ((uw .u64 (uw .u64 (bI .u64 y2 2) &&& uw .u64 3689348814741910323))+(uw .u64 (uw .u64 y2 &&& uw .u64 3689348814741910323))))) fun y4 =>
ob (some (uw .u64 (uw .u64 (uw .u64 ((bI .u64 y4 4)+y4)) &&& uw .u64 1085102592571150095))) fun y6 =>
ob (some (uw .u64 ((uw .u64 (y6+(bI .u64 y6 8)))+(bI .u64 (uw .u64 (y6+(bI .u64 y6 8))) 16)))) fun y8 =>
ob (some (Dc .i64 (IntKind.wrap .i64 ((uw .u64 (y8+(bI .u64 y8 32)):Nat):Int)) 127)) fun y10 =>
some y10
def kZ (n:Nat) (l3:List (Int)) (l2:List (Int × Int)) (x6:Nat):(List (Int) × Nat × Int × Int)→Option ((List (Int) × Nat × Int × Int) ⊕ ((Unit) ⊕ (Unit))):=fun(l1,n0,v1,v0) =>
br (decide (v0<(l3.length:Int))) (
gd (bZ v0 l3.length) (
ob (l3[v0.toNat]?) fun x3 =>
ob (
br (decide (x3≤v1)) (
some (l1,n0,true)) (
br (decide ((l2.length:Int)≤x3)) (
some (l1,n0,true)) (
gd (bZ x3 l2.length) (
ob (l2[x3.toNat]?) fun(x4,x5) =>
ob (EB n x6 x4 x5) fun r2 =>
br (!r2) (
some (l1,n0,true)) (
gd (bZ x3 l2.length) (
ob (
ob (GD n l1 x4) fun r0 =>
ob (GD n l1 x5) fun r1 =>
gd (bZ (ma r0 r1) l1.length) (
ob (l1[(ma r0 r1).toNat]?) fun x7 =>
some (!decide (r0=r1),(l1.set ((ma r0 r1).toNat) (mi r0 r1))))) fun(v2,l4) =>
some (l4,l1.length,!v2))))))) fun(l5,n1,v3) =>
br (v3) (
some (.inr (.inl ()))) (
some (.inl (l5,n1,x3,IntKind.wrap .i64 (v0+1)))))) (
some (.inr (.inr ())))
def GB (n:Nat) (x1:Int) (l1:List (Int × Int)) (x3:Nat) (l2:List (Int)):Option (Int) :=
ob (GX n x1 l1 x3) fun r0 =>
br (!decide (r0=0)) (
some r0) (
ob (I8 n) fun l3 =>
ob (α:=(Unit) ⊕ (Unit)) (
cx (kZ n l2 l1 x3) n (l3,l3.length,-1,0)) fun r1=>match r1 with
| .inl _ =>
some 300
| .inr _ =>
ob (JF n x3) fun r2 =>
br (!decide ((l2.length:Int)=IntKind.wrap .i64 (r2-1))) (
some 300) (
some 0))
def qB (n:Nat) (l1:List (Int)) (x5:Int):Int→Option ((Int) ⊕ ((Int) ⊕ (Unit))):=fun v7 =>
br (decide (v7<(l1.length:Int))) (
gd (bZ v7 l1.length) (
ob (l1[v7.toNat]?) fun x21 =>
br (decide (x5=x21)) (
some (.inr (.inl v7))) (
some (.inl (IntKind.wrap .i64 (v7+1)))))) (
some (.inr (.inr ())))
def KV (n:Nat) (l1:List (Int)) (x5:Int):Option (Int) :=
ob (α:=(Int) ⊕ (Unit)) (
cx (qB n l1 x5) n 0) fun r25=>match r25 with
| .inl v16 =>
some v16
| .inr _ =>
some (-1)
def Jz (n:Nat) (l1:List (Int)) (x5:Int):Option (Bool) :=
ob (KV n l1 x5) fun r7 =>
some (decide (0≤r7))
def rT (n:Nat) (l2:List (Int × Int)) (x3:Nat):(Int × List (Int))→Option ((Int × List (Int)) ⊕ (List (Int))):=fun(v0,l1) =>
br (decide (v0<(l2.length:Int))) (
gd (bZ v0 l2.length) (
ob (l2[v0.toNat]?) fun(x4,x5) =>
ob (
ob (EB n x3 x4 x5) fun r0 =>
br (r0) (
ob (
gd (oD (l1++[v0]).length) (
some (l1++[v0]))) fun l3 =>
some l3) (
some l1)) fun l4 =>
some (.inl (IntKind.wrap .i64 (v0+1),l4)))) (
some (.inr l1))
def mH (n:Nat) (l1:List (Int)) (l5:List (Int)) (x1:Int) (l6:List (Int × Int)) (x4:Nat):(List (Int × Bool) × List (Int × Bool) × Bool × List (Nat) × Int)→Option ((List (Int × Bool) × List (Int × Bool) × Bool × List (Nat) × Int) ⊕ (Bool × List (Nat))):=fun(l2,l3,v1,l4,v0) =>
br (decide (v0<(l1.length:Int))) (
gd (bZ v0 l1.length) (
ob (l1[v0.toNat]?) fun x3 =>
ob (
ob (Jz n l5 x3) fun r0 =>
br (r0) (
ob (sB n 0) fun(r1,l7) =>
some (r1,l7,(cL l2 x3 true),l3)) (
ob (w6 n x1 l6 x4 (cL l2 x3 true) l3) fun(r2,l8) =>
some (r2,l8,(sy (cL l2 x3 true) x3),(cL l3 x3 true)))) fun(v2,l9,l10,l11) =>
ob (Bn n v1 l4 v2 l9) fun(r3,l12) =>
some (.inl (l10,l11,r3,l12,IntKind.wrap .i64 (v0+1))))) (
some (.inr (v1,l4)))
def JY (n:Nat) (x1:Int) (l1:List (Int × Int)) (x3:Nat) (l2:List (Int)):Option (Nat × Nat × Nat × Nat × Nat × Nat × Nat × Nat × Int) :=
ob (GB n x1 l1 x3 l2) fun r0 =>
br (!decide (r0=0)) (
some (0,0,0,0,0,0,0,0,r0)) (
ob (
some ()) fun _ =>
ob (
ob (
cx (rT n l1 x3) n (0,([]:List (Int)))) fun l3 =>
some l3) fun l4 =>
ob (
ob (sB n 0) fun(r1,l5) =>
ob (
cx (mH n l4 l2 x1 l1 x3) n (([]:List (Int × Bool)),([]:List (Int × Bool)),r1,l5,0)) fun(v0,l6) =>
some (v0,l6)) fun(v1,l7) =>
ob (Iq n v1 l7) fun(r2,r3,r4,r5,r6,r7,r8,r9,r10) =>
some (r2,r3,r4,r5,r6,r7,r8,r9,r10))
def F3 (n:Nat) (x1:Nat) (x2:Nat) (x5:Nat) (l3:List (Nat × Nat)) (x6:Nat) (x3:Nat) (x4:Nat):Option (Bool) :=
ob (F6 n) fun r4 =>
br (!r4) (
some false) (
ob (F7 n x1 x2 x5 l3) fun(r1,l1) =>
ob (F8 n r1 l1 x6) fun r2 =>
br (decide (r2=0)) (
ob (
some ()) fun _ =>
ob (yk n 0) fun(r5,r6,r7,r8,r9,r10,r11,r12) =>
ob (xK n r1 l1 r2 r5 r6 r7 r8 r9 r10 r11 r12) fun(l4,r13) =>
ob (
br (decide ((l4.length:Int)=0)) (
some (decide (r13=2))) (
some false)) fun v0 =>
some v0) (
ob (KP n r1 l1 r2) fun(r14,r15,r16,r17,r18,r19,r20,r21,r22) =>
ob (J7 n r14 r15 r16 r17 r18 r19 r20 r21) fun(r0,r23) =>
ob (
br (!decide (r22=0)) (
some true) (
some (!decide (r23=0)))) fun v1 =>
br (v1) (
some false) (
br (decide (r0=0)) (
ob (
some ()) fun _ =>
ob (yk n 0) fun(r24,r25,r26,r27,r28,r29,r30,r31) =>
ob (xK n r1 l1 r2 r24 r25 r26 r27 r28 r29 r30 r31) fun(l5,r32) =>
ob (
br (decide ((l5.length:Int)=0)) (
some (decide (r32=2))) (
some false)) fun v2 =>
some v2) (
gd (decide (r0≠0)) (
gd (decide (r0≠0)) (
ob (yk n (Int.tmod (IntKind.wrap .i64 ((x3:Nat):Int)) r0)) fun(r33,r34,r35,r36,r37,r38,r39,r40) =>
ob (xK n r1 l1 r2 r33 r34 r35 r36 r37 r38 r39 r40) fun(l2,r41) =>
ob (yk n (Int.tmod (IntKind.wrap .i64 ((x4:Nat):Int)) r0)) fun(r42,r43,r44,r45,r46,r47,r48,r49) =>
ob (xK n r1 l1 r2 r42 r43 r44 r45 r46 r47 r48 r49) fun(l6,r50) =>
ob (G1 n l2 l6) fun r3 =>
br (decide (r41=0)) (
br (decide (r50=0)) (
ob (GB n r1 l1 r2 l2) fun r51 =>
br (decide (r51=0)) (
ob (
some ()) fun _ =>
ob (JY n r1 l1 r2 l2) fun(r52,r53,r54,r55,r56,r57,r58,r59,r60) =>
ob (
ob (yk n (Int.tmod (IntKind.wrap .i64 ((x3:Nat):Int)) r0)) fun(r61,r62,r63,r64,r65,r66,r67,r68) =>
br ((decide (r52=r61) && decide (r53=r62) && decide (r54=r63) && decide (r55=r64) && decide (r56=r65) && decide (r57=r66) && decide (r58=r67) && decide (r59=r68))) (
some (decide (r60=0))) (
some false)) fun v3 =>
br (v3) (
br (((decide (r3<0)) == (decide (Int.tmod (IntKind.wrap .i64 ((x3:Nat):Int)) r0<Int.tmod (IntKind.wrap .i64 ((x4:Nat):Int)) r0)))) (
br (((decide (r3=0)) == (decide (Int.tmod (IntKind.wrap .i64 ((x3:Nat):Int)) r0=Int.tmod (IntKind.wrap .i64 ((x4:Nat):Int)) r0)))) (
ob (
some ()) fun _ =>
ob (yk n r0) fun(r69,r70,r71,r72,r73,r74,r75,r76) =>
ob (xK n r1 l1 r2 r69 r70 r71 r72 r73 r74 r75 r76) fun(l7,r77) =>
ob (
br (decide ((l7.length:Int)=0)) (
some (decide (r77=2))) (
some false)) fun v4 =>
br (v4) (
ob (
some ()) fun _ =>
ob (yk n (-1)) fun(r78,r79,r80,r81,r82,r83,r84,r85) =>
ob (xK n r1 l1 r2 r78 r79 r80 r81 r82 r83 r84 r85) fun(l8,r86) =>
ob (
br (decide ((l8.length:Int)=0)) (
some (decide (r86=2))) (
some false)) fun v5 =>
some v5) (
some false)) (
some false)) (
some false)) (
some false)) (
some false)) (
some false)) (
some false)))))))
end Go.Proofs.YtookeaakpiefjaaDoor
end

section
namespace Go.Ab.W
open Go Go.Ab
section
variable {P : Program} {ty el : TypeId}
theorem gY {eq:TypeId→Value→Value→Option Bool} {xs ys:Array Value} {t off:Nat} {rest:List (TypeId × Nat)} {x y:Value} {b r:Bool} (h1:gJ P t xs off=some x) (h2:gJ P t ys off=some y) (h3:eq t x y=some b) (h4:fU eq P xs ys rest=some r):fU eq P xs ys ((t,off)::rest)=some (b && r):=by
 unfold fU;rw[h1,h2]
 dsimp only
 rw[h3];cases b with
 | true=>exact h4
 | false=>rfl
theorem nR {k:IntKind} (he:P.underlying el=some (.int k)) (d:Nat) (x y:Nat):kH P (d+1) el (.int k ((x:Nat):Int)) (.int k ((y:Nat):Int))=some (decide (x=y)):=by
 simp only[kH,he,if_true]
 congr 1
 rw[Bool.eq_iff_iff];simp only[beq_iff_eq,decide_eq_true_eq];omega
theorem Hi {k:IntKind} (hu:P.underlying ty=some (.array 8 el)) (hk:known P el=true) (hs:aw P el=1) (ha:dR P el=false) (he:P.underlying el=some (.int k)) (d:Nat) (x0 y0 x1 y1 x2 y2 x3 y3 x4 y4 x5 y5 x6 y6 x7 y7:Nat) :
  kH P (d+2) ty (.agg #[.int k ((x0:Nat):Int),.int k ((x1:Nat):Int),.int k ((x2:Nat):Int),.int k ((x3:Nat):Int),.int k ((x4:Nat):Int),.int k ((x5:Nat):Int),.int k ((x6:Nat):Int),.int k ((x7:Nat):Int)])
   (.agg #[.int k ((y0:Nat):Int),.int k ((y1:Nat):Int),.int k ((y2:Nat):Int),.int k ((y3:Nat):Int),.int k ((y4:Nat):Int),.int k ((y5:Nat):Int),.int k ((y6:Nat):Int),.int k ((y7:Nat):Int)]) =
   some (decide (x0=y0) && decide (x1=y1) && decide (x2=y2) && decide (x3=y3) && decide (x4=y4) && decide (x5=y5) && decide (x6=y6) && decide (x7=y7)):=by
 have hp:∀(cs:Array Value) (i:Nat) (v:Value),cs[i]? = some v→gJ P el cs i=some v:=fun cs i v h=>by
  unfold gJ;rw[hk,ha,h]; rfl
 show kH P ((d+1)+1) ty _ _=_
 unfold kH;simp only[hu,hk,if_true,hs]
 show fU _ P _ _ [(el,0),(el,1),(el,2),(el,3),(el,4),(el,5),(el,6),(el,7)]=_
 simp only[Bool.and_assoc];rw[gY (hp _ 0 _ rfl) (hp _ 0 _ rfl) (nR he d x0 y0) (gY (hp _ 1 _ rfl) (hp _ 1 _ rfl) (nR he d x1 y1) (gY (hp _ 2 _ rfl) (hp _ 2 _ rfl) (nR he d x2 y2) (gY (hp _ 3 _ rfl) (hp _ 3 _ rfl) (nR he d x3 y3) (gY (hp _ 4 _ rfl) (hp _ 4 _ rfl) (nR he d x4 y4) (gY (hp _ 5 _ rfl) (hp _ 5 _ rfl) (nR he d x5 y5) (gY (hp _ 6 _ rfl) (hp _ 6 _ rfl) (nR he d x6 y6) (gY (hp _ 7 _ rfl) (hp _ 7 _ rfl) (nR he d x7 y7) rfl)))))))];simp only[Bool.and_true]
theorem JO {k:IntKind} (hu:P.underlying ty=some (.array 8 el)) (hk:known P el=true) (hs:aw P el=1) (ha:dR P el=false) (he:P.underlying el=some (.int k)) (x0 y0 x1 y1 x2 y2 x3 y3 x4 y4 x5 y5 x6 y6 x7 y7:Nat) :
  kH P Op.maxDepth ty (.agg #[.int k ((x0:Nat):Int),.int k ((x1:Nat):Int),.int k ((x2:Nat):Int),.int k ((x3:Nat):Int),.int k ((x4:Nat):Int),.int k ((x5:Nat):Int),.int k ((x6:Nat):Int),.int k ((x7:Nat):Int)])
   (.agg #[.int k ((y0:Nat):Int),.int k ((y1:Nat):Int),.int k ((y2:Nat):Int),.int k ((y3:Nat):Int),.int k ((y4:Nat):Int),.int k ((y5:Nat):Int),.int k ((y6:Nat):Int),.int k ((y7:Nat):Int)]) =
   some (decide (x0=y0) && decide (x1=y1) && decide (x2=y2) && decide (x3=y3) && decide (x4=y4) && decide (x5=y5) && decide (x6=y6) && decide (x7=y7)) :=
 Hi hu hk hs ha he 9998 x0 y0 x1 y1 x2 y2 x3 y3 x4 y4 x5 y5 x6 y6 x7 y7
end
end Go.Ab.W
end
