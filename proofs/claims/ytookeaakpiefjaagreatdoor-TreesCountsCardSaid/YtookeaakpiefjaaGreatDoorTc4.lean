/- Texts of the abstract machine and of the walks,joined: AbsW10 AbsW11 AbsW8 AbsW12 AbsW13 AbsW14 AbsW15 AbsW16 AbsW17 T30Env T30Lift T30Man AbsTz T30Tz T30Man2 T30F T30F3 AbsW18 AbsWz AbsWy. -/
import Derived.Test.YtookeaakpiefjaaGreatDoorTc3
section
namespace Go.Ab.W
open Go Go.Ab
attribute [local irreducible] Tm.at Trie.set Trie.get AMem.get AMem.set AMem.alloc AMem.ww AMem.kill
section
variable {α β : Type} [DecidableEq α]
def cq (k:α):List (α × β)→Nat→Option (Nat × β)
 | [],_=>none
 | e::es,i=>if k=e.1 then some (i,e.2) else cq k es (i+1)
def bR (xs:List (α × β)) (k:α):Option β:=(cq k xs 0).map (·.2)
def fk (xs:List (α × β)) (k:α) (v:β):List (α × β) :=
 match cq k xs 0 with
 | some p=>xs.set p.1 (k,v)
 | none=>xs++[(k,v)]
def eM (kE:α→Value) (vE:β→Value) (p:α × β):Value × Value:=(kE p.1,vE p.2)
structure KeyE (P:Program) (kt:TypeId) (kE:α→Value):Prop where
 eq:∀ a b,iA P Op.maxDepth kt (kE a) (kE b)=some (decide (a=b))
 ok:∀ a,fU P kt (kE a)=true
 plain:∀ a,bu (kE a)=true
 same:∀ a,Instr.sameBits 10000 (kE a) (kE a)=true
theorem j8 {P:Program} {kt:TypeId} {kE:α→Value} {vE:β→Value} (hk:KeyE P kt kE) (k:α):∀ (xs:List (α × β)) (i:Nat),fg P kt (kE k) (xs.map (eM kE vE)) i=some ((cq k xs i).map fun p=>(p.1,vE p.2))
 | [],_=>rfl
 | e::es,i=>by
  simp only [List.map_cons,fg,eM,hk.eq,cq]
  by_cases h:k=e.1
  ·rw [decide_eq_true h,if_pos h]; rfl
  ·rw [decide_eq_false h,if_neg h];exact j8 hk k es (i+1)
omit [DecidableEq α] in
theorem ld {kE:α→Value} {vE:β→Value} (k:α) (v:β):∀ (xs:List (α × β)) (i:Nat),i<xs.length→iU (xs.map (eM kE vE)) i (kE k) (vE v)=(xs.set i (k,v)).map (eM kE vE)
 | [],i,h=>by cases h
 | e::es,0,_=>rfl
 | e::es,i+1,h=>by
  simp only [List.map_cons,iU,List.set_cons_succ];rw [ld k v es i (by simpa using h)]
theorem qK (k:α):∀ (xs:List (α × β)) (i:Nat) (p:Nat × β),cq k xs i=some p→i≤p.1∧p.1<i+xs.length∧xs[p.1-i]? = some (k,p.2)
 | [],_,_,h=>by cases h
 | e::es,i,p,h=>by
  unfold cq at h
  split at h
  ·rename_i hk; cases h; subst hk; simp
  ·obtain ⟨h1,h2,h3⟩:=qK k es (i+1) p h;refine ⟨by omega,by simp; omega,?_⟩
   obtain ⟨d,hd⟩:∃ d,p.1-i=d+1:=⟨p.1-i-1,by omega⟩
   rw [hd,List.getElem?_cons_succ,← h3]
   congr 1; omega
end
section
variable {E : Env} {n : Nat} {m0 m : AMem} {fs : Fs} {ps : List Pc} {x y z : Operand} {ty : TypeId}
variable {α β : Type} [DecidableEq α]
theorem wB {P:Program} {kt et b:Nat} {kE:α→Value} {vE:β→Value} {z0:β} {xs:List (α × β)} {k:α} {c:Bool} (hu:P.underlying ty=some (.map kt et)) (hk:KeyE P kt kE) (hz:bp P et=some (vE z0)) (hzp:bu (vE z0)=true) (hg:m.get b=some (.map (xs.map (eM kE vE)))) :
  cp P ty (.map (some b)) (kE k) c m=some (if c then .tuple #[vE ((bR xs k).getD z0),.bool (bR xs k).isSome] else vE ((bR xs k).getD z0)):=by
 simp only [cp,hu,mapOf,hg,hz,hk.ok,if_true,j8 hk,bR];cases cq k xs 0 with
 | none=>simp only [Option.map_none,hzp,if_true,Option.getD_none,Option.isSome_none]
 | some p=>simp only [Option.map_some,Option.getD_some,Option.isSome_some]
theorem Mh {kt et b q:Nat} {kE:α→Value} {vE:β→Value} {z0:β} {xs:List (α × β)} {k:α} (hu:E.P.underlying ty=some (.map kt et)) (hk:KeyE E.P kt kE) (hz:bp E.P et=some (vE z0)) (hzp:bu (vE z0)=true) (hx:ev E fs x=some (.map (some b))) (hy:ev E fs y=some (kE k)) (hp:pk ps q=some (.obj b (.map (xs.map (eM kE vE))))) :
  Od E m0 fs ps (.lookup ty x y true) (.tuple #[vE ((bR xs k).getD z0),.bool (bR xs k).isSome]) ps :=
 fun t m hf h=>⟨fun b' hb'=>by
  simp only [aB,hf.ev hx] at hb';cases hb'; exact (h.get hp).2.1,fun K hK=>by
  have:=wB (c:=true) (k:=k) hu hk hz hzp (h.get hp).2.2;unfold aV;simp only [gZ,cl,hf.ev hx,hf.ev hy,this,Option.map_some];exact hK m h⟩
theorem nY {kt et b q:Nat} {kE:α→Value} {vE:β→Value} {z0 v:β} {c:Bool} {xs:List (α × β)} {k:α} (hu:E.P.underlying ty=some (.map kt et)) (hk:KeyE E.P kt kE) (hz:bp E.P et=some (vE z0)) (hzp:bu (vE z0)=true) (hx:ev E fs x=some (.map (some b))) (hy:ev E fs y=some (kE k)) (hp:pk ps q=some (.obj b (.map (xs.map (eM kE vE))))) (hv:some ((bR xs k).getD z0,(bR xs k).isSome)=some (v,c)) :
  Od E m0 fs ps (.lookup ty x y true) (.tuple #[vE v,.bool c]) ps:=by
 cases hv;exact Mh hu hk hz hzp hx hy hp
theorem LA {kt et:Nat} {kE:α→Value} {vE:β→Value} {z0:β} {k:α} (hu:E.P.underlying ty=some (.map kt et)) (hk:KeyE E.P kt kE) (hz:bp E.P et=some (vE z0)) (hzp:bu (vE z0)=true) (hx:ev E fs x=some (.map none)) (hy:ev E fs y=some (kE k)) :
  Od E m0 fs ps (.lookup ty x y false) (vE z0) ps :=
 fun t m hf h=>⟨fun b' hb'=>(by
  simp only [aB,hf.ev hx] at hb';cases hb'),fun K hK=>by
  have:cp E.P ty (.map none) (kE k) false m=some (vE z0):=by
   simp only [cp,hu,mapOf,hz,hk.ok,if_true,fg,hzp,Bool.false_eq_true,if_false]
  unfold aV;simp only [gZ,cl,hf.ev hx,hf.ev hy,this,Option.map_some];exact hK m h⟩
theorem NA {kt et b q:Nat} {kE:α→Value} {vE:β→Value} {xs:List (α × β)} {k:α} {v:β} (hu:E.P.underlying ty=some (.map kt et)) (hk:KeyE E.P kt kE) (hx:ev E fs x=some (.map (some b))) (hy:ev E fs y=some (kE k)) (hz:ev E fs z=some (vE v)) (hp:pk ps q=some (.obj b (.map (xs.map (eM kE vE))))) :
  Od E m0 fs ps (.mapUpdate ty x y z) undef (bN ps q (.obj b (.map ((fk xs k v).map (eM kE vE))))) :=
 fun t m hf h=>⟨fun b' hb'=>by simp [aB] at hb',fun K hK=>by
  have hg:=(h.get hp).2.2;have hup:cc E.P ty (.map (some b)) (kE k) (vE v) m=some (m.set b (.map ((fk xs k v).map (eM kE vE)))):=by
   simp only [cc,hu,hg,hk.ok,if_true,j8 hk,fk];cases hfd:cq k xs 0 with
   | none=>simp only [Option.map_none,List.map_append,List.map_cons,List.map_nil]; rfl
   | some p =>
    obtain ⟨h1,h2,h3⟩:=qK k xs 0 p hfd;simp only [Nat.sub_zero] at h3;have hst:fI (xs.map (eM kE vE)) p.1 (kE k)=true:=by
     simp only [fI,List.getElem?_map,h3,Option.map_some,eM,hk.plain,hk.same,Bool.and_self]
    simp only [Option.map_some,hst,if_true];rw [ld k v xs p.1 (by omega)]
  unfold aV;simp only [gZ,cl,hf.ev hx,hf.ev hy,hf.ev hz,hup,Option.map_some];exact hK _ (h.write hp rfl rfl rfl rfl ⟨(h.get hp).1,by rw [AMem.next_set]; exact (h.get hp).2.1,by rw [AMem.bt,if_pos rfl]⟩)⟩
theorem Wk.label {fn:FuncId} {ro:Option Nat} {Q:AExit→Tm→AMem→Prop} {l:Nat} (h:At Q .normal m0 fs ps):Wk E n fn ro (.label l) Q m0 fs ps:=fun t m hf hm=>.label (h t m hf hm)
theorem D1 {γ:Type} {f:γ→List Value} {xs:List γ} {k cap w l:Nat} {a:Option Addr} (h:Hp m0 m ps) (hp:pk ps k=some (.rd a cap w l (xs.map f))):l=xs.length:=by
 have:=(h.get hp).1;rw [List.length_map] at this;exact this.symm
theorem om {P:Program} {kt:TypeId} {k:IntKind} (hu:P.underlying kt=some (.int k)):KeyE P kt (fun n:Int=>.int k n) where
 eq:=fun a b=>by
  simp only [Op.maxDepth,iA,hu,if_true]
  by_cases h:a=b
  ·subst h; simp
  ·simp [h]
 ok:=fun a=>by simp only [fU,hu]
 plain:=fun a=>rfl
 same:=fun a=>by simp [Instr.sameBits]
end
end Go.Ab.W
end

section
namespace Go.Ab.W
open Go Go.Ab
attribute [local irreducible] Tm.at Trie.set Trie.get AMem.get AMem.set AMem.alloc AMem.ww AMem.kill
section
variable {E : Env} {n : Nat} {m0 m : AMem} {fs : Fs} {ps ps' : List Pc} {x y z : Operand} {ty : TypeId}
theorem MX {b q:Nat} {kt et:TypeId} {es:List (Value × Value)} {ars:Array Operand} (hu:E.P.underlying ty=some (.map kt et)) (ha:eW E fs ars.toList=some [.map (some b)]) (hp:pk ps q=some (.obj b (.map es))) :
  Od E m0 fs ps (.call ⟨.builtin .len,ars,#[ty]⟩) (.int .i64 (es.length:Int)) ps :=
 fun t m hf h=>⟨fun b' hb'=>by
  simp only [aB,hf.eW ha] at hb';cases hb'; exact (h.get hp).2.1,fun K hK=>by
  have:aJ E.P .len #[ty] [.map (some b)] m=some (.int .i64 (es.length:Int),m):=by
   have ht:(#[ty]:Array TypeId)[0]? = some ty:=rfl;simp only [aJ,ht,Option.bind_some,hu,mapOf,(h.get hp).2.2,Option.map_some]
  rw [Go.Ab.dF (hf.eW ha) this]; exact hK m h⟩
theorem yC {α:Type} {b q l:Nat} {kt et:TypeId} {xs:List α} {f:α→Value × Value} {ars:Array Operand} (hu:E.P.underlying ty=some (.map kt et)) (ha:eW E fs ars.toList=some [.map (some b)]) (hp:pk ps q=some (.obj b (.map (xs.map f)))) (hl:xs.length=l) :
  Od E m0 fs ps (.call ⟨.builtin .len,ars,#[ty]⟩) (.int .i64 (l:Int)) ps:=by
 have:=MX (m0:=m0) hu ha hp;rw [List.length_map,hl] at this;exact this
theorem Wn.ul {ops:Array Oper} {os:List Oper} {prs:List (Nat × Nat)} {K:Tm→AMem→Prop} {ss:List Nk} {ty:TypeId} {pp:String} {af:Array Edge} {d:Nat} {α:Type} {V:α→Value} {N:α→List Pc} {f:Operand} {g:FuncId} {ars:Array Operand} {ts:Array TypeId} {args:List Value} {q j:Nat} {p:Pc} (hj:pk ps j=some p) (hb:p.oq=some q) (hf:ev E fs f=some (.func (.func g) #[] #[])) (ha:eW E fs ars.toList=some args)
  (hc:∀ m,Hp m0 m ps→ay E g args m (fun v m'=>∃ x,v=V x∧Hp m0 m' (N x)∧(q<m.wl→q<m'.wl))) (hd:Nat.blt d n=true) (k:∀ x,Wn E n ops prs K os (.low q::ss) m0 ((d,V x)::fs) (N x)) :
  Wn E n ops prs K (⟨some d,.call ⟨.value f,ars,ts⟩,ty,pp,af,none⟩::os) ss m0 fs ps :=
 Wn.xg (c:=.low q) (fun t m hfr hm hwl=>⟨fun b hb=>(by simp [aB] at hb),fun K hK=>by
  show gx E (ak E t f) (aW E t ars.toList) m _
  rw [hfr.ev hf,hfr.eW ha,gi];refine (hc m hm).mono fun v m' ⟨x,e,h,h2⟩=>?_;rw [e];have hq:q<m.next:=Pc.DB (hm.get hj) hb
  exact hK x m' h (h2 (by omega))⟩) gn (some d) (fun d' e=>by cases e; exact hd) k
end
end Go.Ab.W
end

section
namespace Go.Ab.W
open Go Go.Ab
set_option maxRecDepth 10000
attribute [local irreducible] Tm.at Trie.set Trie.get AMem.get AMem.set AMem.alloc AMem.ww
section
variable {E : Env} {n : Nat} {m0 : AMem} {fs : Fs} {ps : List Pc} {x y z : Operand} {v : Value} {ty ty2 : TypeId}
end
end Go.Ab.W
end

section
namespace Go.Ab.W
open Go Go.Ab
attribute [local irreducible] Tm.at Trie.set Trie.get AMem.get AMem.set AMem.alloc AMem.ww AMem.kill
section
variable {α : Type}
def Jq:List α→Option (α × α × α × α × α × α × α × α)
 | [a,b,c,d,e,f,g,h]=>some (a,b,c,d,e,f,g,h)
 | _=>none
theorem mD {xs:List α} {a b c d e f g h:α} (hx:Jq xs=some (a,b,c,d,e,f,g,h)):xs = [a,b,c,d,e,f,g,h]:=by
 unfold Jq at hx
 split at hx
 ·cases hx; rfl
 ·cases hx
end
section
variable {E : Env} {n : Nat} {m0 m : AMem} {fs : Fs} {ps : List Pc} {x y z : Operand} {ty : TypeId}
theorem al.qo {α:Type} {xs:List α} {f:α→List Value} {k b w l:Nat} {cs:List Value} (hp:pk ps k=some (.obj b (.cells cs .own))) (hx:cs=(xs.map f).flatten) (hl:xs.length=l) (he:Enc f w) (h0:Nat.blt 0 w=true):al m0 ps (bN ps k (.arr b w l (xs.map f) .own)):=fun m h=>by
 subst hx;exact h.put hp rfl rfl rfl (Nat.le_refl _) h.ext ⟨(h.get hp).1,(h.get hp).2.1,(h.get hp).2.2,by rw [List.length_map]; exact hl,fun e hm=>by obtain ⟨x,_,rfl⟩:=List.mem_map.1 hm; exact he.1 x,.inl rfl,by rwa [Nat.blt_eq] at h0⟩ fun _ _ _=>rfl
theorem al.sI {α:Type} {xs ys:List α} {f:α→List Value} {k b w l:Nat} {cs:List Value} {tg:Tag} (hp:pk ps k=some (.arr b w l (xs.map f) tg)) (hx:xs=ys) (hc:(ys.map f).flatten=cs):al m0 ps (bN ps k (.obj b (.cells cs tg))):=fun m h=>by
 subst hx hc;exact h.put hp rfl rfl rfl (Nat.le_refl _) h.ext ⟨(h.get hp).1,(h.get hp).2.1,(h.get hp).2.2.1⟩ fun _ _ _=>rfl
theorem kU {el:TypeId} {b len w:Nat} {i:Int} {kd:IntKind} (h:ArT E.P ty el len w) (hx:ev E fs x=some (ptr b 0)) (hy:ev E fs y=some (.int kd i)) (hi:0≤i∧i.toNat<len):Od E m0 fs ps (.indexAddr ty x y) (ptr b (i.toNat*w+0)) ps:=by
 obtain ⟨j,rfl⟩:=Int.eq_ofNat_of_zero_le hi.1;have hj:j<len:=by simpa using hi.2
 refine ic hx hy ?_;rw [iR h (b:=b) (o:=0) hj];simp
end
end Go.Ab.W
end

section
namespace Go.Ab.W
open Go Go.Ab
attribute [local irreducible] Tm.at Trie.set Trie.get AMem.get AMem.set AMem.alloc AMem.ww AMem.kill
section
variable {E : Env} {n : Nat} {m0 m : AMem} {fs : Fs} {ps : List Pc}
theorem Hp.dy {m0 m:AMem} {l0:List Pc} {H:Nat→Prop} {a:Option Addr} {cap w l:Nat} {es:List (List Value)} (h:Hp m0 m (l0++[.gen (bA H)])) (ho:(l0.all Pc.HX)=true) (hr:Rd m a cap w l es) (ha:∀ b,dm a=some b→¬ H b):Hp m0 m (.rd a cap w l es::(l0++[.gen (bA H)])) :=
 ⟨h.ext,fun p hp=>by
  rcases List.mem_cons.1 hp with rfl | hp
  ·exact hr
  ·exact h.ok p hp,List.pairwise_cons.2 ⟨fun q hq=>⟨fun b a=>a.elim (fun a=>by cases a.1) fun a=>a.elim,fun b h1 h2=>by
   rcases List.mem_append.1 hq with hq | hq
   ·exact absurd h1 (Pc.Ap (List.all_eq_true.1 ho q hq) b)
   ·rw [List.mem_singleton.1 hq] at h1;rcases h1 with h1 | h1
    ·cases h1.1
    ·exact ha b (h2.elim id fun h=>h.elim) h1⟩,h.apart⟩⟩
def my (l:List Pc):Bool:=l.all Pc.bound
theorem jt {α:Type} {V:α→Value} {N:α→List Pc} {f:Operand} {g:FuncId} {ars:Array Operand} {ts:Array TypeId} {args:List Value} (hf:ev E fs f=some (.func (.func g) #[] #[])) (ha:eW E fs ars.toList=some args) (hc:∀ m,Hp m0 m ps→ay E g args m (fun v m'=>∃ x,v=V x∧Hp m m' (N x++[.gen (bA (sY ps))]))) (ho:∀ x,my (N x)=true):Ox E m0 fs ps (.call ⟨.value f,ars,ts⟩) V (fun x=>N x++ps) :=
 kB hf ha fun m hm=>by
  simp only [List.nil_append,List.append_nil];exact (hc m hm).mono fun v m' ⟨x,e,h⟩=>⟨x,e,hm.Dx h fun p hp=>List.all_eq_true.1 (ho x) p hp⟩
theorem Ds {α:Type} {V:α→Value} {N:α→List Pc} {f:Operand} {g:FuncId} {ars:Array Operand} {ts:Array TypeId} {args:List Value} (hf:ev E fs f=some (.func (.func g) #[] #[])) (ha:eW E fs ars.toList=some args) (hc:∀ m,Hp m0 m ps→ay E g args m (fun v m'=>∃ x,v=V x∧Hp m m' (N x++[.gen (bA (sY ps))]))) (ho:∀ x,my (N x)=true):Oc E m0 fs ps (.call ⟨.value f,ars,ts⟩) V (fun x=>N x++ps) :=
 fun t m hfr hm hwl=>⟨fun b hb=>(by simp [aB] at hb),fun K hK=>by
  show gx E (ak E t f) (aW E t ars.toList) m _
  rw [hfr.ev hf,hfr.eW ha,gi];refine (hc m hm).mono fun v m' ⟨x,e,h⟩=>?_;rw [e];refine hK x m' (hm.Dx h fun p hp=>List.all_eq_true.1 (ho x) p hp) ?_;have:=h.ext.wl;omega⟩
theorem al.dup {a:Option Addr} {k cap w l:Nat} {es:List (List Value)} (hp:pk ps k=some (.rd a cap w l es)):al m0 ps (.rd a cap w l es::ps):=fun _ h=>h.dup hp
end
section
variable {E : Env} {n : Nat} {m0 : AMem} {fs : Fs} {ps : List Pc} {ops : Array Oper} {os : List Oper} {dr : Bool}
theorem Wo.bj {K:Tm→AMem→Prop} {α:Type} {f:α→List Value} {k w l cap:Nat} {a:Option Addr} {xs:List α} (hp:pk ps k=some (.rd a cap w l (xs.map f))) (h:l=xs.length→Wo dr E n ops K os m0 fs ps):Wo dr E n ops K os m0 fs ps:=by
 have key:∀ m,Hp m0 m ps→l=xs.length:=fun m hm=>D1 hm hp;cases dr with
 | false=>exact fun t m hf hm=>h (key m hm) t m hf hm
 | true=>exact fun t m w hf hm hw=>h (key m hm) t m w hf hm hw
theorem Wn.bj {prs:List (Nat × Nat)} {K:Tm→AMem→Prop} {ss:List Nk} {α:Type} {f:α→List Value} {k w l cap:Nat} {a:Option Addr} {xs:List α} (hp:pk ps k=some (.rd a cap w l (xs.map f))) (h:l=xs.length→Wn E n ops prs K os ss m0 fs ps):Wn E n ops prs K os ss m0 fs ps :=
 fun t m ns hf hm hn=>h (D1 hm hp) t m ns hf hm hn
end
section
variable {E : Env} {m0 : AMem} {fs : Fs} {ps : List Pc} {ty : TypeId}
theorem MJ {α:Type} {f:α→List Value} {elem ty2:TypeId} {w k cap2 l l2:Nat} {a a2:Option Addr} {xs ys:List α} {ars:Array Operand} (he:Enc f w) (ht:SlT E.P ty elem w) (ht2:∃ e2,E.P.underlying ty2=some (.slice e2)) (ha:eW E fs ars.toList=some [.slice a l l,.slice a2 l2 cap2]) (hp:pk ps k=some (.sl a w l (xs.map f))) (hr:∀ m,Hp m0 m ps→Rd m a2 cap2 w l2 (ys.map f)) (hl:iB (xs++ys).length=true) :
  Ox E m0 fs ps (.call ⟨.builtin .append,ars,#[ty,ty2]⟩) (fun a':Option Addr=>.slice a' (xs++ys).length (xs++ys).length) (fun a'=>bN ps k (.sl a' w (xs++ys).length ((xs++ys).map f))):=fun t m hf hm=>⟨fun b hb=>(by simp [aB] at hb),fun K hK=>by
 have h1:l=xs.length:=by
  have:=hm.get hp;rcases this with ⟨h0,h1,_⟩ | ⟨b,tg,_,h1⟩
  ·rw [h0,List.map_eq_nil_iff.1 h1]; rfl
  ·have:=h1.2.2.2.1; rw [List.length_map] at this; exact this.symm
 have h2:l2=ys.length:=by
  have:=(hr m hm).1; rw [List.length_map] at this; exact this.symm
 have e2:l+l2=(xs++ys).length:=by rw [h1,h2,List.length_append]
 obtain ⟨a',m',h3,h4⟩:=nb (n:=l) ht ht2 hm hp (hr m hm) (he.tL ys) (he.gU ys) (by rw [e2]; exact hl)
 have:aJ E.P .append #[ty,ty2] [.slice a l l,.slice a2 l2 cap2] m=some (.slice a' (l+l2) (l+l2),m'):=h3;rw [Go.Ab.dF (hf.eW ha) this];have e1:xs.map f++ys.map f=(xs++ys).map f:=List.map_append.symm;rw [e1,e2] at h4;rw [e2];exact hK a' m' h4⟩
end
section
theorem lV (c:Value) (cs:List Value) (o:Nat) (vs:List Value):aA (c::cs) (o+1) vs=c::aA cs o vs:=by cases vs <;> rfl
theorem ep:∀ (cs:List Value) (o:Nat),aA cs o []=cs
 | [],0=>rfl
 | _::_,0=>rfl
 | [],_+1=>rfl
 | c::cs,o+1=>by rw [lV,ep cs o]
theorem nG {f:Nat→List Value} {v:Nat→Value} (hf:∀ x,f x = [v x]):∀ {ys xs zs:List Nat},ys++xs.drop ys.length=zs→ys.length≤xs.length→aA (xs.map f).flatten 0 (ys.map f).flatten=(zs.map f).flatten
 | [],xs,zs,h,_=>by
  rw [List.nil_append,List.length_nil,List.drop_zero] at h;rw [h];exact ep _ 0
 | y::ys,[],zs,_,hl=>by simp at hl
 | y::ys,x::xs,zs,h,hl=>by
  have ih:=nG hf (ys:=ys) (xs:=xs) (zs:=ys++xs.drop ys.length) rfl (by simpa using hl)
  subst h;simp only [List.map_cons,List.flatten_cons,hf,List.cons_append,List.nil_append,List.length_cons,List.drop_succ_cons] at ih ⊢
  show v y::aA _ 0 _=_
  rw [ih]
theorem LO {f:Nat→List Value} {v:Nat→Value} (hf:∀ x,f x = [v x]) {c:Value} {ys xs zs:List Nat} (h:ys++xs.drop ys.length=zs) (hl:ys.length≤xs.length):aA (c::(xs.map f).flatten) 1 (ys.map f).flatten=c::(zs.map f).flatten:=by
 rw [show (1:Nat)=0+1 from rfl,lV,nG hf h hl]
variable {E : Env} {m0 : AMem} {fs : Fs} {ps : List Pc} {ty : TypeId}
theorem Mm {f:Nat→List Value} {elem ty2:TypeId} {k b o q cap2 l2:Nat} {a2:Option Addr} {cs cs':List Value} {ys:List Nat} {ars:Array Operand} (he:Enc f 1) (ht:SlT E.P ty elem 1) (ha:eW E fs ars.toList=some [.slice (some ⟨b,o,none⟩) q q,.slice a2 l2 cap2]) (hp:pk ps k=some (.obj b (.cells cs .own))) (hr:∀ m,Hp m0 m ps→Rd m a2 cap2 1 l2 (ys.map f)) (hq:decide (ys.length≤q)=true) (ho:Nat.ble (o+q) cs.length=true) (hs:aA cs o (ys.map f).flatten=cs') :
  Od E m0 fs ps (.call ⟨.builtin .copy,ars,#[ty,ty2]⟩) (.int .i64 (ys.length:Int)) (bN ps k (.obj b (.cells cs' .own))):=fun t m hf hm=>⟨fun b hb=>(by simp [aB] at hb),fun K hK=>by
 have h2:l2=ys.length:=by
  have:=(hr m hm).1; rw [List.length_map] at this; exact this.symm
 have hq':=of_decide_eq_true hq;have ho':=Nat.le_of_ble_eq_true ho;have hc:=(hr m hm).cells;have hmin:min l2 q=l2:=by omega
 have hone:aS (ys.map f).flatten=true:=by
  unfold aS;rw [List.all_eq_true];intro x hx;obtain ⟨e,h3,h4⟩:=List.mem_flatten.1 hx;exact List.all_eq_true.1 (he.gU ys e h3) x h4
 have hlen:(ys.map f).flatten.length=ys.length:=by
  clear hs hr hq hK h2 hq' hc hone
  induction ys with
  | nil=>rfl
  | cons x l ih=>rw [List.map_cons,List.flatten_cons,List.length_append,ih,he.1 x,List.length_cons]; omega
 have hg:=(hm.get hp).2.2;have hsrc:cr (an E.P elem) (.slice a2 l2 cap2) (min l2 q) m=some (ys.map f).flatten:=by rw [ht.size,hmin]; exact hc
 cases hy:ys with
 | nil =>
  subst hy;have e1:cs'=cs:=by rw [← hs]; exact ep cs o
  have hl0:min l2 q=0:=by rw [hmin,h2]; rfl
  have:aJ E.P .copy #[ty,ty2] [.slice (some ⟨b,o,none⟩) q q,.slice a2 l2 cap2] m=some (.int .i64 0,m):=by
   show pq E.P ty _ _ m=_
   unfold pq;rw [hl0] at hsrc;simp only [ht.und,ht.known,Bool.not_true,Bool.false_eq_true,if_false,hl0,hsrc,hone]
  rw [Go.Ab.dF (hf.eW ha) this];exact hK m (by rw [e1]; exact hm.put hp rfl rfl rfl (Nat.le_refl _) hm.ext (hm.get hp) fun _ _ _=>rfl)
 | cons y ys1 =>
  have hl1:min l2 q=ys1.length+1:=by rw [hmin,h2,hy]; rfl
  have hst:m.cJ b o (ys.map f).flatten=some (m.set b (.cells cs' .own)):=by
   have hne:(ys.map f).flatten≠[]:=fun e=>by rw [e,hy] at hlen; cases hlen
   unfold AMem.cJ
   split
   ·rename_i e; exact absurd e hne
   ·rw [hg];simp only [hlen];rw [if_pos (by omega),hs]
  have:aJ E.P .copy #[ty,ty2] [.slice (some ⟨b,o,none⟩) q q,.slice a2 l2 cap2] m=some (.int .i64 (ys.length:Int),m.set b (.cells cs' .own)):=by
   show pq E.P ty _ _ m=_
   unfold pq;rw [hl1] at hsrc;simp only [ht.und,ht.known,Bool.not_true,Bool.false_eq_true,if_false,hl1,hsrc,hone,hst,Option.map_some];rw [hy]; rfl
  rw [Go.Ab.dF (hf.eW ha) this];have hw:Hp m0 (m.set b (.cells cs' .own)) (bN ps k (.obj b (.cells cs' .own))):=hm.write (o':=.cells cs' .own) (p':=.obj b (.cells cs' .own)) hp rfl rfl rfl rfl ⟨(hm.get hp).1,by rw [AMem.next_set]; exact (hm.get hp).2.1,by rw [AMem.bt,if_pos rfl]⟩
  exact hK _ hw⟩
end
end Go.Ab.W
end

section
namespace Go.Ab.W
open Go Go.Ab
section
variable {α : Type}
def tO (m:AMem) (R:Nat→Prop) (w:Nat) (f:α→List Value) (cs:List Value) (L:List (List α)):Prop :=
 cs.length=L.length∧∀ (i:Nat) (l:List α),L[i]? = some l→∃ a c,cs[i]? = some (.slice a l.length c)∧Rd m a c w l.length (l.map f)∧∀ b,dm a=some b→R b
theorem tO.dc {m m':AMem} {R:Nat→Prop} {w:Nat} {f:α→List Value} {cs:List Value} {L:List (List α)} (h:tO m R w f cs L) (hn:m.next≤m'.next) (hg:∀ b,R b→b<m.next→m'.get b=m.get b):tO m' R w f cs L :=
 ⟨h.1,fun i l hi=>by
  obtain ⟨a,c,h1,h2,h3⟩:=h.2 i l hi;exact ⟨a,c,h1,h2.dc hn fun b hb hlt=>hg b (h3 b hb) hlt,h3⟩⟩
def n5 (a:Option Addr) (n:Nat) (R:Nat→Prop) (w:Nat) (f:α→List Value) (L:List (List α)):GPc where
 ow b:=dm a=some b∨R b
 rd _:=False
 P m:=((n=0∧a=none∧L = [])∨∃ b cs tg,a=some ⟨b,0,none⟩∧b<m.next∧m.get b=some (.cells cs tg)∧(tg = .own∨tg = .more 1)∧n=L.length∧tO m R w f cs L)∧(∀ b,R b→b<m.next)∧∀ b,R b→dm a≠some b
 st m m' h hn hg:=by
  refine ⟨?_,fun b hb=>Nat.lt_of_lt_of_le (h.2.1 b hb) hn,h.2.2⟩;rcases h.1 with h1 | ⟨b,cs,tg,rfl,h2,h3,h4,h5,h6⟩
  ·exact .inl h1
  ·refine .inr ⟨b,cs,tg,rfl,Nat.lt_of_lt_of_le h2 hn,?_,h4,h5,h6.dc hn fun b' hb' hlt=>hg b' (.inl (.inr hb')) hlt⟩;rw [hg b (.inl (.inl rfl)) h2]; exact h3
 lt m b h hb:=by
  rcases hb with (hb | hb) | hb
  ·rcases h.1 with ⟨_,rfl,_⟩ | ⟨b',cs,tg,rfl,h2,_⟩
   ·cases hb
   ·cases hb; exact h2
  ·exact h.2.1 b hb
  ·exact hb.elim
def B5 (a:Option Addr) (n _:Nat) (R:Nat→Prop) (w:Nat) (f:α→List Value) (L:List (List α)):GPc where
 ow _:=False
 rd b:=dm a=some b∨R b
 P m:=((n=0∧a=none∧L = [])∨∃ b cs tg,a=some ⟨b,0,none⟩∧b<m.next∧m.get b=some (.cells cs tg)∧n=L.length∧tO m R w f cs L)∧∀ b,R b→b<m.next
 st m m' h hn hg:=by
  refine ⟨?_,fun b hb=>Nat.lt_of_lt_of_le (h.2 b hb) hn⟩;rcases h.1 with h1 | ⟨b,cs,tg,rfl,h2,h3,h5,h6⟩
  ·exact .inl h1
  ·refine .inr ⟨b,cs,tg,rfl,Nat.lt_of_lt_of_le h2 hn,?_,h5,h6.dc hn fun b' hb' hlt=>hg b' (.inr (.inr hb')) hlt⟩;rw [hg b (.inr (.inl rfl)) h2]; exact h3
 lt m b h hb:=by
  rcases hb with hb | hb | hb
  ·exact hb.elim
  ·rcases h.1 with ⟨_,rfl,_⟩ | ⟨b',cs,tg,rfl,h2,_⟩
   ·cases hb
   ·cases hb; exact h2
  ·exact h.2 b hb
end
section
variable {α : Type} {E : Env} {m0 m : AMem} {fs : Fs} {ps : List Pc} {f : α → List Value} {w : Nat}
theorem al.Lo:al m0 ps (.gen (n5 none 0 (fun _=>False) w f ([]:List (List α)))::ps):=fun m h =>
 ⟨h.ext,fun p hp=>by
  rcases List.mem_cons.1 hp with rfl | hp
  ·exact ⟨⟨.inl ⟨rfl,rfl,rfl⟩,fun _ h=>h.elim,fun _ h=>h.elim⟩,fun _ b hb=>hb.elim (fun h=>by cases h) fun h=>h.elim⟩
  ·exact h.ok p hp,List.pairwise_cons.2 ⟨fun q _=>⟨fun b h1 _=>h1.elim (fun h=>by cases h.1) fun h=>h.elim (fun h=>by cases h) fun h=>h.elim,fun b _ h2=>h2.elim (fun h=>by cases h) fun h=>h.elim (fun h=>h.elim (fun h=>by cases h) fun h=>h.elim) fun h=>h.elim⟩,h.apart⟩⟩
theorem al.DJ {k n:Nat} {a:Option Addr} {R:Nat→Prop} {L:List (List α)} (hp:pk ps k=some (.gen (n5 a n R w f L))):al m0 ps (bN ps k (.gen (B5 a n n R w f L))):=fun m h=>by
 have hP:=(h.get hp).1;refine h.M9 hp (fun b hb=>hb.elim (fun h=>by cases h.1) fun h=>h.elim) (fun b hb=>.inl (hb.elim (fun h=>by cases h) fun h=>h.elim (fun h=>h.elim) fun h=>.inr (.inl h))) (Nat.le_refl _) h.ext ⟨⟨?_,hP.2.1⟩,fun _ b hb=>hb.elim⟩ (fun _ _ _=>rfl)
 rcases hP.1 with h1 | ⟨b,cs,tg,h1,h2,h3,_,h5,h6⟩
 ·exact .inl h1
 ·exact .inr ⟨b,cs,tg,h1,h2,h3,h5,h6⟩
theorem pM {k n:Nat} {a:Option Addr} {R:Nat→Prop} {L:List (List α)} (h:Hp m0 m ps) (hp:pk ps k=some (.gen (n5 a n R w f L))):n=L.length:=by
 rcases (h.get hp).1.1 with ⟨rfl,_,rfl⟩ | ⟨_,_,_,_,_,_,_,h5,_⟩
 ·rfl
 ·exact h5
variable {x : Operand} {ty : TypeId}
theorem IF {k n cap i b off:Nat} {R:Nat→Prop} {L:List (List α)} {l:List α} (ht:TyI E.P ty false 1) (hx:ev E fs x=some (ptr b off)) (ho:off=i) (hp:pk ps k=some (.gen (B5 (some ⟨b,0,none⟩) n cap R w f L))) (hl:L[i]? = some l) :
  Ox E m0 fs ps (.load ty x) (fun r:Option Addr × Nat=>.slice r.1 l.length r.2) (fun r=>.rd r.1 r.2 w l.length (l.map f)::ps):=by
 intro t m hf hm;subst ho;have hP:=(hm.get hp).1;rcases hP.1 with ⟨_,h1,_⟩ | ⟨b',cs,tg,h1,h2,h3,h5,h6⟩
 ·cases h1
 ·cases h1;obtain ⟨a,c,h7,h8,h9⟩:=h6.2 off l hl;have hx':ak E t x=some (ptr b off):=hf.ev hx;refine ⟨fun b' hb'=>?_,fun K hK=>?_⟩
  ·simp only [aB,hx',Option.bind_some] at hb';cases hb'; exact h2
  ·have hld:cf E.P ty (ptr b off) m=some (.slice a l.length c):=oI ht.known ht.agg h3 h7;rw [Go.Ab.mO hx' hld];refine hK (a,c) m (hm.IJ hp (fun b hb=>hb.elim (fun h=>by cases h.1) fun h=>h.elim) h8 (fun b hb=>hb.elim (fun h=>by cases h.1) fun h=>h.elim) fun b hb=>?_)
   rcases hb with hb | hb
   ·exact .inr (.inr (.inr (h9 b hb)))
   ·exact hb.elim
theorem al.Mx {k b:Nat} {a:Option Addr} {l:List α} (hp:pk ps k=some (.sl a w l.length (l.map f))):al m0 (.arr b 1 1 [[.slice a l.length l.length]] .own::ps) (bN ps k (.gen (n5 (some ⟨b,0,none⟩) 1 (fun b'=>dm a=some b') w f [l]))):=fun m h=>by
 have h0:=h.ok _ (List.mem_cons_self ..);have hk:Pc.ok m0.next m (.sl a w l.length (l.map f)):=h.ok _ (List.mem_cons_of_mem _ (eV hp))
 have ha:=(List.pairwise_cons.1 h.apart).1;have hrd:Rd m a l.length w l.length (l.map f):=Pc.Gj hk (.sl ..);have how:∀ b',Pc.ow (.gen (n5 (some ⟨b,0,none⟩) 1 (fun b'=>dm a=some b') w f [l])) b'→b'=b∨dm a=some b':=fun b' hb=>hb.elim (fun h=>by cases h.1) fun h=>h.elim (fun h=>by cases h; exact .inl rfl) .inr
 have hany:∀ b',Pc.any (.gen (n5 (some ⟨b,0,none⟩) 1 (fun b'=>dm a=some b') w f [l])) b'→b'=b∨dm a=some b':=fun b' hb=>hb.elim (fun h=>by cases h) fun h=>h.elim (fun h=>h.elim (fun h=>by cases h; exact .inl rfl) .inr) fun h=>h.elim
 refine ⟨h.ext,fun p hpm=>?_,cC hp (fun r hr hap=>⟨fun b' h1 h2=>?_,fun b' h1 h2=>?_⟩) (List.pairwise_cons.1 h.apart).2⟩
 ·rcases km hpm with hpm | rfl
  ·exact h.ok p (List.mem_cons_of_mem _ hpm)
  ·refine ⟨⟨.inr ⟨b,_,.own,rfl,h0.2.1,h0.2.2.1,.inl rfl,rfl,rfl,fun i x hi=>?_⟩,fun b' hb=>Pc.fq hk (.inl hb),fun b' hb e=>?_⟩,fun _ b' hb=>?_⟩
   ·cases i with
    | zero=>cases hi; exact ⟨a,l.length,rfl,hrd,fun _ h=>h⟩
    | succ i=>simp at hi
   ·cases e;exact (ha _ (eV hp)).1 b (.inl ⟨rfl,rfl⟩) (.inl hb)
   ·rcases how b' (.inr hb) with rfl | hb
    ·exact h0.1
    ·exact Pc.iw hk rfl (.inl ⟨rfl,hb⟩)
 ·rcases how b' h1 with rfl | h1
  ·exact (ha r hr).1 b' (.inl ⟨rfl,rfl⟩) h2
  ·exact hap.1 b' (.inl ⟨rfl,h1⟩) h2
 ·rcases hany b' h2 with rfl | h2
  ·exact (ha r hr).2 b' h1 (.inl rfl)
  ·exact hap.2 b' h1 (.inl h2)
theorem nW {k n cap:Nat} {a:Option Addr} {ars:Array Operand} {p:Pc} {elem:TypeId} (hu:E.P.underlying ty=some (.slice elem)) (ha:eW E fs ars.toList=some [.slice a n cap]) (hp:pk ps k=some p) (hb:∀ b,dm a=some b→p.any b) :
  Od E m0 fs ps (.call ⟨.builtin .len,ars,#[ty]⟩) (.int .i64 (n:Int)) ps :=
 fun t m hf h=>⟨fun b hb'=>by
  simp only [aB,hf.eW ha] at hb';have hab:dR (.slice a n cap)=dm a:=by cases a <;> rfl
  rw [hab] at hb';exact Pc.fq (h.get hp) (hb b hb'),fun K hK=>by
  have:aJ E.P .len #[ty] [.slice a n cap] m=some (.int .i64 (n:Int),m):=by
   have ht:(#[ty]:Array TypeId)[0]? = some ty:=rfl;simp only [aJ,ht,Option.bind_some,hu]
  rw [Go.Ab.dF (hf.eW ha) this]; exact hK m h⟩
theorem DQ {a:Option Addr} {n:Nat} {R:Nat→Prop} {L:List (List α)}:∀ b,dm a=some b→Pc.any (.gen (n5 a n R w f L)) b:=fun _ h=>.inr (.inl (.inl h))
theorem DH {a:Option Addr} {n cap:Nat} {R:Nat→Prop} {L:List (List α)}:∀ b,dm a=some b→Pc.any (.gen (B5 a n cap R w f L)) b:=fun _ h=>.inr (.inr (.inl h))
theorem uz {k n cap:Nat} {a:Option Addr} {R:Nat→Prop} {L:List (List α)} (h:Hp m0 m ps) (hp:pk ps k=some (.gen (B5 a n cap R w f L))) (h0:0<n):∃ b,a=some ⟨b,0,none⟩:=by
 rcases (h.get hp).1.1 with ⟨h1,_⟩ | ⟨b,_,_,h1,_⟩
 ·omega
 ·exact ⟨b,h1⟩
variable {N : Nat} {ops : Array Oper} {os : List Oper} {dr : Bool}
theorem Wo.Cv {K:Tm→AMem→Prop} {k n cap:Nat} {a:Option Addr} {R:Nat→Prop} {L:List (List α)} (hp:pk ps k=some (.gen (B5 a n cap R w f L))) (h0:0<n) (h:∀ b,a=some ⟨b,0,none⟩→Wo dr E N ops K os m0 fs ps):Wo dr E N ops K os m0 fs ps:=by
 cases dr with
 | false=>exact fun t m hf hm=>(uz hm hp h0).elim fun b e=>h b e t m hf hm
 | true=>exact fun t m w hf hm hw=>(uz hm hp h0).elim fun b e=>h b e t m w hf hm hw
theorem Wo.vR {K:Tm→AMem→Prop} {k n:Nat} {a:Option Addr} {R:Nat→Prop} {L:List (List α)} (hp:pk ps k=some (.gen (n5 a n R w f L))) (h:n=L.length→Wo dr E N ops K os m0 fs ps):Wo dr E N ops K os m0 fs ps:=by
 cases dr with
 | false=>exact fun t m hf hm=>h (pM hm hp) t m hf hm
 | true=>exact fun t m w hf hm hw=>h (pM hm hp) t m w hf hm hw
def tC (R:Nat→Prop) (w:Nat) (f:α→List Value) (cs:List Value) (L:List (List α)):GPc where
 ow b:=R b
 rd _:=False
 P m:=tO m R w f cs L∧∀ b,R b→b<m.next
 st _ _ h hn hg:=⟨h.1.dc hn fun b hb hlt=>hg b (.inl hb) hlt,fun b hb=>Nat.lt_of_lt_of_le (h.2 b hb) hn⟩
 lt _ b h hb:=hb.elim (h.2 b) fun h=>h.elim
theorem pU:∀ (cs:List Value),(cs.map fun c=>[c]).flatten=cs
 | []=>rfl
 | c::cs=>by rw [List.map_cons,List.flatten_cons,pU cs]; rfl
theorem Hp.Jy {k n:Nat} {a:Option Addr} {R:Nat→Prop} {cs:List Value} {L:List (List α)} (h:Hp m0 m (.gen (tC R w f cs L)::ps)) (hp:pk ps k=some (.sl a 1 n (cs.map fun c=>[c]))):Hp m0 m (bN ps k (.gen (n5 a n R w f L))):=by
 have h0:=h.ok _ (List.mem_cons_self ..);have hk:Pc.ok m0.next m (.sl a 1 n (cs.map fun c=>[c])):=h.ok _ (List.mem_cons_of_mem _ (eV hp))
 have ha:=(List.pairwise_cons.1 h.apart).1;have how:∀ b',Pc.ow (.gen (n5 a n R w f L)) b'→dm a=some b'∨R b':=fun b' hb=>hb.elim (fun h=>by cases h.1) id
 have hany:∀ b',Pc.any (.gen (n5 a n R w f L)) b'→dm a=some b'∨R b':=fun b' hb=>hb.elim (fun h=>by cases h) fun h=>h.elim id fun h=>h.elim
 refine ⟨h.ext,fun p hpm=>?_,cC hp (fun r hr hap=>⟨fun b' h1 h2=>?_,fun b' h1 h2=>?_⟩) (List.pairwise_cons.1 h.apart).2⟩
 ·rcases km hpm with hpm | rfl
  ·exact h.ok p (List.mem_cons_of_mem _ hpm)
  ·refine ⟨⟨?_,h0.1.2,fun b' hb e=>(ha _ (eV hp)).1 b' (.inr hb) (.inl e)⟩,fun _ b' hb=>?_⟩
   ·rcases hk with ⟨h1,h2,h3,_⟩ | ⟨b,tg,rfl,h1⟩
    ·have hc:cs = []:=List.map_eq_nil_iff.1 h2;refine .inl ⟨h1,h3,?_⟩;have:=h0.1.1.1;rw [hc] at this;exact List.length_eq_zero_iff.1 this.symm
    ·refine .inr ⟨b,cs,tg,rfl,h1.2.1,?_,h1.2.2.2.2.2.1,?_,h0.1.1⟩
     ·rw [h1.2.2.1,pU]
     ·have:=h1.2.2.2.1;rw [List.length_map,h0.1.1.1] at this;exact this.symm
   ·rcases how b' (.inr hb) with hb | hb
    ·exact Pc.iw hk rfl (.inl ⟨rfl,hb⟩)
    ·exact h0.2 rfl b' hb
 ·rcases how b' h1 with h1 | h1
  ·exact hap.1 b' (.inl ⟨rfl,h1⟩) h2
  ·exact (ha r hr).1 b' (.inr h1) h2
 ·rcases hany b' h2 with h2 | h2
  ·exact hap.2 b' h1 (.inl h2)
  ·exact (ha r hr).2 b' h1 (.inr (.inl h2))
theorem Hp.AD {k n:Nat} {a:Option Addr} {R:Nat→Prop} {L:List (List α)} (h:Hp m0 m ps) (hp:pk ps k=some (.gen (n5 a n R w f L))):∃ cs:List Value,Hp m0 m (.gen (tC R w f cs L)::bN ps k (.sl a 1 n (cs.map fun c=>[c]))):=by
 have hk:=h.get hp;have key:∃ cs:List Value,tO m R w f cs L∧Pc.ok m0.next m (.sl a 1 n (cs.map fun c=>[c])):=by
  rcases hk.1.1 with ⟨h1,h2,h3⟩ | ⟨b,cs,tg,h1,h2,h3,h4,h5,h6⟩
  ·exact ⟨[],⟨by rw [h3]; rfl,fun i l hi=>by rw [h3] at hi; simp at hi⟩,.inl ⟨h1,rfl,h2,by decide⟩⟩
  ·exact ⟨cs,h6,.inr ⟨b,tg,h1,hk.2 rfl b (.inl (by rw [h1]; rfl)),h2,by rw [pU]; exact h3,by rw [List.length_map,h6.1,h5],fun e he=>by obtain ⟨c,_,rfl⟩:=List.mem_map.1 he; rfl,h4,by decide⟩⟩
 obtain ⟨cs,h1,h2⟩:=key;refine ⟨cs,h.ext,fun p hpm=>?_,List.pairwise_cons.2 ⟨fun r hr=>?_,cC hp (fun r _ hap=>⟨fun b' e1 e2=>?_,fun b' e1 e2=>?_⟩) h.apart⟩⟩
 ·rcases List.mem_cons.1 hpm with rfl | hpm
  ·exact ⟨⟨h1,hk.1.2.1⟩,fun _ b hb=>hk.2 rfl b (.inr hb)⟩
  ·rcases km hpm with hpm | rfl
   ·exact h.ok p hpm
   ·exact h2
 ·rcases jW hp h.apart hr with rfl | ⟨_,hap⟩
  ·exact ⟨fun b e1 e2=>hk.1.2.2 b (e1.elim (fun e=>by cases e.1) id) (e2.elim id fun e=>e.elim),fun b e1 e2=>hk.1.2.2 b (e2.elim (fun e=>by cases e) fun e=>e.elim id fun e=>e.elim) (e1.elim (fun e=>e.2) fun e=>e.elim)⟩
  ·exact ⟨fun b e1 e2=>hap.2 b (.inr (.inr (e1.elim (fun e=>by cases e.1) id))) e2,fun b e1 e2=>hap.1 b e1 (.inr (.inl (.inr (e2.elim (fun e=>by cases e) fun e=>e.elim id fun e=>e.elim))))⟩
 ·exact hap.1 b' (e1.elim (fun e=>.inr (.inl e.2)) fun e=>e.elim) e2
 ·exact hap.2 b' e1 (e2.elim (fun e=>.inr (.inl (.inl e))) fun e=>e.elim)
end
end Go.Ab.W
end

section
namespace Go.Ab.W
open Go Go.Ab
attribute [local irreducible] Tm.at Trie.set Trie.get AMem.get AMem.set AMem.alloc AMem.ww AMem.kill
theorem rN:∀ (l:List Pc) (k:Nat) (p q:Pc),bN (bN l k p) k q=bN l k q:=by
 intro l
 induction l with
 | nil=>intro k p q; rfl
 | cons a l ih =>
  intro k p q;cases k with
  | zero=>rfl
  | succ k=>rw [dH,dH,dH,ih]
theorem AH:∀ {l:List Pc} {k:Nat} {p:Pc} (q:Pc),pk l k=some p→pk (bN l k q) k=some q:=by
 intro l
 induction l with
 | nil=>intro k p q h; simp [pk] at h
 | cons a l ih =>
  intro k p q h;cases k with
  | zero=>rfl
  | succ k=>rw [dH,eZ]; rw [eZ] at h; exact ih q h
section
variable {α : Type} {E : Env} {m0 m : AMem} {fs : Fs} {ps : List Pc} {f : α → List Value} {w : Nat} {ty : TypeId}
theorem Hp.Ms {a b c:Pc} (h:Hp m0 m (a::b::c::ps)):Hp m0 m (a::b::ps) :=
 ⟨h.ext,fun p hp=>h.ok p (by rcases List.mem_cons.1 hp with rfl | hp; exact List.mem_cons_self .. ; rcases List.mem_cons.1 hp with rfl | hp; exact List.mem_cons_of_mem _ (List.mem_cons_self ..); exact List.mem_cons_of_mem _ (List.mem_cons_of_mem _ (List.mem_cons_of_mem _ hp))),h.apart.sublist (.cons_cons _ (.cons_cons _ (.cons _ (List.Sublist.refl _))))⟩
theorem Hp.Ff {R1 R2:Nat→Prop} {cs1 cs2:List Value} {L1 L2:List (List α)} (h:Hp m0 m (.gen (tC R1 w f cs1 L1)::.gen (tC R2 w f cs2 L2)::ps)):Hp m0 m (.gen (tC (fun b=>R1 b∨R2 b) w f (cs1++cs2) (L1++L2))::ps):=by
 have h1:=h.ok _ (List.mem_cons_self ..);have h2:=h.ok _ (List.mem_cons_of_mem _ (List.mem_cons_self ..));have ha:=List.pairwise_cons.1 h.apart;have hb:=List.pairwise_cons.1 ha.2;refine ⟨h.ext,fun p hp=>?_,List.pairwise_cons.2 ⟨fun r hr=>⟨fun b e1 e2=>?_,fun b e1 e2=>?_⟩,hb.2⟩⟩
 ·rcases List.mem_cons.1 hp with rfl | hp
  ·refine ⟨⟨⟨by rw [List.length_append,List.length_append,h1.1.1.1,h2.1.1.1],fun i l hi=>?_⟩,fun b hb=>hb.elim (h1.1.2 b) (h2.1.2 b)⟩,fun hf b hb=>hb.elim (h1.2 hf b) (h2.2 hf b)⟩
   by_cases hlt:i<L1.length
   ·rw [List.getElem?_append_left hlt] at hi;obtain ⟨a,c,e1,e2,e3⟩:=h1.1.1.2 i l hi;exact ⟨a,c,by rw [List.getElem?_append_left (by rw [h1.1.1.1]; exact hlt)]; exact e1,e2,fun b hb=>.inl (e3 b hb)⟩
   ·rw [List.getElem?_append_right (by omega)] at hi
    obtain ⟨a,c,e1,e2,e3⟩:=h2.1.1.2 _ l hi;exact ⟨a,c,by rw [List.getElem?_append_right (by rw [h1.1.1.1]; omega),h1.1.1.1]; exact e1,e2,fun b hb=>.inr (e3 b hb)⟩
  ·exact h.ok p (List.mem_cons_of_mem _ (List.mem_cons_of_mem _ hp))
 ·rcases e1 with e1 | e1
  ·cases e1.1
  ·rcases e1 with e1 | e1
   ·exact (ha.1 r (List.mem_cons_of_mem _ hr)).1 b (.inr e1) e2
   ·exact (hb.1 r hr).1 b (.inr e1) e2
 ·rcases e2 with e2 | e2 | e2
  ·cases e2
  ·rcases e2 with e2 | e2
   ·exact (ha.1 r (List.mem_cons_of_mem _ hr)).2 b e1 (.inr (.inl e2))
   ·exact (hb.1 r hr).2 b e1 (.inr (.inl e2))
  ·exact e2.elim
theorem tO.one {R:Nat→Prop} {cs:List Value} {L:List (List α)} (h:tO m R w f cs L):gU (cs.map fun c=>[c]):=fun e he=>by
 obtain ⟨c,hc,rfl⟩:=List.mem_map.1 he;obtain ⟨i,hi,rfl⟩:=List.mem_iff_getElem.1 hc;obtain ⟨a,cap,h1,_⟩:=h.2 i (L[i]'(by rw [← h.1]; exact hi)) (by simp)
 rw [List.getElem?_eq_getElem hi] at h1;rw [Option.some.inj h1]; rfl
theorem JS {elem ty2:TypeId} {k n1 n2:Nat} {a1 a2:Option Addr} {R1 R2:Nat→Prop} {L1 L2:List (List α)} {ars:Array Operand} (ht:SlT E.P ty elem 1) (ht2:∃ e2,E.P.underlying ty2=some (.slice e2)) (ha:eW E fs ars.toList=some [.slice a1 n1 n1,.slice a2 n2 n2]) (hp:pk ps k=some (.gen (n5 a1 n1 R1 w f L1))) (hl:iB (L1++L2).length=true) :
  Ox E m0 fs (.gen (n5 a2 n2 R2 w f L2)::ps) (.call ⟨.builtin .append,ars,#[ty,ty2]⟩) (fun r:Option Addr × (Nat→Prop)=>.slice r.1 (L1++L2).length (L1++L2).length) (fun r=>bN ps k (.gen (n5 r.1 (L1++L2).length r.2 w f (L1++L2)))):=fun t m hf hm=>⟨fun b hb=>(by simp [aB] at hb),fun K hK=>by
 have e2:=pM hm (k:=0) rfl;have e1:=pM hm (k:=k+1) hp;obtain ⟨cs2,h2⟩:=hm.AD (k:=0) rfl;obtain ⟨cs1,h1⟩:=h2.AD (k:=k+2) hp;have hsl:=h1.ok _ (List.mem_cons_of_mem _ (List.mem_cons_of_mem _ (List.mem_cons_self ..)));have hin:=h1.ok _ (List.mem_cons_of_mem _ (List.mem_cons_self ..));have hrd:Rd m a2 n2 1 n2 (cs2.map fun c=>[c]):=Pc.Gj hsl (.sl ..);obtain ⟨a',m',q1,q2⟩:=nb (n:=n1) (k:=k+3) ht ht2 h1 (AH (l:=ps) _ hp) hrd (fun e he=>by obtain ⟨c,_,rfl⟩:=List.mem_map.1 he; rfl) hin.1.1.one (by rw [e1,e2,← List.length_append]; exact hl)
 have hb:aJ E.P .append #[ty,ty2] [.slice a1 n1 n1,.slice a2 n2 n2] m=some (.slice a' (n1+n2) (n1+n2),m'):=q1;rw [Go.Ab.dF (hf.eW ha) hb];have hn:n1+n2=(L1++L2).length:=by rw [e1,e2,List.length_append]
 have q3:Hp m0 m' (.gen (tC R1 w f cs1 L1)::.gen (tC R2 w f cs2 L2)::.sl a2 1 n2 (cs2.map fun c=>[c])::bN ps k (.sl a' 1 (n1+n2) ((cs1.map fun c=>[c])++cs2.map fun c=>[c]))):=by
  have q2':Hp m0 m' (.gen (tC R1 w f cs1 L1)::.gen (tC R2 w f cs2 L2)::.sl a2 1 n2 (cs2.map fun c=>[c])::bN (bN ps k (.sl a1 1 n1 (cs1.map fun c=>[c]))) k (.sl a' 1 (n1+n2) ((cs1.map fun c=>[c])++cs2.map fun c=>[c]))):=q2;rwa [rN] at q2'
 have q4:=(q3.Ms.Ff).Jy (k:=k) (a:=a') (n:=n1+n2) (by rw [List.map_append]; exact AH _ hp)
 rw [rN,hn] at q4;rw [hn];exact hK (a',_) m' q4⟩
theorem EX {β:Type} {V:β→Value} {N:β→List Pc} {fo:Operand} {g:FuncId} {ars:Array Operand} {ts:Array TypeId} {args:List Value} (hf:ev E fs fo=some (.func (.func g) #[] #[])) (ha:eW E fs ars.toList=some args) (hc:∀ m,Hp m0 m ps→ay E g args m (fun v m'=>∃ x,v=V x∧Hp m m' (N x))) (ho:∀ x,∀ p ∈ N x,p.bound=true∧∀ b,p.any b→p.ow b):Ox E m0 fs ps (.call ⟨.value fo,ars,ts⟩) V (fun x=>N x++ps) :=
 kB hf ha fun m hm=>by
  simp only [List.nil_append,List.append_nil];exact (hc m hm).mono fun v m' ⟨x,e,h⟩=>⟨x,e,hm.yB h (fun p hp=>(ho x p hp).1) fun p hp b hb=>.inl (Pc.iw (h.ok p hp) (ho x p hp).1 ((ho x p hp).2 b hb))⟩
theorem MT {β:Type} {V:β→Value} {N:β→List Pc} {fo:Operand} {g:FuncId} {ars:Array Operand} {ts:Array TypeId} {args:List Value} (hf:ev E fs fo=some (.func (.func g) #[] #[])) (ha:eW E fs ars.toList=some args) (hc:∀ m,Hp m0 m ps→ay E g args m (fun v m'=>∃ x,v=V x∧Hp m m' (N x))) (ho:∀ x,∀ p ∈ N x,p.bound=true∧∀ b,p.any b→p.ow b):Oc E m0 fs ps (.call ⟨.value fo,ars,ts⟩) V (fun x=>N x++ps) :=
 fun t m hfr hm hwl=>⟨fun b hb=>(by simp [aB] at hb),fun K hK=>by
  show gx E (ak E t fo) (aW E t ars.toList) m _
  rw [hfr.ev hf,hfr.eW ha,gi];refine (hc m hm).mono fun v m' ⟨x,e,h⟩=>?_;rw [e];refine hK x m' (hm.yB h (fun p hp=>(ho x p hp).1) fun p hp b hb=>.inl (Pc.iw (h.ok p hp) (ho x p hp).1 ((ho x p hp).2 b hb))) ?_;have:=h.ext.wl;omega⟩
theorem lR {a:Option Addr} {n:Nat} {R:Nat→Prop} {L:List (List α)}:∀ p ∈ [Pc.gen (n5 a n R w f L)],p.bound=true∧∀ b,p.any b→p.ow b:=fun p hp=>by
 rw [List.mem_singleton.1 hp];exact ⟨rfl,fun b hb=>hb.elim (fun h=>by cases h) fun h=>.inr (h.elim id fun h=>h.elim)⟩
theorem GG {β:Type} {V:β→Value} {N:β→List Pc} {x:Operand} {b off:Nat} (hx:ev E fs x=some (ptr b off)) (hb:∀ m,Hp m0 m ps→b<m.next) (h:∀ m,Hp m0 m ps→∃ z,cf E.P ty (ptr b off) m=some (V z)∧Hp m0 m (N z)):Ox E m0 fs ps (.load ty x) V N :=
 fun t m hf hm=>⟨fun b' hb'=>by
  have hx':ak E t x=some (ptr b off):=hf.ev hx;simp only [aB,hx',Option.bind_some] at hb';cases hb'; exact hb m hm,fun K hK=>by
  obtain ⟨z,h1,h2⟩:=h m hm;rw [Go.Ab.mO (hf.ev hx) h1]; exact hK z m h2⟩
theorem IP {elem:TypeId} {len:Nat} {parts:Array (Nat × Operand)} {vs:List (Nat × Value)} {es:List (List Value)} (ht:SlT E.P ty elem w) (h:C8 E fs parts.toList=some vs) (hf:LZ E.P elem w len vs=some es.flatten) (hl:Nat.beq es.length len=true) (hw:C0 w es=true) :
  Ox E m0 fs ps (.buildSlice ty len parts) (fun b=>.slice (some ⟨b,0,none⟩) len len) (fun b=>.obj b (.cells es.flatten .own)::ps):=fun t m hfr hm=>⟨(jv ht h hf hl hw t m hfr hm).1,fun K hK=>(jv ht h hf hl hw t m hfr hm).2 K fun b m' hm'=>hK b m' ⟨hm'.ext,fun p hp=>by
  have h0:=hm'.ok _ (List.mem_cons_self ..);rcases List.mem_cons.1 hp with rfl | hp
  ·exact ⟨h0.1,h0.2.1,h0.2.2.1⟩
  ·exact hm'.ok p (List.mem_cons_of_mem _ hp),List.pairwise_cons.2 ⟨fun r hr=>(List.pairwise_cons.1 hm'.apart).1 r hr,(List.pairwise_cons.1 hm'.apart).2⟩⟩⟩
theorem al.Oh {k b n:Nat} {cs:List Value} {es:List (List Value)} (hp:pk ps k=some (.obj b (.cells cs .own))) (hcs:es.flatten=cs) (hn:Nat.beq es.length n=true) (hw:C0 w es=true) (h0:Nat.blt 0 w=true):al m0 ps (bN ps k (.sl (some ⟨b,0,none⟩) w n es)):=fun m h=>by
 have hk:=h.get hp;exact h.put hp rfl rfl rfl (Nat.le_refl _) h.ext (.inr ⟨b,.own,rfl,hk.1,hk.2.1,by rw [hcs]; exact hk.2.2,Nat.eq_of_beq_eq_true hn,uu hw,.inl rfl,by rwa [Nat.blt_eq] at h0⟩) fun _ _ _=>rfl
theorem Mw {elem ty2:TypeId} {k k2 n n2 n3:Nat} {a a2:Option Addr} {es es2 es3:List (List Value)} {ars:Array Operand} (ht:SlT E.P ty elem w) (ht2:∃ e2,E.P.underlying ty2=some (.slice e2)) (ha:eW E fs ars.toList=some [.slice a n n,.slice a2 n2 n2]) (hp:pk ps k=some (.sl a w n es)) (hp2:pk ps k2=some (.sl a2 w n2 es2)) (hw2:C0 w es2=true) (ho:(es2.all fun e=>e.all kA)=true) (h3:es++es2=es3) (hn:n+n2=n3) (hl:iB n3=true) :
  Ox E m0 fs ps (.call ⟨.builtin .append,ars,#[ty,ty2]⟩) (fun a':Option Addr=>.slice a' n3 n3) (fun a'=>bN ps k (.sl a' w n3 es3)):=by
 subst h3 hn;exact ML ht ht2 ha hp hp2 (.sl ..) (uu hw2) (fun e he=>List.all_eq_true.1 ho e he) hl
theorem NL {P:Program} {sz b n j k:Nat} {es:List (List Value)} {tg:Tag} {e:List Value} {v:Value} (hm:Hp m0 m ps) (ht:TyI P ty true sz) (hp:pk ps k=some (.arr b w n es tg)) (he:es[j]? = some e) (hv:xw true sz e 0=some v) (hs:ym true sz 0 w=true):cf P ty (ptr b (j*w+0)) m=some v:=by
 have hs:=tw hs;have:=mL (P:=P) ht (vS.Jj (hm.get hp)) he hv hs.1 hs.2;rwa [Nat.zero_add] at this
end
section
variable {α : Type} {E : Env} {n : Nat} {m0 m : AMem} {fs : Fs} {ps : List Pc} {f : α → List Value} {w : Nat} {ops : Array Oper} {os : List Oper} {prs : List (Nat × Nat)} {K : Tm → AMem → Prop} {ss : List Nk}
theorem Wn.vR {k l:Nat} {a:Option Addr} {R:Nat→Prop} {L:List (List α)} (hp:pk ps k=some (.gen (n5 a l R w f L))) (h:l=L.length→Wn E n ops prs K os ss m0 fs ps):Wn E n ops prs K os ss m0 fs ps :=
 fun t m ns hf hm hn=>h (pM hm hp) t m ns hf hm hn
theorem Wn.Cv {k l cap:Nat} {a:Option Addr} {R:Nat→Prop} {L:List (List α)} (hp:pk ps k=some (.gen (B5 a l cap R w f L))) (h0:0<l) (h:∀ b,a=some ⟨b,0,none⟩→Wn E n ops prs K os ss m0 fs ps):Wn E n ops prs K os ss m0 fs ps :=
 fun t m ns hf hm hn=>(uz hm hp h0).elim fun b e=>h b e t m ns hf hm hn
end
end Go.Ab.W
end

section
namespace Go.Ab.W
open Go Go.Ab
attribute [local irreducible] Tm.at Trie.set Trie.get AMem.get AMem.set AMem.alloc AMem.ww AMem.kill
def AW (m:AMem) (RW:Nat→Prop) (rb:Nat) (row:List (Bool × List Nat)):Prop :=
 rb<m.next∧∃ vs,m.get rb=some (.cells vs .own)∧vs.length=row.length*2∧∀ (j:Nat) (x:Bool × List Nat),row[j]? = some x→vs[j*2]? = some (.bool x.1)∧∃ a c,vs[j*2+1]? = some (.slice a x.2.length c)∧Rd m a c 1 x.2.length (x.2.map (eN .u64))∧∀ b,dm a=some b→RW b
theorem AW.dc {m m':AMem} {RW RW':Nat→Prop} {rb:Nat} {row:List (Bool × List Nat)} (h:AW m RW rb row) (hn:m.next≤m'.next) (hg:∀ b,(b=rb∨RW b)→b<m.next→m'.get b=m.get b) (hs:∀ b,RW b→RW' b):AW m' RW' rb row:=by
 obtain ⟨h1,vs,h2,h3,h4⟩:=h;refine ⟨Nat.lt_of_lt_of_le h1 hn,vs,by rw [hg rb (.inl rfl) h1]; exact h2,h3,fun j x hx=>?_⟩
 obtain ⟨g1,a,c,g2,g3,g4⟩:=h4 j x hx;exact ⟨g1,a,c,g2,g3.dc hn fun b hb hlt=>hg b (.inr (g4 b hb)) hlt,fun b hb=>hs b (g4 b hb)⟩
def uh (ρ:Nat→Nat) (L:List (List (Bool × List Nat))) (x:Nat):Prop:=∃ i row,L[i]? = some row∧row≠[]∧x=ρ i
structure MatAt (m:AMem) (b n:Nat) (ρ:Nat→Nat) (RW:Nat→Prop) (L:List (List (Bool × List Nat))):Prop where
 lt:b<m.next
 len:n=L.length
 cells:∃ cs,m.get b=some (.cells cs .own)∧cs.length=n∧∀ (i:Nat) (row:List (Bool × List Nat)),L[i]? = some row→(row = []∧cs[i]? = some (.slice none 0 0))∨(row≠[]∧cs[i]? = some (.slice (some ⟨ρ i,0,none⟩) row.length row.length))
 rows:∀ (i:Nat) (row:List (Bool × List Nat)),L[i]? = some row→row≠[]→AW m RW (ρ i) row
 rw:∀ x,RW x→x<m.next∧x≠b∧¬ uh ρ L x
 out:∀ (i:Nat) (row:List (Bool × List Nat)),L[i]? = some row→row≠[]→ρ i≠b
 inj:∀ (i j:Nat) (row row':List (Bool × List Nat)),L[i]? = some row→L[j]? = some row'→row≠[]→row'≠[]→ρ i=ρ j→i=j
def dn (b n:Nat) (ρ:Nat→Nat) (RW:Nat→Prop) (L:List (List (Bool × List Nat))):GPc where
 ow x:=x=b∨uh ρ L x
 rd x:=RW x
 P m:=MatAt m b n ρ RW L
 st m m' h hn hg:=by
  refine ⟨Nat.lt_of_lt_of_le h.lt hn,h.len,?_,fun i row hi hne=>(h.rows i row hi hne).dc hn (fun x hx hlt=>?_) fun _ h=>h,fun x hx=>⟨Nat.lt_of_lt_of_le (h.rw x hx).1 hn,(h.rw x hx).2⟩,h.out,h.inj⟩
  ·obtain ⟨cs,h1,h2⟩:=h.cells;exact ⟨cs,by rw [hg b (.inl (.inl rfl)) h.lt]; exact h1,h2⟩
  ·rcases hx with rfl | hx
   ·exact hg _ (.inl (.inr ⟨i,row,hi,hne,rfl⟩)) hlt
   ·exact hg _ (.inr hx) hlt
 lt m x h hx:=by
  rcases hx with (rfl | ⟨i,row,h1,h2,rfl⟩) | hx
  ·exact h.lt
  ·exact (h.rows i row h1 h2).1
  ·exact (h.rw x hx).1
theorem o9 {b n:Nat} {ρ:Nat→Nat} {RW:Nat→Prop} {L:List (List (Bool × List Nat))}:∀ x,dm (some ⟨b,0,none⟩)=some x→Pc.any (.gen (dn b n ρ RW L)) x:=fun x h=>by cases h; exact .inr (.inl (.inl rfl))
section
variable {E : Env} {m0 m : AMem} {fs : Fs} {ps : List Pc} {x y : Operand} {ty : TypeId} {b n : Nat} {ρ : Nat → Nat} {RW : Nat → Prop} {L : List (List (Bool × List Nat))}
theorem mX (v:Value):∀ n:Nat,(List.replicate n [v]).flatten=List.replicate n v
 | 0=>rfl
 | n+1=>by rw [List.replicate_succ,List.flatten_cons,mX v n,List.replicate_succ]; rfl
theorem al.MU:al m0 (.arr b 1 n (List.replicate n [.slice none 0 0]) .own::ps) (.gen (dn b n (fun _=>0) (fun _=>False) (List.replicate n []))::ps):=fun m h=>by
 have h0:vS m0.next m b 1 n (List.replicate n [.slice none 0 0]) .own:=h.ok _ (List.mem_cons_self ..)
 have hno:∀ x,¬ uh (fun _=>0) (List.replicate n []) x:=fun x ⟨i,row,h1,h2,_⟩=>h2 (List.eq_of_mem_replicate (List.mem_of_getElem? h1));have ha:=List.pairwise_cons.1 h.apart;refine ⟨h.ext,fun p hp=>?_,List.pairwise_cons.2 ⟨fun r hr=>⟨fun z h1 h2=>?_,fun z h1 h2=>?_⟩,ha.2⟩⟩
 ·rcases List.mem_cons.1 hp with rfl | hp
  ·refine ⟨⟨h0.2.1,by simp,⟨_,h0.2.2.1,by rw [mX]; simp,fun i row hi=>.inl ⟨List.eq_of_mem_replicate (List.mem_of_getElem? hi),?_⟩⟩,fun i row hi hne=>absurd (List.eq_of_mem_replicate (List.mem_of_getElem? hi)) hne,fun x hx=>hx.elim,fun i row hi hne=>absurd (List.eq_of_mem_replicate (List.mem_of_getElem? hi)) hne,fun i j row row' hi _ hne=>absurd (List.eq_of_mem_replicate (List.mem_of_getElem? hi)) hne⟩,fun _ z hz=>?_⟩
   ·have hlt:=(List.getElem?_eq_some_iff.1 hi).1;rw [mX,List.getElem?_replicate,if_pos (by simpa using hlt)]
   ·rcases hz with rfl | hz
    ·exact h0.1
    ·exact absurd hz (hno z)
  ·exact h.ok p (List.mem_cons_of_mem _ hp)
 ·rcases h1 with h1 | h1
  ·cases h1.1
  ·rcases h1 with rfl | h1
   ·exact (ha.1 r hr).1 _ (.inl ⟨rfl,rfl⟩) h2
   ·exact absurd h1 (hno z)
 ·rcases h2 with h2 | h2
  ·cases h2
  ·rcases h2 with (rfl | h2) | h2
   ·exact (ha.1 r hr).2 _ h1 (.inl rfl)
   ·exact absurd h2 (hno z)
   ·exact h2.elim
theorem AP (l:Nat):∀ j,j<l→(List.replicate l [Value.bool false,.slice none 0 0]).flatten[j*2]? = some (.bool false)∧(List.replicate l [Value.bool false,.slice none 0 0]).flatten[j*2+1]? = some (.slice none 0 0):=by
 induction l with
 | zero=>intro j h; cases h
 | succ l ih =>
  intro j hj;rw [List.replicate_succ,List.flatten_cons];cases j with
  | zero=>exact ⟨rfl,rfl⟩
  | succ j =>
   have:=ih j (by omega)
   refine ⟨?_,?_⟩
   ·rw [show (j+1)*2=j*2+2 by omega]; exact this.1
   ·rw [show (j+1)*2+1=(j*2+1)+2 by omega]; exact this.2
theorem Eg (l:Nat):(List.replicate l [Value.bool false,.slice none 0 0]).flatten.length=l*2:=by
 induction l with
 | zero=>rfl
 | succ l ih=>rw [List.replicate_succ,List.flatten_cons,List.length_append,ih]; simp only [List.length_cons,List.length_nil]; omega
theorem at_set {α:Type} {l:List α} {i j:Nat} {v x:α} (h:(l.set i v)[j]? = some x):(i=j∧x=v∧j<l.length)∨(i≠j∧l[j]? = some x):=by
 rw [List.getElem?_set] at h
 by_cases e:i=j
 ·rw [if_pos e] at h
  split at h
  ·exact .inl ⟨e,(Option.some.inj h).symm,by omega⟩
  ·cases h
 ·rw [if_neg e] at h; exact .inr ⟨e,h⟩
theorem GK {k l i off rb:Nat} {row0:List (Bool × List Nat)} (ht:TyI E.P ty false 1) (hx:ev E fs x=some (ptr b off)) (ho:off=i) (hy:ev E fs y=some (.slice (some ⟨rb,0,none⟩) l l)) (hp:pk ps k=some (.gen (dn b n ρ RW L))) (he:L[i]? = some row0) (hl:0<l) :
  Od E m0 fs (.arr rb 2 l (List.replicate l [.bool false,.slice none 0 0]) .own::ps) (.store ty x y) undef (bN ps k (.gen (dn b n (fun j=>if j=i then rb else ρ j) RW (L.set i (List.replicate l (false,[])))))):=fun t m hf h=>⟨fun b' hb'=>(by simp [aB] at hb'),fun K hK=>by
 subst ho;have hk:=h.get (k:=k+1) hp;have hP:MatAt m b n ρ RW L:=hk.1;have h0:vS m0.next m rb 2 l (List.replicate l [.bool false,.slice none 0 0]) .own:=h.ok _ (List.mem_cons_self ..)
 have ha:=(List.pairwise_cons.1 h.apart).1;have hak:=ha _ (eV hp);have hi:off<L.length:=(List.getElem?_eq_some_iff.1 he).1;obtain ⟨cs,c1,c2,c3⟩:=hP.cells;have hst:cZ E.P ty (ptr b off) (.slice (some ⟨rb,0,none⟩) l l) m=some (m.set b (.cells (cs.set off (.slice (some ⟨rb,0,none⟩) l l)) .own)):=Dp ht.known ht.size rfl c1 (by rw [c2,hP.len]; exact hi)
 have e:=Go.Ab.uI (t:=t) (E:=E) (hf.ev hx) (hf.ev hy) hst K;rw [e];have hrbb:rb≠b:=fun e=>hak.1 rb (.inl ⟨rfl,rfl⟩) (.inr (.inl (.inl e)));have hrbm:¬ uh ρ L rb:=fun g=>hak.1 rb (.inl ⟨rfl,rfl⟩) (.inr (.inl (.inr g)));have hrbw:¬ RW rb:=fun g=>hak.1 rb (.inl ⟨rfl,rfl⟩) (.inr (.inr g));have hget:∀ z,z≠b→(m.set b (.cells (cs.set off (.slice (some ⟨rb,0,none⟩) l l)) .own)).get z=m.get z:=fun z hz=>by rw [AMem.bt,if_neg hz]
 have hnext:(m.set b (.cells (cs.set off (.slice (some ⟨rb,0,none⟩) l l)) .own)).next=m.next:=AMem.next_set ..
 have hne:(List.replicate l ((false,[]):Bool × List Nat))≠[]:=by
  intro e;have:=congrArg List.length e;simp at this; omega
 have hmr:∀ z,uh (fun j=>if j=off then rb else ρ j) (L.set off (List.replicate l (false,[]))) z→z=rb∨uh ρ L z:=fun z ⟨j,row,g1,g2,g3⟩=>by
  rcases at_set g1 with ⟨e1,_,_⟩ | ⟨e1,g4⟩
  ·simp only [if_pos e1.symm] at g3; exact .inl g3
  ·simp only [if_neg (fun e:j=off=>e1 e.symm)] at g3; exact .inr ⟨j,row,g4,g2,g3⟩
 refine hK _ ⟨h.ext.set (Pc.iw hk rfl (.inr (.inl rfl))) _,fun p hpm=>?_,cC hp (fun r hr hap=>⟨fun z g1 g2=>?_,fun z g1 g2=>?_⟩) (List.pairwise_cons.1 h.apart).2⟩
 ·rcases jW hp (List.pairwise_cons.1 h.apart).2 hpm with rfl | ⟨hpm,hap⟩
  ·refine ⟨⟨by rw [hnext]; exact hP.lt,by rw [List.length_set]; exact hP.len,⟨_,by rw [AMem.bt,if_pos rfl],by rw [List.length_set]; exact c2,fun j row hj=>?_⟩,fun j row hj hne'=>?_,fun z hz=>⟨by rw [hnext]; exact (hP.rw z hz).1,(hP.rw z hz).2.1,fun g=>?_⟩,fun j row hj hne'=>?_,fun j j' row row' hj hj' hne1 hne2 heq=>?_⟩,fun _ z hz=>?_⟩
   ·rcases at_set hj with ⟨e1,rfl,_⟩ | ⟨e1,g4⟩
    ·subst e1;refine .inr ⟨hne,?_⟩;rw [List.getElem?_set_self (by rw [c2,hP.len]; exact hi)]
     simp
    ·rw [List.getElem?_set_ne e1];simp only [if_neg (fun e:j=off=>e1 e.symm)];exact c3 j row g4
   ·rcases at_set hj with ⟨e1,rfl,_⟩ | ⟨e1,g4⟩
    ·subst e1;simp only [if_true];refine ⟨by rw [hnext]; exact h0.2.1,_,by rw [hget rb hrbb]; exact h0.2.2.1,by rw [Eg]; simp,fun j x hx=>?_⟩
     have hjl:j<l:=by have:=(List.getElem?_eq_some_iff.1 hx).1; simpa using this
     have hx':x=(false,[]):=List.eq_of_mem_replicate (List.mem_of_getElem? hx);subst hx';exact ⟨(AP l j hjl).1,none,0,(AP l j hjl).2,Rd.nil _ _,fun _ h=>by cases h⟩
    ·simp only [if_neg (fun e:j=off=>e1 e.symm)];exact (hP.rows j row g4 hne').dc (by rw [hnext]; exact Nat.le_refl _) (fun z hz _=>hget z (fun e=>by
      rcases hz with hz | hz
      ·exact hP.out j row g4 hne' (by rw [← hz]; exact e)
      ·exact (hP.rw z hz).2.1 e)) fun _ h=>h
   ·rcases hmr z g with rfl | g
    ·exact hrbw hz
    ·exact (hP.rw z hz).2.2 g
   ·rcases at_set hj with ⟨e1,_,_⟩ | ⟨e1,g4⟩
    ·simp only [if_pos e1.symm]; exact hrbb
    ·simp only [if_neg (fun e:j=off=>e1 e.symm)]; exact hP.out j row g4 hne'
   ·rcases at_set hj with ⟨e1,_,_⟩ | ⟨e1,g4⟩ <;> rcases at_set hj' with ⟨e2,_,_⟩ | ⟨e2,g5⟩
    ·exact e1.symm.trans e2
    ·simp only [if_pos e1.symm,if_neg (fun e:j'=off=>e2 e.symm)] at heq;exact absurd ⟨j',row',g5,hne2,heq⟩ hrbm
    ·simp only [if_neg (fun e:j=off=>e1 e.symm),if_pos e2.symm] at heq;exact absurd ⟨j,row,g4,hne1,heq.symm⟩ hrbm
    ·simp only [if_neg (fun e:j=off=>e1 e.symm),if_neg (fun e:j'=off=>e2 e.symm)] at heq;exact hP.inj j j' row row' g4 g5 hne1 hne2 heq
   ·rcases hz with rfl | hz
    ·exact Pc.iw hk rfl (.inr (.inl rfl))
    ·rcases hmr z hz with rfl | hz
     ·exact h0.1
     ·exact Pc.iw hk rfl (.inr (.inr hz))
  ·exact Pc.eU (h.ok p (List.mem_cons_of_mem _ hpm)) (by rw [hnext]; exact Nat.le_refl _) fun z hz _=>hget z fun e=>hap.2 z (.inr (.inl e)) hz
 ·rcases g1 with g1 | g1
  ·cases g1.1
  ·rcases g1 with rfl | g1
   ·exact hap.1 _ (.inr (.inl rfl)) g2
   ·rcases hmr z g1 with rfl | g1
    ·exact (ha r hr).1 _ (.inl ⟨rfl,rfl⟩) g2
    ·exact hap.1 _ (.inr (.inr g1)) g2
 ·rcases g2 with g2 | g2
  ·cases g2
  ·rcases g2 with (rfl | g2) | g2
   ·exact hap.2 _ g1 (.inr (.inl (.inl rfl)))
   ·rcases hmr z g2 with rfl | g2
    ·exact (ha r hr).2 _ g1 (.inl rfl)
    ·exact hap.2 _ g1 (.inr (.inl (.inr g2)))
   ·exact hap.2 _ g1 (.inr (.inr g2))⟩
theorem dj {k i off:Nat} {row:List (Bool × List Nat)} (ht:TyI E.P ty false 1) (hx:ev E fs x=some (ptr b off)) (ho:off=i) (hp:pk ps k=some (.gen (dn b n ρ RW L))) (he:L[i]? = some row) (hl:0<row.length) :
  Ox E m0 fs ps (.load ty x) (fun r:{ rb:Nat // ρ i=rb}=>.slice (some ⟨r.1,0,none⟩) row.length row.length) (fun _=>ps):=fun t m hf h=>by
 subst ho;have hP:MatAt m b n ρ RW L:=(h.get hp).1;obtain ⟨cs,c1,c2,c3⟩:=hP.cells;have hne:row≠[]:=fun e=>by rw [e] at hl; cases hl
 have hc:cs[off]? = some (.slice (some ⟨ρ off,0,none⟩) row.length row.length):=((c3 off row he).resolve_left fun g=>hne g.1).2;refine ⟨fun b' hb'=>?_,fun K hK=>?_⟩
 ·have hx':ak E t x=some (ptr b off):=hf.ev hx;simp only [aB,hx',Option.bind_some] at hb';cases hb'; exact hP.lt
 ·rw [Go.Ab.mO (hf.ev hx) (oI ht.known ht.agg c1 hc)];exact hK ⟨ρ off,rfl⟩ m h
theorem gW {k i j off rb:Nat} {row:List (Bool × List Nat)} {e:Bool} {w:List Nat} (ht:TyI E.P ty true 2) (hx:ev E fs x=some (ptr rb off)) (ho:off=j*2+0) (hp:pk ps k=some (.gen (dn b n ρ RW L))) (he:L[i]? = some row) (hrb:ρ i=rb) (hj:row[j]? = some (e,w)) :
  Ox E m0 fs ps (.load ty x) (fun r:Option Addr × Nat=>.agg #[.bool e,.slice r.1 w.length r.2]) (fun r=>.rd r.1 r.2 1 w.length (w.map (eN .u64))::ps):=fun t m hf h=>by
 subst ho hrb;have hk:=h.get hp;have hP:MatAt m b n ρ RW L:=hk.1;have hne:row≠[]:=fun e=>by rw [e] at hj; simp at hj
 obtain ⟨h1,vs,h2,h3,h4⟩:=hP.rows i row he hne;obtain ⟨g1,a,c,g2,g3,g4⟩:=h4 j (e,w) hj;refine ⟨fun b' hb'=>?_,fun K hK=>?_⟩
 ·have hx':ak E t x=some (ptr (ρ i) (j*2+0)):=hf.ev hx;simp only [aB,hx',Option.bind_some] at hb';cases hb'; exact h1
 ·have htk:(vs.drop (j*2+0)).take 2 = [.bool e,.slice a w.length c]:=by
   refine List.ext_getElem? fun i=>?_;rw [List.getElem?_take];rcases i with _ | _ | i
   ·rw [if_pos (by decide),List.getElem?_drop]; exact g1
   ·rw [if_pos (by decide),List.getElem?_drop]; exact g2
   ·rw [if_neg (by omega)]; rfl
  have hld:cf E.P ty (ptr (ρ i) (j*2+0)) m=some (.agg #[.bool e,.slice a w.length c]):=AA ht.known ht.agg ht.size h2 htk rfl;rw [Go.Ab.mO (hf.ev hx) hld];refine hK (a,c) m ⟨h.ext,fun p hpm=>?_,List.pairwise_cons.2 ⟨fun r hr=>⟨fun z a1 _=>?_,fun z a1 a2=>?_⟩,h.apart⟩⟩
  ·rcases List.mem_cons.1 hpm with rfl | hpm
   ·exact g3
   ·exact h.ok p hpm
  ·exact a1.elim (fun a1=>by cases a1.1) fun a1=>a1.elim
  ·have hz:RW z:=g4 z (a2.elim id fun a2=>a2.elim);obtain ⟨k',hk'⟩:=nE hr
   by_cases hkk:k=k'
   ·subst hkk;rw [hp] at hk';cases hk';rcases a1 with a1 | a1
    ·cases a1.1
    ·exact a1.elim (hP.rw z hz).2.1 (hP.rw z hz).2.2
   ·exact (fX h.apart hp hk' hkk).2 z a1 (.inr (.inr hz))
theorem pK {k k2 i j off rb c:Nat} {row:List (Bool × List Nat)} {e:Bool} {a:Option Addr} {w:List Nat} {p2:Pc} (ht:TyI E.P ty true 2) (hx:ev E fs x=some (ptr rb off)) (ho:off=j*2+0) (hy:ev E fs y=some (.agg #[.bool e,.slice a w.length c])) (hp:pk ps k=some (.gen (dn b n ρ RW L))) (he:L[i]? = some row) (hrb:ρ i=rb) (hj:Nat.blt j row.length=true) (hw:(pk ps k2=some p2∧p2 = .rd a c 1 w.length (w.map (eN .u64)))∨(a=none∧w = [])) :
  Od E m0 fs ps (.store ty x y) undef (bN ps k (.gen (dn b n ρ (fun z=>RW z∨dm a=some z) (L.set i (row.set j (e,w)))))):=fun t m hf h=>⟨fun b' hb'=>(by simp [aB] at hb'),fun K hK=>by
 subst ho hrb;have hj:j<row.length:=by rwa [Nat.blt_eq] at hj
 have hk:=h.get hp;have hP:MatAt m b n ρ RW L:=hk.1;have hne:row≠[]:=fun e=>by rw [e] at hj; cases hj
 have hrd:∃ c',Rd m a c' 1 w.length (w.map (eN .u64))∧(a≠none→c'=c):=by
  rcases hw with ⟨hw,rfl⟩ | ⟨rfl,rfl⟩
  ·exact ⟨c,h.get hw,fun _=>rfl⟩
  ·exact ⟨0,Rd.nil _ _,fun g=>absurd rfl g⟩
 have haw:∀ z,dm a=some z→z<m.next∧¬ Pc.ow (.gen (dn b n ρ RW L)) z∧∀ r ∈ ps,¬ r.ow z:=by
  rcases hw with ⟨hw,rfl⟩ | ⟨rfl,_⟩
  ·intro z hz;have hno:∀ r ∈ ps,¬ r.ow z:=fun r hr g=>by
    obtain ⟨k',hk'⟩:=nE hr
    by_cases hkk:k2=k'
    ·subst hkk; rw [hw] at hk'; cases hk';exact g.elim (fun g=>by cases g.1) fun g=>g.elim
    ·exact (fX h.apart hw hk' hkk).2 z g (.inl hz)
   exact ⟨Rd.lt (h.get hw) hz,hno _ (eV hp),hno⟩
  ·intro z hz; cases hz
 obtain ⟨h1,vs,h2,h3,h4⟩:=hP.rows i row he hne;have hcs:(Value.agg #[.bool e,.slice a w.length c]).cells=#[.bool e,.slice a w.length c]:=rfl;have hst:cZ E.P ty (ptr (ρ i) (j*2+0)) (.agg #[.bool e,.slice a w.length c]) m=some (m.set (ρ i) (.cells (aA vs (j*2+0) [.bool e,.slice a w.length c]) .own)):=uY ht.known (by rw [ht.size]; rfl) rfl (by rw [hcs]; simp) h2 (by rw [hcs]; simp only [List.length_cons,List.length_nil]; omega)
 have e0:=Go.Ab.uI (t:=t) (E:=E) (hf.ev hx) (hf.ev hy) hst K;rw [e0];have hnext:(m.set (ρ i) (.cells (aA vs (j*2+0) [.bool e,.slice a w.length c]) .own)).next=m.next:=AMem.next_set ..
 have hget:∀ z,z≠ρ i→(m.set (ρ i) (.cells (aA vs (j*2+0) [.bool e,.slice a w.length c]) .own)).get z=m.get z:=fun z hz=>by rw [AMem.bt,if_neg hz]
 have hself:uh ρ L (ρ i):=⟨i,row,he,hne,rfl⟩;have hmr:∀ z,uh ρ (L.set i (row.set j (e,w))) z↔uh ρ L z:=fun z=>by
  constructor
  ·rintro ⟨q,r,q1,q2,q3⟩;rcases at_set q1 with ⟨e1,_,_⟩ | ⟨e1,q4⟩
   ·subst e1; rw [q3]; exact hself
   ·exact ⟨q,r,q4,q2,q3⟩
  ·rintro ⟨q,r,q1,q2,q3⟩
   by_cases e1:i=q
   ·subst e1;refine ⟨i,row.set j (e,w),by rw [List.getElem?_set_self (List.getElem?_eq_some_iff.1 he).1],fun g=>?_,q3⟩
    have:=congrArg List.length g;rw [List.length_set] at this;simp at this;exact hne this
   ·exact ⟨q,r,by rw [List.getElem?_set_ne e1]; exact q1,q2,q3⟩
 have hne2:row.set j (e,w)≠[]:=fun g=>by
  have:=congrArg List.length g;rw [List.length_set] at this;simp at this;exact hne this
 have hap:∀ z,dm a=some z→z≠ρ i:=fun z hz g=>(haw z hz).2.1 (.inr (.inr (g ▸ hself)));refine hK _ ⟨h.ext.set (Pc.iw hk rfl (.inr (.inr hself))) _,fun p hpm=>?_,cC hp (fun r hr hapr=>⟨fun z g1 g2=>?_,fun z g1 g2=>?_⟩) h.apart⟩
 ·rcases jW hp h.apart hpm with rfl | ⟨hpm,hap2⟩
  ·refine ⟨⟨by rw [hnext]; exact hP.lt,by rw [List.length_set]; exact hP.len,?_,fun q r hq hr=>?_,fun z hz=>?_,fun q r hq hr=>?_,fun q q' r r' hq hq' hr hr' heq=>?_⟩,fun _ z hz=>?_⟩
   ·obtain ⟨cs,c1,c2,c3⟩:=hP.cells;refine ⟨cs,by rw [hget b fun g=>hP.out i row he hne g.symm]; exact c1,c2,fun q r hq=>?_⟩
    rcases at_set hq with ⟨e1,rfl,_⟩ | ⟨e1,q4⟩
    ·subst e1;exact .inr ⟨hne2,by rw [List.length_set]; exact ((c3 i row he).resolve_left fun g=>hne g.1).2⟩
    ·exact c3 q r q4
   ·rcases at_set hq with ⟨e1,rfl,_⟩ | ⟨e1,q4⟩
    ·subst e1;refine ⟨by rw [hnext]; exact h1,_,by rw [AMem.bt,if_pos rfl],by rw [bU,h3,List.length_set],fun q v hv=>?_⟩
     rcases at_set hv with ⟨e2,rfl,q5⟩ | ⟨e2,q5⟩
     ·subst e2;obtain ⟨c',r1,r2⟩:=hrd;refine ⟨by rw [bq,if_pos ⟨by omega,by simp only [List.length_cons,List.length_nil]; omega,by omega⟩]; simp,a,c,by rw [bq,if_pos ⟨by omega,by simp only [List.length_cons,List.length_nil]; omega,by omega⟩]; simp,?_,fun z hz=>.inr hz⟩
      have r3:Rd (m.set (ρ i) (.cells (aA vs (j*2+0) [.bool e,.slice a w.length c]) .own)) a c' 1 w.length (w.map (eN .u64)):=r1.dc (by rw [hnext]; exact Nat.le_refl _) fun z hz _=>hget z (hap z hz)
      cases a with
      | none =>
       have r4:w.length=0:=by
        rcases r3.2.2 with ⟨_,g⟩ | ⟨_,_,g,_⟩ | ⟨_,_,g,_⟩
        ·exact g
        ·cases g
        ·cases g
       exact ⟨r3.1,by show w.length≤c; omega,.inl ⟨rfl,r4⟩⟩
      | some ad=>rw [r2 (by simp)] at r3; exact r3
     ·obtain ⟨s1,a',c',s2,s3,s4⟩:=h4 q v q5;refine ⟨by rw [bq,if_neg (by simp only [List.length_cons,List.length_nil]; omega)]; exact s1,a',c',by rw [bq,if_neg (by simp only [List.length_cons,List.length_nil]; omega)]; exact s2,s3.dc (by rw [hnext]; exact Nat.le_refl _) (fun z hz _=>hget z fun g=>(hP.rw z (s4 z hz)).2.2 (g ▸ hself)),fun z hz=>.inl (s4 z hz)⟩
    ·refine (hP.rows q r q4 hr).dc (by rw [hnext]; exact Nat.le_refl _) (fun z hz _=>hget z fun g=>?_) fun z hz=>.inl hz
     rcases hz with rfl | hz
     ·exact e1 (hP.inj q i r row q4 he hr hne g).symm
     ·exact (hP.rw z hz).2.2 (g ▸ hself)
   ·rcases hz with hz | hz
    ·exact ⟨by rw [hnext]; exact (hP.rw z hz).1,(hP.rw z hz).2.1,fun g=>(hP.rw z hz).2.2 ((hmr z).1 g)⟩
    ·exact ⟨by rw [hnext]; exact (haw z hz).1,fun g=>(haw z hz).2.1 (.inr (.inl g)),fun g=>(haw z hz).2.1 (.inr (.inr ((hmr z).1 g)))⟩
   ·rcases at_set hq with ⟨e1,_,_⟩ | ⟨e1,q4⟩
    ·subst e1; exact hP.out i row he hne
    ·exact hP.out q r q4 hr
   ·have fix:∀ q r,(L.set i (row.set j (e,w)))[q]? = some r→r≠[]→∃ r',L[q]? = some r'∧r'≠[]:=fun q r hq hr=>by
     rcases at_set hq with ⟨e1,_,_⟩ | ⟨e1,q4⟩
     ·subst e1; exact ⟨row,he,hne⟩
     ·exact ⟨r,q4,hr⟩
    obtain ⟨s,s1,s2⟩:=fix q r hq hr;obtain ⟨s',s1',s2'⟩:=fix q' r' hq' hr';exact hP.inj q q' s s' s1 s1' s2 s2' heq
   ·rcases hz with rfl | hz
    ·exact Pc.iw hk rfl (.inr (.inl rfl))
    ·exact Pc.iw hk rfl (.inr (.inr ((hmr z).1 hz)))
  ·exact Pc.eU (h.ok p hpm) (by rw [hnext]; exact Nat.le_refl _) fun z hz _=>hget z fun g=>hap2.2 z (.inr (.inr (g ▸ hself))) hz
 ·rcases g1 with g1 | g1
  ·cases g1.1
  ·rcases g1 with rfl | g1
   ·exact hapr.1 _ (.inr (.inl rfl)) g2
   ·exact hapr.1 _ (.inr (.inr ((hmr z).1 g1))) g2
 ·rcases g2 with g2 | g2
  ·cases g2
  ·rcases g2 with (rfl | g2) | (g2 | g2)
   ·exact hapr.2 _ g1 (.inr (.inl (.inl rfl)))
   ·exact hapr.2 _ g1 (.inr (.inl (.inr ((hmr z).1 g2))))
   ·exact hapr.2 _ g1 (.inr (.inr g2))
   ·exact (haw z g2).2.2 r hr g1⟩
end
end Go.Ab.W
end

section
namespace Go.Ab.W
open Go Go.Ab
attribute [local irreducible] Tm.at Trie.set Trie.get AMem.get AMem.set AMem.alloc AMem.ww AMem.kill
abbrev kI:Int→Value:=fun n=>.int .i64 n
abbrev vB:Bool→Value:=fun b=>.bool b
def zN (m:AMem) (H:Nat→Prop) (bo:Option Nat) (xs:List (Int × Bool)):Prop:=(bo=none∧xs = [])∨∃ b,bo=some b∧H b∧m.get b=some (.map (xs.map (eM kI vB)))
theorem zN.nil {m:AMem} {H:Nat→Prop}:zN m H none []:=.inl ⟨rfl,rfl⟩
def eG (H:Nat→Prop) (M:List (Option Nat × List (Int × Bool))):GPc where
 ow:=H
 rd:=fun _=>False
 P m:=(∀ b,H b→b<m.next)∧∀ p ∈ M,zN m H p.1 p.2
 fr:=true
 st m m' h hn hg:=⟨fun b hb=>Nat.lt_of_lt_of_le (h.1 b hb) hn,fun p hp=>(h.2 p hp).imp id fun ⟨b,h1,h2,h3⟩=>⟨b,h1,h2,by rw [hg b (.inl h2) (h.1 b h2)]; exact h3⟩⟩
 lt m b h hb:=hb.elim (h.1 b) fun h=>h.elim
section
variable {E : Env} {m0 m : AMem} {fs : Fs} {ps : List Pc} {x y z : Operand} {ty : TypeId} {H : Nat → Prop} {M : List (Option Nat × List (Int × Bool))}
theorem Hp.vm {l0:List Pc} (h:Hp m0 m (l0++[.gen (bA H)])) (hM:∀ p ∈ M,zN m H p.1 p.2):Hp m0 m (l0++[.gen (eG H M)]):=by
 have ha:=List.pairwise_append.1 h.apart;refine ⟨h.ext,fun p hp=>?_,List.pairwise_append.2 ⟨ha.1,List.pairwise_singleton ..,fun p hp q hq=>?_⟩⟩
 ·rcases List.mem_append.1 hp with hp | hp
  ·exact h.ok p (List.mem_append_left _ hp)
  ·rw [List.mem_singleton.1 hp];have h0:Pc.ok m0.next m (.gen (bA H)):=h.ok _ (List.mem_append_right _ (List.mem_singleton.2 rfl))
   exact ⟨⟨h0.1,hM⟩,fun h=>by cases h⟩
 ·rw [List.mem_singleton.1 hq];have h1:Pc.apart p (.gen (bA H)):=ha.2.2 p hp _ (List.mem_singleton.2 rfl);exact ⟨fun b a c=>h1.1 b a c,fun b a c=>h1.2 b a c⟩
theorem Hp.OL {l0:List Pc} {bo bo':Option Nat} {xs xs':List (Int × Bool)} (h:Hp m0 m (l0++[.gen (bA H)])) (h1:zN m H bo xs) (h2:zN m H bo' xs'):Hp m0 m (l0++[.gen (eG H [(bo,xs),(bo',xs')])]):=h.vm fun p hp=>by
 rcases List.mem_cons.1 hp with rfl | hp
 ·exact h1
 ·rw [List.mem_singleton.1 hp]; exact h2
theorem al.Ol {k:Nat} (hp:pk ps k=some (.gen (eG H M))):al m0 ps (bN ps k (.gen (bA H))):=fun m h =>
 h.M9 hp (fun b hb=>.inl hb) (fun b hb=>.inl hb) (Nat.le_refl _) h.ext ⟨(h.get hp).1.1,fun h=>by cases h⟩ fun _ _ _=>rfl
theorem Hp.OH {k b:Nat} {xs:List (Int × Bool)} (h:Hp m0 m ps) (hp:pk ps k=some (.obj b (.map (xs.map (eM kI vB))))):zN m (sY ps) (some b) xs:=.inr ⟨b,rfl,⟨_,eV hp,.inl ⟨rfl,rfl⟩⟩,(h.get hp).2.2⟩
theorem Iw {kt et k q:Nat} {bo:Option Nat} {xs:List (Int × Bool)} {i:Int} {v:Bool} (hu:E.P.underlying ty=some (.map kt et)) (hk:KeyE E.P kt kI) (hz:bp E.P et=some (.bool false)) (hx:ev E fs x=some (.map bo)) (hy:ev E fs y=some (.int .i64 i)) (hp:pk ps k=some (.gen (eG H M))) (hq:M[q]? = some (bo,xs)) (hv:some ((bR xs i).getD false)=some v) :
  Od E m0 fs ps (.lookup ty x y false) (.bool v) ps:=by
 cases hv;intro t m hf h;have hM:=(h.get hp).1.2 _ (List.mem_of_getElem? hq);rcases hM with ⟨h1,h2⟩ | ⟨b,h1,h2,h3⟩
 ·simp only at h1 h2;subst h1 h2;exact LA (vE:=vB) (z0:=false) (k:=i) hu hk hz rfl hx hy t m hf h
 ·simp only at h1 h3;subst h1;refine ⟨fun b' hb'=>?_,fun K hK=>?_⟩
  ·simp only [aB,hf.ev hx] at hb';cases hb'; exact (h.get hp).1.1 b h2
  ·have:=wB (c:=false) (k:=i) (vE:=vB) (z0:=false) hu hk hz rfl h3;unfold aV;simp only [gZ,cl,hf.ev hx,hf.ev hy,this,Option.map_some];exact hK m h
theorem Mz {elem:TypeId} {i:Int} (ht:SlT E.P ty elem 1) (hx:ev E fs x=some (.int .i64 i)) (hi:decide (0≤i)=true) (hl:iB i.toNat=true) (hz:bp E.P elem=some (.slice none 0 0)) :
  Ox E m0 fs ps (.makeSlice ty x x) (fun b=>.slice (some ⟨b,0,none⟩) i.toNat i.toNat) (fun b=>.gen (dn b i.toNat (fun _=>0) (fun _=>False) (List.replicate i.toNat []))::ps):=fun t m hf hm =>
 have h:=J3 (m0:=m0) (ps:=ps) ht hx (Int.toNat_of_nonneg (of_decide_eq_true hi)).symm hl hz rfl t m hf hm
 ⟨h.1,fun K hK=>h.2 K fun b m' hm'=>hK b m' (al.MU m' hm')⟩
theorem Mv {elem:TypeId} {i:Int} (ht:SlT E.P ty elem 2) (hx:ev E fs x=some (.int .i64 i)) (hi:decide (0≤i)=true) (hl:iB i.toNat=true) (hz:bp E.P elem=some (.agg #[.bool false,.slice none 0 0])) :
  Ox E m0 fs ps (.makeSlice ty x x) (fun b=>.slice (some ⟨b,0,none⟩) i.toNat i.toNat) (fun b=>.arr b 2 i.toNat (List.replicate i.toNat [.bool false,.slice none 0 0]) .own::ps) :=
 J3 (m0:=m0) (ps:=ps) ht hx (Int.toNat_of_nonneg (of_decide_eq_true hi)).symm hl hz rfl
theorem NU {α β:Type} [DecidableEq α] {kt et b q:Nat} {kE:α→Value} {vE:β→Value} {xs:List (α × β)} {k:α} {v:β} (hu:E.P.underlying ty=some (.map kt et)) (hk:KeyE E.P kt kE) (hx:ev E fs x=some (.map (some b))) (hy:ev E fs y=some (kE k)) (hz:ev E fs z=some (vE v)) (hp:pk ps q=some (.obj b (.map (xs.map (eM kE vE))))) :
  Od E m0 fs ps (.insert ty x y z) undef (bN ps q (.obj b (.map ((fk xs k v).map (eM kE vE))))) :=
 fun t m hf h=>⟨fun b' hb'=>by simp [aB] at hb',fun K hK=>by
  have hg:=(h.get hp).2.2;have hup:cc E.P ty (.map (some b)) (kE k) (vE v) m=some (m.set b (.map ((fk xs k v).map (eM kE vE)))):=by
   simp only [cc,hu,hg,hk.ok,if_true,j8 hk,fk];cases hfd:cq k xs 0 with
   | none=>simp only [Option.map_none,List.map_append,List.map_cons,List.map_nil]; rfl
   | some p =>
    obtain ⟨h1,h2,h3⟩:=qK k xs 0 p hfd;simp only [Nat.sub_zero] at h3;have hst:fI (xs.map (eM kE vE)) p.1 (kE k)=true:=by
     simp only [fI,List.getElem?_map,h3,Option.map_some,eM,hk.plain,hk.same,Bool.and_self]
    simp only [Option.map_some,hst,if_true];rw [ld k v xs p.1 (by omega)]
  unfold aV;simp only [gZ,cl,hf.ev hx,hf.ev hy,hf.ev hz,hup,Option.map_some];exact hK _ (h.write hp rfl rfl rfl rfl ⟨(h.get hp).1,by rw [AMem.next_set]; exact (h.get hp).2.1,by rw [AMem.bt,if_pos rfl]⟩)⟩
end
end Go.Ab.W
end

section
namespace Go.Proofs.YtookeaakpiefjaaGreatDoor
open Go Go.Ab Go.Ab.W
def rI:List Value→List Int→Bool
 | [],[]=>true
 | .int .u8 n::vs,k::ks=>n == k && rI vs ks
 | _,_=>false
theorem qP:∀ {vs:List Value} {ks:List Int},rI vs ks=true→vs=ks.map (.int .u8)
 | [],[],_=>rfl
 | [],_::_,h=>by cases h
 | v::vs,[],h=>by simp [rI] at h
 | v::vs,k::ks,h=>by
  unfold rI at h
  split at h
  ·rename_i e _; cases e
  ·rename_i n vs' k' ks' e1 e2;cases e1; cases e2;simp only [Bool.and_eq_true,beq_iff_eq] at h;rw [h.1,qP h.2]; rfl
  ·cases h
def we (m:AMem):Bool :=
 match m.get 0 with
 | some (.cells cs .ro)=>rI cs dS
 | _=>false
theorem xG {m:AMem} (h:we m=true):m.get 0=some (.cells (dS.map (.int .u8)) .ro):=by
 unfold we at h
 split at h
 ·rename_i cs hg; rw [hg,qP h]
 ·cases h
theorem wT:∀ x c,vN x=some c→c.all aH=true:=by
 intro x c h;unfold vN at h
 split at h
 ·cases h;rw [List.all_map];exact List.all_eq_true.2 fun x _=>rfl
 ·cases h
theorem Bs:∃ fuel m',run Bw fuel (.call 8 [] Oi)=some (.val (.bool true) m')∧1≤m'.wl:=uW (E:=Bw) (F:=uE) (n:=1000) (g:=1) Cd yW
def ir (args:List Value) (m:AMem):Option (Value × AMem) :=
 match args with
 | []=>if we m then some (.bool true,m) else none
 | _=>none
theorem tq {args:List Value} {m m':AMem} {v:Value} (h:ir args m=some (v,m')) {j:aI} {w:World} {args':List Value} (hm:MR Bw j m w) (hl:LR j args args') :
  iH Bw.P (Bw.cH 8).isSome 8 args'.toArray w (ko Bw j m w v m'):=by
 unfold ir at h
 split at h
 ·split at h
  ·rename_i ht;cases h;obtain ⟨fuel,m0,h1,h2⟩:=Bs;refine sW (E:=Bw) (gs:=vN) IQ wT h1 h2 rfl hm (fun x c hx hg=>?_) hl;have hx:x<1:=hx;have:x=0:=by omega
   subst this;simp only [vN,if_true,Option.some.injEq] at hg;rw [← hg]; exact xG ht
  ·cases h
 ·cases h
def CJ (f:FuncId):Option Prim:=if f=8 then some ⟨ir⟩ else Gk f
noncomputable def aj:Env:={ P:=Tryz.prog,glob:=1,cH:=CJ}
theorem Hd:EnvOk aj:=ye (E:=Bw) IQ (pr:=CJ) fun f p hp=>by
 unfold CJ at hp
 split at hp
 ·rename_i e;cases hp;subst e;exact .inr fun args m v m' h j w args' hm hl=>tq h hm hl
 ·exact .inl hp
def Gl (m:AMem):Prop:=m.get 0=some (.cells (dS.map (.int .u8)) .ro)∧0<m.next
theorem Gl.ext {m m':AMem} (h:Gl m) (e:Ext m m'):Gl m':=⟨by rw [e.same 0 h.2]; exact h.1,Nat.lt_of_lt_of_le h.2 e.next⟩
def F8 (_:Nat):Option Bool:=some true
theorem LK (n:Nat) (r:Bool) (hF:F8 n=some r) (m:AMem) (hG:Gl m):ay aj 8 [] m (fun v m'=>∃ _:Unit,v = .bool r∧Hp m m' []):=by
 cases hF;refine ay.cH (p:=⟨ir⟩) rfl (v:=.bool true) (m':=m) ?_ ⟨(),rfl,Hp.start m⟩;have ht:we m=true:=by
  unfold we;rw [hG.1];exact (by decide +kernel:rI (dS.map (.int .u8)) dS=true)
 show ir [] m=_
 simp only [ir,ht,if_true]
end Go.Proofs.YtookeaakpiefjaaGreatDoor
end

section
namespace Go.Proofs.YtookeaakpiefjaaGreatDoor
set_option maxRecDepth 100000
open Go Go.ChangeShapes Go.WideShapes Go.ChangeAt Go.WideMaps Go.WideElems Go.RowKit Go.Ab Go.Ab.W
theorem ND:Cq Tryz.prog 5 25=some [.int .u8,.int .u8,.int .u16,.sl 141]:=by kernel_rfl
theorem LG:Cq Tryz.prog 5 141=some [.int .u8,.int .u8]:=by kernel_rfl
theorem NN:Cq Tryz.prog 5 28=some [.int .u8,.int .i64,.int .u64]:=by kernel_rfl
theorem Og:Tryz.prog.underlying 3=some (.int .i64):=by kernel_rfl
theorem MD:Tryz.prog.underlying 26=some (.int .u64):=by kernel_rfl
section
variable {H : Type} {enc : TypeId × Value → H} {W : World} {sp : Nat → Bool} {held : Bool} {v : Value} {d : DataW H} {p : List MemPlace} {base : Nat}
theorem qJ {P:Program} {t1 t2 t3 t4:TypeId} {args:Array Value} {ds:List (DataW H)} {ps:List MemPlace} (h:DataW.TrodAll enc P W base sp held [t1,t2,t3,t4] args.toList ds ps) :
  ∃ v1 v2 v3 v4 d1 d2 d3 d4 p1 p2 p3 p4,args=#[v1,v2,v3,v4]∧ds = [d1,d2,d3,d4]∧ps=p1++p2++p3++p4∧DataW.Trod enc P W base sp held t1 v1 d1 p1∧DataW.Trod enc P W base sp held t2 v2 d2 p2∧DataW.Trod enc P W base sp held t3 v3 d3 p3∧DataW.Trod enc P W base sp held t4 v4 d4 p4:=by
 obtain ⟨v1,w1,d1,e1,p1,q1,hargs,rfl,rfl,h1,g1⟩:=trodAll_cons h;obtain ⟨v2,w2,d2,e2,p2,q2,rfl,rfl,rfl,h2,g2⟩:=trodAll_cons g1;obtain ⟨v3,w3,d3,e3,p3,q3,rfl,rfl,rfl,h3,g3⟩:=trodAll_cons g2;obtain ⟨v4,w4,d4,e4,p4,q4,rfl,rfl,rfl,h4,g4⟩:=trodAll_cons g3;obtain ⟨rfl,rfl,rfl⟩:=trodAll_nil g4;exact ⟨v1,v2,v3,v4,d1,d2,d3,d4,p1,p2,p3,p4,by cases args; simp_all,rfl,by simp,h1,h2,h3,h4⟩
theorem Jl:∀ (n:Nat) (cs:List Value) (x:DataW H × List MemPlace),DataW.trod enc Tryz.prog W 0 sp held n 141 cs=some x→∃ p:Nat × Nat,cs=eP (eN .u8) (eN .u8) p∧p.1<256∧p.2<256:=by
 intro n cs x h;obtain ⟨v1,cs,rfl,h1,h⟩:=dI (vJ 5 141 _ LG n _ x h);obtain ⟨v2,cs,rfl,h2,h⟩:=dI h;obtain rfl:=qm h;obtain ⟨a,rfl,ha⟩:=pG h1;obtain ⟨b,rfl,hb⟩:=pG h2;exact ⟨(a,b),rfl,ha,hb⟩
theorem Lx (hok:Value.okWide Tryz.prog W .any base 25 v) (hs:0<W.heap.size) (h:DataW.Trod enc Tryz.prog W 0 sp held 25 v d p):∃ (x1 x2 x3:Nat) (l:List (Nat × Nat)) (a:Option Addr) (c:Nat),
  VR (eS W) (.agg #[.int .u8 ((x1:Nat):Int),.int .u8 ((x2:Nat):Int),.int .u16 ((x3:Nat):Int),.slice a l.length c]) v∧x1<256∧x2<256∧x3<65536∧(∀ q ∈ l,q.1<256∧q.2<256)∧l.length≤maxLen∧Rd (dY W) a c 2 l.length (l.map (eP (eN .u8) (eN .u8))):=by
 obtain ⟨cs,rfl,_⟩:=okWide_struct (t:=25) (fs:=Tryz.prog.underlying 25 |>.elim #[] fun u=>match u with | .struct fs=>fs | _=>#[]) (by kernel_rfl) hok
 obtain ⟨n,h⟩:=h;obtain ⟨v1,r,hr,h1,h⟩:=dI (pn ND h);obtain ⟨v2,r,rfl,h2,h⟩:=dI h;obtain ⟨v3,r,rfl,h3,h⟩:=dI h;obtain ⟨v4,r,rfl,h4,h⟩:=dI h;obtain rfl:=qm h;obtain ⟨x1,rfl,g1⟩:=pG h1;obtain ⟨x2,rfl,g2⟩:=pG h2;obtain ⟨x3,rfl,g3⟩:=FQ h3;obtain ⟨a,c,l,e1,e2,e3,e4⟩:=KH (f:=eP (eN .u8) (eN .u8)) (w:=2) (by kernel_rfl) (by omega) hs (fun q=>rfl) Jl h4
 refine ⟨x1,x2,x3,l,a,c,?_,g1,g2,g3,e3,e4,e2⟩;refine Ef (l:=[.int .u8 ((x1:Nat):Int),.int .u8 ((x2:Nat):Int),.int .u16 ((x3:Nat):Int),.slice a l.length c]) ?_;rw [hr];exact .cons (.int _ _) (.cons (.int _ _) (.cons (.int _ _) (.cons e1 (.nil _))))
theorem Mb (hok:Value.okWide Tryz.prog W .any base 28 v) (h:DataW.Trod enc Tryz.prog W 0 sp held 28 v d p):∃ (x9:Nat) (x10:Int) (x11:Nat),
  VR (eS W) (.agg #[.int .u8 ((x9:Nat):Int),.int .i64 x10,.int .u64 ((x11:Nat):Int)]) v∧x9<256∧(-9223372036854775808≤x10∧x10≤9223372036854775807)∧x11<2 ^ 64:=by
 obtain ⟨cs,rfl,_⟩:=okWide_struct (t:=28) (fs:=Tryz.prog.underlying 28 |>.elim #[] fun u=>match u with | .struct fs=>fs | _=>#[]) (by kernel_rfl) hok
 obtain ⟨n,h⟩:=h;obtain ⟨v1,r,hr,h1,h⟩:=dI (pn NN h);obtain ⟨v2,r,rfl,h2,h⟩:=dI h;obtain ⟨v3,r,rfl,h3,h⟩:=dI h;obtain rfl:=qm h;obtain ⟨x9,rfl,g1⟩:=pG h1;obtain ⟨x10,rfl,g2⟩:=Ag h2;obtain ⟨x11,rfl,g3⟩:=AI h3;refine ⟨x9,x10,x11,?_,g1,g2,g3⟩;refine Ef (l:=[.int .u8 ((x9:Nat):Int),.int .i64 x10,.int .u64 ((x11:Nat):Int)]) ?_;rw [hr];exact LR.plain rfl
theorem LQ (hok:Value.okWide Tryz.prog W .any base 26 v) (h:DataW.Trod enc Tryz.prog W 0 sp held 26 v d p):∃ n:Nat,v = .int .u64 ((n:Nat):Int)∧n<2 ^ 64:=by
 obtain ⟨k,rfl⟩:=okWide_int MD hok;obtain ⟨n,h⟩:=h;obtain ⟨m,e,_,hw⟩:=DataW.trod_int MD h;exact AI (enc:=enc) (P:=Tryz.prog) (W:=W) (base:=0) (sp:=sp) (held:=held) ⟨m,by cases e; rfl,hw⟩
theorem N8 (hok:Value.okWide Tryz.prog W .any base 3 v) (h:DataW.Trod enc Tryz.prog W 0 sp held 3 v d p):∃ n:Int,v = .int .i64 n∧-9223372036854775808≤n∧n≤9223372036854775807:=by
 obtain ⟨k,rfl⟩:=okWide_int Og hok;obtain ⟨n,h⟩:=h;obtain ⟨m,e,_,hw⟩:=DataW.trod_int Og h;exact Ag (enc:=enc) (P:=Tryz.prog) (W:=W) (base:=0) (sp:=sp) (held:=held) ⟨m,by cases e; rfl,hw⟩
end
theorem Ma:laidOutB Tryz.prog=true:=by kernel_rfl
theorem HI:mapsRowed Tryz.prog=true:=by kernel_rfl
theorem GB:sizedB Tryz.prog=true:=by kernel_rfl
theorem K1 {W:World} (h:laidMetH Tryz.prog qg W):Gl (dY W)∧0<W.heap.size:=by
 rw [MakeChecks.laidMetH_plain _ _ _ (by kernel_rfl)] at h
 obtain ⟨ps,hL,_⟩:=h;have ht:(Tryz.prog.globals[0]?).map (·.type)=some 182:=by kernel_rfl
 obtain ⟨c,ty,fz,h1,h2⟩:=Bu (L:=dS) (k:=.u8) (N:=64) (t:=182) (e:=5) NP ht (by kernel_rfl) (by kernel_rfl) (by kernel_rfl) (by kernel_rfl) rfl hL
 have hs:0<W.heap.size:=(Array.getElem?_eq_some_iff.1 h1).1;refine ⟨⟨?_,hs⟩,hs⟩;rw [mj h1,h2,List.map_map]
 congr 2
theorem Ba {H:Type} {enc:TypeId × Value→H} {f:FuncId} {fn:Func} {s:ChangeSpec} {W:World} {args:Array Value} {ds:List (DataW H)} {before:List MemPlace} {tb:TypeId} {fresh handsOn:Bool} {absArgs:List Value} (hpr:aj.cH f=none)
  (hvars:s.vars = []) (hres:fn.resultTypes.toList = [tb]) (hrs:fn.resultTypes.size=1) (htb:Tryz.prog.underlying tb=some .bool) (hpt:∀ t ∈ fn.params.toList,t<Tryz.prog.types.size) (hfn:s.fn H ds = { results:=[.lit (.bool true)],args:=ds,vars:=[]})
  (hW:DataW.Whole enc Tryz.prog fn.params.toList s.vars false W args.toList ds [] before) (hs:0<W.heap.size)
  (hl:LR (eS W) absArgs args.toList) (hc:ay aj f absArgs (dY W) (fun v m'=>∃ _:Unit,v = .bool true∧Hp (dY W) m' [])) :
  Calls Tryz.prog f args W fun e W'=>∃ v,e = .returned v∧s.post enc Tryz.prog fn false fresh handsOn false W args v W':=by
 obtain ⟨v,m',⟨fuel,hrun⟩,_,rfl,hm'⟩:=hc;have hm:MR aj (eS W) (dY W) W:=J4 hs;have hcall:=callsIn_wide.1 (tB Hd hrun hpr hm hl);refine hcall.mono fun e W' ⟨v',he,j',sm,hv⟩=>?_;have hv':v' = .bool true:=df rfl hv;subst hv';have hwl:(dY W).next≤m'.wl:=by
  have h1:=hm'.ext.wl;have h2:min (dY W).wl (dY W).next=(dY W).next:=Nat.min_self _
  omega
 exact ⟨_,he,Dl Ma HI GB hvars hres hrs htb hpt hfn hW sm.calm (sm.grown hm hwl)⟩
end Go.Proofs.YtookeaakpiefjaaGreatDoor
end

section
namespace Go.Proofs.YtookeaakpiefjaaGreatDoor
open Go Go.Ab Go.Ab.W
def A8 (_:Nat) (x y c:Nat):Option (Nat × Nat):=gd (decide (c≤1)) (some ((x+y+c)%18446744073709551616,(x+y+c)/18446744073709551616))
def H7 (_:Nat) (x y c:Nat):Option (Nat × Nat):=gd (decide (c≤1)) (some ((x+18446744073709551616-y-c)%18446744073709551616,if x<y+c then 1 else 0))
theorem rL {V:Nat→Nat→Nat→Value} {x y c:Nat} (hc:c≤1) (m:AMem):dE V [.int .u64 ((x:Nat):Int),.int .u64 ((y:Nat):Int),.int .u64 ((c:Nat):Int)] m=some (V x y c,m):=by
 show (if Nat.ble c 1 then some (V x y c,m) else none)=_
 rw [Nat.ble_eq_true_of_le hc]; rfl
theorem tM (n:Nat) (x y c:Nat) (r:Nat × Nat) (hF:A8 n x y c=some r) (m:AMem) :
  ay aj 155 [.int .u64 ((x:Nat):Int),.int .u64 ((y:Nat):Int),.int .u64 ((c:Nat):Int)] m (fun v m'=>∃ _:Unit,v = .tuple #[.int .u64 ((r.1:Nat):Int),.int .u64 ((r.2:Nat):Int)]∧Hp m m' []):=by
 obtain ⟨hc,hF⟩:=aq hF;have hr:=Option.some.inj hF;subst hr;exact ay.cH (p:=⟨dE vI⟩) rfl (rL (of_decide_eq_true hc) m) ⟨(),rfl,.start m⟩
theorem AX (n:Nat) (x y c:Nat) (r:Nat × Nat) (hF:H7 n x y c=some r) (m:AMem) :
  ay aj 148 [.int .u64 ((x:Nat):Int),.int .u64 ((y:Nat):Int),.int .u64 ((c:Nat):Int)] m (fun v m'=>∃ _:Unit,v = .tuple #[.int .u64 ((r.1:Nat):Int),.int .u64 ((r.2:Nat):Int)]∧Hp m m' []):=by
 obtain ⟨hc,hF⟩:=aq hF;have hr:=Option.some.inj hF;subst hr;exact ay.cH (p:=⟨dE sT⟩) rfl (rL (of_decide_eq_true hc) m) ⟨(),by
  show sT x y c=_
  unfold sT
  split <;> rfl,.start m⟩
end Go.Proofs.YtookeaakpiefjaaGreatDoor
end

section
namespace Go.Ab
open Go
theorem Hn (y w:Nat):∀ x,x<2 ^ w→y=2 ^ w-1-x→x &&& y=0:=by
 intro x hx hy;apply Nat.eq_of_testBit_eq;intro i;rw [Nat.testBit_and,hy,show 2 ^ w-1-x=2 ^ w-(x+1) by omega,Nat.testBit_two_pow_sub_succ hx,Nat.zero_testBit]
 by_cases hi:i<w
 ·simp [hi]
 ·simp [hi]
theorem G5 (a b:Nat):(2*a) &&& (2*b)=2*(a &&& b):=by
 apply Nat.eq_of_testBit_eq;intro i;rw [Nat.testBit_and];cases i with
 | zero=>simp
 | succ i=>rw [Nat.testBit_succ,Nat.testBit_succ,Nat.testBit_succ,show 2*a/2=a by omega,show 2*b/2=b by omega,show 2*(a &&& b)/2=a &&& b by omega,Nat.testBit_and]
theorem FW (a b:Nat):(2*a+1) &&& (2*b+1)=2*(a &&& b)+1:=by
 apply Nat.eq_of_testBit_eq;intro i;rw [Nat.testBit_and];cases i with
 | zero=>simp
 | succ i=>rw [Nat.testBit_succ,Nat.testBit_succ,Nat.testBit_succ,show (2*a+1)/2=a by omega,show (2*b+1)/2=b by omega,show (2*(a &&& b)+1)/2=a &&& b by omega,Nat.testBit_and]
theorem Aj:∀ (w x:Nat),0<x→x<2 ^ w→∃ k,k<w∧x &&& (2 ^ w-x)=2 ^ k∧∃ q,x=2 ^ k*(2*q+1)
 | 0,x,h0,h1=>by simp at h1; omega
 | w+1,x,h0,h1=>by
  rw [Nat.pow_succ] at h1 ⊢;rcases Nat.mod_two_eq_zero_or_one x with h | h
  ·obtain ⟨y,rfl⟩:∃ y,x=2*y:=⟨x/2,by omega⟩
   obtain ⟨k,hk,h2,q,h3⟩:=Aj w y (by omega) (by omega)
   refine ⟨k+1,by omega,?_,q,?_⟩
   ·rw [show 2 ^ w*2-2*y=2*(2 ^ w-y) by omega,G5,h2,Nat.pow_succ]; omega
   ·rw [h3,Nat.pow_succ,Nat.mul_comm (2 ^ k) 2,Nat.mul_assoc]
  ·obtain ⟨y,rfl⟩:∃ y,x=2*y+1:=⟨x/2,by omega⟩
   refine ⟨0,by omega,?_,y,by simp⟩
   rw [show 2 ^ w*2-(2*y+1)=2*(2 ^ w-1-y)+1 by omega,FW,Hn _ w y (by omega) rfl]
def tz (x:Nat):Nat:=if x=0 then 64 else Nat.log2 (x &&& (2 ^ 64-x))
theorem qq {x:Nat} (h0:0<x) (h1:x<2 ^ 64):tz x<64∧x &&& (2 ^ 64-x)=2 ^ tz x∧∃ q,x=2 ^ tz x*(2*q+1):=by
 obtain ⟨k,hk,h2,h3⟩:=Aj 64 x h0 h1;have:tz x=k:=by unfold tz; rw [if_neg (by omega),h2,Nat.log2_two_pow]
 rw [this]; exact ⟨hk,h2,h3⟩
end Go.Ab
end

section
namespace Go.Proofs.YtookeaakpiefjaaGreatDoor
open Go Go.Ab
set_option maxRecDepth 10000
theorem OE:Tryz.prog.underlying 3=some (.int .i64):=by kernel_rfl
theorem OJ:Tryz.prog.underlying 5=some (.int .u8):=by kernel_rfl
theorem L8:Tryz.prog.underlying 182=some (.array 64 5):=by kernel_rfl
theorem Oo:known Tryz.prog 5=true:=by kernel_rfl
theorem Ot:an Tryz.prog 5=1:=by kernel_rfl
theorem OC:cP Tryz.prog 5=false:=by kernel_rfl
theorem JN:∀ k:Fin 64,(dS.map (Value.int .u8))[(2 ^ k.val*285870213051353865%2 ^ 64) >>> 58]?.map (fun v=>match v with | .int .u8 n=>decide (n=k.val) | _=>false)=some true:=by decide +kernel
theorem Ke (k:Nat) (hk:k<64):(dS.map (Value.int .u8))[(2 ^ k*285870213051353865%2 ^ 64) >>> 58]? = some (.int .u8 (k:Int)):=by
 have:=JN ⟨k,hk⟩;cases h:(dS.map (Value.int .u8))[(2 ^ k*285870213051353865%2 ^ 64) >>> 58]? with
 | none=>rw [h] at this; cases this
 | some v =>
  rw [h] at this;simp only [Option.map_some,Option.some.injEq] at this
  split at this
  ·rw [of_decide_eq_true this]
  ·cases this
def rU (x:Nat):Nat:=2 ^ 64-x
def pL (x y:Nat):Nat:=x*y%2 ^ 64
theorem HU (x:Nat) (h0:0<x) (h1:x<2 ^ 64):wh .neg (.int .u64 (x:Int))=some (.int .u64 ((rU x:Nat):Int)):=by
 simp only [wh,rU];have:IntKind.u64.wrap (0-(x:Int))=((2 ^ 64-x:Nat):Int):=by
  unfold IntKind.wrap IntKind.bits IntKind.signed;simp only [Bool.false_and,Bool.false_eq_true,if_false];omega
 rw [this]
theorem Hx {ty:TypeId} {P:Program} (x:Nat):aL .mul ty P (.int .u64 (x:Int)) (.int .u64 285870213051353865)=some (.int .u64 ((pL x 285870213051353865:Nat):Int)):=by
 simp only [aL,if_true,pL];have:IntKind.u64.wrap ((x:Int)*285870213051353865)=((x*285870213051353865%2 ^ 64:Nat):Int):=by
  unfold IntKind.wrap IntKind.bits IntKind.signed;simp only [Bool.false_and,Bool.false_eq_true,if_false];omega
 rw [this]
theorem Hf {ty:TypeId} {P:Program} (x:Nat):aL .shr ty P (.int .u64 (x:Int)) (.int .u64 58)=some (.int .u64 ((x >>> 58:Nat):Int)):=BW x 58 .u64 (by omega)
theorem Ie {ty:TypeId} {P:Program} (x:Nat) (h0:0<x) (h1:x<2 ^ 64):aL .and ty P (.int .u64 (x:Int)) (.int .u64 ((rU x:Nat):Int))=some (.int .u64 ((2 ^ tz x:Nat):Int)):=by
 rw [rD x (rU x) h1 (by unfold rU; omega)]
 unfold rU;rw [(qq h0 h1).2.1]
theorem HE (k:Nat) (_:k<64):bm Tryz.prog 182 (ptr 0 0) (.int .u64 ((pL (2 ^ k) 285870213051353865 >>> 58:Nat):Int))=some (ptr 0 (pL (2 ^ k) 285870213051353865 >>> 58)):=by
 have hlt:pL (2 ^ k) 285870213051353865 >>> 58<64:=by
  rw [Nat.shiftRight_eq_div_pow];have:pL (2 ^ k) 285870213051353865<2 ^ 64:=Nat.mod_lt _ (by omega)
  omega
 rw [CF L8 Oo Ot hlt];simp
def EI (k:Nat):Nat:=pL (2 ^ k) 285870213051353865
def A7 (k:Nat):Nat:=EI k >>> 58
theorem Je {ty:TypeId} {P:Program} (k:Nat):aL .mul ty P (.int .u64 ((2 ^ k:Nat):Int)) (.int .u64 285870213051353865)=some (.int .u64 ((EI k:Nat):Int)):=Hx _
theorem KB {ty:TypeId} {P:Program} (k:Nat):aL .shr ty P (.int .u64 ((EI k:Nat):Int)) (.int .u64 58)=some (.int .u64 ((A7 k:Nat):Int)):=Hf _
theorem JY (k:Nat) (hk:k<64):bm Tryz.prog 182 (ptr 0 0) (.int .u64 ((A7 k:Nat):Int))=some (ptr 0 (A7 k)):=HE k hk
theorem Fi (n:Nat) (h:n<2 ^ 63):dP Tryz.prog 5 3 (.int .u8 (n:Int))=some (.int .i64 (n:Int)):=by
 simp only [dP,OJ,OE];rw [wrap_i64 _ (by omega) (by omega)]
theorem Gc (k:Nat) (hk:k<64) {m:AMem} (hm:m.get 0=some (.cells (dS.map (.int .u8)) .ro)):cf Tryz.prog 5 (ptr 0 (A7 k)) m=some (.int .u8 (k:Int)):=oI Oo OC hm (Ke k hk)
theorem EO (x:Nat) (hx:x<2 ^ 64) (m:AMem) (hm:m.get 0=some (.cells (dS.map (.int .u8)) .ro)):ay aj 82 [.int .u64 (x:Int)] m (fun v m'=>v = .int .i64 (tz x:Int)∧m'=m):=by
 refine ay.FB (N:=14) (rs:=[.tmp 2]) rfl Tryz.func82 rfl rfl rfl ?_;simp only [ofList_cons,ofList_nil]
 (repeat refine aN.seq ?_); refine aN.oz fun K hK=>?_
 refine gR rfl (lW (pv _ _)) (mn rfl) ?_;refine hK _ _ ?_; clear hK K; try simp only [iu]
 (repeat refine aN.seq ?_); refine aN.oz fun K hK=>?_
 refine gR rfl (uk (fS (by repeat first | (apply di; rfl) | exact dW _ _ _ | assumption))) (mn rfl) ?_
 refine gR rfl (vD (fS (by repeat first | (apply di; rfl) | exact dW _ _ _ | assumption)) (pv _ _) (o5 _ _ _)) (mn rfl) ?_
 refine hK _ _ ?_; clear hK K; try simp only [iu]
 by_cases h0:x=0
 ·refine aN.cond (c:=true) ((fS (by repeat first | (apply di; rfl) | exact dW _ _ _ | assumption)).trans (by rw [h0]; rfl)) (fun _=>?_) (fun h=>by cases h)
  (repeat refine aN.seq ?_); refine aN.oz fun K hK=>?_
  refine gR rfl (lW (pv _ _)) (mn rfl) ?_;refine hK _ _ ?_; clear hK K; try simp only [iu]
  refine aN.ret ?_; simp only [DX,EE,yP,bF,sA,dU,Option.map_some,at_set,Nat.reduceEqDiff,reduceIte];rw [h0];exact ⟨by trivial,by trivial⟩
 ·have hp:0<x:=by omega
  have hk:=(qq hp hx).1;refine aN.cond (c:=false) ((fS (by repeat first | (apply di; rfl) | exact dW _ _ _ | assumption)).trans (by rw [decide_eq_false (by omega)])) (fun h=>by cases h) (fun _=>?_)
  refine aN.skip ?_;rw [iu]
  (repeat refine aN.seq ?_); refine aN.oz fun K hK=>?_
  refine gR rfl (uk (fS (by repeat first | (apply di; rfl) | exact dW _ _ _ | assumption))) (mn rfl) ?_
  refine gR rfl (uk (fS (by repeat first | (apply di; rfl) | exact dW _ _ _ | assumption))) (mn rfl) ?_
  refine gR rfl (Be (fS (by repeat first | (apply di; rfl) | exact dW _ _ _ | assumption)) (HU x hp hx)) (mn rfl) ?_
  refine gR rfl (vD (fS (by repeat first | (apply di; rfl) | exact dW _ _ _ | assumption)) (fS (by repeat first | (apply di; rfl) | exact dW _ _ _ | assumption)) (Ie x hp hx)) (mn rfl) ?_
  refine gR rfl (vD (fS (by repeat first | (apply di; rfl) | exact dW _ _ _ | assumption)) (pv _ _) (Je _)) (mn rfl) ?_
  refine gR rfl (vD (fS (by repeat first | (apply di; rfl) | exact dW _ _ _ | assumption)) (pv _ _) (KB _)) (mn rfl) ?_
  refine gR rfl (nL rfl (fS (by repeat first | (apply di; rfl) | exact dW _ _ _ | assumption)) (JY _ hk)) (mn rfl) ?_
  refine gR rfl (mO (fS (by repeat first | (apply di; rfl) | exact dW _ _ _ | assumption)) (Gc _ hk hm)) (mn rfl) ?_
  refine gR rfl (EM (fS (by repeat first | (apply di; rfl) | exact dW _ _ _ | assumption)) (Fi _ (Nat.lt_trans hk (by decide)))) (mn rfl) ?_
  refine gR rfl (lW (fS (by repeat first | (apply di; rfl) | exact dW _ _ _ | assumption))) (mn rfl) ?_
  refine hK _ _ ?_; clear hK K; try simp only [iu]
  refine aN.ret ?_; simp only [DX,EE,yP,bF,sA,dU,Option.map_some,at_set,Nat.reduceEqDiff,reduceIte];exact ⟨by trivial,by trivial⟩
end Go.Proofs.YtookeaakpiefjaaGreatDoor
end

section
namespace Go.Proofs.YtookeaakpiefjaaGreatDoor
open Go Go.Ab Go.Ab.W
set_option maxRecDepth 10000
set_option maxHeartbeats 4000000
attribute [local irreducible] Tm.at Trie.set Trie.get AMem.get AMem.set AMem.alloc AMem.ww AMem.kill
def LC (_:Nat) (x:Nat):Option Int:=gd (decide (x<2 ^ 64)) (some (tz x:Int))
def Mj (_:Nat) (l:List (Int × Int)):Option (List (Int × Int)):=gd (iB l.length) (some l)
theorem Mq {P:Program} {ty e l c l' c':Nat} (hu:P.underlying ty=some (.slice e)):aL .eql ty P (.slice none l c) (.slice none l' c')=some (.bool true):=by
 simp only [aL,Op.maxDepth,iA,hu,Option.map_some,Option.isNone_none]
theorem MS {P:Program} {ty e l c l' c':Nat} {A:Addr} (hu:P.underlying ty=some (.slice e)):aL .eql ty P (.slice (some A) l c) (.slice none l' c')=some (.bool false):=by
 simp only [aL,Op.maxDepth,iA,hu,Option.map_some]
theorem J1:aj.P.underlying 32=some (.slice 43):=by kernel_rfl
theorem K3:SlT aj.P 32 43 2:=SlT.of (by kernel_rfl)
theorem NT:bp aj.P 43=some (.agg #[.int .i64 0,.int .i64 0]):=by kernel_rfl
theorem Rd.F4 {m:AMem} {cap w n:Nat} {es:List (List Value)} (h:Rd m none cap w n es):n=0:=by
 rcases h.2.2 with ⟨_,h⟩ | ⟨_,_,h,_⟩ | ⟨_,_,h,_⟩
 ·exact h
 ·cases h
 ·cases h
theorem KY (n:Nat) (l:List (Int × Int)) (a:Option Addr) (c:Nat) (r:List (Int × Int)) (hF:Mj n l=some r) (m:AMem) (h:Rd m a c 2 l.length (l.map (eP (eI .i64) (eI .i64)))):ay aj 31 [.slice a l.length c] m (fun v m'=>∃ x:Option Addr × Nat,v = .slice x.1 x.2 x.2∧Hp m m' [.sl x.1 2 x.2 (r.map (eP (eI .i64) (eI .i64)))]):=by
 unfold Mj at hF;obtain ⟨hl,hF⟩:=aq hF;cases hF;cases a with
 | none =>
  have h0:=Rd.F4 h;have:l = []:=List.length_eq_zero_iff.1 h0;subst this;refine bV (m0:=m) (ps:=[]) (N:=8) (rs:=[.tmp 2]) rfl Tryz.func31 rfl rfl rfl (Hp.start m) ?_;refine Wk.seq ?_;refine Wk.region ?_;refine Wo.od (bG rfl) rfl ?_;refine Wo.nil ?_;refine At.tn ?_;refine Wk.seq ?_;refine Wk.seq ?_;refine Wk.region ?_;refine Wo.od (az rfl) rfl ?_;refine Wo.od (aE rfl rfl (Mq J1)) rfl ?_;refine Wo.nil ?_;refine At.tn ?_;refine Wk.cT rfl rfl ?_;refine Wk.seq ?_;refine Wk.region ?_;refine Wo.od (bG rfl) rfl ?_;refine Wo.nil ?_;refine At.tn ?_;refine Wk.ret ?_;refine At.tr ?_;exact At.ret (.tmp rfl .nil) fun m' hm=>⟨(none,0),rfl,(al.nil 2 rfl) m' hm⟩
 | some A =>
  refine bV (m0:=m) (ps:=[.rd (some A) c 2 l.length (l.map (eP (eI .i64) (eI .i64)))]) (N:=8) (rs:=[.tmp 2]) rfl Tryz.func31 rfl rfl rfl ((Hp.start m).hZ rfl h) ?_;refine Wk.seq ?_;refine Wk.region ?_;refine Wo.od (bG rfl) rfl ?_;refine Wo.nil ?_;refine At.tn ?_;refine Wk.seq ?_;refine Wk.seq ?_;refine Wk.region ?_;refine Wo.od (az rfl) rfl ?_;refine Wo.od (aE rfl rfl (MS J1)) rfl ?_;refine Wo.nil ?_;refine At.tn ?_;refine Wk.eJ rfl rfl ?_;refine Wk.skip ?_;refine At.tn ?_;refine Wk.seq ?_;refine Wk.region ?_;refine Wo.x (jv (es:=([]:List (Int × Int)).map (eP (eI .i64) (eI .i64))) K3 rfl (ju K3 NT rfl rfl) rfl rfl) gn rfl fun b=>?_;refine Wo.od (az rfl) rfl ?_;refine Wo.dK (al.close (k:=0) rfl) ?_;refine Wo.x (jU (k:=0) (k2:=1) (xs:=([]:List (Int × Int))) (ys:=l) (Oq (yq .i64) (yq .i64)) K3 ⟨_,J1⟩ rfl rfl rfl (.rd _ _ _ _ _) hl) gn rfl fun a2=>?_;refine Wo.od (bG rfl) rfl ?_;refine Wo.nil ?_;refine At.tn ?_;refine Wk.ret ?_;exact At.ret (.tmp rfl .nil) fun m' hm=>⟨(a2,l.length),rfl,(al.aC [0] rfl rfl) m' hm⟩
theorem Kq (n x:Nat) (r:Int) (hF:LC n x=some r) (m:AMem) (hG:Gl m):ay aj 82 [.int .u64 ((x:Nat):Int)] m (fun v m'=>∃ _:Unit,v = .int .i64 r∧Hp m m' []):=by
 unfold LC at hF;obtain ⟨hx,hF⟩:=aq hF;cases hF;exact (EO x (of_decide_eq_true hx) m hG.1).mono fun v m' h=>⟨(),h.1,by rw [h.2]; exact Hp.start m⟩
end Go.Proofs.YtookeaakpiefjaaGreatDoor
end

section
namespace Go.Proofs.YtookeaakpiefjaaGreatDoor
open Go Go.Ab Go.Ab.W
set_option maxRecDepth 10000
def eY:List Nat:=[0,1,2,2,3,3,3,3,4,4,4,4,4,4,4,4,5,5,5,5,5,5,5,5,5,5,5,5,5,5,5,5,6,6,6,6,6,6,6,6,6,6,6,6,6,6,6,6,6,6,6,6,6,6,6,6,6,6,6,6,6,6,6,6,7,7,7,7,7,7,7,7,7,7,7,7,7,7,7,7,7,7,7,7,7,7,7,7,7,7,7,7,7,7,7,7,7,7,7,7,7,7,7,7,7,7,7,7,7,7,7,7,7,7,7,7,7,7,7,7,7,7,7,7,7,7,7,7,8,8,8,8,8,8,8,8,8,8,8,8,8,8,8,8,8,8,8,8,8,8,8,8,8,8,8,8,8,8,8,8,8,8,8,8,8,8,8,8,8,8,8,8,8,8,8,8,8,8,8,8,8,8,8,8,8,8,8,8,8,8,8,8,8,8,8,8,8,8,8,8,8,8,8,8,8,8,8,8,8,8,8,8,8,8,8,8,8,8,8,8,8,8,8,8,8,8,8,8,8,8,8,8,8,8,8,8,8,8,8,8,8,8,8,8,8,8,8,8,8,8,8,8,8,8,8,8]
def xh (_:Nat) (l4:List (Nat × Nat)) (y10:Int) (v1018:Int) (v2356:Int):(Bool × Int)→Option ((Bool × Int) ⊕ (Bool)):=fun (v2917,v2918) =>
ob (
br (decide (v2918<(l4.length:Int))) (
some (decide (v2918<3))) (
some false)) fun v2972 =>
br (v2972) (
ob (
gd (bD v2918 l4.length) (
ob (l4[v2918.toNat]?) fun (x2995,x2996) =>
gd (decide (y10≠0)) (
gd (bD v2918 l4.length) (
gd (decide (y10≠0)) (
br (v2917) (
some true) (
br (decide (Int.tmod (IntKind.wrap .i64 ((x2995:Nat):Int)) y10=v1018)) (
br (decide (Int.tmod (IntKind.wrap .i64 ((x2996:Nat):Int)) y10=v2356)) (
some true) (
br (decide (Int.tmod (IntKind.wrap .i64 ((x2995:Nat):Int)) y10=v2356)) (
some (decide (Int.tmod (IntKind.wrap .i64 ((x2996:Nat):Int)) y10=v1018))) (
some false))) (
br (decide (Int.tmod (IntKind.wrap .i64 ((x2995:Nat):Int)) y10=v2356)) (
some (decide (Int.tmod (IntKind.wrap .i64 ((x2996:Nat):Int)) y10=v1018))) (
some false)))))))) fun v2991 =>
some (.inl (v2991,IntKind.wrap .i64 (v2918+1)))) (
some (.inr v2917))
def wD (n:Nat) (y10:Int) (v1018:Int) (v1014:Int) (x3:Nat) (l4:List (Nat × Nat)):(List (Int × Int) × Int × Int)→Option ((List (Int × Int) × Int × Int) ⊕ (List (Int × Int) × Int)):=fun (l2353,v2355,v2356) =>
br (decide (v2356<y10)) (
ob (
ob (
br (decide (v2356=IntKind.wrap .i64 (v1018+v1014))) (
some true) (
br (decide (v2356=IntKind.wrap .i64 (v1018+1))) (
gd (decide (v1014≠0)) (
some (!decide (Int.tmod v2356 v1014=0)))) (
some false))) fun v2857 =>
ob (
br (v2857) (
ob (
ob (
br (decide (Int.tmod v2355 2=1)) (
ob (some (cx .u16 x3 (ui .u64 (Int.tmod (IntKind.wrap .i64 (Int.tdiv v2355 2)) 16)))) fun y2906 =>
some (decide (uw .u16 (uw .u16 y2906 &&& uw .u16 1)=1))) (
some false)) fun v2904 =>
br (v2904) (
some false) (
some v2857)) fun v2900 =>
some (IntKind.wrap .i64 (v2355+1),v2900)) (
some (v2355,v2857))) fun (v2887,v2888) =>
ob (
bH (xh n l4 y10 v1018 v2356) n (v2888,0)) fun v2964 =>
br (v2964) (
gd (iB (l2353++[(v1018,v2356)]).length) (
some ((l2353++[(v1018,v2356)]),v2887))) (
some (l2353,v2887))) fun (l2851,v2853) =>
some (.inl (l2851,v2853,IntKind.wrap .i64 (v2356+1)))) (
some (.inr (l2353,v2355)))
def vT (n:Nat) (y10:Int) (x3:Nat) (l4:List (Nat × Nat)):(Int × List (Int × Int) × Int × Int)→Option ((Int × List (Int × Int) × Int × Int) ⊕ (List (Int × Int))):=fun (v1014,l1015,v1017,v1018) =>
br (decide (v1018<y10)) (
ob (
bH (wD n y10 v1018 v1014 x3 l4) n (l1015,v1017,IntKind.wrap .i64 (v1018+1))) fun (l2687,v2689) =>
some (.inl (v1014,l2687,v2689,IntKind.wrap .i64 (v1018+1)))) (
some (.inr l1015))
def M3 (n:Nat) (x1:Nat) (x2:Nat) (x3:Nat) (l4:List (Nat × Nat)):Option (Int × List (Int × Int)) :=
ob (some (IntKind.wrap .i64 ((IntKind.wrap .i64 (1+(IntKind.wrap .i64 ((x1%4:Nat):Int))))*(IntKind.wrap .i64 (1+(IntKind.wrap .i64 ((x2%3:Nat):Int))))))) fun y10 =>
ob (
bH (vT n y10 x3 l4) n (IntKind.wrap .i64 (1+(IntKind.wrap .i64 ((x1%4:Nat):Int))),([]:List (Int × Int)),0,0)) fun l2020 =>
some (y10,l2020)
def CU (_:Nat) (x1:Nat) (x2:Int):Option (Bool) :=
some (decide (uw .u64 (uw .u64 (cx .u64 x1 (ui .u64 x2)) &&& uw .u64 1)=1))
def wS (n:Nat) (x1:Nat):(Int × Int)→Option ((Int × Int) ⊕ (Int)):=fun (v4,v5) =>
br (decide (v5<64)) (
ob (
ob (CU n x1 v5) fun r25 =>
br (r25) (
some (IntKind.wrap .i64 (v4+1))) (
some v4)) fun v23 =>
some (.inl (v23,IntKind.wrap .i64 (v5+1)))) (
some (.inr v4))
def IC (n:Nat) (x1:Nat):Option (Int) :=
ob (
bH (wS n x1) n (0,0)) fun v18 =>
some v18
def w7 (_:Nat) (x1:Int):Option (Nat) :=
some (fJ .u64 1 (ui .u64 x1))
def qF (n:Nat) (x1:Int) (x6:Nat):(Nat × Int)→Option ((Nat × Int) ⊕ (Nat)):=fun (v10,v11) =>
ob (
br (decide (v11<x1)) (
ob (IC n v10) fun r64 =>
some (decide (r64<9))) (
some false)) fun v61 =>
br (v61) (
ob (
ob (CU n x6 v11) fun r75 =>
br (r75) (
ob (w7 n v11) fun r78 =>
some (uw .u64 (uw .u64 v10 ||| uw .u64 r78))) (
some v10)) fun v73 =>
some (.inl (v73,IntKind.wrap .i64 (v11+1)))) (
some (.inr v10))
def Ix (n:Nat) (x1:Int) (_:List (Int × Int)) (x6:Nat):Option (Nat) :=
ob (
bH (qF n x1 x6) n (0,0)) fun v47 =>
some v47
def LU (n:Nat) (x1:Nat) (x2:Int) (x3:Nat) (x4:Int) (l5:List (Int × Int)) (x9:Nat):Option (Int × List (Int × Int) × Nat) :=
ob (Mj n l5) fun l14 =>
ob (
br (decide (x1%6=0)) (
some (x9,x2,l14)) (
br (decide (x1%6=1)) (
br (decide (0<(l14.length:Int))) (
gd (decide (0<ui .u64 (l14.length:Int))) (
ob (some (IntKind.wrap .i64 (((ui .u64 x2)%(ui .u64 (l14.length:Int)):Nat):Int))) fun y47 =>
gd (bD y47 l14.length) (
ob (l14[y47.toNat]?) fun (x53,x54) =>
gd (bD y47 l14.length) (
gd (bD y47 l14.length) (
gd (bD y47 l14.length) (
ob ((l14.set y47.toNat (x54,x54))[y47.toNat]?) fun (x60,_) =>
some (x9,x4,((l14.set y47.toNat (x54,x54)).set y47.toNat (x60,x53))))))))) (
some (x9,x4,l14))) (
br (decide (x1%6=2)) (
some (uw .u64 (uw .u64 x9 ||| uw .u64 x3),x4,l14)) (
br (decide (x1%6=3)) (
some (0,x4,l14)) (
some (x9,x4,l14)))))) fun (v40,v41,l42) =>
some (v41,l42,v40)
def p8 (_:Nat) (l2:List (Int × Int)) (x1:Int):Int→Option ((Int) ⊕ ((Unit) ⊕ (Unit))):=fun v24 =>
br (decide (v24<(l2.length:Int))) (
gd (bD v24 l2.length) (
ob (l2[v24.toNat]?) fun (x166,x167) =>
gd (bD v24 l2.length) (
ob (
br (decide (x166<0)) (
some true) (
br (decide (x167≤x166)) (
some true) (
some (decide (x1≤x167))))) fun v180 =>
br (v180) (
some (.inr (.inl ()))) (
ob (
br (decide (0<v24)) (
gd (bD (IntKind.wrap .i64 (v24-1)) l2.length) (
ob (l2[(IntKind.wrap .i64 (v24-1)).toNat]?) fun (x198,x199) =>
br (decide (x166<x198)) (
some true) (
gd (bD (IntKind.wrap .i64 (v24-1)) l2.length) (
br (decide (x198=x166)) (
gd (bD (IntKind.wrap .i64 (v24-1)) l2.length) (
some (decide (x167≤x199)))) (
some false))))) (
some false)) fun v195 =>
br (v195) (
some (.inr (.inl ()))) (
some (.inl (IntKind.wrap .i64 (v24+1)))))))) (
some (.inr (.inr ())))
def II (n:Nat) (x1:Int) (l2:List (Int × Int)):Option (Int) :=
ob (
br (decide (x1<1)) (
some true) (
br (decide (64<x1)) (
some true) (
some (decide (200<(l2.length:Int)))))) fun v17 =>
br (v17) (
some 180) (
ob (α:=(Unit) ⊕ (Unit)) (
bH (p8 n l2 x1) n 0) fun r209=>match r209 with
| .inl _ =>
some 180
| .inr _ =>
some 0)
def ED (n:Nat) (x1:Int) (l2:List (Int × Int)) (x6:Nat):Option (Int) :=
ob (II n x1 l2) fun r9 =>
br (!decide (r9=0)) (
some r9) (
ob (
br (decide (x1<64)) (
some (!decide (cx .u64 x6 (ui .u64 x1)=0))) (
some false)) fun v18 =>
br (v18) (
some 2) (
some 0))
def Lm (n:Nat) (x1:Int) (l2:List (Int × Int)) (x6:Nat):Option (Int) :=
ob (II n x1 l2) fun r9 =>
br (!decide (r9=0)) (
some r9) (
br (decide (x6=0)) (
some 2) (
ob (ED n x1 l2 x6) fun r13 =>
some r13))
def Lh (n:Nat) (_:Int) (l2:List (Int × Int)) (x6:Nat) (x7:Int):Option (Bool) :=
br (decide (0≤x7)) (
br (decide (x7<(l2.length:Int))) (
gd (bD x7 l2.length) (
ob (l2[x7.toNat]?) fun (x14,x15) =>
ob (CU n x6 x14) fun r18 =>
br (r18) (
gd (bD x7 l2.length) (
ob (CU n x6 x15) fun r22 =>
some r22)) (
some false))) (
some false)) (
some false)
def rS (n:Nat) (l6:List (Int)) (l2:List (Int × Int)):(Nat × Int)→Option ((Nat × Int) ⊕ (Nat)):=fun (v174,v175) =>
br (decide (v175<(l6.length:Int))) (
ob (
gd (bD v175 l6.length) (
ob (l6[v175.toNat]?) fun x287 =>
gd (bD x287 l2.length) (
ob (l2[x287.toNat]?) fun (x292,x293) =>
gd (bD v175 l6.length) (
gd (bD x287 l2.length) (
ob (
ob (CU n v174 x292) fun r304 =>
br (r304) (
some true) (
ob (CU n v174 x293) fun r307 =>
some r307)) fun v302 =>
br (v302) (
ob (w7 n x292) fun r312 =>
ob (w7 n x293) fun r314 =>
ob (some (uw .u64 (uw .u64 (uw .u64 (uw .u64 v174 ||| uw .u64 r312)) ||| uw .u64 r314))) fun y315 =>
some y315) (
some v174)))))) fun v283 =>
some (.inl (v283,IntKind.wrap .i64 (v175+1)))) (
some (.inr v174))
def xr (n:Nat) (l6:List (Int)) (l2:List (Int × Int)):(Nat × Int)→Option ((Nat × Int) ⊕ (Nat)):=fun (v16,v17) =>
br (decide (v17<64)) (
ob (
bH (rS n l6 l2) n (v16,0)) fun v248 =>
some (.inl (v248,IntKind.wrap .i64 (v17+1)))) (
some (.inr v16))
def Lj (n:Nat) (_:Int) (l2:List (Int × Int)) (l6:List (Int)) (x10:Int):Option (Nat) :=
ob (w7 n x10) fun r13 =>
ob (
bH (xr n l6 l2) n (r13,0)) fun v170 =>
some v170
def um (n:Nat) (l2:List (Int × Int)) (x1:Int) (x6:Nat) (l7:List (Int)) (rec0:Int→(List (Int × Int))→Nat→(List Int)→Option (List (List Int))):(List (List (Int)) × Int)→Option ((List (List (Int)) × Int) ⊕ (List (List (Int)))):=fun (l199,v202) =>
br (decide (v202<(l2.length:Int))) (
ob (
ob (
ob (Lh n x1 l2 x6 v202) fun r502 =>
br (!r502) (
some true) (
gd (bD v202 l2.length) (
ob (l2[v202.toNat]?) fun (x507,x508) =>
ob (Lj n x1 l2 l7 x507) fun r511 =>
gd (bD v202 l2.length) (
ob (CU n r511 x508) fun r514 =>
some r514)))) fun v500 =>
br (v500) (
some l199) (
gd (iB (([]:List (Int))++l7).length) (
gd (iB ((([]:List (Int))++l7)++[v202]).length) (
ob (rec0 x1 l2 x6 ((([]:List (Int))++l7)++[v202])) fun l525 =>
gd (iB (l199++l525).length) (
some (l199++l525)))))) fun l451 =>
some (.inl (l451,IntKind.wrap .i64 (v202+1)))) (
some (.inr l199))
def qd (n:Nat) (rec0:Int→(List (Int × Int))→Nat→(List (Int))→Option (List (List Int))) (x1:Int) (l2:List (Int × Int)) (x6:Nat) (l7:List (Int)):Option (List (List Int)) :=
ob (IC n x6) fun r13 =>
br (decide ((l7.length:Int)=IntKind.wrap .i64 (r13-1))) (
gd (iB (([]:List (Int))++l7).length) (
some ([(([]:List (Int))++l7)]))) (
ob (
br (decide (0<(l7.length:Int))) (
gd (bD (IntKind.wrap .i64 ((l7.length:Int)-1)) l7.length) (
ob (l7[(IntKind.wrap .i64 ((l7.length:Int)-1)).toNat]?) fun x31 =>
some (IntKind.wrap .i64 (x31+1)))) (
some 0)) fun v26 =>
ob (
bH (um n l2 x1 x6 l7 rec0) n (([]:List (List (Int))),v26)) fun l369 =>
some l369)
def xa (n:Nat):Nat→Int→(List (Int × Int))→Nat→(List (Int))→Option (List (List Int))
 | 0=>fun _ _ _ _=>none
 | k+1=>qd n (xa n k)
def Ju (n:Nat):Int→(List (Int × Int))→Nat→(List (Int))→Option (List (List Int)):=xa n n
def Ld (n:Nat) (x1:Int) (l2:List (Int × Int)) (x6:Nat):Option (List (List Int)) :=
ob (Ju n x1 l2 x6 []) fun l9 =>
some l9
def hY (_:Nat) (l1:List (Int)):Int→Option ((Int) ⊕ (Int)):=fun v7 =>
ob (
br (decide (0<v7)) (
gd (bD (IntKind.wrap .i64 (v7-1)) l1.length) (
ob (l1[(IntKind.wrap .i64 (v7-1)).toNat]?) fun x69 =>
some (decide (x69=0)))) (
some false)) fun v64 =>
br (v64) (
some (.inl (IntKind.wrap .i64 (v7-1)))) (
some (.inr v7))
def me (n:Nat) (l1:List (Int)):Option (List Int) :=
ob (
bH (hY n l1) n (l1.length:Int)) fun v41 =>
gd (okB 0 v41 l1.length) (
some ((l1.drop (0:Int).toNat).take ((v41:Int).toNat-(0:Int).toNat)))
def oc (n:Nat) (x1:Bool) (l2:List (Int)):Option (Bool × List Int) :=
ob (me n l2) fun l9 =>
br (x1) (
some (decide (0<(l9.length:Int)),l9)) (
some (false,l9))
def FG (n:Nat) (x1:Int):Option (Bool × List Int) :=
ob (
br (decide (x1<0)) (
some (Gd .u64 (ui .u64 x1))) (
some (ui .u64 x1))) fun v4 =>
ob (oc n (decide (x1<0)) ([IntKind.wrap .i64 ((v4%4294967296:Nat):Int),IntKind.wrap .i64 ((uw .u64 (v4/4294967296):Nat):Int)])) fun (r10,l11) =>
some (r10,l11)
def lB (_:Nat) (l1:List (Int)) (l5:List (Int)):Int→Option ((Int) ⊕ ((Int) ⊕ (Unit))):=fun v11 =>
br (decide (0≤v11)) (
gd (bD v11 l1.length) (
ob (l1[v11.toNat]?) fun x32 =>
gd (bD v11 l5.length) (
ob (l5[v11.toNat]?) fun x37 =>
br (!decide (x32=x37)) (
gd (bD v11 l1.length) (
gd (bD v11 l5.length) (
some (.inr (.inl (IntKind.wrap .i64 (x32-x37))))))) (
some (.inl (IntKind.wrap .i64 (v11-1))))))) (
some (.inr (.inr ())))
def Cf (n:Nat) (l1:List (Int)) (l5:List (Int)):Option (Int) :=
br (!decide ((l1.length:Int)=(l5.length:Int))) (
some (IntKind.wrap .i64 ((l1.length:Int)-(l5.length:Int)))) (
ob (α:=(Int) ⊕ (Unit)) (
bH (lB n l1 l5) n (IntKind.wrap .i64 ((l1.length:Int)-1))) fun r43=>match r43 with
| .inl v27 =>
some v27
| .inr _ =>
some 0)
def ua (_:Nat) (l1:List (Int)) (l6:List (Int)):(List (Int) × Int × Int)→Option ((List (Int) × Int × Int) ⊕ (List (Int))):=fun (l74,v76,v77) =>
br (decide (v77<(l1.length:Int))) (
gd (bD v77 l1.length) (
ob (l1[v77.toNat]?) fun x176 =>
ob (
br (decide (v77<(l6.length:Int))) (
gd (bD v77 l6.length) (
ob (l6[v77.toNat]?) fun x189 =>
some (IntKind.wrap .i64 ((IntKind.wrap .i64 (x176-v76))-x189)))) (
some (IntKind.wrap .i64 (x176-v76)))) fun v184 =>
ob (
br (decide (v184<0)) (
some (1,IntKind.wrap .i64 (v184+4294967296))) (
some (0,v184))) fun (v194,v195) =>
gd (iB (l74++[v195]).length) (
some (.inl ((l74++[v195]),v194,IntKind.wrap .i64 (v77+1)))))) (
some (.inr l74))
def xb (n:Nat) (l1:List (Int)) (l6:List (Int)):Option (List Int) :=
ob (
bH (ua n l1 l6) n (([]:List (Int)),0,0)) fun l141 =>
ob (me n l141) fun l205 =>
some l205
def wx (_:Nat) (l46:List (Int)):(List (Nat) × Int)→Option ((List (Nat) × Int) ⊕ (List (Nat))):=fun (l81,v82) =>
br (decide (v82<(l46.length:Int))) (
gd (bD (IntKind.wrap .i64 (Int.tdiv v82 2)) 8) (
ob (l81[(IntKind.wrap .i64 (Int.tdiv v82 2)).toNat]?) fun x102 =>
gd (bD v82 l46.length) (
ob (l46[v82.toNat]?) fun x107 =>
gd (decide (0≤IntKind.wrap .i64 (32*(Int.tmod v82 2)))) (
ob (some (fJ .u64 (ui .u64 x107) (IntKind.wrap .i64 (32*(Int.tmod v82 2))).toNat)) fun y110 =>
gd (bD (IntKind.wrap .i64 (Int.tdiv v82 2)) 8) (
some (.inl ((l81.set ((IntKind.wrap .i64 (Int.tdiv v82 2)).toNat) (uw .u64 (x102+y110))),IntKind.wrap .i64 (v82+1)))))))) (
some (.inr l81))
def IE (n:Nat) (x1:Bool) (l2:List (Int)):Option (Nat × Nat × Nat × Nat × Nat × Nat × Nat × Nat × Int) :=
gd (decide ((0:Int)≤16)) (gd (iB ((16:Int).toNat)) (
gd (bD 15 ((16:Int).toNat)) (
ob ((List.replicate (16:Int).toNat (0:Int))[(15:Int).toNat]?) fun _ =>
ob (Cf n l2 ((List.replicate (16:Int).toNat (0:Int)).set ((15:Int).toNat) 2147483648)) fun r16 =>
ob (
br (decide (0<r16)) (
some true) (
br (decide (r16=0)) (
some (!x1)) (
some false))) fun v27 =>
br (v27) (
some (0,0,0,0,0,0,0,0,6)) (
ob (
br (x1) (
gd (decide ((0:Int)≤17)) (gd (iB ((17:Int).toNat)) (
gd (bD 16 ((17:Int).toNat)) (
ob ((List.replicate (17:Int).toNat (0:Int))[(16:Int).toNat]?) fun _ =>
ob (xb n ((List.replicate (17:Int).toNat (0:Int)).set ((16:Int).toNat) 1) l2) fun l58 =>
some l58)))) (
some l2)) fun l46 =>
ob (
bH (wx n l46) n (([0,0,0,0,0,0,0,0]:List (Nat)),0)) fun l99 =>
ob (Jq l99) fun (x116,x117,x118,x119,x120,x121,x122,x123) =>
some (x116,x117,x118,x119,x120,x121,x122,x123,0)))))
def Lr (n:Nat) (x1:Int):Option (Nat × Nat × Nat × Nat × Nat × Nat × Nat × Nat) :=
ob (FG n x1) fun (r4,l5) =>
ob (IE n r4 l5) fun (r10,r11,r12,r13,r14,r15,r16,r17,_) =>
some (r10,r11,r12,r13,r14,r15,r16,r17)
def Mg (n:Nat) (x1:Int) (l2:List (Int × Int)) (x6:Nat):Option (Nat × Nat × Nat × Nat × Nat × Nat × Nat × Nat × Int) :=
ob (Lm n x1 l2 x6) fun r10 =>
br (!decide (r10=0)) (
some (0,0,0,0,0,0,0,0,r10)) (
ob (Ld n x1 l2 x6) fun l13 =>
ob (Lr n (l13.length:Int)) fun (r18,r19,r20,r21,r22,r23,r24,r25) =>
some (r18,r19,r20,r21,r22,r23,r24,r25,0))
def Hz (n:Nat) (x1:Bool) (l2:List (Int)):Option (Bool × List Int) :=
ob (oc n (!x1) l2) fun (r10,l11) =>
some (r10,l11)
def CP (_:Nat) (l1:List (Int)) (l5:List (Int)):(List (Int) × Int × Int)→Option ((List (Int) × Int × Int) ⊕ (List (Int))):=fun (l95,v97,v98) =>
ob (
br (decide (v98<(l1.length:Int))) (
some true) (
br (decide (v98<(l5.length:Int))) (
some true) (
some (decide (0<v97))))) fun v197 =>
br (v197) (
ob (
br (decide (v98<(l1.length:Int))) (
gd (bD v98 l1.length) (
ob (l1[v98.toNat]?) fun x247 =>
some (IntKind.wrap .i64 (v97+x247)))) (
some v97)) fun v242 =>
ob (
br (decide (v98<(l5.length:Int))) (
gd (bD v98 l5.length) (
ob (l5[v98.toNat]?) fun x262 =>
some (IntKind.wrap .i64 (v242+x262)))) (
some v242)) fun v257 =>
gd (iB (l95++[Int.tmod v257 4294967296]).length) (
some (.inl ((l95++[Int.tmod v257 4294967296]),IntKind.wrap .i64 (Int.tdiv v257 4294967296),IntKind.wrap .i64 (v98+1))))) (
some (.inr l95))
def I4 (n:Nat) (l1:List (Int)) (l5:List (Int)):Option (List Int) :=
ob (
bH (CP n l1 l5) n (([]:List (Int)),0,0)) fun l185 =>
some l185
def EY (n:Nat) (x1:Bool) (l2:List (Int)) (x7:Bool) (l8:List (Int)):Option (Bool × List Int) :=
br ((x1 == x7)) (
ob (I4 n l2 l8) fun l18 =>
ob (oc n x1 l18) fun (r22,l23) =>
some (r22,l23)) (
ob (Cf n l2 l8) fun r28 =>
br (decide (0≤r28)) (
ob (xb n l2 l8) fun l31 =>
ob (oc n x1 l31) fun (r36,l37) =>
some (r36,l37)) (
ob (xb n l8 l2) fun l42 =>
ob (oc n x7 l42) fun (r47,l48) =>
some (r47,l48)))
def Jw (n:Nat) (x1:Bool) (l2:List (Int)) (x7:Bool) (l8:List (Int)):Option (Bool × List Int) :=
ob (Hz n x7 l8) fun (r17,l18) =>
ob (EY n x1 l2 r17 l18) fun (r23,l24) =>
some (r23,l24)
def Bo (_:Nat) (x1:Int):Option (Bool) :=
some (!decide (x1=x1))
def ES (n:Nat) (x1:Int) (x2:Int):Option (Int) :=
ob (Bo n x1) fun r4 =>
ob (Bo n x2) fun r6 =>
br (r4) (
br (r6) (
some 0) (
some (-1))) (
br (r6) (
some 1) (
br (decide (x1<x2)) (
some (-1)) (
br (decide (x2<x1)) (
some 1) (
some 0))))
def jX (n:Nat) (l1:List (Int)) (l5:List (Int)):Int→Option ((Int) ⊕ ((Int) ⊕ (Unit))):=fun v10 =>
br (decide (v10<(l1.length:Int))) (
gd (bD v10 l1.length) (
ob (l1[v10.toNat]?) fun x32 =>
br (decide ((l5.length:Int)≤v10)) (
some (.inr (.inl 1))) (
gd (bD v10 l5.length) (
ob (l5[v10.toNat]?) fun x38 =>
ob (ES n x32 x38) fun r41 =>
br (!decide (r41=0)) (
some (.inr (.inl r41))) (
some (.inl (IntKind.wrap .i64 (v10+1)))))))) (
some (.inr (.inr ())))
def DZ (n:Nat) (l1:List (Int)) (l5:List (Int)):Option (Int) :=
ob (α:=(Int) ⊕ (Unit)) (
bH (jX n l1 l5) n 0) fun r44=>match r44 with
| .inl v27 =>
some v27
| .inr _ =>
br (decide ((l1.length:Int)<(l5.length:Int))) (
some (-1)) (
some 0)
def k9 (n:Nat) (l2:List (Int × Int)) (x1:Int):(Int × Int × Int)→Option ((Int × Int × Int) ⊕ ((Unit) ⊕ (Unit))):=fun (v97,v98,v99) =>
br (decide (v99<(l2.length:Int))) (
gd (bD v99 l2.length) (
ob (l2[v99.toNat]?) fun (x213,x214) =>
ob (
br (decide (x213<0)) (
some true) (
br (decide (x214≤x213)) (
some true) (
br (decide (x1≤x214)) (
some true) (
ob (DZ n [v97,v98] [x213,x214]) fun r241 =>
some (decide (0≤r241)))))) fun v236 =>
br (v236) (
some (.inr (.inl ()))) (
some (.inl (x213,x214,IntKind.wrap .i64 (v99+1)))))) (
some (.inr (.inr ())))
def Ed (n:Nat) (x1:Int) (l2:List (Int × Int)):Option (Int) :=
ob (
br (decide (x1<1)) (
some true) (
br (decide (64<x1)) (
some true) (
some (decide (200<(l2.length:Int)))))) fun v17 =>
br (v17) (
some 180) (
ob (α:=(Unit) ⊕ (Unit)) (
bH (k9 n l2 x1) n (-1,-1,0)) fun r246=>match r246 with
| .inl _ =>
some 180
| .inr _ =>
some 0)
def A9 (_:Nat) (x1:Nat):Option (Int) :=
ob (
br (decide (4294967296≤x1)) (
some (cx .u64 x1 32,32)) (
some (x1,0))) fun (v3,v4) =>
ob (
br (decide (65536≤v3)) (
some (cx .u64 v3 16,IntKind.wrap .i64 (v4+16))) (
some (v3,v4))) fun (v9,v10) =>
ob (
br (decide (256≤v9)) (
some (cx .u64 v9 8,IntKind.wrap .i64 (v10+8))) (
some (v9,v10))) fun (v15,v16) =>
gd (bD ((uw .u8 v15:Nat):Int) 256) (
ob (eY[((uw .u8 v15:Nat):Int).toNat]?) fun y22 =>
some (IntKind.wrap .i64 (v16+(IntKind.wrap .i64 ((y22:Nat):Int)))))
def Li (n:Nat) (x1:Int) (l2:List (Int × Int)) (x6:Nat):Option (Int) :=
ob (Ed n x1 l2) fun r9 =>
br (!decide (r9=0)) (
some r9) (
ob (
br (decide (x6=0)) (
some true) (
ob (A9 n x6) fun r27 =>
some (decide (x1<r27)))) fun v24 =>
br (v24) (
some 2) (
some 0))
def xj (_:Nat):(List (Int) × Int)→Option ((List (Int) × Int) ⊕ (List (Int))):=fun (l12,v13) =>
br (decide (v13<((64:Int).toNat:Int))) (
gd (bD v13 ((64:Int).toNat)) (
ob (l12[v13.toNat]?) fun _ =>
some (.inl ((l12.set v13.toNat v13),IntKind.wrap .i64 (v13+1))))) (
some (.inr l12))
def MW (n:Nat):Option (List Int) :=
gd (decide ((0:Int)≤64)) (gd (iB ((64:Int).toNat)) (
ob (
bH (xj n) n ((List.replicate (64:Int).toNat (0:Int)),0)) fun l21 =>
some l21))
def Hk (_:Nat) (x1:Nat) (x2:Int) (x3:Int):Option (Bool) :=
gd (decide (0≤x2)) (
br (decide (uw .u64 (uw .u64 (cx .u64 x1 x2.toNat) &&& uw .u64 1)=1)) (
gd (decide (0≤x3)) (
some (decide (uw .u64 (uw .u64 (cx .u64 x1 x3.toNat) &&& uw .u64 1)=1)))) (
some false))
def fw (_:Nat) (l1:List (Int)):Int→Option ((Int) ⊕ (Int)):=fun v7 =>
gd (bD v7 l1.length) (
ob (l1[v7.toNat]?) fun x20 =>
br (!decide (x20=v7)) (
gd (bD v7 l1.length) (
some (.inl x20))) (
some (.inr v7)))
def Bc (n:Nat) (l1:List (Int)) (x5:Int):Option (Int) :=
ob (
bH (fw n l1) n x5) fun v16 =>
some v16
def IM (_:Nat):(List (Nat) × Int)→Option ((List (Nat) × Int) ⊕ (List (Nat))):=fun (l40,v41) =>
br (decide (v41<8)) (
gd (bD v41 8) (
ob (l40[v41.toNat]?) fun _ =>
some (.inl ((l40.set v41.toNat 18446744073709551615),IntKind.wrap .i64 (v41+1))))) (
some (.inr l40))
def Nr (n:Nat) (x1:Int):Option (Nat × Nat × Nat × Nat × Nat × Nat × Nat × Nat) :=
ob (
br (decide (x1<0)) (
ob (
bH (IM n) n (([ui .u64 x1,0,0,0,0,0,0,0]:List (Nat)),1)) fun l49 =>
some l49) (
some ([ui .u64 x1,0,0,0,0,0,0,0]:List (Nat)))) fun l30 =>
ob (Jq l30) fun (x59,x60,x61,x62,x63,x64,x65,x66) =>
some (x59,x60,x61,x62,x63,x64,x65,x66)
def Ez (n:Nat):(List (Nat) × List (Nat) × Nat × Int)→Option ((List (Nat) × List (Nat) × Nat × Int) ⊕ (List (Nat) × Nat)):=fun (l36,l37,v38,v39) =>
br (decide (v39<8)) (
gd (bD v39 8) (
ob (l36[v39.toNat]?) fun x60 =>
gd (bD v39 8) (
ob (l37[v39.toNat]?) fun x63 =>
ob (H7 n x60 x63 v38) fun (r66,r67) =>
gd (bD v39 8) (
some (.inl ((l36.set v39.toNat r66),l37,r67,IntKind.wrap .i64 (v39+1))))))) (
some (.inr (l36,v38)))
def GP (n:Nat) (x1:Nat) (x2:Nat) (x3:Nat) (x4:Nat) (x5:Nat) (x6:Nat) (x7:Nat) (x8:Nat) (x9:Nat) (x10:Nat) (x11:Nat) (x12:Nat) (x13:Nat) (x14:Nat) (x15:Nat) (x16:Nat):Option (Nat × Nat × Nat × Nat × Nat × Nat × Nat × Nat × Nat) :=
ob (
bH (Ez n) n (([x1,x2,x3,x4,x5,x6,x7,x8]:List (Nat)),([x9,x10,x11,x12,x13,x14,x15,x16]:List (Nat)),0,0)) fun (l56,v57) =>
ob (Jq l56) fun (x72,x73,x74,x75,x76,x77,x78,x79) =>
some (x72,x73,x74,x75,x76,x77,x78,x79,v57)
def NV (n:Nat) (x1:Nat) (x2:Nat) (x3:Nat) (x4:Nat) (x5:Nat) (x6:Nat) (x7:Nat) (x8:Nat):Option (Bool × Nat × Nat × Nat × Nat × Nat × Nat × Nat × Nat) :=
ob (
br (decide (cx .u64 x8 63=1)) (
ob (GP n 0 0 0 0 0 0 0 0 x1 x2 x3 x4 x5 x6 x7 x8) fun (r34,r35,r36,r37,r38,r39,r40,r41,_) =>
some (decide (cx .u64 x8 63=1),r34,r35,r36,r37,r38,r39,r40,r41)) (
some (decide (cx .u64 x8 63=1),x1,x2,x3,x4,x5,x6,x7,x8))) fun (v23,v24,v25,v26,v27,v28,v29,v30,v31) =>
some (v23,v24,v25,v26,v27,v28,v29,v30,v31)
def ly (_:Nat) (l2:List (Nat)):Int→Option ((Int) ⊕ (Int)):=fun v9 =>
ob (
br (decide (0<v9)) (
gd (bD (IntKind.wrap .i64 (v9-1)) l2.length) (
ob (l2[(IntKind.wrap .i64 (v9-1)).toNat]?) fun x71 =>
some (decide (x71=0)))) (
some false)) fun v66 =>
br (v66) (
some (.inl (IntKind.wrap .i64 (v9-1)))) (
some (.inr v9))
def mc (n:Nat) (x1:Bool) (l2:List (Nat)):Option (Bool × List Nat) :=
ob (
bH (ly n l2) n (l2.length:Int)) fun v43 =>
br (x1) (
gd (okB 0 v43 l2.length) (
some (decide (0<v43),((l2.drop (0:Int).toNat).take ((v43:Int).toNat-(0:Int).toNat))))) (
gd (okB 0 v43 l2.length) (
some (false,((l2.drop (0:Int).toNat).take ((v43:Int).toNat-(0:Int).toNat)))))
def Nz (n:Nat) (x1:Nat) (x2:Nat) (x3:Nat) (x4:Nat) (x5:Nat) (x6:Nat) (x7:Nat) (x8:Nat):Option (Bool × List Nat) :=
ob (NV n x1 x2 x3 x4 x5 x6 x7 x8) fun (r12,r13,r14,r15,r16,r17,r18,r19,r20) =>
gd (iB (([]:List (Nat))++[r13,r14,r15,r16,r17,r18,r19,r20]).length) (
ob (mc n r12 (([]:List (Nat))++[r13,r14,r15,r16,r17,r18,r19,r20])) fun (r26,l27) =>
some (r26,l27))
def vC (n:Nat) (x1:Int):Option (Bool × List Nat) :=
ob (Nr n x1) fun (r4,r5,r6,r7,r8,r9,r10,r11) =>
ob (Nz n r4 r5 r6 r7 r8 r9 r10 r11) fun (r13,l14) =>
some (r13,l14)
def k6 (n:Nat) (l10:List (Nat)) (l13:List (Nat)):(List (Nat) × Nat × Nat × Int)→Option ((List (Nat) × Nat × Nat × Int) ⊕ (List (Nat) × Nat × Nat)):=fun (l24,n26,v27,v28) =>
br (decide (v28<(l10.length:Int))) (
gd (bD v28 l10.length) (
ob (l10[v28.toNat]?) fun x133 =>
ob (
br (decide (v28<(l13.length:Int))) (
gd (bD v28 l13.length) (
ob (l13[v28.toNat]?) fun x146 =>
some x146)) (
some 0)) fun v141 =>
ob (A8 n x133 v141 v27) fun (r151,r152) =>
gd (bD v28 n26) (
ob (l24[v28.toNat]?) fun _ =>
some (.inl ((l24.set v28.toNat r151),n26,r152,IntKind.wrap .i64 (v28+1)))))) (
some (.inr (l24,n26,v27)))
def Dh (n:Nat) (l1:List (Nat)) (l5:List (Nat)):Option (List Nat) :=
ob (
br (decide ((l1.length:Int)<(l5.length:Int))) (
some (l5,l1)) (
some (l1,l5))) fun (l10,l13) =>
gd (decide (0≤IntKind.wrap .i64 ((l10.length:Int)+1))) (gd (iB ((IntKind.wrap .i64 ((l10.length:Int)+1)).toNat)) (
ob (
bH (k6 n l10 l13) n ((List.replicate (IntKind.wrap .i64 ((l10.length:Int)+1)).toNat (0:Nat)),(IntKind.wrap .i64 ((l10.length:Int)+1)).toNat,0,0)) fun (l95,n97,v98) =>
gd (bD (l10.length:Int) n97) (
ob (l95[(l10.length:Int).toNat]?) fun _ =>
some (l95.set ((l10.length:Int).toNat) v98))))
def jV (_:Nat) (l1:List (Nat)) (l5:List (Nat)):Int→Option ((Int) ⊕ ((Int) ⊕ (Unit))):=fun v11 =>
br (decide (0≤v11)) (
gd (bD v11 l1.length) (
ob (l1[v11.toNat]?) fun x33 =>
gd (bD v11 l5.length) (
ob (l5[v11.toNat]?) fun x38 =>
br (decide (x33<x38)) (
some (.inr (.inl (-1)))) (
gd (bD v11 l1.length) (
gd (bD v11 l5.length) (
br (decide (x38<x33)) (
some (.inr (.inl 1))) (
some (.inl (IntKind.wrap .i64 (v11-1)))))))))) (
some (.inr (.inr ())))
def B6 (n:Nat) (l1:List (Nat)) (l5:List (Nat)):Option (Int) :=
br (!decide ((l1.length:Int)=(l5.length:Int))) (
some (IntKind.wrap .i64 ((l1.length:Int)-(l5.length:Int)))) (
ob (α:=(Int) ⊕ (Unit)) (
bH (jV n l1 l5) n (IntKind.wrap .i64 ((l1.length:Int)-1))) fun r45=>match r45 with
| .inl v28 =>
some v28
| .inr _ =>
some 0)
def nh (n:Nat) (l1:List (Nat)) (l5:List (Nat)):(List (Nat) × Nat × Int)→Option ((List (Nat) × Nat × Int) ⊕ (List (Nat))):=fun (l71,v72,v73) =>
br (decide (v73<(l1.length:Int))) (
gd (bD v73 l1.length) (
ob (l1[v73.toNat]?) fun x164 =>
ob (
br (decide (v73<(l5.length:Int))) (
gd (bD v73 l5.length) (
ob (l5[v73.toNat]?) fun x177 =>
some x177)) (
some 0)) fun v172 =>
ob (H7 n x164 v172 v72) fun (r182,r183) =>
gd (bD v73 ((l1.length:Int).toNat)) (
ob (l71[v73.toNat]?) fun _ =>
some (.inl ((l71.set v73.toNat r182),r183,IntKind.wrap .i64 (v73+1)))))) (
some (.inr l71))
def BA (n:Nat) (l1:List (Nat)) (l5:List (Nat)):Option (List Nat) :=
gd (decide (0≤(l1.length:Int))) (gd (iB ((l1.length:Int).toNat)) (
ob (
bH (nh n l1 l5) n ((List.replicate (l1.length:Int).toNat (0:Nat)),0,0)) fun l132 =>
some l132))
def oj (n:Nat) (x1:Bool) (l2:List (Nat)) (x7:Bool) (l8:List (Nat)):Option (Bool × List Nat) :=
br ((x1 == x7)) (
ob (Dh n l2 l8) fun l18 =>
ob (mc n x1 l18) fun (r22,l23) =>
some (r22,l23)) (
ob (
ob (B6 n l2 l8) fun r39 =>
br (decide (r39<0)) (
some (x7,l8,x1,l2)) (
some (x1,l2,x7,l8))) fun (v30,l31,_,l35) =>
ob (BA n l31 l35) fun l44 =>
ob (mc n v30 l44) fun (r48,l49) =>
some (r48,l49))
def Le (_:Nat) (x1:Bool) (l2:List (Nat)):Option (Int) :=
br (x1) (
some (-1)) (
br (decide ((l2.length:Int)=0)) (
some 0) (
some 1))
def E9 (_:Nat) (x1:Nat) (x2:Nat):Option (Nat × Nat) :=
ob (some (uw .u64 ((uw .u64 (uw .u64 x1 &&& uw .u64 4294967295))*(uw .u64 (uw .u64 x2 &&& uw .u64 4294967295))))) fun y3 =>
ob (some (uw .u64 ((cx .u64 x1 32)*(uw .u64 (uw .u64 x2 &&& uw .u64 4294967295))))) fun y5 =>
ob (some (uw .u64 (uw .u64 (uw .u64 (y5+(cx .u64 y3 32))) &&& uw .u64 4294967295))) fun y7 =>
ob (some (uw .u64 ((uw .u64 (uw .u64 x1 &&& uw .u64 4294967295))*(cx .u64 x2 32)))) fun y9 =>
ob (some (uw .u64 ((uw .u64 ((cx .u64 x1 32)*(cx .u64 x2 32)))+(cx .u64 (uw .u64 (y5+(cx .u64 y3 32))) 32)))) fun y11 =>
some (uw .u64 (y11+(cx .u64 (uw .u64 (y7+y9)) 32)),uw .u64 (x1*x2))
def nq (n:Nat) (l5:List (Nat)) (x124:Nat) (v16:Int) (n15:Nat):(List (Nat) × Nat × Int)→Option ((List (Nat) × Nat × Int) ⊕ (List (Nat) × Nat)):=fun (l153,v154,v155) =>
br (decide (v155<(l5.length:Int))) (
gd (bD v155 l5.length) (
ob (l5[v155.toNat]?) fun x188 =>
ob (E9 n x124 x188) fun (r191,r192) =>
gd (bD (IntKind.wrap .i64 (v16+v155)) n15) (
ob (l153[(IntKind.wrap .i64 (v16+v155)).toNat]?) fun x197 =>
ob (A8 n x197 r192 0) fun (r200,r201) =>
ob (A8 n r200 v154 0) fun (r203,r204) =>
gd (bD (IntKind.wrap .i64 (v16+v155)) n15) (
some (.inl ((l153.set ((IntKind.wrap .i64 (v16+v155)).toNat) r203),uw .u64 ((uw .u64 (r191+r201))+r204),IntKind.wrap .i64 (v155+1))))))) (
some (.inr (l153,v154)))
def mN (n:Nat) (l1:List (Nat)) (l5:List (Nat)):(List (Nat) × Nat × Int)→Option ((List (Nat) × Nat × Int) ⊕ (List (Nat) × Nat)):=fun (l13,n15,v16) =>
br (decide (v16<(l1.length:Int))) (
gd (bD v16 l1.length) (
ob (l1[v16.toNat]?) fun x124 =>
ob (
bH (nq n l5 x124 v16 n15) n (l13,0,0)) fun (l182,v183) =>
gd (bD (IntKind.wrap .i64 (v16+(l5.length:Int))) n15) (
ob (l182[(IntKind.wrap .i64 (v16+(l5.length:Int))).toNat]?) fun _ =>
some (.inl ((l182.set ((IntKind.wrap .i64 (v16+(l5.length:Int))).toNat) v183),n15,IntKind.wrap .i64 (v16+1)))))) (
some (.inr (l13,n15)))
def EG (n:Nat) (l1:List (Nat)) (l5:List (Nat)):Option (List Nat) :=
gd (decide (0≤IntKind.wrap .i64 ((l1.length:Int)+(l5.length:Int)))) (gd (iB ((IntKind.wrap .i64 ((l1.length:Int)+(l5.length:Int))).toNat)) (
ob (
bH (mN n l1 l5) n ((List.replicate (IntKind.wrap .i64 ((l1.length:Int)+(l5.length:Int))).toNat (0:Nat)),(IntKind.wrap .i64 ((l1.length:Int)+(l5.length:Int))).toNat,0)) fun (l117,_) =>
some l117))
def BT (n:Nat) (x1:Bool) (l2:List (Nat)) (x7:Bool) (l8:List (Nat)):Option (Bool × List Nat) :=
ob (EG n l2 l8) fun l17 =>
ob (mc n (!(x1 == x7)) l17) fun (r21,l22) =>
some (r21,l22)
def yA (n:Nat) (x1:Bool) (l2:List (Nat)):Option (Bool × List Nat) :=
ob (mc n (!x1) l2) fun (r10,l11) =>
some (r10,l11)
def MO (n:Nat) (x1:Bool) (l2:List (Nat)) (x7:Bool) (l8:List (Nat)):Option (Bool × List Nat) :=
ob (yA n x7 l8) fun (r17,l18) =>
ob (oj n x1 l2 r17 l18) fun (r23,l24) =>
some (r23,l24)
def BN (n:Nat) (x1:Nat):Option (Int) :=
ob (A9 n x1) fun r3 =>
some (IntKind.wrap .i64 (64-r3))
def qD (_:Nat):(Nat × Nat × Nat × Nat × Nat × Nat × Nat × Nat)→Option ((Nat × Nat × Nat × Nat × Nat × Nat × Nat × Nat) ⊕ (Nat × Nat × Nat × Nat × Nat × Nat × Nat)):=fun (v20,v21,v22,v23,v24,v25,v26,v27) =>
ob (
br (decide (4294967296≤v26)) (
some true) (
some (decide (uw .u64 ((uw .u64 (4294967296*v27))+v24)<uw .u64 (v26*v23))))) fun v63 =>
br (v63) (
br (decide (4294967296≤uw .u64 (v27+v22))) (
some (.inr (v20,v21,v22,v23,v24,v25,gz .u64 v26 1))) (
some (.inl (v20,v21,v22,v23,v24,v25,gz .u64 v26 1,uw .u64 (v27+v22))))) (
some (.inr (v20,v21,v22,v23,v24,v25,v26)))
def ew (_:Nat) (v54:Nat) (v52:Nat) (v51:Nat):(Nat × Nat)→Option ((Nat × Nat) ⊕ (Nat)):=fun (v76,v77) =>
ob (
br (decide (4294967296≤v77)) (
some true) (
some (decide (uw .u64 ((uw .u64 (4294967296*v76))+v54)<uw .u64 (v77*v52))))) fun v101 =>
br (v101) (
br (decide (4294967296≤uw .u64 (v76+v51))) (
some (.inr (gz .u64 v77 1))) (
some (.inl (uw .u64 (v76+v51),gz .u64 v77 1)))) (
some (.inr v77))
def Ev (n:Nat) (x1:Nat) (x2:Nat) (x3:Nat):Option (Nat × Nat) :=
br (decide (x3=0)) (
none) (
br (decide (x3≤x1)) (
none) (
br (decide (x1=0)) (
gd (decide (0<x3)) (
gd (decide (0<x3)) (
some (uw .u64 (x2/x3),x2%x3)))) (
ob (BN n x3) fun r12 =>
ob (some (uw .u64 (uw .u64 (fJ .u64 x1 (ui .u64 r12)) ||| uw .u64 (cx .u64 x2 (gz .u64 64 (ui .u64 r12)))))) fun y13 =>
gd (decide (0<cx .u64 (fJ .u64 x3 (ui .u64 r12)) 32)) (
ob (some (uw .u64 ((uw .u64 (y13/(cx .u64 (fJ .u64 x3 (ui .u64 r12)) 32)))*(cx .u64 (fJ .u64 x3 (ui .u64 r12)) 32)))) fun y16 =>
ob (
bH (qD n) n (fJ .u64 x3 (ui .u64 r12),ui .u64 r12,cx .u64 (fJ .u64 x3 (ui .u64 r12)) 32,uw .u64 (uw .u64 (fJ .u64 x3 (ui .u64 r12)) &&& uw .u64 4294967295),cx .u64 (fJ .u64 x2 (ui .u64 r12)) 32,uw .u64 (uw .u64 (fJ .u64 x2 (ui .u64 r12)) &&& uw .u64 4294967295),uw .u64 (y13/(cx .u64 (fJ .u64 x3 (ui .u64 r12)) 32)),gz .u64 y13 y16)) fun (v49,v50,v51,v52,v53,v54,v55) =>
ob (some (gz .u64 (uw .u64 ((uw .u64 (y13*4294967296))+v53)) (uw .u64 (v55*v49)))) fun y71 =>
gd (decide (0<v51)) (
ob (
bH (ew n v54 v52 v51) n (gz .u64 y71 (uw .u64 ((uw .u64 (y71/v51))*v51)),uw .u64 (y71/v51))) fun v93 =>
ob (some (gz .u64 (uw .u64 ((uw .u64 (y71*4294967296))+v54)) (uw .u64 (v93*v49)))) fun y109 =>
some (uw .u64 ((uw .u64 (v55*4294967296))+v93),cx .u64 y109 v50))))))
def Iu (n:Nat) (l1:List (Nat)):Option (Int) :=
br (decide ((l1.length:Int)=0)) (
some 0) (
gd (bD (IntKind.wrap .i64 ((l1.length:Int)-1)) l1.length) (
ob (l1[(IntKind.wrap .i64 ((l1.length:Int)-1)).toNat]?) fun x9 =>
ob (BN n x9) fun r12 =>
some (IntKind.wrap .i64 ((IntKind.wrap .i64 (64*(l1.length:Int)))-r12))))
def Dd (_:Nat) (l1:List (Nat)) (x6:Int):(List (Nat) × Nat × Int)→Option ((List (Nat) × Nat × Int) ⊕ (List (Nat) × Nat)):=fun (l13,n15,v16) =>
br (decide (v16<(l1.length:Int))) (
ob (
gd (bD v16 l1.length) (
ob (l1[v16.toNat]?) fun x105 =>
gd (bD (IntKind.wrap .i64 (v16+(IntKind.wrap .i64 (Int.tdiv x6 64)))) n15) (
ob (l13[(IntKind.wrap .i64 (v16+(IntKind.wrap .i64 (Int.tdiv x6 64)))).toNat]?) fun x111 =>
gd (decide (0≤Int.tmod x6 64)) (
ob (some (uw .u64 (uw .u64 x111 ||| uw .u64 (fJ .u64 x105 (Int.tmod x6 64).toNat)))) fun y114 =>
gd (bD (IntKind.wrap .i64 (v16+(IntKind.wrap .i64 (Int.tdiv x6 64)))) n15) (
br (decide (0<Int.tmod x6 64)) (
ob (some (IntKind.wrap .i64 ((IntKind.wrap .i64 (v16+(IntKind.wrap .i64 (Int.tdiv x6 64))))+1))) fun y119 =>
gd (decide (0≤IntKind.wrap .i64 (64-(Int.tmod x6 64)))) (
gd (bD y119 n15) (
ob ((l13.set ((IntKind.wrap .i64 (v16+(IntKind.wrap .i64 (Int.tdiv x6 64)))).toNat) y114)[y119.toNat]?) fun _ =>
some ((l13.set ((IntKind.wrap .i64 (v16+(IntKind.wrap .i64 (Int.tdiv x6 64)))).toNat) y114).set y119.toNat (cx .u64 x105 (IntKind.wrap .i64 (64-(Int.tmod x6 64))).toNat))))) (
some (l13.set ((IntKind.wrap .i64 (v16+(IntKind.wrap .i64 (Int.tdiv x6 64)))).toNat) y114))))))) fun l101 =>
some (.inl (l101,n15,IntKind.wrap .i64 (v16+1)))) (
some (.inr (l13,n15)))
def K0 (n:Nat) (l1:List (Nat)) (x6:Int):Option (List Nat) :=
ob (some (IntKind.wrap .i64 ((l1.length:Int)+(IntKind.wrap .i64 (Int.tdiv x6 64))))) fun y7 =>
gd (decide (0≤IntKind.wrap .i64 (y7+1))) (gd (iB ((IntKind.wrap .i64 (y7+1)).toNat)) (
ob (
bH (Dd n l1 x6) n ((List.replicate (IntKind.wrap .i64 (y7+1)).toNat (0:Nat)),(IntKind.wrap .i64 (y7+1)).toNat,0)) fun (l73,_) =>
ob (mc n false l73) fun (_,l132) =>
some l132))
def mZ (n:Nat) (l1:List (Nat)) (l6:List (Nat)):(List (Nat) × Nat × Int)→Option ((List (Nat) × Nat × Int) ⊕ (List (Nat) × Nat)):=fun (l37,v38,v39) =>
br (decide (0≤v39)) (
gd (bD v39 l1.length) (
ob (l1[v39.toNat]?) fun x67 =>
gd (bD 0 l6.length) (
ob (l6[(0:Int).toNat]?) fun x72 =>
ob (Ev n v38 x67 x72) fun (r75,r76) =>
gd (bD v39 ((l1.length:Int).toNat)) (
ob (l37[v39.toNat]?) fun _ =>
some (.inl ((l37.set v39.toNat r75),r76,IntKind.wrap .i64 (v39-1))))))) (
some (.inr (l37,v38)))
def D4 (n:Nat) (l6:List (Nat)) (l1:List (Nat)):(List (Nat) × List (Nat) × Int)→Option ((List (Nat) × List (Nat) × Int) ⊕ (List (Nat) × List (Nat))):=fun (l155,l156,v159) =>
br (decide (0≤v159)) (
ob (
ob (K0 n l6 v159) fun l260 =>
ob (B6 n l156 l260) fun r265 =>
br (decide (0≤r265)) (
ob (BA n l156 l260) fun l268 =>
ob (mc n false l268) fun (_,l273) =>
gd (bD (IntKind.wrap .i64 (Int.tdiv v159 64)) ((l1.length:Int).toNat)) (
ob (l155[(IntKind.wrap .i64 (Int.tdiv v159 64)).toNat]?) fun x278 =>
gd (decide (0≤Int.tmod v159 64)) (
ob (some (uw .u64 (uw .u64 x278 ||| uw .u64 (fJ .u64 1 (Int.tmod v159 64).toNat)))) fun y281 =>
gd (bD (IntKind.wrap .i64 (Int.tdiv v159 64)) ((l1.length:Int).toNat)) (
some ((l155.set ((IntKind.wrap .i64 (Int.tdiv v159 64)).toNat) y281),l273))))) (
some (l155,l156))) fun (l255,l256) =>
some (.inl (l255,l256,IntKind.wrap .i64 (v159-1)))) (
some (.inr (l155,l156)))
def BP (n:Nat) (l1:List (Nat)) (l6:List (Nat)):Option (List Nat × List Nat) :=
gd (decide (0≤(l1.length:Int))) (gd (iB ((l1.length:Int).toNat)) (
br (decide ((l6.length:Int)=1)) (
ob (
bH (mZ n l1 l6) n ((List.replicate (l1.length:Int).toNat (0:Nat)),0,IntKind.wrap .i64 ((l1.length:Int)-1))) fun (l61,v62) =>
ob (mc n false ([v62])) fun (_,l86) =>
some (l61,l86)) (
ob (Iu n l1) fun r91 =>
ob (Iu n l6) fun r93 =>
ob (
bH (D4 n l6 l1) n ((List.replicate (l1.length:Int).toNat (0:Nat)),l1,IntKind.wrap .i64 (r91-r93))) fun (l224,l225) =>
some (l224,l225))))
def yX (n:Nat) (x1:Bool) (l2:List (Nat)) (x7:Bool) (l8:List (Nat)):Option (Bool × List Nat × Bool × List Nat) :=
ob (BP n l2 l8) fun (l18,l22) =>
ob (mc n (!(x1 == x7)) l18) fun (r27,l28) =>
ob (mc n x1 l22) fun (r33,l34) =>
ob (
br (r33) (
ob (oj n r33 l34 false l8) fun (r65,l66) =>
ob (oj n r27 l28 (!x7) ([1])) fun (r73,l74) =>
some (r73,l74,r65,l66)) (
some (r27,l28,r33,l34))) fun (v54,l55,v58,l59) =>
some (v54,l55,v58,l59)
def jR (n:Nat) (l2:List (Int × Int)) (x7:Nat) (l8:List (Int × Bool)):(Int × List (Int) × Nat)→Option ((Int × List (Int) × Nat) ⊕ ((Bool × List (Nat) × List (Int) × Nat) ⊕ (List (Int) × Nat))):=fun (v4528,l4529,n4531) =>
br (decide (v4528<(l2.length:Int))) (
gd (bD v4528 l2.length) (
ob (l2[v4528.toNat]?) fun (x5684,x5685) =>
ob (α:=(Bool × List (Nat) × List (Int) × Nat) ⊕ (List (Int) × Nat)) (
ob (Hk n x7 x5684 x5685) fun r5879 =>
br (r5879) (
ob (α:=(Bool × List (Nat) × List (Int) × Nat) ⊕ (List (Int) × Nat)) (
ob (
ob (some ((bR l8 v4528).getD false)) fun y6012 =>
br (y6012) (
ob (
ob (Bc n l4529 x5684) fun r6033 =>
ob (Bc n l4529 x5685) fun r6035 =>
gd (bD (ma r6033 r6035) l4529.length) (
ob (l4529[(ma r6033 r6035).toNat]?) fun _ =>
some (!decide (r6033=r6035),(l4529.set ((ma r6033 r6035).toNat) (mi r6033 r6035))))) fun (v6028,l6029) =>
some (l6029,l4529.length,!v6028)) (
some (l4529,n4531,false))) fun (l6008,n6010,v6011) =>
br (v6011) (
ob (vC n 0) fun (r6049,l6050) =>
some (.inl (r6049,l6050,l6008,n6010))) (
some (.inr (l6008,n6010)))) fun r6054=>match r6054 with
| .inl (v5963,l5964,l5967,n5969) =>
some (.inl (v5963,l5964,l5967,n5969))
| .inr (l5970,n5972) =>
some (.inr (l5970,n5972))) (
some (.inr (l4529,n4531)))) fun r6057=>match r6057 with
| .inl (v5866,l5867,l5870,n5872) =>
some (.inr (.inl (v5866,l5867,l5870,n5872)))
| .inr (l5873,n5875) =>
some (.inl (IntKind.wrap .i64 (v4528+1),l5873,n5875)))) (
some (.inr (.inr (l4529,n4531))))
def wG (_:Nat) (n3051:Nat) (l3049:List (Int)):(Int × List (Int × Int))→Option ((Int × List (Int × Int)) ⊕ (Int × List (Int × Int))):=fun (v6095,l6096) =>
gd (bD v6095 n3051) (
ob (l3049[v6095.toNat]?) fun x6113 =>
br (!decide (x6113=v6095)) (
gd (bD v6095 n3051) (
some (.inl (x6113,l6096)))) (
some (.inr (v6095,l6096))))
def DN (_:Nat) (n3051:Nat) (l3049:List (Int)):Int→Option ((Int) ⊕ (Int)):=fun v6745 =>
gd (bD v6745 n3051) (
ob (l3049[v6745.toNat]?) fun x6760 =>
br (!decide (x6760=v6745)) (
gd (bD v6745 n3051) (
some (.inl x6760))) (
some (.inr v6745)))
def n7 (n:Nat) (x7:Nat) (n3051:Nat) (l3049:List (Int)) (v6092:Int):(List (Int × Int) × Int)→Option ((List (Int × Int) × Int) ⊕ (List (Int × Int))):=fun (l6339,v6340) =>
br (decide (v6340<64)) (
ob (
ob (
gd (decide (0≤v6340)) (
br (decide (uw .u64 (uw .u64 (cx .u64 x7 v6340.toNat) &&& uw .u64 1)=1)) (
ob (
ob (
bH (DN n n3051 l3049) n v6340) fun v6755 =>
some v6755) fun v6743 =>
br (decide (v6743=v6340)) (
some (!decide (v6340=v6092))) (
some false)) (
some false))) fun v6718 =>
br (v6718) (
ob (some (l6339.length)) fun y6772 =>
some (fk l6339 v6340 (y6772:Int))) (
some l6339)) fun l6667 =>
some (.inl (l6667,IntKind.wrap .i64 (v6340+1)))) (
some (.inr l6339))
def pt (_:Nat) (y6778:Nat) (l6559:List (Int × Int)):(List (List (Bool × List Nat)) × Int)→Option ((List (List (Bool × List Nat)) × Int) ⊕ (List (List (Bool × List Nat)))):=fun (l6796,v6798) =>
br (decide (v6798<((y6778:Int).toNat:Int))) (
ob (some (l6559.length)) fun y6815 =>
gd (decide (0≤(y6815:Int))) (gd (iB ((y6815:Int).toNat)) (
gd (bD v6798 ((y6778:Int).toNat)) (
ob (l6796[v6798.toNat]?) fun _ =>
gd (decide (0<(y6815:Int).toNat)) (
some (.inl ((l6796.set v6798.toNat (List.replicate ((y6815:Int).toNat) (false,[]))),IntKind.wrap .i64 (v6798+1)))))))) (
some (.inr l6796))
def zA (_:Nat) (n3051:Nat) (l3049:List (Int)):Int→Option ((Int) ⊕ (Int)):=fun v29916 =>
gd (bD v29916 n3051) (
ob (l3049[v29916.toNat]?) fun x29931 =>
br (!decide (x29931=v29916)) (
gd (bD v29916 n3051) (
some (.inl x29931))) (
some (.inr v29916)))
def zR (_:Nat) (n3051:Nat) (l3049:List (Int)):Int→Option ((Int) ⊕ (Int)):=fun v29963 =>
gd (bD v29963 n3051) (
ob (l3049[v29963.toNat]?) fun x29978 =>
br (!decide (x29978=v29963)) (
gd (bD v29963 n3051) (
some (.inl x29978))) (
some (.inr v29963)))
def so (n:Nat) (l2:List (Int × Int)) (x7:Nat) (n3051:Nat) (l3049:List (Int)) (l11:List (Int × Bool)) (l6559:List (Int × Int)) (y6778:Nat):(Int × List (List (Bool × List Nat)))→Option ((Int × List (List (Bool × List Nat))) ⊕ (List (List (Bool × List Nat)))):=fun (v22532,l22533) =>
br (decide (v22532<(l2.length:Int))) (
gd (bD v22532 l2.length) (
ob (l2[v22532.toNat]?) fun (x28422,x28423) =>
ob (
ob (Hk n x7 x28422 x28423) fun r29403 =>
br (r29403) (
ob (
ob (
ob (
bH (zA n n3051 l3049) n x28422) fun v29926 =>
some v29926) fun v29914 =>
ob (
ob (
bH (zR n n3051 l3049) n x28423) fun v29973 =>
some v29973) fun v29961 =>
ob (
ob (some ((bR l11 v22532).getD false)) fun y30000 =>
br (y30000) (
some true) (
some (decide (v29914=v29961)))) fun v29999 =>
br (v29999) (
some l22533) (
ob (
ob (some ((bR l6559 v29914).getD (0:Int),(bR l6559 v29914).isSome)) fun (y30052,y30054) =>
ob (some ((bR l6559 v29914).getD (0:Int),(bR l6559 v29914).isSome)) fun (y30055,y30057) =>
ob (
br (y30054) (
some y30057) (
some false)) fun v30059 =>
br (v30059) (
gd (bD y30052 ((y6778:Int).toNat)) (
ob (l22533[y30052.toNat]?) fun l30065 =>
gd (decide (0<l30065.length)) (
gd (bD y30052 ((y6778:Int).toNat)) (
ob (l22533[y30052.toNat]?) fun l30071 =>
gd (decide (0<l30071.length)) (
gd (bD y30055 l30071.length) (
ob (l30071[y30055.toNat]?) fun (x30077,l30078) =>
ob (vC n 1) fun (r30083,l30084) =>
ob (oj n x30077 l30078 r30083 l30084) fun (r30089,l30090) =>
gd (bD y30055 l30065.length) (
gd (Nat.blt y30055.toNat l30065.length) (
some (l22533.set y30052.toNat (l30065.set y30055.toNat (r30089,l30090))))))))))) (
some l22533)) fun l30050 =>
ob (
ob (some ((bR l6559 v29961).getD (0:Int),(bR l6559 v29961).isSome)) fun (y30144,y30146) =>
ob (some ((bR l6559 v29961).getD (0:Int),(bR l6559 v29961).isSome)) fun (y30147,y30149) =>
ob (
br (y30146) (
some y30149) (
some false)) fun v30151 =>
br (v30151) (
gd (bD y30144 ((y6778:Int).toNat)) (
ob (l30050[y30144.toNat]?) fun l30157 =>
gd (decide (0<l30157.length)) (
gd (bD y30144 ((y6778:Int).toNat)) (
ob (l30050[y30144.toNat]?) fun l30163 =>
gd (decide (0<l30163.length)) (
gd (bD y30147 l30163.length) (
ob (l30163[y30147.toNat]?) fun (x30169,l30170) =>
ob (vC n 1) fun (r30175,l30176) =>
ob (oj n x30169 l30170 r30175 l30176) fun (r30181,l30182) =>
gd (bD y30147 l30157.length) (
gd (Nat.blt y30147.toNat l30157.length) (
some (l30050.set y30144.toNat (l30157.set y30147.toNat (r30181,l30182))))))))))) (
some l30050)) fun l30142 =>
ob (
ob (some ((bR l6559 v29914).getD (0:Int),(bR l6559 v29914).isSome)) fun (y30236,y30238) =>
ob (some ((bR l6559 v29961).getD (0:Int),(bR l6559 v29961).isSome)) fun (y30239,y30241) =>
ob (
br (y30238) (
some y30241) (
some false)) fun v30243 =>
br (v30243) (
gd (bD y30236 ((y6778:Int).toNat)) (
ob (l30142[y30236.toNat]?) fun l30249 =>
gd (decide (0<l30249.length)) (
gd (bD y30236 ((y6778:Int).toNat)) (
ob (l30142[y30236.toNat]?) fun l30255 =>
gd (decide (0<l30255.length)) (
gd (bD y30239 l30255.length) (
ob (l30255[y30239.toNat]?) fun (x30261,l30262) =>
ob (vC n (-1)) fun (r30267,l30268) =>
ob (oj n x30261 l30262 r30267 l30268) fun (r30273,l30274) =>
gd (bD y30239 l30249.length) (
gd (Nat.blt y30239.toNat l30249.length) (
some (l30142.set y30236.toNat (l30249.set y30239.toNat (r30273,l30274))))))))))) (
some l30142)) fun l30234 =>
ob (
ob (some ((bR l6559 v29961).getD (0:Int),(bR l6559 v29961).isSome)) fun (y30328,y30330) =>
ob (some ((bR l6559 v29914).getD (0:Int),(bR l6559 v29914).isSome)) fun (y30331,y30333) =>
ob (
br (y30330) (
some y30333) (
some false)) fun v30335 =>
br (v30335) (
gd (bD y30328 ((y6778:Int).toNat)) (
ob (l30234[y30328.toNat]?) fun l30341 =>
gd (decide (0<l30341.length)) (
gd (bD y30328 ((y6778:Int).toNat)) (
ob (l30234[y30328.toNat]?) fun l30347 =>
gd (decide (0<l30347.length)) (
gd (bD y30331 l30347.length) (
ob (l30347[y30331.toNat]?) fun (x30353,l30354) =>
ob (vC n (-1)) fun (r30359,l30360) =>
ob (oj n x30353 l30354 r30359 l30360) fun (r30365,l30366) =>
gd (bD y30331 l30341.length) (
gd (Nat.blt y30331.toNat l30341.length) (
some (l30234.set y30328.toNat (l30341.set y30331.toNat (r30365,l30366))))))))))) (
some l30234)) fun l30326 =>
some l30326)) fun l29890 =>
some l29890) (
some l22533)) fun l29400 =>
some (.inl (IntKind.wrap .i64 (v22532+1),l29400)))) (
some (.inr l22533))
def qw (n:Nat) (y6778:Nat) (v34724:Int) (v33632:Int) (x34989:Bool) (l34990:List Nat) (v33628:Bool) (l33629:List (Nat)):(List (List (Bool × List Nat)) × Int)→Option ((List (List (Bool × List Nat)) × Int) ⊕ (List (List (Bool × List Nat)))):=fun (l35072,v35074) =>
br (decide (v35074<((y6778:Int).toNat:Int))) (
gd (bD v34724 ((y6778:Int).toNat)) (
ob (l35072[v34724.toNat]?) fun l35157 =>
gd (decide (0<l35157.length)) (
gd (bD v35074 l35157.length) (
ob (l35157[v35074.toNat]?) fun (x35163,l35164) =>
gd (bD v33632 ((y6778:Int).toNat)) (
ob (l35072[v33632.toNat]?) fun l35169 =>
gd (decide (0<l35169.length)) (
gd (bD v33632 l35169.length) (
ob (l35169[v33632.toNat]?) fun (x35175,l35176) =>
ob (BT n x35163 l35164 x35175 l35176) fun (r35181,l35182) =>
gd (bD v33632 ((y6778:Int).toNat)) (
ob (l35072[v33632.toNat]?) fun l35187 =>
gd (decide (0<l35187.length)) (
gd (bD v35074 l35187.length) (
ob (l35187[v35074.toNat]?) fun (x35193,l35194) =>
ob (BT n x34989 l34990 x35193 l35194) fun (r35199,l35200) =>
ob (MO n r35181 l35182 r35199 l35200) fun (r35205,l35206) =>
gd (bD v34724 ((y6778:Int).toNat)) (
ob (l35072[v34724.toNat]?) fun l35212 =>
gd (decide (0<l35212.length)) (
ob (yX n r35205 l35206 v33628 l33629) fun (r35218,l35219,_,_) =>
gd (bD v35074 l35212.length) (
gd (Nat.blt v35074.toNat l35212.length) (
some (.inl ((l35072.set v34724.toNat (l35212.set v35074.toNat (r35218,l35219))),IntKind.wrap .i64 (v35074+1))))))))))))))))) (
some (.inr l35072))
def m5 (n:Nat) (y6778:Nat) (v33632:Int) (v33628:Bool) (l33629:List (Nat)):(List (List (Bool × List Nat)) × Int)→Option ((List (List (Bool × List Nat)) × Int) ⊕ (List (List (Bool × List Nat)))):=fun (l34722,v34724) =>
br (decide (v34724<((y6778:Int).toNat:Int))) (
gd (bD v34724 ((y6778:Int).toNat)) (
ob (l34722[v34724.toNat]?) fun l34983 =>
gd (decide (0<l34983.length)) (
gd (bD v33632 l34983.length) (
ob (l34983[v33632.toNat]?) fun (x34989,l34990) =>
ob (
bH (qw n y6778 v34724 v33632 x34989 l34990 v33628 l33629) n (l34722,v33632)) fun l35153 =>
some (.inl (l35153,IntKind.wrap .i64 (v34724+1))))))) (
some (.inr l34722))
def hJ (n:Nat) (y6778:Nat):(List (List (Bool × List Nat)) × Bool × List (Nat) × Int)→Option ((List (List (Bool × List Nat)) × Bool × List (Nat) × Int) ⊕ ((Bool × List (Nat)) ⊕ (Bool × List (Nat)))):=fun (l33626,v33628,l33629,v33632) =>
br (decide (v33632<((y6778:Int).toNat:Int))) (
gd (bD v33632 ((y6778:Int).toNat)) (
ob (l33626[v33632.toNat]?) fun l34449 =>
gd (decide (0<l34449.length)) (
gd (bD v33632 l34449.length) (
ob (l34449[v33632.toNat]?) fun (x34455,l34456) =>
ob (Le n x34455 l34456) fun r34461 =>
br (decide (r34461=0)) (
ob (vC n 0) fun (r34464,l34465) =>
some (.inr (.inl (r34464,l34465)))) (
ob (
bH (m5 n y6778 v33632 v33628 l33629) n (l33626,IntKind.wrap .i64 (v33632+1))) fun l34979 =>
gd (bD v33632 ((y6778:Int).toNat)) (
ob (l34979[v33632.toNat]?) fun l35235 =>
gd (decide (0<l35235.length)) (
gd (bD v33632 l35235.length) (
ob (l35235[v33632.toNat]?) fun (x35241,l35242) =>
some (.inl (l34979,x35241,l35242,IntKind.wrap .i64 (v33632+1))))))))))) (
some (.inr (.inr (v33628,l33629))))
def Ax (n:Nat) (_:Int) (l2:List (Int × Int)) (x7:Nat) (l8:List (Int × Bool)) (l11:List (Int × Bool)):Option (Bool × List Nat) :=
ob (MW n) fun l19 =>
ob (
some ()) fun _ =>
ob (α:=(Bool × List (Nat) × List (Int) × Nat) ⊕ (List (Int) × Nat)) (
ob (α:=(Bool × List (Nat) × List (Int) × Nat) ⊕ (List (Int) × Nat)) (
bH (jR n l2 x7 l8) n (0,l19,l19.length)) fun r6059=>match r6059 with
| .inl (v5291,l5292,l5295,n5297) =>
some (.inl (v5291,l5292,l5295,n5297))
| .inr (l5298,n5300) =>
some (.inr (l5298,n5300))) fun r6060=>match r6060 with
| .inl (v3042,l3043,_,_) =>
some (v3042,l3043)
| .inr (l3049,n3051) =>
ob (LC n x7) fun r6066 =>
ob (
ob (
bH (wG n n3051 l3049) n (r6066,([]:List (Int × Int)))) fun (v6107,l6108) =>
some (v6107,l6108)) fun (v6092,l6093) =>
ob (
bH (n7 n x7 n3051 l3049 v6092) n (l6093,0)) fun l6559 =>
ob (some (l6559.length)) fun y6778 =>
gd (decide (0≤(y6778:Int))) (gd (iB ((y6778:Int).toNat)) (
ob (
bH (pt n y6778 l6559) n ((List.replicate (y6778:Int).toNat ([]:List (Bool × List Nat))),0)) fun l6812 =>
ob (
some ()) fun _ =>
ob (
ob (
bH (so n l2 x7 n3051 l3049 l11 l6559 y6778) n (0,l6812)) fun l26457 =>
some l26457) fun l18609 =>
ob (
ob (vC n 1) fun (r32819,l32820) =>
ob (α:=(Bool × List (Nat)) ⊕ (Bool × List (Nat))) (
bH (hJ n y6778) n (l18609,r32819,l32820,0)) fun r35247=>match r35247 with
| .inl (v34439,l34440) =>
some (v34439,l34440)
| .inr (v34443,l34444) =>
some (v34443,l34444)) fun (v32813,l32814) =>
some (v32813,l32814)))
def C4 (_:Nat):(List (Nat) × List (Nat) × Int)→Option ((List (Nat) × List (Nat) × Int) ⊕ ((Int) ⊕ (Unit))):=fun (l32,l33,v34) =>
br (decide (0≤v34)) (
gd (bD v34 8) (
ob (l32[v34.toNat]?) fun x52 =>
gd (bD v34 8) (
ob (l33[v34.toNat]?) fun x55 =>
br (!decide (x52=x55)) (
gd (bD v34 8) (
gd (bD v34 8) (
br (decide (x52<x55)) (
some (.inr (.inl (-1)))) (
some (.inr (.inl 1)))))) (
some (.inl (l32,l33,IntKind.wrap .i64 (v34-1))))))) (
some (.inr (.inr ())))
def KT (n:Nat) (x1:Nat) (x2:Nat) (x3:Nat) (x4:Nat) (x5:Nat) (x6:Nat) (x7:Nat) (x8:Nat) (x9:Nat) (x10:Nat) (x11:Nat) (x12:Nat) (x13:Nat) (x14:Nat) (x15:Nat) (x16:Nat):Option (Int) :=
ob (α:=(Int) ⊕ (Unit)) (
bH (C4 n) n (([x1,x2,x3,x4,x5,x6,x7,x8]:List (Nat)),([x9,x10,x11,x12,x13,x14,x15,x16]:List (Nat)),7)) fun r62=>match r62 with
| .inl v49 =>
some v49
| .inr _ =>
some 0
def JI (n:Nat) (x1:Bool) (x2:Nat) (x3:Nat) (x4:Nat) (x5:Nat) (x6:Nat) (x7:Nat) (x8:Nat) (x9:Nat):Option (Nat × Nat × Nat × Nat × Nat × Nat × Nat × Nat × Int) :=
ob (KT n x2 x3 x4 x5 x6 x7 x8 x9 0 0 0 0 0 0 0 9223372036854775808) fun r24 =>
ob (
br (decide (0<r24)) (
some true) (
br (decide (r24=0)) (
some (!x1)) (
some false))) fun v27 =>
br (v27) (
some (0,0,0,0,0,0,0,0,6)) (
ob (
br (x1) (
ob (GP n 0 0 0 0 0 0 0 0 x2 x3 x4 x5 x6 x7 x8 x9) fun (r54,r55,r56,r57,r58,r59,r60,r61,_) =>
some (r54,r55,r56,r57,r58,r59,r60,r61)) (
some (x2,x3,x4,x5,x6,x7,x8,x9))) fun (v44,v45,v46,v47,v48,v49,v50,v51) =>
some (v44,v45,v46,v47,v48,v49,v50,v51,0))
def IL (n:Nat) (x1:Bool) (l2:List (Nat)):Option (Nat × Nat × Nat × Nat × Nat × Nat × Nat × Nat × Int) :=
br (decide (8<(l2.length:Int))) (
some (0,0,0,0,0,0,0,0,6)) (
gd (decide ((l2:List (Nat)).length≤8)) (
ob (Jq ((l2:List (Nat))++([0,0,0,0,0,0,0,0]:List (Nat)).drop (l2:List (Nat)).length)) fun (x12,x13,x14,x15,x16,x17,x18,x19) =>
ob (JI n x1 x12 x13 x14 x15 x16 x17 x18 x19) fun (r21,r22,r23,r24,r25,r26,r27,r28,r29) =>
some (r21,r22,r23,r24,r25,r26,r27,r28,r29)))
def Lw (n:Nat) (x1:Int) (l2:List (Int × Int)) (x6:Nat):Option (Nat × Nat × Nat × Nat × Nat × Nat × Nat × Nat × Int) :=
ob (Li n x1 l2 x6) fun r10 =>
br (!decide (r10=0)) (
some (0,0,0,0,0,0,0,0,r10)) (
ob (Ax n x1 l2 x6 [] []) fun (r13,l14) =>
ob (IL n r13 l14) fun (r19,r20,r21,r22,r23,r24,r25,r26,r27) =>
some (r19,r20,r21,r22,r23,r24,r25,r26,r27))
def nC (n:Nat):(List (Nat) × List (Nat))→Option ((List (Nat) × List (Nat)) ⊕ (List (Nat))):=fun (l26,l29) =>
br (decide (0<(l29.length:Int))) (
ob (BP n l26 l29) fun (_,l57) =>
some (.inl (l29,l57))) (
some (.inr l26))
def Gm (n:Nat) (_:Bool) (l2:List (Nat)) (_:Bool) (l8:List (Nat)):Option (Bool × List Nat) :=
ob (
bH (nC n) n (l2,l8)) fun l48 =>
some (false,l48)
def My (n:Nat) (x1:Bool) (l2:List (Nat)) (x7:Bool) (l8:List (Nat)):Option (Bool × List Nat × Bool × List Nat) :=
ob (Gm n x1 l2 x7 l8) fun (r17,l18) =>
ob (yX n x1 l2 r17 l18) fun (r24,l25,_,_) =>
ob (yX n x7 l8 r17 l18) fun (r37,l38,_,_) =>
ob (
br (r37) (
ob (yA n r24 l25) fun (r72,l73) =>
ob (yA n r37 l38) fun (r78,l79) =>
some (r72,l73,r78,l79)) (
some (r24,l25,r37,l38))) fun (v62,l63,v66,l67) =>
some (v62,l63,v66,l67)
def Na (n:Nat) (x1:Bool) (l2:List (Nat)) (x6:Bool) (l7:List (Nat)):Option (Nat × Nat × Nat × Nat × Nat × Nat × Nat × Nat × Nat × Nat × Nat × Nat × Nat × Nat × Nat × Nat × Int) :=
ob (IL n x1 l2) fun (r14,r15,r16,r17,r18,r19,r20,r21,r22) =>
ob (IL n x6 l7) fun (r25,r26,r27,r28,r29,r30,r31,r32,r33) =>
ob (
br (!decide (r22=0)) (
some true) (
some (!decide (r33=0)))) fun v42 =>
br (v42) (
some (0,0,0,0,0,0,0,0,0,0,0,0,0,0,0,0,6)) (
some (r14,r15,r16,r17,r18,r19,r20,r21,r25,r26,r27,r28,r29,r30,r31,r32,0))
def MA (n:Nat) (x1:Int) (l2:List (Int × Int)) (x6:Nat) (x7:Int):Option (Nat × Nat × Nat × Nat × Nat × Nat × Nat × Nat × Nat × Nat × Nat × Nat × Nat × Nat × Nat × Nat × Int) :=
ob (Li n x1 l2 x6) fun r11 =>
br (!decide (r11=0)) (
some (0,0,0,0,0,0,0,0,0,0,0,0,0,0,0,0,r11)) (
ob (
br (decide (x7<0)) (
some true) (
br (decide ((l2.length:Int)≤x7)) (
some true) (
gd (bD x7 l2.length) (
ob (l2[x7.toNat]?) fun (x53,x54) =>
ob (Hk n x6 x53 x54) fun r57 =>
some (!r57))))) fun v47 =>
br (v47) (
some (0,0,0,0,0,0,0,0,0,0,0,0,0,0,0,0,2)) (
ob (Ax n x1 l2 x6 [] []) fun (r62,l63) =>
ob (Le n r62 l63) fun r69 =>
br (decide (r69=0)) (
some (0,0,0,0,0,0,0,0,0,0,0,0,0,0,0,0,7)) (
ob (Ax n x1 l2 x6 (fk ([]:List (Int × Bool)) x7 true) []) fun (r73,l74) =>
ob (My n r73 l74 r62 l63) fun (r79,l80,r84,l85) =>
ob (Na n r79 l80 r84 l85) fun (r90,r91,r92,r93,r94,r95,r96,r97,r98,r99,r100,r101,r102,r103,r104,r105,r106) =>
some (r90,r91,r92,r93,r94,r95,r96,r97,r98,r99,r100,r101,r102,r103,r104,r105,r106))))
def pN (_:Nat) (l1:List (Int)):(Int × List (Int) × Int)→Option ((Int × List (Int) × Int) ⊕ (Int × List (Int))):=fun (v24,l25,v27) =>
br (decide (v27<(l1.length:Int))) (
gd (bD v27 l1.length) (
ob (l1[v27.toNat]?) fun x52 =>
ob (some (Int.tmod (IntKind.wrap .i64 ((IntKind.wrap .i64 (2*x52))+v24)) 4294967296)) fun y54 =>
gd (iB (l25++[y54]).length) (
ob (some (IntKind.wrap .i64 (Int.tdiv (IntKind.wrap .i64 ((IntKind.wrap .i64 (2*x52))+v24)) 4294967296))) fun y59 =>
some (.inl (y59,(l25++[y54]),IntKind.wrap .i64 (v27+1)))))) (
some (.inr (v24,l25)))
def D7 (n:Nat) (l1:List (Int)) (x6:Int):Option (List Int) :=
ob (
bH (pN n l1) n (x6,([]:List (Int)),0)) fun (v45,l46) =>
gd (iB (l46++[v45]).length) (
ob (me n (l46++[v45])) fun l67 =>
some l67)
def gT (n:Nat) (v224:Int) (l1:List (Int)) (l6:List (Int)) (y15:Int):(List (Int) × List (Int) × Int)→Option ((List (Int) × List (Int) × Int) ⊕ (List (Int) × List (Int))):=fun (l484,l485,v488) =>
br (decide (0≤v488)) (
ob (
gd (bD v224 l1.length) (
ob (l1[v224.toNat]?) fun x588 =>
ob (D7 n l485 (Int.tmod (B0 .i64 x588 v488.toNat) 2)) fun l592 =>
ob (Cf n l592 l6) fun r597 =>
br (decide (0≤r597)) (
ob (xb n l592 l6) fun l600 =>
gd (bD v224 y15.toNat) (
ob (l484[v224.toNat]?) fun x605 =>
gd (bD v224 y15.toNat) (
some ((l484.set v224.toNat (IntKind.wrap .i64 (x605+(Bi .i64 1 v488.toNat)))),l600)))) (
some (l484,l592)))) fun (l581,l582) =>
some (.inl (l581,l582,IntKind.wrap .i64 (v488-1)))) (
some (.inr (l484,l485)))
def mV (n:Nat) (l1:List (Int)) (l6:List (Int)) (y15:Int):(List (Int) × List (Int) × Int)→Option ((List (Int) × List (Int) × Int) ⊕ (List (Int) × List (Int))):=fun (l220,l221,v224) =>
br (decide (0≤v224)) (
ob (
bH (gT n v224 l1 l6 y15) n (l220,l221,31)) fun (l551,l552) =>
some (.inl (l551,l552,IntKind.wrap .i64 (v224-1)))) (
some (.inr (l220,l221)))
def EA (n:Nat) (l1:List (Int)) (l6:List (Int)):Option (List Int × List Int) :=
br (decide ((l1.length:Int)≤IntKind.wrap .i64 ((l6.length:Int)-1))) (
gd (iB (([]:List (Int))++l1).length) (
some ([],(([]:List (Int))++l1)))) (
ob (some (IntKind.wrap .i64 ((l1.length:Int)-(IntKind.wrap .i64 ((l6.length:Int)-1))))) fun y15 =>
gd (decide (0≤y15)) (gd (iB y15.toNat) (
ob (some (IntKind.wrap .i64 ((l1.length:Int)-(IntKind.wrap .i64 ((l6.length:Int)-1))))) fun y21 =>
gd (okB y21 (l1.length:Int) l1.length) (
gd (iB (([]:List (Int))++((l1.drop (y21:Int).toNat).take (((l1.length:Int):Int).toNat-(y21:Int).toNat))).length) (
ob (
bH (mV n l1 l6 y15) n ((List.replicate y15.toNat (0:Int)),(([]:List (Int))++((l1.drop (y21:Int).toNat).take (((l1.length:Int):Int).toNat-(y21:Int).toNat))),IntKind.wrap .i64 ((y15.toNat:Int)-1))) fun (l420,l421) =>
ob (me n l420) fun l617 =>
some (l617,l421))))))
def mT (n:Nat):(List (Int) × List (Int))→Option ((List (Int) × List (Int)) ⊕ (List (Int))):=fun (l26,l29) =>
br (decide (0<(l29.length:Int))) (
ob (EA n l26 l29) fun (_,l57) =>
some (.inl (l29,l57))) (
some (.inr l26))
def G4 (n:Nat) (_:Bool) (l2:List (Int)) (_:Bool) (l8:List (Int)):Option (Bool × List Int) :=
ob (
bH (mT n) n (l2,l8)) fun l48 =>
some (false,l48)
def Bj (n:Nat) (x1:Bool) (l2:List (Int)) (x7:Bool) (l8:List (Int)):Option (Bool × List Int × Bool × List Int) :=
ob (EA n l2 l8) fun (l18,l22) =>
ob (oc n (!(x1 == x7)) l18) fun (r27,l28) =>
ob (oc n x1 l22) fun (r33,l34) =>
ob (
br (r33) (
ob (EY n r33 l34 false l8) fun (r82,l83) =>
br (x7) (
ob (FG n 1) fun (r89,l90) =>
ob (EY n r27 l28 r89 l90) fun (r95,l96) =>
some (r95,l96,r82,l83)) (
ob (FG n 1) fun (r101,l102) =>
ob (Jw n r27 l28 r101 l102) fun (r107,l108) =>
some (r107,l108,r82,l83))) (
some (r27,l28,r33,l34))) fun (v72,l73,v76,l77) =>
some (v72,l73,v76,l77)
def G2 (n:Nat) (x1:Bool) (l2:List (Int)) (x7:Bool) (l8:List (Int)):Option (Bool × List Int × Bool × List Int) :=
ob (G4 n x1 l2 x7 l8) fun (r17,l18) =>
ob (
br (x7) (
ob (Hz n r17 l18) fun (r36,l37) =>
some (r36,l37)) (
some (r17,l18))) fun (v30,l31) =>
ob (Bj n x1 l2 v30 l31) fun (r44,l45,_,_) =>
ob (Bj n x7 l8 v30 l31) fun (r57,l58,_,_) =>
some (r44,l45,r57,l58)
def G7 (n:Nat) (x1:Int) (x2:Int):Option (Bool × List Int × Bool × List Int) :=
ob (FG n x1) fun (r5,l6) =>
ob (FG n x2) fun (r11,l12) =>
ob (G2 n r5 l6 r11 l12) fun (r17,l18,r22,l23) =>
some (r17,l18,r22,l23)
def F6 (n:Nat) (x1:Bool) (l2:List (Int)) (x6:Bool) (l7:List (Int)):Option (Nat × Nat × Nat × Nat × Nat × Nat × Nat × Nat × Nat × Nat × Nat × Nat × Nat × Nat × Nat × Nat × Int) :=
ob (IE n x1 l2) fun (r14,r15,r16,r17,r18,r19,r20,r21,r22) =>
ob (IE n x6 l7) fun (r25,r26,r27,r28,r29,r30,r31,r32,r33) =>
ob (
br (!decide (r22=0)) (
some true) (
some (!decide (r33=0)))) fun v42 =>
br (v42) (
some (0,0,0,0,0,0,0,0,0,0,0,0,0,0,0,0,6)) (
some (r14,r15,r16,r17,r18,r19,r20,r21,r25,r26,r27,r28,r29,r30,r31,r32,0))
def Cr (n:Nat) (x1:Int) (x2:Int):Option (Nat × Nat × Nat × Nat × Nat × Nat × Nat × Nat × Nat × Nat × Nat × Nat × Nat × Nat × Nat × Nat × Int) :=
br (decide (x2=0)) (
some (0,0,0,0,0,0,0,0,0,0,0,0,0,0,0,0,7)) (
ob (G7 n x1 x2) fun (r6,l7,r11,l12) =>
ob (F6 n r6 l7 r11 l12) fun (r17,r18,r19,r20,r21,r22,r23,r24,r25,r26,r27,r28,r29,r30,r31,r32,r33) =>
some (r17,r18,r19,r20,r21,r22,r23,r24,r25,r26,r27,r28,r29,r30,r31,r32,r33))
def rV (_:Nat) (v135:Int) (l17:List (List Int)) (x7:Int):(Int × Int)→Option ((Int × Int) ⊕ (Int)):=fun (v216,v217) =>
gd (bD v135 l17.length) (
ob (l17[v135.toNat]?) fun l255 =>
br (decide (v217<(l255.length:Int))) (
ob (
gd (bD v135 l17.length) (
ob (l17[v135.toNat]?) fun l273 =>
gd (bD v217 l273.length) (
ob (l273[v217.toNat]?) fun x280 =>
br (decide (x280=x7)) (
some (IntKind.wrap .i64 (v216+1))) (
some v216)))) fun v271 =>
some (.inl (v271,IntKind.wrap .i64 (v217+1)))) (
some (.inr v216)))
def qM (n:Nat) (l17:List (List Int)) (x7:Int):(Int × Int)→Option ((Int × Int) ⊕ (Int)):=fun (v134,v135) =>
br (decide (v135<(l17.length:Int))) (
ob (
bH (rV n v135 l17 x7) n (v134,0)) fun v252 =>
some (.inl (v252,IntKind.wrap .i64 (v135+1)))) (
some (.inr v134))
def Lu (n:Nat) (x1:Int) (l2:List (Int × Int)) (x6:Nat) (x7:Int):Option (Nat × Nat × Nat × Nat × Nat × Nat × Nat × Nat × Nat × Nat × Nat × Nat × Nat × Nat × Nat × Nat × Int) :=
ob (Lm n x1 l2 x6) fun r11 =>
br (!decide (r11=0)) (
some (0,0,0,0,0,0,0,0,0,0,0,0,0,0,0,0,r11)) (
ob (Lh n x1 l2 x6 x7) fun r14 =>
br (!r14) (
some (0,0,0,0,0,0,0,0,0,0,0,0,0,0,0,0,2)) (
ob (Ld n x1 l2 x6) fun l17 =>
br (decide ((l17.length:Int)=0)) (
some (0,0,0,0,0,0,0,0,0,0,0,0,0,0,0,0,7)) (
ob (
bH (qM n l17 x7) n (0,0)) fun v212 =>
ob (Cr n v212 (l17.length:Int)) fun (r290,r291,r292,r293,r294,r295,r296,r297,r298,r299,r300,r301,r302,r303,r304,r305,r306) =>
some (r290,r291,r292,r293,r294,r295,r296,r297,r298,r299,r300,r301,r302,r303,r304,r305,r306))))
end Go.Proofs.YtookeaakpiefjaaGreatDoor
end

section
namespace Go.Proofs.YtookeaakpiefjaaGreatDoor
open Go Go.Ab Go.Ab.W
set_option maxRecDepth 10000
def xC (n:Nat) (x12:Int) (y1413:Nat) (x1371:Int) (l1372:List (Int × Int)) (x1375:Nat):Int→Option ((Int) ⊕ ((Unit) ⊕ (Unit))):=fun v1416 =>
br (decide (v1416<2)) (
gd (bD v1416 2) (
ob ([x12,IntKind.wrap .i64 ((y1413:Nat):Int)][v1416.toNat]?) fun x1561 =>
ob (MA n x1371 l1372 x1375 x1561) fun (r1565,r1566,r1567,r1568,r1569,r1570,r1571,r1572,r1573,r1574,r1575,r1576,r1577,r1578,r1579,r1580,r1581) =>
ob (Lu n x1371 l1372 x1375 x1561) fun (r1584,r1585,r1586,r1587,r1588,r1589,r1590,r1591,r1592,r1593,r1594,r1595,r1596,r1597,r1598,r1599,r1600) =>
ob (
br (!(decide (r1565=r1584) && decide (r1566=r1585) && decide (r1567=r1586) && decide (r1568=r1587) && decide (r1569=r1588) && decide (r1570=r1589) && decide (r1571=r1590) && decide (r1572=r1591) && decide (r1573=r1592) && decide (r1574=r1593) && decide (r1575=r1594) && decide (r1576=r1595) && decide (r1577=r1596) && decide (r1578=r1597) && decide (r1579=r1598) && decide (r1580=r1599))) (
some true) (
some (!decide (r1581=r1600)))) fun v1603 =>
br (v1603) (
some (.inr (.inl ()))) (
some (.inl (IntKind.wrap .i64 (v1416+1)))))) (
some (.inr (.inr ())))
def yV (n:Nat) (v76:Int) (l77:List (Int × Int)) (v79:Nat) (v80:Int) (v81:Nat) (v82:Int) (l83:List (Int × Int)) (v85:Nat) (x12:Int):Int→Option ((Int) ⊕ ((Unit) ⊕ (Unit))):=fun v634 =>
br (decide (v634<3)) (
gd (bD v634 3) (
ob (([(v76,l77,v79),(v80,l77,v81),(v82,l83,v85)]:List (Int × List (Int × Int) × Nat))[v634.toNat]?) fun (x1371,l1372,x1375) =>
ob (Lw n x1371 l1372 x1375) fun (r1379,r1380,r1381,r1382,r1383,r1384,r1385,r1386,r1387) =>
ob (Mg n x1371 l1372 x1375) fun (r1390,r1391,r1392,r1393,r1394,r1395,r1396,r1397,r1398) =>
ob (
br (!(decide (r1379=r1390) && decide (r1380=r1391) && decide (r1381=r1392) && decide (r1382=r1393) && decide (r1383=r1394) && decide (r1384=r1395) && decide (r1385=r1396) && decide (r1386=r1397))) (
some true) (
some (!decide (r1387=r1398)))) fun v1407 =>
br (v1407) (
some (.inr (.inl ()))) (
gd (decide (0<ui .u64 (IntKind.wrap .i64 ((l1372.length:Int)+1)))) (
ob (some ((ui .u64 x12)%(ui .u64 (IntKind.wrap .i64 ((l1372.length:Int)+1))))) fun y1413 =>
ob (α:=(Unit) ⊕ (Unit)) (
bH (xC n x12 y1413 x1371 l1372 x1375) n 0) fun r1609=>match r1609 with
| .inl _ =>
some (.inr (.inl ()))
| .inr _ =>
some (.inl (IntKind.wrap .i64 (v634+1))))))) (
some (.inr (.inr ())))
def F3 (n:Nat) (x1:Nat) (x2:Nat) (x3:Nat) (l4:List (Nat × Nat)) (x8:Nat) (x9:Nat) (x10:Int) (x11:Nat) (x12:Int):Option (Bool) :=
ob (F8 n) fun r16 =>
br (!r16) (
some false) (
ob (
ob (M3 n x1 x2 x3 l4) fun (r89,l90) =>
ob (Ix n r89 l90 x8) fun r95 =>
ob (Ix n r89 l90 18446744073709551615) fun r97 =>
ob (LU n x9 x10 x11 r89 l90 r95) fun (r100,l101,r104) =>
ob (
ob (
ob (II n r100 l101) fun r130 =>
br (decide (r130=0)) (
ob (IC n r104) fun r133 =>
some (decide (9<r133))) (
some false)) fun v128 =>
br (v128) (
ob (Ix n r100 l101 r104) fun r138 =>
some r138) (
some r104)) fun v122 =>
some (r89,l90,r95,r89,r97,r100,l101,v122)) fun (v76,l77,v79,v80,v81,v82,l83,v85) =>
ob (α:=(Unit) ⊕ (Unit)) (
bH (yV n v76 l77 v79 v80 v81 v82 l83 v85 x12) n 0) fun r1611=>match r1611 with
| .inl _ =>
some false
| .inr _ =>
some true)
end Go.Proofs.YtookeaakpiefjaaGreatDoor
end

section
namespace Go.Ab.W
open Go Go.Ab
section
variable {P : Program} {ty el : TypeId}
theorem fa {eq:TypeId→Value→Value→Option Bool} {xs ys:Array Value} {t off:Nat} {rest:List (TypeId × Nat)} {x y:Value} {b r:Bool} (h1:ef P t xs off=some x) (h2:ef P t ys off=some y) (h3:eq t x y=some b) (h4:fL eq P xs ys rest=some r):fL eq P xs ys ((t,off)::rest)=some (b && r):=by
 unfold fL;rw [h1,h2]
 dsimp only
 rw [h3];cases b with
 | true=>exact h4
 | false=>rfl
theorem nV {k:IntKind} (he:P.underlying el=some (.int k)) (d:Nat) (x y:Nat):iA P (d+1) el (.int k ((x:Nat):Int)) (.int k ((y:Nat):Int))=some (decide (x=y)):=by
 simp only [iA,he,if_true]
 congr 1
 rw [Bool.eq_iff_iff];simp only [beq_iff_eq,decide_eq_true_eq];omega
theorem zd {k:IntKind} (hu:P.underlying ty=some (.array 8 el)) (hk:known P el=true) (hs:an P el=1) (ha:cP P el=false) (he:P.underlying el=some (.int k)) (d:Nat) (x0 y0 x1 y1 x2 y2 x3 y3 x4 y4 x5 y5 x6 y6 x7 y7:Nat) :
  iA P (d+2) ty (.agg #[.int k ((x0:Nat):Int),.int k ((x1:Nat):Int),.int k ((x2:Nat):Int),.int k ((x3:Nat):Int),.int k ((x4:Nat):Int),.int k ((x5:Nat):Int),.int k ((x6:Nat):Int),.int k ((x7:Nat):Int)])
   (.agg #[.int k ((y0:Nat):Int),.int k ((y1:Nat):Int),.int k ((y2:Nat):Int),.int k ((y3:Nat):Int),.int k ((y4:Nat):Int),.int k ((y5:Nat):Int),.int k ((y6:Nat):Int),.int k ((y7:Nat):Int)]) =
   some (decide (x0=y0) && decide (x1=y1) && decide (x2=y2) && decide (x3=y3) && decide (x4=y4) && decide (x5=y5) && decide (x6=y6) && decide (x7=y7)):=by
 have hp:∀ (cs:Array Value) (i:Nat) (v:Value),cs[i]? = some v→ef P el cs i=some v:=fun cs i v h=>by
  unfold ef;rw [hk,ha,h]; rfl
 show iA P ((d+1)+1) ty _ _=_
 unfold iA;simp only [hu,hk,if_true,hs]
 show fL _ P _ _ [(el,0),(el,1),(el,2),(el,3),(el,4),(el,5),(el,6),(el,7)]=_
 simp only [Bool.and_assoc];rw [fa (hp _ 0 _ rfl) (hp _ 0 _ rfl) (nV he d x0 y0) (fa (hp _ 1 _ rfl) (hp _ 1 _ rfl) (nV he d x1 y1) (fa (hp _ 2 _ rfl) (hp _ 2 _ rfl) (nV he d x2 y2) (fa (hp _ 3 _ rfl) (hp _ 3 _ rfl) (nV he d x3 y3) (fa (hp _ 4 _ rfl) (hp _ 4 _ rfl) (nV he d x4 y4) (fa (hp _ 5 _ rfl) (hp _ 5 _ rfl) (nV he d x5 y5) (fa (hp _ 6 _ rfl) (hp _ 6 _ rfl) (nV he d x6 y6) (fa (hp _ 7 _ rfl) (hp _ 7 _ rfl) (nV he d x7 y7) rfl)))))))];simp only [Bool.and_true]
theorem LX {k:IntKind} (hu:P.underlying ty=some (.array 8 el)) (hk:known P el=true) (hs:an P el=1) (ha:cP P el=false) (he:P.underlying el=some (.int k)) (x0 y0 x1 y1 x2 y2 x3 y3 x4 y4 x5 y5 x6 y6 x7 y7:Nat) :
  iA P Op.maxDepth ty (.agg #[.int k ((x0:Nat):Int),.int k ((x1:Nat):Int),.int k ((x2:Nat):Int),.int k ((x3:Nat):Int),.int k ((x4:Nat):Int),.int k ((x5:Nat):Int),.int k ((x6:Nat):Int),.int k ((x7:Nat):Int)])
   (.agg #[.int k ((y0:Nat):Int),.int k ((y1:Nat):Int),.int k ((y2:Nat):Int),.int k ((y3:Nat):Int),.int k ((y4:Nat):Int),.int k ((y5:Nat):Int),.int k ((y6:Nat):Int),.int k ((y7:Nat):Int)]) =
   some (decide (x0=y0) && decide (x1=y1) && decide (x2=y2) && decide (x3=y3) && decide (x4=y4) && decide (x5=y5) && decide (x6=y6) && decide (x7=y7)) :=
 zd hu hk hs ha he 9998 x0 y0 x1 y1 x2 y2 x3 y3 x4 y4 x5 y5 x6 y6 x7 y7
theorem Lv {k : IntKind} {w : TypeId} {fs : Array _} (hu2 : P.underlying ty = some (.struct fs)) (hst : (P.stoodInHeld ty || fs.any (·.name == "_")) = false) (hm : fs.toList.map (fun f => (f.type, f.offset)) = [(w, 0), (w, 8)])
  (hkw:known P w=true) (haw:cP P w=true) (hsw:an P w=8)
  (hu:P.underlying w=some (.array 8 el)) (hk:known P el=true) (hs:an P el=1) (ha:cP P el=false) (he:P.underlying el=some (.int k)) (x0 y0 x1 y1 x2 y2 x3 y3 x4 y4 x5 y5 x6 y6 x7 y7 x8 y8 x9 y9 x10 y10 x11 y11 x12 y12 x13 y13 x14 y14 x15 y15:Nat) :
  iA P Op.maxDepth ty (.agg #[.int k ((x0:Nat):Int),.int k ((x1:Nat):Int),.int k ((x2:Nat):Int),.int k ((x3:Nat):Int),.int k ((x4:Nat):Int),.int k ((x5:Nat):Int),.int k ((x6:Nat):Int),.int k ((x7:Nat):Int),.int k ((x8:Nat):Int),.int k ((x9:Nat):Int),.int k ((x10:Nat):Int),.int k ((x11:Nat):Int),.int k ((x12:Nat):Int),.int k ((x13:Nat):Int),.int k ((x14:Nat):Int),.int k ((x15:Nat):Int)]) (.agg #[.int k ((y0:Nat):Int),.int k ((y1:Nat):Int),.int k ((y2:Nat):Int),.int k ((y3:Nat):Int),.int k ((y4:Nat):Int),.int k ((y5:Nat):Int),.int k ((y6:Nat):Int),.int k ((y7:Nat):Int),.int k ((y8:Nat):Int),.int k ((y9:Nat):Int),.int k ((y10:Nat):Int),.int k ((y11:Nat):Int),.int k ((y12:Nat):Int),.int k ((y13:Nat):Int),.int k ((y14:Nat):Int),.int k ((y15:Nat):Int)])=some (decide (x0=y0) && decide (x1=y1) && decide (x2=y2) && decide (x3=y3) && decide (x4=y4) && decide (x5=y5) && decide (x6=y6) && decide (x7=y7) && decide (x8=y8) && decide (x9=y9) && decide (x10=y10) && decide (x11=y11) && decide (x12=y12) && decide (x13=y13) && decide (x14=y14) && decide (x15=y15)):=by
 have hp0:∀ a0 a1 a2 a3 a4 a5 a6 a7 b0 b1 b2 b3 b4 b5 b6 b7:Value,ef P w #[a0,a1,a2,a3,a4,a5,a6,a7,b0,b1,b2,b3,b4,b5,b6,b7] 0=some (.agg #[a0,a1,a2,a3,a4,a5,a6,a7]):=fun _ _ _ _ _ _ _ _ _ _ _ _ _ _ _ _=>by
  unfold ef;rw [hkw,haw,hsw]; rfl
 have hp8:∀ a0 a1 a2 a3 a4 a5 a6 a7 b0 b1 b2 b3 b4 b5 b6 b7:Value,ef P w #[a0,a1,a2,a3,a4,a5,a6,a7,b0,b1,b2,b3,b4,b5,b6,b7] 8=some (.agg #[b0,b1,b2,b3,b4,b5,b6,b7]):=fun _ _ _ _ _ _ _ _ _ _ _ _ _ _ _ _=>by
  unfold ef;rw [hkw,haw,hsw]; rfl
 show iA P (9999+1) ty _ _=_
 unfold iA;simp only [hu2,hst,Bool.false_eq_true,if_false,hm];rw [fa (hp0 ..) (hp0 ..) (zd hu hk hs ha he 9997 x0 y0 x1 y1 x2 y2 x3 y3 x4 y4 x5 y5 x6 y6 x7 y7) (fa (hp8 ..) (hp8 ..) (zd hu hk hs ha he 9997 x8 y8 x9 y9 x10 y10 x11 y11 x12 y12 x13 y13 x14 y14 x15 y15) rfl)];simp only [Bool.and_true,Bool.and_assoc]
def Mi (P:Program) (ty w:TypeId):Bool:=match P.underlying ty with
 | some (.struct fs) => !(P.stoodInHeld ty || fs.any (·.name == "_")) && (fs.toList.map (fun f => (f.type, f.offset)) == [(w, 0), (w, 8)]) && known P w && cP P w && (an P w == 8)
 | _=>false
theorem JM {k:IntKind} {w:TypeId} (h:Mi P ty w=true)
  (hu:P.underlying w=some (.array 8 el)) (hk:known P el=true) (hs:an P el=1) (ha:cP P el=false) (he:P.underlying el=some (.int k)) (x0 y0 x1 y1 x2 y2 x3 y3 x4 y4 x5 y5 x6 y6 x7 y7 x8 y8 x9 y9 x10 y10 x11 y11 x12 y12 x13 y13 x14 y14 x15 y15:Nat) :
  iA P Op.maxDepth ty (.agg #[.int k ((x0:Nat):Int),.int k ((x1:Nat):Int),.int k ((x2:Nat):Int),.int k ((x3:Nat):Int),.int k ((x4:Nat):Int),.int k ((x5:Nat):Int),.int k ((x6:Nat):Int),.int k ((x7:Nat):Int),.int k ((x8:Nat):Int),.int k ((x9:Nat):Int),.int k ((x10:Nat):Int),.int k ((x11:Nat):Int),.int k ((x12:Nat):Int),.int k ((x13:Nat):Int),.int k ((x14:Nat):Int),.int k ((x15:Nat):Int)]) (.agg #[.int k ((y0:Nat):Int),.int k ((y1:Nat):Int),.int k ((y2:Nat):Int),.int k ((y3:Nat):Int),.int k ((y4:Nat):Int),.int k ((y5:Nat):Int),.int k ((y6:Nat):Int),.int k ((y7:Nat):Int),.int k ((y8:Nat):Int),.int k ((y9:Nat):Int),.int k ((y10:Nat):Int),.int k ((y11:Nat):Int),.int k ((y12:Nat):Int),.int k ((y13:Nat):Int),.int k ((y14:Nat):Int),.int k ((y15:Nat):Int)])=some (decide (x0=y0) && decide (x1=y1) && decide (x2=y2) && decide (x3=y3) && decide (x4=y4) && decide (x5=y5) && decide (x6=y6) && decide (x7=y7) && decide (x8=y8) && decide (x9=y9) && decide (x10=y10) && decide (x11=y11) && decide (x12=y12) && decide (x13=y13) && decide (x14=y14) && decide (x15=y15)):=by
 unfold Mi at h
 split at h
 ·rename_i fs hf;simp only [Bool.and_eq_true,Bool.not_eq_true',beq_iff_eq] at h;exact Lv hf h.1.1.1.1 h.1.1.1.2 h.1.1.2 h.1.2 h.2 hu hk hs ha he x0 y0 x1 y1 x2 y2 x3 y3 x4 y4 x5 y5 x6 y6 x7 y7 x8 y8 x9 y9 x10 y10 x11 y11 x12 y12 x13 y13 x14 y14 x15 y15
 ·cases h
end
end Go.Ab.W
end

section
namespace Go.Ab.W
open Go Go.Ab
class TyC (P:Program) (ty:TypeId) (ag:outParam Bool) (sz:outParam Nat):Prop where
 t:TyI P ty ag sz
class FaC (P:Program) (ty:TypeId) (f:Nat) (off:outParam Nat):Prop where
 t:∀ b o:Nat,aD P ty (ptr b o) f=some (ptr b (o+off))
class SlC (P:Program) (ty:TypeId) (el:outParam TypeId) (w:outParam Nat):Prop where
 t:SlT P ty el w
class ArC (P:Program) (ty:TypeId) (el:outParam TypeId) (len w:outParam Nat):Prop where
 t:ArT P ty el len w
class UsC (P:Program) (ty:TypeId) (el:outParam TypeId):Prop where
 t:P.underlying ty=some (.slice el)
section
variable {E : Env} {n : Nat} {m0 : AMem} {fs : Fs} {ps ps' : List Pc} {ops : Array Oper} {os : List Oper} {K : Tm → AMem → Prop} {dr : Bool}
variable {ty : TypeId} {p : String} {af : Array Edge} {d : Option Nat} {o : Op} {g : Option (Nat × Bool)} {v : Value}
theorem Wo.On {j:Nat} {b:Bool} (hg:oB ops fs (some (j,b)) true) (k:Wo dr E n ops K (⟨d,o,ty,p,af,none⟩::os) m0 fs ps):Wo dr E n ops K (⟨d,o,ty,p,af,some (j,b)⟩::os) m0 fs ps:=by
 cases dr with
 | false =>
  intro t m hf hm;have h:=k t m hf hm;simp only [iz,hg t _ _ _ _ _ hf,if_true];simp only [iz,gn t _ _ _ _ _ hf,if_true] at h;exact h
 | true =>
  intro t m w hf hm hw;have h:=k t m w hf hm hw;simp only [fA,hg t _ _ _ _ _ hf,if_true];simp only [fA,gn t _ _ _ _ _ hf,if_true] at h;exact h
end
section
variable {k : IntKind} {P : Program} {ty : TypeId}
theorem K5 (_:k.signed=true) (a b:Int):aL .add ty P (.int k a) (.int k b)=some (.int k (k.wrap (a+b))):=dL _ _ _
theorem Jg (_:k.signed=true) (a b:Int):aL .sub ty P (.int k a) (.int k b)=some (.int k (k.wrap (a-b))):=dw _ _ _
theorem JB (_:k.signed=true) (a b:Int):aL .lss ty P (.int k a) (.int k b)=some (.bool (decide (a<b))):=fF _ _ _
theorem Kg (_:k.signed=true) (a b:Int):aL .leq ty P (.int k a) (.int k b)=some (.bool (decide (a≤b))):=oE _ _ _
theorem KP (_:k.signed=true) (a b:Int):aL .gtr ty P (.int k a) (.int k b)=some (.bool (decide (b<a))):=fH _ _ _
theorem Kb (_:k.signed=true) (a b:Int):aL .geq ty P (.int k a) (.int k b)=some (.bool (decide (b≤a))):=fG _ _ _
theorem Ku (_:k.signed=true) (a b:Int):aL .eql ty P (.int k a) (.int k b)=some (.bool (decide (a=b))):=o5 _ _ _
theorem K2 (_:k.signed=true) (a b:Int):aL .neq ty P (.int k a) (.int k b)=some (.bool (!decide (a=b))):=Kd _ _
theorem J0 (_:k.signed=false) (a b:Nat):aL .lss ty P (.int k (a:Int)) (.int k (b:Int))=some (.bool (decide (a<b))):=Kh _ _
theorem K4 (_:k.signed=false) (a b:Nat):aL .leq ty P (.int k (a:Int)) (.int k (b:Int))=some (.bool (decide (a≤b))):=KO _ _
theorem JR (_:k.signed=false) (a b:Nat):aL .gtr ty P (.int k (a:Int)) (.int k (b:Int))=some (.bool (decide (b<a))):=Ko _ _
theorem JW (_:k.signed=false) (a b:Nat):aL .geq ty P (.int k (a:Int)) (.int k (b:Int))=some (.bool (decide (b≤a))):=I7 _ _
theorem KU (_:k.signed=false) (a b:Nat):aL .eql ty P (.int k (a:Int)) (.int k (b:Int))=some (.bool (decide (a=b))):=C2 _ _
theorem KS (_:k.signed=false) (a b:Nat):aL .neq ty P (.int k (a:Int)) (.int k (b:Int))=some (.bool (!decide (a=b))):=J9 _ _
end
section
variable {E : Env} {n : Nat} {m0 : AMem} {fs : Fs} {ps ps' : List Pc} {ops : Array Oper} {os : List Oper} {K : Tm → AMem → Prop} {dr : Bool}
variable {ty ty' oty : TypeId} {p : String} {af : Array Edge} {d : Nat} {dd : Option Nat} {o : Op} {a b r v : Value} {x y c : Operand}
theorem Wo.kN (k:Wo dr E n ops K (⟨dd,o,ty,p,af,none⟩::os) m0 fs ps):Wo dr E n ops K (⟨dd,o,ty,p,af,none⟩::os) m0 fs ps:=k
theorem Wo.kG {g:Nat × Bool} (k:Wo dr E n ops K (⟨dd,o,ty,p,af,some g⟩::os) m0 fs ps):Wo dr E n ops K (⟨dd,o,ty,p,af,some g⟩::os) m0 fs ps:=k
def Has (ps:List Pc) (q:Pc):Prop:=∃ k,pk ps k=some q
theorem Has.z {q:Pc}:Has (q::ps) q:=⟨0,rfl⟩
theorem Has.s {q q':Pc} (h:Has ps q):Has (q'::ps) q:=by obtain ⟨k,h⟩:=h; exact ⟨k+1,h⟩
theorem Wo.Ow (h:ev E fs x=some v) (hd:Nat.blt d n=true) (k:Wo dr E n ops K os m0 ((d,v)::fs) ps):Wo dr E n ops K (⟨some d,.move x,ty,p,af,none⟩::os) m0 fs ps:=Wo.od (az h) hd k
theorem Wo.OQ (h:ev E fs x=some v) (hd:Nat.blt d n=true) (k:Wo dr E n ops K os m0 ((d,v)::fs) ps):Wo dr E n ops K (⟨some d,.assign x,ty,p,af,none⟩::os) m0 fs ps:=Wo.od (bG h) hd k
theorem Wo.O0 {op:BinOp} (h:ev E fs x=some a) (h':ev E fs y=some b) (hr:aL op oty E.P a b=some r) (hd:Nat.blt d n=true) (k:Wo dr E n ops K os m0 ((d,r)::fs) ps):Wo dr E n ops K (⟨some d,.binOp op oty x y ty',ty,p,af,none⟩::os) m0 fs ps:=Wo.od (aE h h' hr) hd k
theorem Wo.Oy {f:Nat} (h:ev E fs x=some a) (hr:aD E.P oty a f=some r) (hd:Nat.blt d n=true) (k:Wo dr E n ops K os m0 ((d,r)::fs) ps):Wo dr E n ops K (⟨some d,.fieldAddr oty x f,ty,p,af,none⟩::os) m0 fs ps:=Wo.od (cm h hr) hd k
theorem Wo.Oz {ag:Bool} {sz b o:Nat} {cs:List Value} {tg:Tag} (ht:TyI E.P oty ag sz) (hx:ev E fs x=some (ptr b o)) (hp:Has ps (.obj b (.cells cs tg))) (hv:xw ag sz cs o=some v) (hd:Nat.blt d n=true) (k:Wo dr E n ops K os m0 ((d,v)::fs) ps):Wo dr E n ops K (⟨some d,.load oty x,ty,p,af,none⟩::os) m0 fs ps:=by
 obtain ⟨q,hp⟩:=hp;exact Wo.od (bz ht hx hp hv) hd k
theorem Wo.NH {ag:Bool} {sz b o w j c l:Nat} {es:List (List Value)} {e:List Value} (ht:TyI E.P oty ag sz) (hx:ev E fs x=some (ptr b (o+j*w+c))) (hp:Has ps (.ro b o w l es)) (he:es[j]? = some e) (hv:xw ag sz e c=some v) (hs:ym ag sz c w=true) (hd:Nat.blt d n=true) (k:Wo dr E n ops K os m0 ((d,v)::fs) ps):Wo dr E n ops K (⟨some d,.load oty x,ty,p,af,none⟩::os) m0 fs ps:=by
 obtain ⟨q,hp⟩:=hp;exact Wo.od (gF ht hx hp he hv hs) hd k
theorem Wo.NZ {ag:Bool} {sz b w j c l:Nat} {es:List (List Value)} {e:List Value} {tg:Tag} (ht:TyI E.P oty ag sz) (hx:ev E fs x=some (ptr b (j*w+c))) (hp:Has ps (.arr b w l es tg)) (he:es[j]? = some e) (hv:xw ag sz e c=some v) (hs:ym ag sz c w=true) (hd:Nat.blt d n=true) (k:Wo dr E n ops K os m0 ((d,v)::fs) ps):Wo dr E n ops K (⟨some d,.load oty x,ty,p,af,none⟩::os) m0 fs ps:=by
 obtain ⟨q,hp⟩:=hp;exact Wo.od (uZ ht hx hp he hv hs) hd k
def EP (ps:List Pc) (q q':Pc) (ps':List Pc):Prop:=∃ k,pk ps k=some q∧bN ps k q'=ps'
theorem EP.z {q q':Pc}:EP (q::ps) q q' (q'::ps):=⟨0,rfl,rfl⟩
theorem EP.s {q q' r:Pc} (h:EP ps q q' ps'):EP (r::ps) q q' (r::ps'):=by obtain ⟨k,h,h'⟩:=h; exact ⟨k+1,h,by rw [← h']; rfl⟩
theorem Wo.ON {ag:Bool} {sz b o:Nat} {cs cs':List Value} {tg:Tag} (ht:TyI E.P oty ag sz) (hx:ev E fs x=some (ptr b o)) (hy:ev E fs y=some v) (hp:EP ps (.obj b (.cells cs tg)) (.obj b (.cells cs' tg)) ps') (htg:wR tg=true) (hv:FL cs o v sz=some cs') (k:Wo dr E n ops K os m0 fs ps'):Wo dr E n ops K (⟨none,.store oty x y,ty,p,af,none⟩::os) m0 fs ps:=by
 obtain ⟨q,hp,rfl⟩:=hp;exact Wo.o0 (fx ht hx hy hp htg hv) k
theorem Wo.OG {b:Bool} (hc:ev E fs c=some (.bool b)) (hb:b=true) (h:ev E fs x=some v) (hd:Nat.blt d n=true) (k:Wo dr E n ops K os m0 ((d,v)::fs) ps):Wo dr E n ops K (⟨some d,.pick c x y,ty,p,af,none⟩::os) m0 fs ps:=Wo.od (nD hc hb h) hd k
theorem Wo.OM {b:Bool} (hc:ev E fs c=some (.bool b)) (hb:b=false) (h:ev E fs y=some v) (hd:Nat.blt d n=true) (k:Wo dr E n ops K os m0 ((d,v)::fs) ps):Wo dr E n ops K (⟨some d,.pick c x y,ty,p,af,none⟩::os) m0 fs ps:=Wo.od (oe hc hb h) hd k
theorem Wo.OX (hc:ev E fs c=some (.bool true)) (h:ev E fs x=some v) (hd:Nat.blt d n=true) (k:Wo dr E n ops K os m0 ((d,v)::fs) ps):Wo dr E n ops K (⟨some d,.pick c x y,ty,p,af,none⟩::os) m0 fs ps:=Wo.od (Is hc h) hd k
theorem Wo.OT (hc:ev E fs c=some (.bool false)) (h:ev E fs y=some v) (hd:Nat.blt d n=true) (k:Wo dr E n ops K os m0 ((d,v)::fs) ps):Wo dr E n ops K (⟨some d,.pick c x y,ty,p,af,none⟩::os) m0 fs ps:=Wo.od (LV hc h) hd k
theorem Wo.OS {i:Nat} {vs:Array Value} (h:ev E fs x=some (.tuple vs)) (hr:vs[i]? = some r) (hd:Nat.blt d n=true) (k:Wo dr E n ops K os m0 ((d,r)::fs) ps):Wo dr E n ops K (⟨some d,.extract x i,ty,p,af,none⟩::os) m0 fs ps:=Wo.od (Ea h hr) hd k
theorem Wo.OD {b:Bool} (h:ev E fs x=some (.bool b)) (hd:Nat.blt d n=true) (k:Wo dr E n ops K os m0 ((d,.bool (!b))::fs) ps):Wo dr E n ops K (⟨some d,.unOp .not oty x,ty,p,af,none⟩::os) m0 fs ps:=Wo.od (Be h rfl) hd k
theorem Wo.OY {el:TypeId} {len w b o i:Nat} {kd:IntKind} (ht:ArT E.P oty el len w) (h:ev E fs x=some (ptr b o)) (h':ev E fs y=some (.int kd (i:Int))) (hi:i<len) (hd:Nat.blt d n=true) (k:Wo dr E n ops K os m0 ((d,ptr b (o+i*w))::fs) ps):Wo dr E n ops K (⟨some d,.indexAddr oty x y,ty,p,af,none⟩::os) m0 fs ps:=Wo.od (ic h h' (iR ht hi)) hd k
theorem Wo.NX {elem:TypeId} {b o w l cap:Nat} {i:Int} {kd:IntKind} (ht:SlT E.P oty elem w) (hx:ev E fs x=some (.slice (some ⟨b,o,none⟩) l cap)) (hy:ev E fs y=some (.int kd i)) (hi:0≤i∧i.toNat<l) (hd:Nat.blt d n=true) (k:Wo dr E n ops K os m0 ((d,ptr b (o+i.toNat*w+0))::fs) ps):Wo dr E n ops K (⟨some d,.indexAddr oty x y,ty,p,af,none⟩::os) m0 fs ps:=Wo.od (gv ht hx hy hi) hd k
theorem Wo.Np {elem:TypeId} {b w l cap:Nat} {i:Int} {kd:IntKind} (ht:SlT E.P oty elem w) (hx:ev E fs x=some (.slice (some ⟨b,0,none⟩) l cap)) (hy:ev E fs y=some (.int kd i)) (hi:0≤i∧i.toNat<l) (hd:Nat.blt d n=true) (k:Wo dr E n ops K os m0 ((d,ptr b (i.toNat*w+0))::fs) ps):Wo dr E n ops K (⟨some d,.indexAddr oty x y,ty,p,af,none⟩::os) m0 fs ps:=Wo.od (bW ht hx hy hi) hd k
def vV (ps:List Pc) (a:Option Addr):Prop:=∃ k q,pk ps k=some q∧(dm a=q.oq∨a=none)
theorem vV.z {q:Pc} {a:Option Addr} (h:dm a=q.oq):vV (q::ps) a:=⟨0,q,rfl,.inl h⟩
theorem vV.s {q:Pc} {a:Option Addr} (h:vV ps a):vV (q::ps) a:=by obtain ⟨k,r,h⟩:=h; exact ⟨k+1,r,h⟩
theorem Wo.OB {l cap:Nat} {a:Option Addr} {ars:Array Operand} {elem:TypeId} (hu:E.P.underlying oty=some (.slice elem)) (ha:eW E fs ars.toList=some [.slice a l cap]) (hp:vV ps a) (hd:Nat.blt d n=true) (k:Wo dr E n ops K os m0 ((d,.int .i64 (l:Int))::fs) ps):Wo dr E n ops K (⟨some d,.call ⟨.builtin .len,ars,#[oty]⟩,ty,p,af,none⟩::os) m0 fs ps:=by
 obtain ⟨_,_,hp,hb⟩:=hp;exact Wo.od (pJ hu ha hp hb) hd k
theorem Wo.zT {j:Nat} {q:Bool} (hd:(ops[j]?).bind (·.dst)=some d) (h:lk fs d=some (.bool q)) (hq:q=true) (k:Wo dr E n ops K (⟨dd,o,ty,p,af,none⟩::os) m0 fs ps):Wo dr E n ops K (⟨dd,o,ty,p,af,some (j,true)⟩::os) m0 fs ps:=Wo.On (gg hd h (iX hq)) k
theorem Wo.zF {j:Nat} {q:Bool} (hd:(ops[j]?).bind (·.dst)=some d) (h:lk fs d=some (.bool q)) (hq:q=false) (k:Wo dr E n ops K (⟨dd,o,ty,p,af,none⟩::os) m0 fs ps):Wo dr E n ops K (⟨dd,o,ty,p,af,some (j,false)⟩::os) m0 fs ps:=Wo.On (gg hd h (eD hq)) k
theorem Wo.OU {j d':Nat} {q:Bool} (hd:(ops[j]?).bind (·.dst)=some d') (h:lk fs d'=some (.bool q)) (hq:q=false) (hd':Nat.blt d n=true) (k:Wo dr E n ops K os m0 ((d,undef)::fs) ps):Wo dr E n ops K (⟨some d,o,ty,p,af,some (j,true)⟩::os) m0 fs ps:=Wo.s (gg hd h (rf hq)) hd' k
theorem Wo.OI {j d':Nat} {q:Bool} (hd:(ops[j]?).bind (·.dst)=some d') (h:lk fs d'=some (.bool q)) (hq:q=true) (hd':Nat.blt d n=true) (k:Wo dr E n ops K os m0 ((d,undef)::fs) ps):Wo dr E n ops K (⟨some d,o,ty,p,af,some (j,false)⟩::os) m0 fs ps:=Wo.s (gg hd h (fD hq)) hd' k
theorem Wo.Ou {j d':Nat} {q:Bool} (hd:(ops[j]?).bind (·.dst)=some d') (h:lk fs d'=some undef) (hd':Nat.blt d n=true) (k:Wo dr E n ops K os m0 ((d,undef)::fs) ps):Wo dr E n ops K (⟨some d,o,ty,p,af,some (j,q)⟩::os) m0 fs ps:=Wo.s (gu hd h) hd' k
end
structure Bx (Q:Prop):Prop where
 v:Q
theorem wz {P Q:Prop} (k:Q) (h:Bx Q→P:=by
  intro h
  repeat first
   | refine Wk.seq ?_
   | refine Wk.region ?_
   | (apply Wk.cT; exact rfl; first | assumption | exact rfl)
   | (apply Wk.eJ; exact rfl; first | assumption | exact rfl)
   | refine Wk.skip ?_
   | refine Wk.ret ?_
   | refine Wk.exit ?_
   | refine Wk.block ?_
   | (apply Wk.draw; kernel_rfl)
  repeat first
   | ((first | refine Wo.kN ?_ | (refine Wo.kG ?_; first | (apply Wo.zT; exact rfl; exact rfl; first | assumption | with_reducible exact rfl) | (apply Wo.zF; exact rfl; exact rfl; first | assumption | with_reducible exact rfl))); first
    | (apply Wo.Ow; exact rfl; exact rfl)
    | (apply Wo.OQ; exact rfl; exact rfl)
    | (apply Wo.O0; exact rfl; exact rfl; (first | (apply K5; exact rfl) | (apply JB; exact rfl) | (apply Jg; exact rfl) | (apply Ku; exact rfl) | (apply K2; exact rfl) | (apply Kb; exact rfl) | (apply KP; exact rfl) | (apply Kg; exact rfl) | (apply KU; exact rfl) | (apply KS; exact rfl) | (apply J0; exact rfl) | (apply K4; exact rfl) | (apply JW; exact rfl) | (apply JR; exact rfl) | (apply tR; exact rfl) | (apply rK; exact rfl) | (apply qS; exact rfl) | (apply ur; exact rfl) | (apply Ii; exact rfl)); exact rfl)
    | (apply Wo.Oy; exact rfl; exact FaC.t _ _; exact rfl)
    | (apply Wo.Oz; exact TyC.t; exact rfl; (repeat first | exact Has.z | refine Has.s ?_); exact rfl; exact rfl)
    | (apply Wo.NH; exact TyC.t; exact rfl; (repeat first | exact Has.z | refine Has.s ?_); exact cX (by assumption); exact rfl; exact rfl; exact rfl)
    | (apply Wo.NZ; exact TyC.t; exact rfl; (repeat first | exact Has.z | refine Has.s ?_); exact cX (by assumption); exact rfl; exact rfl; exact rfl)
    | (apply Wo.ON; exact TyC.t; exact rfl; exact rfl; (repeat first | exact EP.z | apply EP.s); exact rfl; exact rfl)
    | (apply Wo.OG; exact rfl; assumption; exact rfl; exact rfl)
    | (apply Wo.OM; exact rfl; assumption; exact rfl; exact rfl)
    | (apply Wo.OX; exact rfl; exact rfl; exact rfl)
    | (apply Wo.OT; exact rfl; exact rfl; exact rfl)
    | (apply Wo.OS; exact rfl; exact rfl; exact rfl)
    | (apply Wo.OD; exact rfl; exact rfl)
    | (apply Wo.OY; exact ArC.t; exact rfl; exact rfl; decide; exact rfl)
    | (apply Wo.Np; exact SlC.t; exact rfl; exact rfl; assumption; exact rfl)
    | (apply Wo.NX; exact SlC.t; exact rfl; exact rfl; assumption; exact rfl)
    | (apply Wo.OB; exact UsC.t; exact rfl; (repeat first | exact vV.z rfl | refine vV.s ?_); exact rfl))
   | (refine Wo.kG ?_; first
    | (apply Wo.OU; exact rfl; exact rfl; (first | assumption | with_reducible exact rfl); exact rfl)
    | (apply Wo.OI; exact rfl; exact rfl; (first | assumption | with_reducible exact rfl); exact rfl)
    | (apply Wo.Ou; exact rfl; exact rfl; exact rfl))
  try refine Wo.nil ?_
  repeat first
   | refine At.tn ?_
   | refine At.te ?_
   | refine At.tr ?_
   | refine At.bn ?_
   | refine At.be ?_
   | refine At.br ?_
   | refine At.bx rfl ?_
  exact h.v):P:=h ⟨k⟩
theorem ax {P Q:Prop} (k:Q) (h:Bx Q→P:=by intro h; refine wz ?_; refine wz ?_; exact h.v):P:=h ⟨k⟩
theorem fm {P Q:Prop} (k:Q) (h:Bx Q→P:=by intro h; refine wz ?_; refine wz ?_; refine wz ?_; exact h.v):P:=h ⟨k⟩
theorem Ni {P Q:Prop} (k:Q) (h:Bx Q→P:=by intro h; refine wz ?_; refine wz ?_; refine wz ?_; refine wz ?_; exact h.v):P:=h ⟨k⟩
end Go.Ab.W
end

section
namespace Go.Ab.W
open Go Go.Ab
theorem bJ {β:Type} {i:Int} {n:Nat} {k:Option β} {r:β} (h:gd (bD i n) k=some r):(0≤i∧i.toNat<n)∧k=some r:=⟨pB (aq h).1,(aq h).2⟩
section
variable {E : Env} {n : Nat} {m0 : AMem} {fs fs' : Fs} {ps ps' : List Pc} {ops : Array Oper} {os : List Oper} {K : Tm → AMem → Prop} {dr : Bool} {fn : FuncId} {ro : Option Nat} {c : Code} {Q : AExit → Tm → AMem → Prop}
variable {ty oty : TypeId} {p : String} {af : Array Edge} {d : Nat} {g : Option (Nat × Bool)} {x : Operand} {v : Value}
theorem ae {γ:Type} {G:γ→En} {e:AExit} (g:γ) (ks:List Nat) (he:e=(G g).e:=by rfl) (hs:sub fs (G g).fs:=by repeat first | exact sn | refine sc rfl ?_) (hn:jI ks=true:=by rfl) (hp:aC ps ks=some (G g).ps:=by rfl):At (nj m0 G) e m0 fs ps:=At.en g he hs (al.aC ks hn hp)
theorem Res1.zc {i b o sz:Nat} {v:Value} {rs:List ResultVar} {vs:List Value} {cs:List Value} {tg:Tag} {ag:Bool} (ht:TyI E.P ty ag sz) (h:lk fs i=some (ptr b o)) (hp:Has ps (.obj b (.cells cs tg))) (hv:xw ag sz cs o=some v) (k:Res1 E fs ps rs vs):Res1 E fs ps (.cell i ty::rs) (v::vs):=by
 obtain ⟨q,hp⟩:=hp;exact .cell ht h hp hv k
theorem ar {α:Type} {V:α→Value} {N:α→List Pc} {rs:List ResultVar} {vs:List Value} (x:α) (ks:List Nat) (hr:Res1 E fs ps rs vs:=by repeat first | exact .nil | (apply Res1.tmp; exact rfl) | (apply Res1.zc; exact TyC.t; exact rfl; (repeat first | exact Has.z | refine Has.s ?_); exact rfl)) (hv:dU vs=V x:=by rfl) (hn:jI ks=true:=by rfl) (hp:aC ps ks=some (N x):=by rfl):At (qh E rs fun v m=>∃ x,v=V x∧Hp m0 m (N x)) .ret m0 fs ps:=.ret hr fun _ hm=>⟨x,hv,hm.aC ks hn hp⟩
def ap {ρ:Type} {δ:ρ→Type} (X:(r:ρ)→δ r→En) (r:ρ):δ r→En:=X r
theorem lo {σ ρ γ:Type} {δ:ρ→Type} {body:σ→Option (σ ⊕ ρ)} {X:(r:ρ)→δ r→En} {N:Nat} {s:σ} {r:ρ} (h:bH body N s=some r) (g:γ) (ks:List Nat) (I:σ→γ→En)
  (hb:∀ s g r,body s=some r→Wk E n fn ro c (match r with | .inl s'=>nj m0 (I s') | .inr r=>nj m0 (X r)) m0 (I s g).fs (I s g).ps)
  (hs:sub fs (I s g).fs:=by repeat first | exact sn | refine sc rfl ?_) (hd:jI ks=true:=by rfl) (hp:aC ps ks=some (I s g).ps:=by rfl)
  (hn:∀ s g,(I s g).e = .normal:=by exact fun _ _=>rfl) (hx:∀ r g,(X r g).e≠.normal:=by intro r d; first | (intro e; cases e; done) | (rcases r with r | r <;> first | (intro e; cases e; done) | (rcases r with r | r <;> first | (intro e; cases e; done) | (rcases r with r | r <;> intro e <;> cases e)))):Wk E n fn ro (.loop c) (nj m0 (ap X r)) m0 fs ps:=.iV hs (al.aC ks hd hp) (Wk.loop body I X hb hn hx N s r h g)
theorem ct {ρ γ:Type} (F:ρ→γ→En) (r:ρ) (h:Wk E n fn ro c (nj m0 (ap F r)) m0 fs ps) (k:∀ g,At Q (F r g).e m0 (F r g).fs (F r g).ps):Wk E n fn ro c Q m0 fs ps:=.cut h k
theorem wb (k:∀ b,Wo dr E n ops K os m0 ((d,ptr b 0)::fs) (.obj b (.cells v.cells.toList .own)::ps)) (h:ev E fs x=some v:=by rfl) (hd:Nat.blt d n=true:=by rfl):Wo dr E n ops K (⟨some d,.box oty x,ty,p,af,none⟩::os) m0 fs ps:=Wo.x (JA h) gn hd k
theorem wa {z:Value} (hz:bp E.P oty=some z) (k:∀ b,Wo dr E n ops K os m0 ((d,ptr b 0)::fs) (.obj b (.cells z.cells.toList .own)::ps)) (hp:bu z=true:=by rfl) (hd:Nat.blt d n=true:=by rfl):Wo dr E n ops K (⟨some d,.alloc oty,ty,p,af,none⟩::os) m0 fs ps:=Wo.x (G0 hz hp) gn hd k
theorem cw {f:FuncId} {F:Func} {args:List Value} {rs:List ResultVar} {N:Nat} {R:Value→AMem→Prop} {m:AMem} (hf:E.P.funcs[f]? = some F) (hm:Hp m0 m ps) (h:Wk E N f none c (qh E rs R) m0 (wu args 0 []) ps) (hp:E.cH f=none:=by rfl) (hb:F.body=some c:=by rfl) (hrs:F.results.toList=rs:=by rfl) (hN:max args.length F.ntmps=N:=by rfl):ay E f args m R:=bV hp hf hb hrs hN hm h
variable {m : AMem} {a : Option Addr} {cap w l : Nat} {es : List (List Value)}
theorem Hp.q (h:Hp m0 m ps) (k:Nat) {p:Pc} (hp:pk ps k=some p:=by rfl) (hi:IsRd p a cap w l es:=by first | exact .rd _ _ _ _ _ | exact .sl _ _ _ _ | exact .arr _ _ _ _ _):Rd m a cap w l es:=h.rd hp hi
theorem Hp.no (h:Hp m0 m ps) (k:Nat) (hp:pk ps k=some (.rd a cap w l es):=by rfl):∀ b,dm a=some b→¬ sY ps b:=h.IG hp
theorem Hp.i (h:Hp m0 m ps) (hr:Rd m a cap w l es) (ho:(ps.all Pc.HX)=true:=by rfl):Hp m0 m (.rd a cap w l es::ps):=h.hZ ho hr
variable {α : Type} {V : α → Value} {N : α → List Pc} {R : α → Pc} {f : Operand} {q : FuncId} {ars : Array Operand} {ts : Array TypeId} {args : List Value} {prs : List (Nat × Nat)} {ss : List Nk}
theorem wc (hg:oB ops fs g true) (hc:∀ m,Hp m0 m ps→ay E q args m (fun v m'=>∃ x,v=V x∧Hp m m' (N x))) (k:∀ x,Wo dr E n ops K os m0 ((d,V x)::fs) (N x++ps)) (hf:ev E fs f=some (.func (.func q) #[] #[]):=by rfl) (ha:eW E fs ars.toList=some args:=by rfl) (ho:∀ x,uF (N x)=true:=by exact fun _=>rfl) (hd:Nat.blt d n=true:=by rfl):Wo dr E n ops K (⟨some d,.call ⟨.value f,ars,ts⟩,ty,p,af,g⟩::os) m0 fs ps:=Wo.x (Br hf ha hc ho) hg hd k
theorem wv (hg:oB ops fs g true) (hc:∀ m,Hp m0 m ps→ay E q args m (fun v m'=>∃ x,v=V x∧Hp m m' [R x,.gen (bA (sY ps))])) (k:∀ x,Wo dr E n ops K os m0 ((d,V x)::fs) (R x::ps)) (hf:ev E fs f=some (.func (.func q) #[] #[]):=by rfl) (ha:eW E fs ars.toList=some args:=by rfl) (ho:∀ x,my [R x]=true:=by exact fun _=>rfl) (hd:Nat.blt d n=true:=by rfl):Wo dr E n ops K (⟨some d,.call ⟨.value f,ars,ts⟩,ty,p,af,g⟩::os) m0 fs ps:=Wo.x (jt (N:=fun x=>[R x]) hf ha hc ho) hg hd k
theorem nc (hg:oB ops fs g true) (hc:∀ m,Hp m0 m ps→ay E q args m (fun v m'=>∃ x,v=V x∧Hp m m' (N x))) (k:∀ x,Wn E n ops prs K os (.call::ss) m0 ((d,V x)::fs) (N x++ps)) (hf:ev E fs f=some (.func (.func q) #[] #[]):=by rfl) (ha:eW E fs ars.toList=some args:=by rfl) (ho:∀ x,uF (N x)=true:=by exact fun _=>rfl) (hd:Nat.blt d n=true:=by rfl):Wn E n ops prs K (⟨some d,.call ⟨.value f,ars,ts⟩,ty,p,af,g⟩::os) ss m0 fs ps:=Wn.c (N7 hf ha hc ho) hg hd k
theorem nv (hg:oB ops fs g true) (hc:∀ m,Hp m0 m ps→ay E q args m (fun v m'=>∃ x,v=V x∧Hp m m' [R x,.gen (bA (sY ps))])) (k:∀ x,Wn E n ops prs K os (.call::ss) m0 ((d,V x)::fs) (R x::ps)) (hf:ev E fs f=some (.func (.func q) #[] #[]):=by rfl) (ha:eW E fs ars.toList=some args:=by rfl) (ho:∀ x,my [R x]=true:=by exact fun _=>rfl) (hd:Nat.blt d n=true:=by rfl):Wn E n ops prs K (⟨some d,.call ⟨.value f,ars,ts⟩,ty,p,af,g⟩::os) ss m0 fs ps:=Wn.c (Ds (N:=fun x=>[R x]) hf ha hc ho) hg hd k
end
end Go.Ab.W
end
