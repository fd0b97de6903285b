/- A part of the proof. -/
import Derived.Test.YtmndpgfbkicndaaGreatCk2
import Derived.OpenShut
import Derived.RowKit
import Derived.Maps.RangeRun
import Derived.Test.YtmndpgfbkicndaaGreatRows
import Derived.ProofKit
import Derived.Stop.Joined
import Derived.Shelf.GgSortFunc.RowK
import Derived.Shelf.SlSortCmp.WholeK
import Derived.Shelf.SlGeneric
import Derived.Ground.SlsfProg
import Derived.Test.YtmndpgfbkicndaaGreatProg
import Derived.Shelf.SlSortCmp.NoneTotal
import Derived.Shelf.SlicesE.Delete
import Derived.Ground.SlgnProg
import Derived.Lib.Overlaps
section
namespace Go.Ab
open Go Go.Ab.W Go.ChangeShapes Go.WideShapes Go.RowKit
section
variable {H : Type} {enc : TypeId × Value → H} {P : Program} {W : World} {sp : Nat → Bool} {held : Bool}
theorem iX {T:TypeId→Prop} (K:Kids P T) (hsz:∀{t e:TypeId},T t→P.underlying t=some (.slice e)→0<P.cellsOf e) {W':World} {sp':Nat→Bool}:∀{ts:List TypeId} {vs:List Value} {ds:List (DataW H)} {ps:List MemPlace},
  (∀t ∈ ts,T t)→DataW.TrodAll enc P W 0 (fun _=>true) true ts vs ds ps→(∀p ∈ ps,W.sameAt W' p)→(∀p ∈ ps,sp' p.block=true)→DataW.TrodAll enc P W' 0 sp' true ts vs ds ps
 | [],[],[],_,_,h,_,_=>h
 | t::ts,v::vs,d::ds,_,hT,⟨p,q,⟨n,hn⟩,hs,e⟩,h1,h2=>by
  subst e;refine⟨p,q,⟨n,DataW.trod_stays K hsz (fun h=>(by cases h)) (hT t (by simp)) hn (fun x hx=>h1 x (by simp[hx])) fun x hx=>h2 x (by simp[hx])⟩,iX K hsz (fun t' ht'=>hT t' (by simp[ht'])) hs (fun x hx=>h1 x (by simp[hx])) (fun x hx=>h2 x (by simp[hx])),rfl⟩
theorem rp {w w':World} {p:MemPlace} (h:w'.heap[p.block]? = w.heap[p.block]?):w.sameAt w' p:=by
 cases p with
 | cell b o=>simp only[World.sameAt,World.cell?]; rw[show w'.heap[b]? = w.heap[b]? from h]
 | map b=>simp only[World.sameAt]; rw[show w'.heap[b]? = w.heap[b]? from h]
def sizedB (P:Program):Bool:=(List.range P.types.size).all fun t=>match P.underlying t with
 | some (.slice e)=>decide (0<P.cellsOf e)
 | _=>true
theorem qY (h:sizedB P=true) {t e:TypeId} (ht:t<P.types.size) (hu:P.underlying t=some (.slice e)):0<P.cellsOf e:=by
 have:=List.all_eq_true.1 h t (by simpa using ht)
 rw[hu] at this
 simpa using this
theorem sQ {f:Func} {s:ChangeSpec} {W':World} {args:Array Value} {ds:List (DataW H)} {before:List MemPlace} {tb:TypeId} {fresh handsOn:Bool} (hlo:laidOutB P=true) (hm:mapsRowed P=true) (hsz:sizedB P=true)
  (hvars:s.vars = []) (hres:f.resultTypes.toList = [tb]) (hrs:f.resultTypes.size=1) (htb:P.underlying tb=some .bool) (hpt:∀t ∈ f.params.toList,t<P.types.size) (hfn:s.fn H ds = { results:=[.lit (.bool true)],args:=ds,vars:=[]})
  (hW:DataW.Whole enc P f.params.toList s.vars false W args.toList ds [] before) {E:Env} (hcalm:fb E W W') (hg:∀c,c<W.heap.size→W'.heap[c]? = W.heap[c]?) :
  s.post enc P f false fresh handsOn false W args (.bool true) W':=by
 have hW':=hW;obtain⟨p,q,hA,hV,rfl,_,_⟩:=hW;rw[hvars] at hV;obtain⟨_,rfl⟩:=trodVars_none hV;have hlt:=hW'.lt;refine⟨ds,[],_,[],p,[],hW',?_,?_,?_,ki hcalm hg _,fun h=>by cases h⟩
 ·rw[List.append_nil,hfn,hres]
  show DataW.TrodAll enc P W' _ _ handsOn [tb] ((Value.bool true).resultList f.resultTypes.size) [.lit (.bool true)] []
  rw[hrs];exact trodAll_mk1 (shut_bool htb true)
 ·rw[List.append_nil,hfn];refine iX (kids_rows hlo hm) (fun ht hu=>qY hsz ht hu) hpt hA (fun x hx=>rp (hg _ (hlt x (by simp[hx])))) fun x hx=>by
   have:=hlt x (by simp[hx])
   simpa using this
 ·rw[List.append_nil,hfn,hvars];exact rfl
end
end Go.Ab
end

section
namespace Go.Ab.W
open Go Go.Ab
attribute [local irreducible] Tm.at Trie.set Trie.get AMem.get AMem.set AMem.alloc AMem.ww AMem.kill
section
variable {E : Env} {n : Nat} {m0 : AMem} {fs : Fs} {ps ps' : List Pc} {ops : Array Oper} {os : List Oper} {K : Tm → AMem → Prop} {prs : List (Nat × Nat)}
variable {ty : TypeId} {p : String} {af : Array Edge} {d : Nat} {o : Op} {g : Option (Nat × Bool)} {v : Value}
inductive Nk
 | any
 | call
 | rd (b:Nat)
 | wr (b:Nat)
 | low (b:Nat)
 | kp (l:List Nat)
 | rn (o:Option Nat)
 | ka (l:List (Option Nat))
def Nk.of:Nk→Note→Prop
 | .any,_=>True
 | .call,x=>x.next≤x.wl
 | .rd b,x=>x.read=some b
 | .wr b,x=>x.wrote=some b
 | .low b,x=>b<x.wl
 | .kp l,x=>∀b ∈ l,x.kept b=true
 | .rn o,x=>x.read=o
 | .ka l,x=>∀b,some b ∈ l→x.kept b=true
def NR:List Nk→List Note→Prop
 | [],[]=>True
 | b::bs,x::xs=>dI x=true∧b.of x∧NR bs xs
 | _,_=>False
theorem NR.at:∀{bs:List Nk} {ns:List Note} {i:Nat} {b:Nk},NR bs ns→bs[i]? = some b→∃x,ns[i]? = some x∧b.of x
 | b::bs,x::xs,0,c,h,e=>by simp only[List.getElem?_cons_zero,Option.some.injEq] at e; subst e; exact⟨x,rfl,h.2.1⟩
 | b::bs,x::xs,i+1,c,h,e=>by rw[List.getElem?_cons_succ] at e ⊢; exact NR.at h.2.2 e
 | [],[],i,c,h,e=>by simp at e
 | [],_::_,_,_,h,_=>h.elim
 | _::_,[],_,_,h,_=>h.elim
theorem NR.all:∀{bs:List Nk} {ns:List Note},NR bs ns→ns.all dI=true
 | [],[],_=>rfl
 | _::_,_::_,h=>by rw[List.all_cons,h.1,NR.all h.2.2]; rfl
 | [],_::_,h=>h.elim
 | _::_,[],h=>h.elim
theorem NR.snoc:∀{bs:List Nk} {ns:List Note} {b:Nk} {x:Note},NR bs ns→dI x=true→b.of x→NR (bs++[b]) (ns++[x])
 | [],[],_,_,_,h1,h2=>⟨h1,h2,trivial⟩
 | _::_,_::_,_,_,h,h1,h2=>⟨h.1,h.2.1,NR.snoc h.2.2 h1 h2⟩
 | [],_::_,_,_,h,_,_=>h.elim
 | _::_,[],_,_,h,_,_=>h.elim
def Nk.yg:Nk→Bool
 | .call=>true
 | _=>false
def re (ops:Array Oper) (ss:List Nk) (p:Nat × Nat):Prop :=
 match ss[p.1]?,ss[p.2]? with
  | some (.rd b),some (.wr b')=>b≠b'∧az (ops.getD p.1 default).op=false
  | some (.wr b),some (.rd b')=>b'≠b∧az (ops.getD p.2 default).op=false
  | some (.rd b),some (.low b')=>b≤b'∧az (ops.getD p.1 default).op=false
  | some (.low b),some (.rd b')=>b'≤b∧az (ops.getD p.2 default).op=false
  | some (.rd b),some (.kp l)=>b ∈ l∧az (ops.getD p.1 default).op=false
  | some (.kp l),some (.rd b)=>b ∈ l∧az (ops.getD p.2 default).op=false
  | some (.rd b),some (.ka l)=>some b ∈ l∧az (ops.getD p.1 default).op=false
  | some (.ka l),some (.rd b)=>some b ∈ l∧az (ops.getD p.2 default).op=false
  | some (.rn o),some (.ka l)=>o ∈ l∧az (ops.getD p.1 default).op=false
  | some (.ka l),some (.rn o)=>o ∈ l∧az (ops.getD p.2 default).op=false
  | some a,some b=>((a.yg || !(az (ops.getD p.1 default).op)) && (b.yg || !(az (ops.getD p.2 default).op)))=true
  | _,_=>False
def cR (ops:Array Oper) (ss:List Nk):List (Nat × Nat)→Prop
 | []=>True
 | p::ps=>re ops ss p∧cR ops ss ps
def vt (ops:Array Oper) (ss:List Nk):List (Nat × Nat)→Bool
 | []=>true
 | p::ps=>(match ss[p.1]?,ss[p.2]? with
  | some (.rd _),some (.wr _)=>false
  | some (.wr _),some (.rd _)=>false
  | some (.rd _),some (.low _)=>false
  | some (.low _),some (.rd _)=>false
  | some (.rd _),some (.kp _)=>false
  | some (.kp _),some (.rd _)=>false
  | some (.rd _),some (.ka _)=>false
  | some (.ka _),some (.rd _)=>false
  | some (.rn _),some (.ka _)=>false
  | some (.ka _),some (.rn _)=>false
  | some a,some b=>((a.yg || !(az (ops.getD p.1 default).op)) && (b.yg || !(az (ops.getD p.2 default).op)))
  | _,_=>false) && vt ops ss ps
theorem cR.all {ops:Array Oper} {ss:List Nk}:∀{ps:List (Nat × Nat)},vt ops ss ps=true→cR ops ss ps
 | [],_=>trivial
 | p::ps,h=>by
  simp only[vt,Bool.and_eq_true] at h;refine⟨?_,cR.all h.2⟩;have h1:=h.1;unfold re
  split at h1
  ·cases h1
  ·cases h1
  ·cases h1
  ·cases h1
  ·cases h1
  ·cases h1
  ·cases h1
  ·cases h1
  ·cases h1
  ·cases h1
  ·rename_i a b ha hb hn1 hn2;exact h1
  ·cases h1
theorem cR.nil {ops:Array Oper} {ss:List Nk}:cR ops ss []:=trivial
section
variable {ops : Array Oper} {ss : List Nk} {ps : List (Nat × Nat)} {i j b b' : Nat} {l : List Nat} {o : Option Nat} {la : List (Option Nat)}
theorem cR.step (h:vt ops ss [(i,j)]=true) (k:cR ops ss ps):cR ops ss ((i,j)::ps):=⟨(cR.all h).1,k⟩
theorem cR.rw (h1:ss[i]? = some (.rd b)) (h2:ss[j]? = some (.wr b')) (he:az (ops.getD i default).op=false) (hne:b≠b') (k:cR ops ss ps):cR ops ss ((i,j)::ps):=by
 refine⟨?_,k⟩;simp only[re,h1,h2]; exact⟨hne,he⟩
theorem cR.rk (h1:ss[i]? = some (.rd b)) (h2:ss[j]? = some (.kp l)) (he:az (ops.getD i default).op=false) (hm:b ∈ l) (k:cR ops ss ps):cR ops ss ((i,j)::ps):=by
 refine⟨?_,k⟩;simp only[re,h1,h2]; exact⟨hm,he⟩
theorem cR.kr (h1:ss[i]? = some (.kp l)) (h2:ss[j]? = some (.rd b)) (he:az (ops.getD j default).op=false) (hm:b ∈ l) (k:cR ops ss ps):cR ops ss ((i,j)::ps):=by
 refine⟨?_,k⟩;simp only[re,h1,h2]; exact⟨hm,he⟩
end
theorem vh {r e:Note} (h:e.next≤e.wl):Note.ok r e=true:=by
 unfold Note.ok
 split
 ·rfl
 ·rename_i b _
  by_cases hb:b<e.wl
  ·simp[hb]
  ·have:e.next≤b:=by omega
   simp[this]
theorem qD {r e:Note} {b b':Nat} (h1:r.read=some b) (h2:e.wrote=some b') (hne:b≠b'):Note.ok r e=true:=by
 unfold Note.ok;rw[h1,h2];simp[hne]
theorem nP {r e:Note} {b b':Nat} (h1:r.read=some b) (h2:b'<e.wl) (hne:b≤b'):Note.ok r e=true:=by
 unfold Note.ok;rw[h1];simp[show b<e.wl by omega]
theorem qm {r e:Note} {b:Nat} {l:List Nat} (h1:r.read=some b) (h2:∀b ∈ l,e.kept b=true) (hm:b ∈ l):Note.ok r e=true:=by
 unfold Note.ok;rw[h1];simp[h2 b hm]
theorem nw {r e:Note} {b:Nat} {l:List (Option Nat)} (h1:r.read=some b) (h2:∀b,some b ∈ l→e.kept b=true) (hm:some b ∈ l):Note.ok r e=true:=by
 unfold Note.ok;rw[h1];simp[h2 b hm]
theorem qe {r e:Note} {o:Option Nat} {l:List (Option Nat)} (h1:r.read=o) (h2:∀b,some b ∈ l→e.kept b=true) (hm:o ∈ l):Note.ok r e=true:=by
 cases o with
 | none=>unfold Note.ok; rw[h1]
 | some b=>exact nw h1 h2 hm
theorem Nk.ok {a b:Nk} {x y:Note} (_:a.of x) (hy:b.of y) (h:b.yg=true):Note.ok x y=true:=by
 cases b with
 | call=>exact vh hy
 | _=>cases h
theorem oM {ops:Array Oper} {ss:List Nk} {ns:List Note} (h:NR ss ns):∀{prs:List (Nat × Nat)},cR ops ss prs→prs.all (cN ns ops)=true
 | [],_=>rfl
 | p::prs,hk=>by
  rw[List.all_cons,oM h hk.2,Bool.and_true];have h1:=hk.1;unfold re at h1
  split at h1
  ·rename_i b b' ha hb;obtain⟨x,hx1,hx2⟩:=h.at ha;obtain⟨y,hy1,hy2⟩:=h.at hb;simp only[cN,hx1,hy1,qD hx2 hy2 h1.1,h1.2,Bool.or_true,Bool.not_false,Bool.true_or,Bool.and_self]
  ·rename_i b b' ha hb;obtain⟨x,hx1,hx2⟩:=h.at ha;obtain⟨y,hy1,hy2⟩:=h.at hb;simp only[cN,hx1,hy1,qD hy2 hx2 h1.1,h1.2,Bool.or_true,Bool.not_false,Bool.true_or,Bool.and_self]
  ·rename_i b b' ha hb;obtain⟨x,hx1,hx2⟩:=h.at ha;obtain⟨y,hy1,hy2⟩:=h.at hb;simp only[cN,hx1,hy1,nP hx2 hy2 h1.1,h1.2,Bool.or_true,Bool.not_false,Bool.true_or,Bool.and_self]
  ·rename_i b b' ha hb;obtain⟨x,hx1,hx2⟩:=h.at ha;obtain⟨y,hy1,hy2⟩:=h.at hb;simp only[cN,hx1,hy1,nP hy2 hx2 h1.1,h1.2,Bool.or_true,Bool.not_false,Bool.true_or,Bool.and_self]
  ·rename_i b b' ha hb;obtain⟨x,hx1,hx2⟩:=h.at ha;obtain⟨y,hy1,hy2⟩:=h.at hb;simp only[cN,hx1,hy1,qm hx2 hy2 h1.1,h1.2,Bool.or_true,Bool.not_false,Bool.true_or,Bool.and_self]
  ·rename_i b b' ha hb;obtain⟨x,hx1,hx2⟩:=h.at ha;obtain⟨y,hy1,hy2⟩:=h.at hb;simp only[cN,hx1,hy1,qm hy2 hx2 h1.1,h1.2,Bool.or_true,Bool.not_false,Bool.true_or,Bool.and_self]
  ·rename_i b l ha hb;obtain⟨x,hx1,hx2⟩:=h.at ha;obtain⟨y,hy1,hy2⟩:=h.at hb;simp only[cN,hx1,hy1,nw hx2 hy2 h1.1,h1.2,Bool.or_true,Bool.not_false,Bool.true_or,Bool.and_self]
  ·rename_i b l ha hb;obtain⟨x,hx1,hx2⟩:=h.at ha;obtain⟨y,hy1,hy2⟩:=h.at hb;simp only[cN,hx1,hy1,nw hy2 hx2 h1.1,h1.2,Bool.or_true,Bool.not_false,Bool.true_or,Bool.and_self]
  ·rename_i b l ha hb;obtain⟨x,hx1,hx2⟩:=h.at ha;obtain⟨y,hy1,hy2⟩:=h.at hb;simp only[cN,hx1,hy1,qe hx2 hy2 h1.1,h1.2,Bool.or_true,Bool.not_false,Bool.true_or,Bool.and_self]
  ·rename_i b l ha hb;obtain⟨x,hx1,hx2⟩:=h.at ha;obtain⟨y,hy1,hy2⟩:=h.at hb;simp only[cN,hx1,hy1,qe hy2 hx2 h1.1,h1.2,Bool.or_true,Bool.not_false,Bool.true_or,Bool.and_self]
  ·rename_i a b _ _ _ _ _ _ _ _ _ _ ha hb;obtain⟨x,hx1,hx2⟩:=h.at ha;obtain⟨y,hy1,hy2⟩:=h.at hb;simp only[Bool.and_eq_true,Bool.or_eq_true,Bool.not_eq_true'] at h1;simp only[cN,hx1,hy1,Bool.and_eq_true,Bool.or_eq_true,Bool.not_eq_true'];refine⟨?_,?_⟩
   ·rcases h1.2 with h2|h2
    ·exact .inr (Nk.ok hx2 hy2 h2)
    ·exact .inl h2
   ·rcases h1.1 with h2|h2
    ·exact .inr (Nk.ok hy2 hx2 h2)
    ·exact .inl h2
  ·exact h1.elim
theorem NR.rev:∀{bs:List Nk} {ns:List Note},NR bs ns→NR bs.reverse ns.reverse
 | [],[],_=>trivial
 | b::bs,x::xs,h=>by
  rw[List.reverse_cons,List.reverse_cons];exact(NR.rev h.2.2).snoc h.1 h.2.1
 | [],_::_,h=>h.elim
 | _::_,[],h=>h.elim
variable {ss : List Nk}
def Wn (E:Env) (n:Nat) (ops:Array Oper) (prs:List (Nat × Nat)) (K:Tm→AMem→Prop) (os:List Oper) (ss:List Nk) (m0:AMem) (fs:Fs) (ps:List Pc):Prop :=
 ∀t m ns,Fr t fs→Hp m0 m ps→NR ss ns→eD E n ops (fun t m ns=>(prs.all (cN ns ops) && ns.all dI)=true∧K t m) os t m ns
theorem Wn.nil {Q:AExit→Tm→AMem→Prop} (hk:∀m,Hp m0 m ps→cR ops ss.reverse prs) (h:At Q .normal m0 fs ps):Wn E n ops prs (Q .normal) [] ss m0 fs ps:=fun t m ns hf hm hn=>by
 refine⟨?_,h t m hf hm⟩;rw[oM hn.rev (hk m hm),hn.rev.all]; rfl
theorem Wn.xg {α:Type} {V:α→Value} {N:α→List Pc} {c:Nk} (h:∀t m,Fr t fs→Hp m0 m ps→m.wl=m.next→(∀b,aS E t o=some b→b<m.next)∧∀K:Value→AMem→Prop,(∀x m',Hp m0 m' (N x)→c.of { read:=aS E t o,wl:=m'.wl,next:=m.next,wrote:=dq E t o,kept:=eZ m m'}→K (V x) m')→bw E t m o K)
  (hg:nG ops fs g true) (dst:Option Nat) (hd:∀d,dst=some d→Nat.blt d n=true) (k:∀x,Wn E n ops prs K os (c::ss) m0 (match dst with|some d=>(d,V x)::fs|none=>fs) (N x)):Wn E n ops prs K (⟨dst,o,ty,p,af,g⟩::os) ss m0 fs ps:=by
 intro t m ns hf hm hn;simp only[eD,hg t _ _ _ _ _ hf,if_true];have hx:=hm.ext.next
 have hm':Hp m0 (m.ww m.next) ps:=hm.ww (by omega)
 have hwl:(m.ww m.next).wl=(m.ww m.next).next:=by rw[AMem.wl_ww,AMem.next_ww]
 have e0:({ next:=m.next,wl:=m.next,objs:=m.objs,base:=m.base}:AMem)=m.ww m.next:=by unfold AMem.ww; rfl
 rw[e0];obtain⟨h1,h2⟩:=h t _ hf hm' hwl;rw[AMem.next_ww] at h1;refine bw.A (h2 _ fun x m' hm'' hc=>?_);rw[AMem.next_ww] at hc;have hw:=hm''.ext.wl;have e1:({ next:=m'.next,wl:=min m.wl m'.wl,objs:=m'.objs,base:=m'.base}:AMem)=m'.ww (min m.wl m'.wl):=by unfold AMem.ww; rfl
 have hw0:=hm.ext.wl;have hfin:Hp m0 (m'.ww (min m.wl m'.wl)) (N x):=hm''.ww (by omega)
 have hkp:eZ (m.ww m.next) m'=eZ m m':=by
  funext b
  unfold eZ;rw[AMem.get_ww]
 rw[hkp] at hc;have hnr:NR (c::ss) ({ read:=aS E t o,wl:=m'.wl,next:=m.next,wrote:=dq E t o,kept:=eZ m m'}::ns):=⟨lY h1,hc,hn⟩
 cases dst with
 | none=>exact⟨t,rfl,by rw[e1]; exact k x t _ _ hf hfin hnr⟩
 | some d =>
  have hd':d<n:=by have:=hd d rfl; rwa[Nat.blt_eq] at this
  exact⟨t.set d (V x),by rw[ck,if_pos hd'],by rw[e1]; exact k x _ _ _ hf.set hfin hnr⟩
theorem Wn.x {α:Type} {V:α→Value} {N:α→List Pc} (h:Ox E m0 fs ps o V N) (hg:nG ops fs g true) (hd:Nat.blt d n=true) (k:∀x,Wn E n ops prs K os (.any::ss) m0 ((d,V x)::fs) (N x)):Wn E n ops prs K (⟨some d,o,ty,p,af,g⟩::os) ss m0 fs ps :=
 Wn.xg (c:=.any) (fun t m hf hm _=>⟨(h t m hf hm).1,fun K hK=>(h t m hf hm).2 K fun x m' h1=>hK x m' h1 trivial⟩) hg (some d) (fun d' e=>by cases e; exact hd) k
theorem Wn.x0 {α:Type} {V:α→Value} {N:α→List Pc} (h:Ox E m0 fs ps o V N) (hg:nG ops fs g true) (k:∀x,Wn E n ops prs K os (.any::ss) m0 fs (N x)):Wn E n ops prs K (⟨none,o,ty,p,af,g⟩::os) ss m0 fs ps :=
 Wn.xg (c:=.any) (fun t m hf hm _=>⟨(h t m hf hm).1,fun K hK=>(h t m hf hm).2 K fun x m' h1=>hK x m' h1 trivial⟩) hg none (fun d' e=>by cases e) k
def pZ:Value→Bool
 | .int _ _ | .bool _ | .slice _ _ _ | .map _ | .pointer _=>true
 | _=>false
def yF:Value→Bool
 | .func (.func _) a c=>a.toList.all pZ && c.toList.all pZ
 | v=>pZ v
def ry {α:Type} (ps:List Pc) (N:α→List Pc):List Nat→Prop
 | []=>True
 | b::l=>(∃cs k,pk ps k=some (.obj b (.cells cs .own))∧cs.all yF=true∧∀x,∃k',pk (N x) k'=some (.obj b (.cells cs .own)))∧ry ps N l
theorem sC {m m':AMem} {b:Nat} (h:m.get b=m'.get b):eZ m m' b=true:=by
 unfold eZ;rw[Bool.or_eq_true];exact .inr (@decide_eq_true _ (Classical.propDecidable _) h)
theorem ry.kept {α:Type} {N:α→List Pc} {m m':AMem} {x:α} (hm:Hp m0 m ps) (hm':Hp m0 m' (N x)):∀{l:List Nat},ry ps N l→∀b ∈ l,eZ m m' b=true
 | [],_,b,hb=>by cases hb
 | c::l,h,b,hb=>by
  rcases List.mem_cons.1 hb with rfl|hb
  ·obtain⟨cs,k,h1,h2,h3⟩:=h.1;obtain⟨k',h4⟩:=h3 x;exact sC (by rw[(hm.get h1).2.2,(hm'.get h4).2.2])
  ·exact ry.kept hm hm' h.2 b hb
theorem Wn.xk {α:Type} {V:α→Value} {N:α→List Pc} {l:List Nat} (h:Ox E m0 fs ps o V N) (hl:ry ps N l) (hg:nG ops fs g true) (hd:Nat.blt d n=true) (k:∀x,Wn E n ops prs K os (.kp l::ss) m0 ((d,V x)::fs) (N x)):Wn E n ops prs K (⟨some d,o,ty,p,af,g⟩::os) ss m0 fs ps :=
 Wn.xg (c:=.kp l) (fun t m hf hm _=>⟨(h t m hf hm).1,fun K hK=>(h t m hf hm).2 K fun x m' h1=>hK x m' h1 (ry.kept hm h1 hl)⟩) hg (some d) (fun d' e=>by cases e; exact hd) k
theorem Hp.ne {m:AMem} {i j b b':Nat} {x y:Pc} (h:Hp m0 m ps) (hx:pk ps i=some x) (hy:pk ps j=some y) (hb:x.lu=some b) (hb':y.lu=some b') (hne:i≠j) (ho:x.own=true):b≠b':=fun e=>(dU h.apart hx hy hne).1 b (Pc.ym ho hb) (.inl (by rw[e]; exact hb'))
def Oc (E:Env) (m0:AMem) (fs:Fs) (ps:List Pc) (o:Op) {α:Type} (V:α→Value) (N:α→List Pc):Prop :=
 ∀t m,Fr t fs→Hp m0 m ps→m.wl=m.next→(∀b,aS E t o=some b→b<m.next)∧∀K:Value→AMem→Prop,(∀x m',Hp m0 m' (N x)→m.next≤m'.wl→K (V x) m')→bw E t m o K
theorem fL {α:Type} {V:α→Value} {N:α→List Pc} {f:Operand} {g:FuncId} {ars:Array Operand} {ts:Array TypeId} {args:List Value} (hf:ev E fs f=some (.func (.func g) #[] #[])) (ha:fQ E fs ars.toList=some args) (hc:∀m,Hp m0 m ps→aW E g args m (fun v m'=>∃x,v=V x∧Hp m m' (N x))) (ho:∀x,mM (N x)=true):Oc E m0 fs ps (.call ⟨.value f,ars,ts⟩) V (fun x=>N x++ps) :=
 fun t m hfr hm hwl=>⟨fun b hb=>(by simp[aS] at hb),fun K hK=>by
  show gJ E (av E t f) (bz E t ars.toList) m _
  rw[hfr.ev hf,hfr.fQ ha,kV];refine(hc m hm).mono fun v m' ⟨x,e,h⟩=>?_;rw[e];refine hK x m' (hm.after h fun p hp=>List.all_eq_true.1 (ho x) p hp) ?_;have:=h.ext.wl;omega⟩
theorem Wn.c {α:Type} {V:α→Value} {N:α→List Pc} (h:Oc E m0 fs ps o V N) (hg:nG ops fs g true) (hd:Nat.blt d n=true) (k:∀x,Wn E n ops prs K os (.call::ss) m0 ((d,V x)::fs) (N x)):Wn E n ops prs K (⟨some d,o,ty,p,af,g⟩::os) ss m0 fs ps :=
 Wn.xg (c:=.call) (fun t m hf hm hw=>⟨(h t m hf hm hw).1,fun K hK=>(h t m hf hm hw).2 K fun x m' h1 h2=>hK x m' h1 h2⟩) hg (some d) (fun d' e=>by cases e; exact hd) k
theorem Wn.od (h:Od E m0 fs ps o v ps') (hd:Nat.blt d n=true) (k:Wn E n ops prs K os (.any::ss) m0 ((d,v)::fs) ps'):Wn E n ops prs K (⟨some d,o,ty,p,af,none⟩::os) ss m0 fs ps:=Wn.x h.x gn hd fun _=>k
theorem Wn.o0 (h:Od E m0 fs ps o v ps') (k:Wn E n ops prs K os (.any::ss) m0 fs ps'):Wn E n ops prs K (⟨none,o,ty,p,af,none⟩::os) ss m0 fs ps:=Wn.x0 h.x gn fun _=>k
theorem Wn.og (h:Od E m0 fs ps o v ps') (hg:nG ops fs g true) (hd:Nat.blt d n=true) (k:Wn E n ops prs K os (.any::ss) m0 ((d,v)::fs) ps'):Wn E n ops prs K (⟨some d,o,ty,p,af,g⟩::os) ss m0 fs ps:=Wn.x h.x hg hd fun _=>k
theorem Wn.zA {x:Operand} {b off:Nat} {ty':TypeId} (hx:ev E fs x=some (ptr b off)) (h:Od E m0 fs ps (.load ty' x) v ps') (hg:nG ops fs g true) (hd:Nat.blt d n=true) (k:Wn E n ops prs K os (.rd b::ss) m0 ((d,v)::fs) ps'):Wn E n ops prs K (⟨some d,.load ty' x,ty,p,af,g⟩::os) ss m0 fs ps :=
 Wn.xg (V:=fun _:Unit=>v) (N:=fun _=>ps') (c:=.rd b) (fun t m hf hm _=>⟨(h t m hf hm).1,fun K hK=>(h t m hf hm).2 K fun m' h1=>hK () m' h1 (by show aS E t (.load ty' x)=some b; simp only[aS,hf.ev hx]; rfl)⟩) hg (some d) (fun d' e=>by cases e; exact hd) fun _=>k
theorem Wn.nr {x:Operand} {b off:Nat} {ty':TypeId} (hx:ev E fs x=some (ptr b off)) (h:Od E m0 fs ps (.load ty' x) v ps') (hd:Nat.blt d n=true) (k:Wn E n ops prs K os (.rd b::ss) m0 ((d,v)::fs) ps'):Wn E n ops prs K (⟨some d,.load ty' x,ty,p,af,none⟩::os) ss m0 fs ps:=Wn.zA hx h gn hd k
theorem Wn.zF {x y:Operand} {b off:Nat} {ty':TypeId} (hx:ev E fs x=some (ptr b off)) (h:Od E m0 fs ps (.store ty' x y) v ps') (hg:nG ops fs g true) (k:Wn E n ops prs K os (.wr b::ss) m0 fs ps'):Wn E n ops prs K (⟨none,.store ty' x y,ty,p,af,g⟩::os) ss m0 fs ps :=
 Wn.xg (V:=fun _:Unit=>v) (N:=fun _=>ps') (c:=.wr b) (fun t m hf hm _=>⟨(h t m hf hm).1,fun K hK=>(h t m hf hm).2 K fun m' h1=>hK () m' h1 (by show dq E t (.store ty' x y)=some b; simp only[dq,hf.ev hx]; rfl)⟩) hg none (fun d' e=>by cases e) fun _=>k
theorem Wn.uw {x y:Operand} {b off:Nat} {ty':TypeId} (hx:ev E fs x=some (ptr b off)) (h:Od E m0 fs ps (.store ty' x y) v ps') (k:Wn E n ops prs K os (.wr b::ss) m0 fs ps'):Wn E n ops prs K (⟨none,.store ty' x y,ty,p,af,none⟩::os) ss m0 fs ps:=Wn.zF hx h gn k
theorem Wn.s (hg:nG ops fs g false) (hd:Nat.blt d n=true) (k:Wn E n ops prs K os (.call::ss) m0 ((d,undef)::fs) ps):Wn E n ops prs K (⟨some d,o,ty,p,af,g⟩::os) ss m0 fs ps:=by
 have hd':d<n:=by rwa[Nat.blt_eq] at hd
 intro t m ns hf hm hn;simp only[eD,hg t _ _ _ _ _ hf,Bool.false_eq_true,if_false];exact⟨t.set d undef,by rw[ck,if_pos hd'],k _ _ _ hf.set hm ⟨rfl,Nat.le_refl _,hn⟩⟩
theorem Wn.aG (h:aa m0 ps ps') (k:Wn E n ops prs K os ss m0 fs ps'):Wn E n ops prs K os ss m0 fs ps:=fun t m ns hf hm hn=>k t m ns hf (h m hm) hn
theorem Wn.bE {k w l cap:Nat} {a:Option Addr} {es:List (List Value)} (hp:pk ps k=some (.rd a cap w l es)) (hl:0<l) (h:∀b o,a=some ⟨b,o,none⟩→Wn E n ops prs K os ss m0 fs (.ro b o w l es::ps)):Wn E n ops prs K os ss m0 fs ps:=by
 intro t m ns hf hm hn;obtain⟨h1,h2,h3⟩:=hm.get hp;rcases h3 with⟨_,h3⟩|⟨_,_,_,h3,_⟩|⟨b,o,rfl,h3⟩
 ·omega
 ·omega
 ·exact h b o rfl t m ns hf (hm.more hp rfl ⟨h1,h3⟩ rfl fun b' hb=>hb) hn
theorem Wn.len {α:Type} {f:α→List Value} {k w l:Nat} {a:Option Addr} {xs:List α} (hp:pk ps k=some (.sl a w l (xs.map f))) (h:l=xs.length→Wn E n ops prs K os ss m0 fs ps):Wn E n ops prs K os ss m0 fs ps:=fun t m ns hf hm hn=>by
 refine h ?_ t m ns hf hm hn;rcases hm.get hp with⟨h0,h1,_⟩|⟨b,tg,_,h1⟩
 ·rw[h0,List.map_eq_nil_iff.1 h1]; rfl
 ·have:=h1.2.2.2.1; rw[List.length_map] at this; exact this.symm
theorem Wk.dj {fn:FuncId} {ro:Option Nat} {Q:AExit→Tm→AMem→Prop} {id:Nat} (hp:gx ops=some prs) (h:Wn E n ops prs (Q .normal) ops.toList [] m0 fs ps):Wk E n fn ro (.region id ops true) Q m0 fs ps:=fun t m hf hm=>.draw hp (h t m [] hf hm trivial)
end
section
variable {E : Env} {n : Nat} {fn : FuncId} {m0 : AMem} {fs : Fs} {ps : List Pc} {Q : AExit → Tm → AMem → Prop}
def gz (fn:FuncId) (t:Tm) (n:Nat) (params:Array Tmp) (assign body:Code) (s:LoopState) (p:Option Code):AObj:=.loop { state:=s,pending:=p,fn:=fn,tmps:=t,n:=n,params:=params,assign:=assign,body:=body}
structure Rn where
 st:LoopState
 pe:Option Code
 ps:List Pc
theorem Wk.tF {ro:Option Nat} {f:Operand} {params:Array Tmp} {assign body:Code} {g:FuncId} {first cap:Array Value} {F:Func} {c:Code} {rs:List ResultVar} {N:Nat} {γ:Type} {X:γ→Rn}
  (hf:ev E fs f=some (.func (.func g) first cap)) (hp:E.cu g=none) (hfn:E.P.funcs[g]? = some F) (hb:F.body=some c) (hrs:F.results.toList=rs) (hN:max (first.toList.length+1+cap.toList.length) F.ntmps=N)
  (hro:∀m,Hp m0 m ps→match ro with|none=>True|some l=>∃r,m.get l=some (.loop r))
  (h:∀t l rc,Fr t fs→rc=gz fn t n params assign body→Wk E N g none c (fN E rs (fun _ m'=>∃y,Hp m0 m' (.obj l (rc (X y).st (X y).pe)::(X y).ps))) m0 (jz (first.toList++[.func (.yield l) #[] #[]]++cap.toList) 0 []) (.obj l (rc .ready none)::ps))
  (hst:∀y,(X y).st≠.busy) (k:∀y,(match (X y).pe with|none=>At Q .normal m0 fs (X y).ps|some c=>Wk E n fn ro c Q m0 fs (X y).ps)):Wk E n fn ro (.rangeFunc f params assign body) Q m0 fs ps:=by
 intro t m hfr hm;have hl:Hp m0 (m.alloc (gz fn t n params assign body .ready none)) (.obj m.next (gz fn t n params assign body .ready none)::ps) :=
  hm.cons (by rw[AMem.next_alloc]; omega) (hm.ext.alloc _) (fun b hb=>by rw[AMem.aY,if_neg (by omega)]) ⟨hm.ext.next,by rw[AMem.next_alloc]; omega,by rw[AMem.aY,if_pos rfl]⟩ fun b hb=>by cases hb; exact Nat.le_refl _
 have hlen:(first.toList++[Value.func (.yield m.next) #[] #[]]++cap.toList).length=first.toList.length+1+cap.toList.length:=by simp; omega
 obtain⟨v,m2,⟨k1,hk1⟩,y,h2⟩:=ak (N:=N) hp hfn hb hrs (by rw[hlen]; exact hN) hl (h t m.next _ hfr rfl)
 have hg0:=h2.get (k:=0) rfl;have hg:m2.get m.next=some (gz fn t n params assign body (X y).st (X y).pe):=hg0.2.2
 have hlo:m0.next≤m.next:=hm.ext.next
 have h3:Hp m0 (m2.set m.next (gz fn t n params assign body .exhausted (X y).pe)) (X y).ps:=by
  have:=h2.write (k:=0) (o':=gz fn t n params assign body .exhausted (X y).pe) (p':=.obj m.next (gz fn t n params assign body .exhausted (X y).pe)) rfl rfl rfl rfl rfl ⟨hlo,by rw[AMem.next_set]; exact hg0.2.1,by rw[AMem.bB,if_pos rfl]⟩
  refine⟨this.ext,fun p hp=>this.ok p (by simp[bM,hp]),?_⟩
  have hpw:=this.apart;rw[eY,List.pairwise_cons] at hpw;exact hpw.2
 have hev:av E t f=some (.func (.func g) first cap):=by
  cases f with
  | tmp i=>exact hfr.ev hf
  | const c=>exact hfr.ev hf
  | global g=>exact hfr.ev hf
  | func g=>exact hfr.ev hf
 have hao:fT E ⟨t,n,fn,ro⟩ m f=true:=by
  have:=hro m hm;cases ro with
  | none=>simp only[fT,hev,hp]; rfl
  | some l0 =>
   obtain⟨r0,hr0⟩:=this;simp only[fT,hev,hp,hr0]; rfl
 have hk:=k y;cases hpe:(X y).pe with
 | none =>
  rw[hpe] at hk hg h3;refine⟨.normal,t,_,bA (k:=k1) ?_,hk t _ hfr h3⟩;have hst':=hst y;simp only[step,hev,hao];have hk1':run E k1 (.call g (first.toList++[Value.func (.yield m.next) #[] #[]]++cap.toList) (m.alloc (.loop { state:=.ready,pending:=none,fn:=fn,tmps:=t,n:=n,params:=params,assign:=assign,body:=body})))=some (.val v m2):=hk1
  rw[hk1'];have hg':m2.get m.next=some (.loop { state:=(X y).st,pending:=none,fn:=fn,tmps:=t,n:=n,params:=params,assign:=assign,body:=body}):=hg
  simp only[hg'];cases hs:(X y).st with
  | busy=>exact absurd hs hst'
  | _=>rfl
 | some c' =>
  rw[hpe] at hk hg h3;obtain⟨e2,t2,m3,⟨k2,hk2⟩,q⟩:=hk t _ hfr h3;refine⟨e2,t2,m3,bA (k:=max k1 k2) ?_,q⟩;have hst':=hst y;simp only[step,hev,hao];have hk1':run E (max k1 k2) (.call g (first.toList++[Value.func (.yield m.next) #[] #[]]++cap.toList) (m.alloc (.loop { state:=.ready,pending:=none,fn:=fn,tmps:=t,n:=n,params:=params,assign:=assign,body:=body})))=some (.val v m2):=gi (Nat.le_max_left k1 k2) hk1
  rw[hk1'];have hg':m2.get m.next=some (.loop { state:=(X y).st,pending:=some c',fn:=fn,tmps:=t,n:=n,params:=params,assign:=assign,body:=body}):=hg
  simp only[hg'];have hk2':run E (max k1 k2) (.code c' ⟨t,n,fn,ro⟩ (m2.set m.next (.loop { state:=.exhausted,pending:=some c',fn:=fn,tmps:=t,n:=n,params:=params,assign:=assign,body:=body})))=some (.code e2 t2 m3):=gi (Nat.le_max_right k1 k2) hk2
  cases hs:(X y).st with
  | busy=>exact absurd hs hst'
  | _=>simp only[hk2']
theorem Wk.range {f:Operand} {params:Array Tmp} {assign body:Code} {g:FuncId} {first cap:Array Value} {F:Func} {c:Code} {rs:List ResultVar} {N:Nat} {γ:Type} {X:γ→Rn}
  (hf:ev E fs f=some (.func (.func g) first cap)) (hp:E.cu g=none) (hfn:E.P.funcs[g]? = some F) (hb:F.body=some c) (hrs:F.results.toList=rs) (hN:max (first.toList.length+1+cap.toList.length) F.ntmps=N)
  (h:∀t l rc,Fr t fs→rc=gz fn t n params assign body→Wk E N g none c (fN E rs (fun _ m'=>∃y,Hp m0 m' (.obj l (rc (X y).st (X y).pe)::(X y).ps))) m0 (jz (first.toList++[.func (.yield l) #[] #[]]++cap.toList) 0 []) (.obj l (rc .ready none)::ps))
  (hst:∀y,(X y).st≠.busy) (k:∀y,(match (X y).pe with|none=>At Q .normal m0 fs (X y).ps|some c=>Wk E n fn none c Q m0 fs (X y).ps)):Wk E n fn none (.rangeFunc f params assign body) Q m0 fs ps :=
 Wk.tF hf hp hfn hb hrs hN (fun _ _=>trivial) h hst k
theorem Wk.xK {l0 k0 f0 n0:Nat} {t0:Tm} {params0:Array Tmp} {assign0 body0:Code} {r0:LoopState→Option Code→AObj} {s0:LoopState} {p0:Option Code} {f:Operand} {params:Array Tmp} {assign body:Code} {g:FuncId} {first cap:Array Value} {F:Func} {c:Code} {rs:List ResultVar} {N:Nat} {γ:Type} {X:γ→Rn}
  (hf:ev E fs f=some (.func (.func g) first cap)) (hp:E.cu g=none) (hfn:E.P.funcs[g]? = some F) (hb:F.body=some c) (hrs:F.results.toList=rs) (hN:max (first.toList.length+1+cap.toList.length) F.ntmps=N)
  (h0:r0=gz f0 t0 n0 params0 assign0 body0) (h1:pk ps k0=some (.obj l0 (r0 s0 p0)))
  (h:∀t l rc,Fr t fs→rc=gz fn t n params assign body→Wk E N g none c (fN E rs (fun _ m'=>∃y,Hp m0 m' (.obj l (rc (X y).st (X y).pe)::(X y).ps))) m0 (jz (first.toList++[.func (.yield l) #[] #[]]++cap.toList) 0 []) (.obj l (rc .ready none)::ps))
  (hst:∀y,(X y).st≠.busy) (k:∀y,(match (X y).pe with|none=>At Q .normal m0 fs (X y).ps|some c=>Wk E n fn (some l0) c Q m0 fs (X y).ps)):Wk E n fn (some l0) (.rangeFunc f params assign body) Q m0 fs ps :=
 Wk.tF hf hp hfn hb hrs hN (fun m hm=>by subst h0; exact⟨_,(hm.get h1).2.2⟩) h hst k
def sw:List Tmp→List Value→Fs→Fs
 | p::ps,v::vs,fs=>sw ps vs ((p,v)::fs)
 | _,_,fs=>fs
def qj (n:Nat):List Tmp→List Value→Bool
 | p::ps,_::vs=>Nat.blt p n && qj n ps vs
 | [],[]=>true
 | _,_=>false
theorem qo {n:Nat}:∀{ps:List Tmp} {vs:List Value} {t:Tm} {fs:Fs},qj n ps vs=true→Fr t fs→∃t',eX n t ps vs=some t'∧Fr t' (sw ps vs fs)∧ps.length=vs.length
 | p::ps,v::vs,t,fs,h,hf=>by
  simp only[qj,Bool.and_eq_true] at h;obtain⟨t',h1,h2,h3⟩:=qo (ps:=ps) (vs:=vs) (t:=t.set p v) (fs:=(p,v)::fs) h.2 hf.set;exact⟨t',by simp only[eX,h.1]; exact h1,h2,by simp[h3]⟩
 | [],[],t,fs,_,hf=>⟨t,rfl,hf,rfl⟩
 | [],_::_,_,_,h,_=>by cases h
 | _::_,[],_,_,h,_=>by cases h
theorem mO {f:Operand} {l:Nat} {first cap:Array Value} {ars:Array Operand} {ts:Array TypeId} {args:List Value} {k k1 fn' n':Nat} {rc:LoopState→Option Code→AObj} {t0:Tm} {params:Array Tmp} {assign body:Code} {f0:Fs} {γA γ:Type} {GA:γA→En} {G:γ→En}
  (hf:ev E fs f=some (.func (.yield l) first cap)) (ha:fQ E fs ars.toList=some args) (hp:pk ps k=some (.obj l (rc .ready none))) (hrc:rc=gz fn' t0 n' params assign body) (h3:Fr t0 f0) (hpar:qj n' params.toList (first.toList++args)=true)
  (hA:Wk E n' fn' (some l) assign (ll m0 GA) m0 (sw params.toList (first.toList++args) f0) ps) (hAe:∀y,(GA y).e = .normal) (h0:∀y,pk (GA y).ps k1=some (.obj l (rc .ready none)))
  (hB:∀y,Wk E n' fn' (some l) body (ll m0 G) m0 (GA y).fs (bM (GA y).ps k1 (.obj l (rc .busy none)))) (hG:∀y,pk (G y).ps 0=some (.obj l (rc .busy none))) :
  Ox E m0 fs ps (.call ⟨.value f,ars,ts⟩) (fun y:γ=>.bool (fg (G y).e).isNone) (fun y=>bM (G y).ps 0 (.obj l (rc (if (fg (G y).e).isNone then .ready else .done) (fg (G y).e)))):=by
 subst hrc;intro t m hfr hm;refine⟨fun b hb=>(by simp[aS] at hb),fun K hK=>?_⟩
 have hev:av E t f=some (.func (.yield l) first cap):=by
  cases f with
  | tmp i=>exact hfr.ev hf
  | const c=>exact hfr.ev hf
  | global g=>exact hfr.ev hf
  | func g=>exact hfr.ev hf
 show gJ E (av E t f) (bz E t ars.toList) m K
 rw[hev,hfr.fQ ha]
 show pA E l (first.toList++args) m K
 obtain⟨t2,hset,h4,hlen⟩:=qo (t:=t0) hpar h3;obtain⟨e1,t1,m1,⟨ka,hka⟩,ya,h2,h5,h3'⟩:=hA t2 m h4 hm;rw[hAe] at h2;subst h2;have h6:m.get l=some (gz fn' t0 n' params assign body .ready none):=(hm.get hp).2.2;have h7:m1.get l=some (gz fn' t0 n' params assign body .ready none):=(h3'.get (h0 ya)).2.2;have hbusy:Hp m0 (m1.set l (gz fn' t0 n' params assign body .busy none)) (bM (GA ya).ps k1 (.obj l (gz fn' t0 n' params assign body .busy none))) :=
  h3'.write (h0 ya) rfl rfl rfl rfl ⟨(h3'.get (h0 ya)).1,by rw[AMem.next_set]; exact(h3'.get (h0 ya)).2.1,by rw[AMem.bB,if_pos rfl]⟩
 obtain⟨e0,t3,m2,⟨kb,hkb⟩,y,h8,h10,h1⟩:=hB ya t1 _ h5 hbusy;have h9:m2.get l=some (gz fn' t0 n' params assign body .busy none):=(h1.get (hG y)).2.2;have hfin:Hp m0 (m2.set l (gz fn' t0 n' params assign body (if (fg e0).isNone then .ready else .done) (fg e0))) (bM (G y).ps 0 (.obj l (gz fn' t0 n' params assign body (if (fg e0).isNone then .ready else .done) (fg e0)))) :=
  h1.write (hG y) rfl rfl rfl rfl ⟨(h1.get (hG y)).1,by rw[AMem.next_set]; exact(h1.get (hG y)).2.1,by rw[AMem.bB,if_pos rfl]⟩
 refine⟨.bool (fg e0).isNone,m2.set l (gz fn' t0 n' params assign body (if (fg e0).isNone then .ready else .done) (fg e0)),bA (k:=max ka kb) ?_,?_⟩
 ·have hka':run E (max ka kb) (.code assign ⟨t2,n',fn',some l⟩ m)=some (.code .normal t1 m1):=gi (Nat.le_max_left ka kb) hka;have hkb':run E (max ka kb) (.code body ⟨t1,n',fn',some l⟩ (m1.set l (.loop { state:=.busy,pending:=none,fn:=fn',tmps:=t0,n:=n',params:=params,assign:=assign,body:=body})))=some (.code e0 t3 m2):=gi (Nat.le_max_right ka kb) hkb;have hg0':m.get l=some (.loop { state:=.ready,pending:=none,fn:=fn',tmps:=t0,n:=n',params:=params,assign:=assign,body:=body}):=h6;have hg1':m1.get l=some (.loop { state:=.ready,pending:=none,fn:=fn',tmps:=t0,n:=n',params:=params,assign:=assign,body:=body}):=h7;have hg2':m2.get l=some (.loop { state:=.busy,pending:=none,fn:=fn',tmps:=t0,n:=n',params:=params,assign:=assign,body:=body}):=h9;have hsz:¬((first.toList++args).length≠params.size):=by rw[←hlen]; simp
  simp only[step,hg0',if_neg hsz,hset,hka',hg1',hkb',hg2']
  rfl
 ·subst h8;exact hK y _ hfin
end
section
variable {E : Env} {n : Nat} {m0 m1 m m' : AMem} {fs : Fs} {ps : List Pc} {ops : Array Oper} {os : List Oper} {K : Tm → AMem → Prop} {x y : Operand} {ty : TypeId}
end
section
variable {α β : Type} [DecidableEq α]
def jw (k:α):List (α × β)→Nat→Option (Nat × β)
 | [],_=>none
 | e::es,i=>if k=e.1 then some (i,e.2) else jw k es (i+1)
def gO (xs:List (α × β)) (k:α):Option β:=(jw k xs 0).map (·.2)
def lC (xs:List (α × β)) (k:α) (v:β):List (α × β) :=
 match jw k xs 0 with
 | some p=>xs.set p.1 (k,v)
 | none=>xs++[(k,v)]
def eM (kE:α→Value) (vE:β→Value) (p:α × β):Value × Value:=(kE p.1,vE p.2)
structure KeyE (P:Program) (kt:TypeId) (kE:α→Value):Prop where
 eq:∀a b,fU P Op.maxDepth kt (kE a) (kE b)=some (decide (a=b))
 ok:∀a,fY P kt (kE a)=true
 plain:∀a,bC (kE a)=true
 same:∀a,Instr.sameBits 10000 (kE a) (kE a)=true
theorem jG {P:Program} {kt:TypeId} {kE:α→Value} {vE:β→Value} (hk:KeyE P kt kE) (k:α):∀(xs:List (α × β)) (i:Nat),ia P kt (kE k) (xs.map (eM kE vE)) i=some ((jw k xs i).map fun p=>(p.1,vE p.2))
 | [],_=>rfl
 | e::es,i=>by
  simp only[List.map_cons,ia,eM,hk.eq,jw]
  by_cases h:k=e.1
  ·rw[decide_eq_true h,if_pos h]; rfl
  ·rw[decide_eq_false h,if_neg h];exact jG hk k es (i+1)
omit [DecidableEq α] in
theorem kT {kE:α→Value} {vE:β→Value} (k:α) (v:β):∀(xs:List (α × β)) (i:Nat),i<xs.length→jH (xs.map (eM kE vE)) i (kE k) (vE v)=(xs.set i (k,v)).map (eM kE vE)
 | [],i,h=>by cases h
 | e::es,0,_=>rfl
 | e::es,i+1,h=>by
  simp only[List.map_cons,jH,List.set_cons_succ];rw[kT k v es i (by simpa using h)]
theorem oh (k:α):∀(xs:List (α × β)) (i:Nat) (p:Nat × β),jw k xs i=some p→i≤p.1∧p.1<i+xs.length∧xs[p.1-i]? = some (k,p.2)
 | [],_,_,h=>by cases h
 | e::es,i,p,h=>by
  unfold jw at h
  split at h
  ·rename_i hk; cases h; subst hk; simp
  ·obtain⟨h1,h2,h3⟩:=oh k es (i+1) p h;refine⟨by omega,by simp; omega,?_⟩
   obtain⟨d,hd⟩:∃d,p.1-i=d+1:=⟨p.1-i-1,by omega⟩
   rw[hd,List.getElem?_cons_succ,←h3]
   congr 1; omega
end
section
variable {E : Env} {n : Nat} {m0 m : AMem} {fs : Fs} {ps : List Pc} {x y z : Operand} {ty : TypeId}
variable {α β : Type} [DecidableEq α]
theorem nW {P:Program} {kt et b:Nat} {kE:α→Value} {vE:β→Value} {z0:β} {xs:List (α × β)} {k:α} {c:Bool} (hu:P.underlying ty=some (.map kt et)) (hk:KeyE P kt kE) (hz:bq P et=some (vE z0)) (hzp:bC (vE z0)=true) (hg:m.get b=some (.map (xs.map (eM kE vE)))) :
  eR P ty (.map (some b)) (kE k) c m=some (if c then .tuple #[vE ((gO xs k).getD z0),.bool (gO xs k).isSome] else vE ((gO xs k).getD z0)):=by
 simp only[eR,hu,mapOf,hg,hz,hk.ok,if_true,jG hk,gO];cases jw k xs 0 with
 | none=>simp only[Option.map_none,hzp,if_true,Option.getD_none,Option.isSome_none]
 | some p=>simp only[Option.map_some,Option.getD_some,Option.isSome_some]
theorem zC {kt et b q:Nat} {kE:α→Value} {vE:β→Value} {z0:β} {xs:List (α × β)} {k:α} (hu:E.P.underlying ty=some (.map kt et)) (hk:KeyE E.P kt kE) (hz:bq E.P et=some (vE z0)) (hzp:bC (vE z0)=true) (hx:ev E fs x=some (.map (some b))) (hy:ev E fs y=some (kE k)) (hp:pk ps q=some (.obj b (.map (xs.map (eM kE vE))))) :
  Od E m0 fs ps (.lookup ty x y false) (vE ((gO xs k).getD z0)) ps :=
 fun t m hf h=>⟨fun b' hb'=>by
  simp only[aS,hf.ev hx] at hb';cases hb'; exact(h.get hp).2.1,fun K hK=>by
  have:=nW (c:=false) (k:=k) hu hk hz hzp (h.get hp).2.2;unfold bw;simp only[jm,dx,hf.ev hx,hf.ev hy,this,Option.map_some];exact hK m h⟩
theorem zc {kt et b q:Nat} {kE:α→Value} {vE:β→Value} {z0:β} {xs:List (α × β)} {k:α} (hu:E.P.underlying ty=some (.map kt et)) (hk:KeyE E.P kt kE) (hz:bq E.P et=some (vE z0)) (hzp:bC (vE z0)=true) (hx:ev E fs x=some (.map (some b))) (hy:ev E fs y=some (kE k)) (hp:pk ps q=some (.obj b (.map (xs.map (eM kE vE))))) :
  Od E m0 fs ps (.lookup ty x y true) (.tuple #[vE ((gO xs k).getD z0),.bool (gO xs k).isSome]) ps :=
 fun t m hf h=>⟨fun b' hb'=>by
  simp only[aS,hf.ev hx] at hb';cases hb'; exact(h.get hp).2.1,fun K hK=>by
  have:=nW (c:=true) (k:=k) hu hk hz hzp (h.get hp).2.2;unfold bw;simp only[jm,dx,hf.ev hx,hf.ev hy,this,Option.map_some];exact hK m h⟩
theorem wO {kt et b q:Nat} {kE:α→Value} {vE:β→Value} {z0 v:β} {xs:List (α × β)} {k:α} (hu:E.P.underlying ty=some (.map kt et)) (hk:KeyE E.P kt kE) (hz:bq E.P et=some (vE z0)) (hzp:bC (vE z0)=true) (hx:ev E fs x=some (.map (some b))) (hy:ev E fs y=some (kE k)) (hp:pk ps q=some (.obj b (.map (xs.map (eM kE vE))))) (hv:some ((gO xs k).getD z0)=some v) :
  Od E m0 fs ps (.lookup ty x y false) (vE v) ps:=by
 cases hv;exact zC hu hk hz hzp hx hy hp
theorem si {kt et b q:Nat} {kE:α→Value} {vE:β→Value} {z0 v:β} {c:Bool} {xs:List (α × β)} {k:α} (hu:E.P.underlying ty=some (.map kt et)) (hk:KeyE E.P kt kE) (hz:bq E.P et=some (vE z0)) (hzp:bC (vE z0)=true) (hx:ev E fs x=some (.map (some b))) (hy:ev E fs y=some (kE k)) (hp:pk ps q=some (.obj b (.map (xs.map (eM kE vE))))) (hv:some ((gO xs k).getD z0,(gO xs k).isSome)=some (v,c)) :
  Od E m0 fs ps (.lookup ty x y true) (.tuple #[vE v,.bool c]) ps:=by
 cases hv;exact zc hu hk hz hzp hx hy hp
theorem qW {kt et b q:Nat} {kE:α→Value} {vE:β→Value} {xs:List (α × β)} {k:α} {v:β} (hu:E.P.underlying ty=some (.map kt et)) (hk:KeyE E.P kt kE) (hx:ev E fs x=some (.map (some b))) (hy:ev E fs y=some (kE k)) (hz:ev E fs z=some (vE v)) (hp:pk ps q=some (.obj b (.map (xs.map (eM kE vE))))) :
  Od E m0 fs ps (.mapUpdate ty x y z) undef (bM ps q (.obj b (.map ((lC xs k v).map (eM kE vE))))) :=
 fun t m hf h=>⟨fun b' hb'=>by simp[aS] at hb',fun K hK=>by
  have hg:=(h.get hp).2.2;have hup:fa E.P ty (.map (some b)) (kE k) (vE v) m=some (m.set b (.map ((lC xs k v).map (eM kE vE)))):=by
   simp only[fa,hu,hg,hk.ok,if_true,jG hk,lC];cases hfd:jw k xs 0 with
   | none=>simp only[Option.map_none,List.map_append,List.map_cons,List.map_nil]; rfl
   | some p =>
    obtain⟨h1,h2,h3⟩:=oh k xs 0 p hfd;simp only[Nat.sub_zero] at h3;have hst:kv (xs.map (eM kE vE)) p.1 (kE k)=true:=by
     simp only[kv,List.getElem?_map,h3,Option.map_some,eM,hk.plain,hk.same,Bool.and_self]
    simp only[Option.map_some,hst,if_true];rw[kT k v xs p.1 (by omega)]
  unfold bw;simp only[jm,dx,hf.ev hx,hf.ev hy,hf.ev hz,hup,Option.map_some];exact hK _ (h.write hp rfl rfl rfl rfl ⟨(h.get hp).1,by rw[AMem.next_set]; exact(h.get hp).2.1,by rw[AMem.bB,if_pos rfl]⟩)⟩
theorem u9 {P:Program} {kt:TypeId} {k:IntKind} (hu:P.underlying kt=some (.int k)):KeyE P kt (fun n:Int=>.int k n) where
 eq:=fun a b=>by
  simp only[Op.maxDepth,fU,hu,if_true]
  by_cases h:a=b
  ·subst h; simp
  ·simp[h]
 ok:=fun a=>by simp only[fY,hu]
 plain:=fun a=>rfl
 same:=fun a=>by simp[Instr.sameBits]
end
def hC (ps:List Pc) (j:Nat) (ks:List Nat):Option (List Pc) :=
 match U ps ks with
 | some qs=>some (qs++ps.drop j)
 | none=>none
theorem u5:∀{ps:List Pc} {j:Nat} {r:Pc},r ∈ ps.drop j→∃k,j≤k∧pk ps k=some r:=by
 intro ps j r h;obtain⟨k,hk⟩:=fO h;refine⟨j+k,by omega,?_⟩
 have key:∀(ps:List Pc) (j k:Nat),pk (ps.drop j) k=pk ps (j+k):=by
  intro ps
  induction ps with
  | nil=>intro j k; rw[List.drop_nil]; cases(j+k)<;>rfl
  | cons p l ih =>
   intro j k;cases j with
   | zero=>rw[List.drop_zero,Nat.zero_add]
   | succ j=>rw[List.drop_succ_cons,ih,Nat.succ_add]; rfl
 rw[←key]; exact hk
section
variable {E : Env} {n : Nat} {m0 m : AMem} {fs : Fs} {ps ps' : List Pc} {x y z : Operand} {ty : TypeId}
theorem aa.hC (j:Nat) (ks:List Nat) (hnd:ji ks=true) (hlt:ks.all (fun k=>Nat.blt k j)=true) (e:W.hC ps j ks=some ps'):aa m0 ps ps':=by
 intro m h;unfold W.hC at e
 split at e
 ·rename_i qs hq;have e:=Option.some.inj e;subst e;have h1:=h.U ks hnd hq;refine⟨h.ext,fun p hp=>?_,List.pairwise_append.2 ⟨h1.apart,h.apart.sublist (List.drop_sublist _ _),fun p hp q hq'=>?_⟩⟩
  ·rcases List.mem_append.1 hp with hp|hp
   ·exact h1.ok p hp
   ·exact h.ok p (List.mem_of_mem_drop hp)
  ·obtain⟨k,hk,hk2⟩:=jU hq p hp;obtain⟨k',hk',hk2'⟩:=u5 hq';have:=List.all_eq_true.1 hlt k hk;rw[Nat.blt_eq] at this;exact dU h.apart hk2 hk2' (by omega)
 ·cases e
theorem zg {b q:Nat} {kt et:TypeId} {es:List (Value × Value)} {ars:Array Operand} (hu:E.P.underlying ty=some (.map kt et)) (ha:fQ E fs ars.toList=some [.map (some b)]) (hp:pk ps q=some (.obj b (.map es))) :
  Od E m0 fs ps (.call ⟨.builtin .len,ars,#[ty]⟩) (.int .i64 (es.length:Int)) ps :=
 fun t m hf h=>⟨fun b' hb'=>by
  simp only[aS,hf.fQ ha] at hb';cases hb'; exact(h.get hp).2.1,fun K hK=>by
  have:bj E.P .len #[ty] [.map (some b)] m=some (.int .i64 (es.length:Int),m):=by
   have ht:(#[ty]:Array TypeId)[0]? = some ty:=rfl;simp only[bj,ht,Option.bind_some,hu,mapOf,(h.get hp).2.2,Option.map_some]
  rw[Go.Ab.dO (hf.fQ ha) this]; exact hK m h⟩
theorem p8 {α:Type} {b q l:Nat} {kt et:TypeId} {xs:List α} {f:α→Value × Value} {ars:Array Operand} (hu:E.P.underlying ty=some (.map kt et)) (ha:fQ E fs ars.toList=some [.map (some b)]) (hp:pk ps q=some (.obj b (.map (xs.map f)))) (hl:xs.length=l) :
  Od E m0 fs ps (.call ⟨.builtin .len,ars,#[ty]⟩) (.int .i64 (l:Int)) ps:=by
 have:=zg (m0:=m0) hu ha hp;rw[List.length_map,hl] at this;exact this
theorem uM {P:Program} {kt el:TypeId} {k:IntKind} (hu:P.underlying kt=some (.array 2 el)) (hk:known P el=true) (hs:aE P el=1) (ha:cL P el=false) (he:P.underlying el=some (.int k)):KeyE P kt (fun p:Int × Int=>.agg #[.int k p.1,.int k p.2]) where
 eq:=fun a b=>by
  rw[yd hu hk hs ha he]
  congr 1
  by_cases h:a=b
  ·subst h; simp
  ·have:¬(a.1=b.1∧a.2=b.2):=fun⟨h1,h2⟩=>h (Prod.ext h1 h2);rw[decide_eq_false h,←Bool.decide_and,decide_eq_false this]
 ok:=fun a=>by
  have hkk:cr P el=true:=by simp only[cr,he]
  simp only[fY,hu,hkk,hk,hs,Bool.true_and]
  rfl
 plain:=fun a=>rfl
 same:=fun a=>by simp[Instr.sameBits]
end
end Go.Ab.W
end

section
namespace Go.Ab.W
open Go Go.Ab
set_option maxRecDepth 10000
attribute [local irreducible] Tm.at Trie.set Trie.get AMem.get AMem.set AMem.alloc AMem.ww
theorem qV (ps:List Pc):∀(k:Nat) (p:Pc),pk ps k=some p→bM ps k p=ps:=by
 induction ps with
 | nil=>intro k p h; exact nomatch h
 | cons q l ih =>
  intro k p h;cases k with
  | zero=>rw[fC] at h; cases h; rfl
  | succ k=>rw[dh] at h; simp only[bM,ih k p h]
section
variable {E : Env} {n : Nat} {m0 : AMem} {fs : Fs} {ps : List Pc} {x y z : Operand} {v : Value} {ty ty2 : TypeId}
end
end Go.Ab.W
end

section
namespace Go.Ab.W
open Go Go.Ab
attribute [local irreducible] Tm.at Trie.set Trie.get AMem.get AMem.set AMem.alloc AMem.ww AMem.kill
section
variable {α : Type}
end
section
variable {E : Env} {n : Nat} {m0 m : AMem} {fs : Fs} {ps : List Pc} {x y z : Operand} {ty : TypeId}
end
section
variable {E : Env} {n : Nat} {m0 m : AMem} {fs : Fs} {ps : List Pc}
def pc (l:List Pc):Bool:=l.all Pc.bound
theorem iA {α:Type} {V:α→Value} {N:α→List Pc} {f:Operand} {g:FuncId} {ars:Array Operand} {ts:Array TypeId} {args:List Value} (hf:ev E fs f=some (.func (.func g) #[] #[])) (ha:fQ E fs ars.toList=some args) (hc:∀m,Hp m0 m ps→aW E g args m (fun v m'=>∃x,v=V x∧Hp m m' (N x++[.gen (eV (rz ps))]))) (ho:∀x,pc (N x)=true):Ox E m0 fs ps (.call ⟨.value f,ars,ts⟩) V (fun x=>N x++ps) :=
 bg hf ha fun m hm=>by
  simp only[List.nil_append,List.append_nil];exact(hc m hm).mono fun v m' ⟨x,e,h⟩=>⟨x,e,hm.tB h fun p hp=>List.all_eq_true.1 (ho x) p hp⟩
theorem yz {α:Type} {V:α→Value} {N:α→List Pc} {f:Operand} {g:FuncId} {ars:Array Operand} {ts:Array TypeId} {args:List Value} (hf:ev E fs f=some (.func (.func g) #[] #[])) (ha:fQ E fs ars.toList=some args) (hc:∀m,Hp m0 m ps→aW E g args m (fun v m'=>∃x,v=V x∧Hp m m' (N x++[.gen (eV (rz ps))]))) (ho:∀x,pc (N x)=true):Oc E m0 fs ps (.call ⟨.value f,ars,ts⟩) V (fun x=>N x++ps) :=
 fun t m hfr hm hwl=>⟨fun b hb=>(by simp[aS] at hb),fun K hK=>by
  show gJ E (av E t f) (bz E t ars.toList) m _
  rw[hfr.ev hf,hfr.fQ ha,kV];refine(hc m hm).mono fun v m' ⟨x,e,h⟩=>?_;rw[e];refine hK x m' (hm.tB h fun p hp=>List.all_eq_true.1 (ho x) p hp) ?_;have:=h.ext.wl;omega⟩
end
section
variable {E : Env} {n : Nat} {m0 : AMem} {fs : Fs} {ps : List Pc} {ops : Array Oper} {os : List Oper} {dr : Bool}
end
section
variable {E : Env} {m0 : AMem} {fs : Fs} {ps : List Pc} {ty : TypeId}
end
section
variable {E : Env} {m0 : AMem} {fs : Fs} {ps : List Pc} {ty : TypeId}
end
end Go.Ab.W
end

section
namespace Go.Ab.W
open Go Go.Ab
section
variable {α : Type}
end
section
variable {α : Type} {E : Env} {m0 m : AMem} {fs : Fs} {ps : List Pc} {f : α → List Value} {w : Nat}
variable {x : Operand} {ty : TypeId}
variable {N : Nat} {ops : Array Oper} {os : List Oper} {dr : Bool}
end
end Go.Ab.W
end

section
namespace Go.Ab.W
open Go Go.Ab
attribute [local irreducible] Tm.at Trie.set Trie.get AMem.get AMem.set AMem.alloc AMem.ww AMem.kill
section
variable {α : Type} {E : Env} {m0 m : AMem} {fs : Fs} {ps : List Pc} {f : α → List Value} {w : Nat} {ty : TypeId}
theorem uK {β:Type} {V:β→Value} {N:β→List Pc} {x:Operand} {b off:Nat} (hx:ev E fs x=some (ptr b off)) (hb:∀m,Hp m0 m ps→b<m.next) (h:∀m,Hp m0 m ps→∃z,cT E.P ty (ptr b off) m=some (V z)∧Hp m0 m (N z)):Ox E m0 fs ps (.load ty x) V N :=
 fun t m hf hm=>⟨fun b' hb'=>by
  have hx':av E t x=some (ptr b off):=hf.ev hx;simp only[aS,hx',Option.bind_some] at hb';cases hb'; exact hb m hm,fun K hK=>by
  obtain⟨z,h1,h2⟩:=h m hm;rw[Go.Ab.uu (hf.ev hx) h1]; exact hK z m h2⟩
end
section
variable {α : Type} {E : Env} {n : Nat} {m0 m : AMem} {fs : Fs} {ps : List Pc} {f : α → List Value} {w : Nat} {ops : Array Oper} {os : List Oper} {prs : List (Nat × Nat)} {K : Tm → AMem → Prop} {ss : List Nk}
end
def zf (m:AMem) (RW:Nat→Prop) (rb:Nat) (row:List (Bool × List Nat)):Prop :=
 rb<m.next∧∃vs,m.get rb=some (.cells vs .own)∧vs.length=row.length*2∧∀(j:Nat) (x:Bool × List Nat),row[j]? = some x→vs[j*2]? = some (.bool x.1)∧∃a c,vs[j*2+1]? = some (.slice a x.2.length c)∧Rd m a c 1 x.2.length (x.2.map (eN .u64))∧∀b,lA a=some b→RW b
def zK (ρ:Nat→Nat) (L:List (List (Bool × List Nat))) (x:Nat):Prop:=∃i row,L[i]? = some row∧row≠[]∧x=ρ i
structure MatAt (m:AMem) (b n:Nat) (ρ:Nat→Nat) (RW:Nat→Prop) (L:List (List (Bool × List Nat))):Prop where
 lt:b<m.next
 len:n=L.length
 cells:∃cs,m.get b=some (.cells cs .own)∧cs.length=n∧∀(i:Nat) (row:List (Bool × List Nat)),L[i]? = some row→(row = []∧cs[i]? = some (.slice none 0 0))∨(row≠[]∧cs[i]? = some (.slice (some ⟨ρ i,0,none⟩) row.length row.length))
 rows:∀(i:Nat) (row:List (Bool × List Nat)),L[i]? = some row→row≠[]→zf m RW (ρ i) row
 rw:∀x,RW x→x<m.next∧x≠b∧¬zK ρ L x
 out:∀(i:Nat) (row:List (Bool × List Nat)),L[i]? = some row→row≠[]→ρ i≠b
 inj:∀(i j:Nat) (row row':List (Bool × List Nat)),L[i]? = some row→L[j]? = some row'→row≠[]→row'≠[]→ρ i=ρ j→i=j
section
variable {E : Env} {m0 m : AMem} {fs : Fs} {ps : List Pc} {x y : Operand} {ty : TypeId} {b n : Nat} {ρ : Nat → Nat} {RW : Nat → Prop} {L : List (List (Bool × List Nat))}
end
section
variable {E : Env} {m0 m : AMem} {fs : Fs} {ps : List Pc} {x y z : Operand} {ty : TypeId} {H : Nat → Prop} {M : List (Option Nat × List (Int × Bool))}
end
end Go.Ab.W
end

section
namespace Go.Ab.W
open Go Go.Ab
section
variable {P : Program} {ty el : TypeId}
theorem iB {eq:TypeId→Value→Value→Option Bool} {xs ys:Array Value} {t off:Nat} {rest:List (TypeId × Nat)} {x y:Value} {b r:Bool} (h1:cw P t xs off=some x) (h2:cw P t ys off=some y) (h3:eq t x y=some b) (h4:ek eq P xs ys rest=some r):ek eq P xs ys ((t,off)::rest)=some (b && r):=by
 unfold ek;rw[h1,h2]
 dsimp only
 rw[h3];cases b with
 | true=>exact h4
 | false=>rfl
end
section
variable {P : Program} {ty : TypeId}
def tw (P:Program) (ty u v:TypeId) (k l:IntKind):Bool:=match P.underlying ty with
 | some (.struct fs) => !(P.stoodInHeld ty || fs.any (·.name == "_")) && (fs.toList.map (fun f => (f.type, f.offset)) == [(u, 0), (v, 1)]) && known P u && known P v && (match P.underlying u, P.underlying v with | some (.int k'), some (.int l') => k' == k && l' == l | _, _ => false)
 | _=>false
theorem mh {u v : TypeId} {k l : IntKind} (h : tw P ty u v k l = true) : ∃ fs, P.underlying ty = some (.struct fs) ∧ (P.stoodInHeld ty || fs.any (·.name == "_")) = false ∧ fs.toList.map (fun f => (f.type, f.offset)) = [(u, 0), (v, 1)] ∧
  known P u=true∧known P v=true∧P.underlying u=some (.int k)∧P.underlying v=some (.int l):=by
 unfold tw at h
 split at h
 ·rename_i fs hf;simp only[Bool.and_eq_true,Bool.not_eq_true',beq_iff_eq] at h;obtain⟨⟨⟨⟨h1,h2⟩,h3⟩,h4⟩,h5⟩:=h
  split at h5
  ·rename_i k' l' e1 e2;simp only[Bool.and_eq_true,beq_iff_eq] at h5;obtain⟨rfl,rfl⟩:=h5;exact⟨fs,hf,h1,h2,h3,h4,e1,e2⟩
  ·cases h5
 ·cases h
theorem lU {el:TypeId} {k:IntKind} (he:P.underlying el=some (.int k)) (d:Nat) (x y:Int):fU P (d+1) el (.int k x) (.int k y)=some (decide (x=y)):=by
 simp only[fU,he,if_true]
 rfl
theorem wy {u v:TypeId} {k l:IntKind} (h:tw P ty u v k l=true) (a c b d:Int) :
  fU P Op.maxDepth ty (.agg #[.int k a,.int l b]) (.agg #[.int k c,.int l d])=some (decide (a=c) && decide (b=d)):=by
 obtain⟨fs,hf,h1,h2,h3,h4,h5,h6⟩:=mh h;have a1:cL P u=false:=by simp only[cL,h5]
 have a2:cL P v=false:=by simp only[cL,h6]
 have p0:∀x y:Value,cw P u #[x,y] 0=some x:=fun x y=>by simp only[cw,h3,a1]; rfl
 have p1:∀x y:Value,cw P v #[x,y] 1=some y:=fun x y=>by simp only[cw,h4,a2]; rfl
 show fU P (9999+1) ty _ _=_
 unfold fU;simp only[hf,h1,Bool.false_eq_true,if_false,h2];rw[iB (p0 _ _) (p0 _ _) (lU h5 9998 a c) (iB (p1 _ _) (p1 _ _) (lU h6 9998 b d) rfl)];simp only[Bool.and_true]
theorem ui {u v:TypeId} {k l:IntKind} (h:tw P ty u v k l=true):KeyE P ty (fun p:Int × Int=>.agg #[.int k p.1,.int l p.2]) where
 eq:=fun a b=>by
  rw[wy h]
  congr 1
  by_cases h:a=b
  ·subst h; simp
  ·have:¬(a.1=b.1∧a.2=b.2):=fun⟨h1,h2⟩=>h (Prod.ext h1 h2);rw[decide_eq_false h,←Bool.decide_and,decide_eq_false this]
 ok:=fun a=>by
  obtain⟨fs,hf,h1,h2,h3,h4,h5,h6⟩:=mh h;have k1:cr P u=true:=by simp only[cr,h5]
  have k2:cr P v=true:=by simp only[cr,h6]
  have e:fs.toList.all (fun f=>cr P f.type && known P f.type && decide (f.offset<(#[Value.int k a.1,.int l a.2]:Array Value).size)) =
    (fs.toList.map fun f=>(f.type,f.offset)).all fun x=>cr P x.1 && known P x.1 && decide (x.2<(#[Value.int k a.1,.int l a.2]:Array Value).size):=by rw[List.all_map]; rfl
  simp only[fY,hf];rw[e,h2];simp only[List.all_cons,List.all_nil,k1,k2,h3,h4]
  rfl
 plain:=fun a=>rfl
 same:=fun a=>by simp[Instr.sameBits]
theorem xJ {k:IntKind} (a b c d:Int) {ts:Array TypeId} (m:AMem):bj P .max ts [.int k a,.int k b,.int k c,.int k d] m=some (.int k (ma (ma (ma a b) c) d),m):=rfl
end
end Go.Ab.W
end

section
namespace Go.Ab.W
open Go Go.Ab
attribute [local irreducible] Tm.at Trie.set Trie.get AMem.get AMem.set AMem.alloc AMem.ww AMem.kill
section
variable {E : Env} {n : Nat} {m0 m : AMem} {fs : Fs} {ps : List Pc} {x y : Operand} {ty : TypeId}
def jo (a:Option Addr) (cap w l:Nat) (es:List (List Value)):GPc where
 ow b:=lA a=some b
 rd _:=False
 P m:=es.length=l∧(∀e ∈ es,e.length=w)∧0<w∧l≤cap∧((a=none∧cap=0)∨∃b jk tg,a=some ⟨b,0,none⟩∧b<m.next∧m.get b=some (.cells (es.flatten++jk) tg)∧(tg = .own∨tg = .more w)∧(es.flatten++jk).length=cap*w)
 st m m' h hn hg:=by
  obtain⟨h1,h2,h3,h4,h5⟩:=h;refine⟨h1,h2,h3,h4,?_⟩;rcases h5 with h5|⟨b,jk,tg,rfl,h6,h7,h8⟩
  ·exact .inl h5
  ·exact .inr ⟨b,jk,tg,rfl,by omega,by rw[hg b (.inl rfl) h6]; exact h7,h8⟩
 lt m b h hb:=by
  obtain⟨_,_,_,_,h5⟩:=h;rcases hb with hb|hb
  ·rcases h5 with⟨rfl,_⟩|⟨b',_,_,rfl,h6,_⟩
   ·cases hb
   ·cases hb; exact h6
  ·exact hb.elim
variable {α : Type} {f : α → List Value} {elem : TypeId} {k cap w l : Nat} {a : Option Addr} {es : List (List Value)} {xs : List α}
theorem aa.zR (hp:pk ps k=some (.sl a w l es)):aa m0 ps (bM ps k (.gen (jo a l w l es))):=fun m h=>by
 have h0:=h.get hp;refine h.sW hp (fun b hb=>.inl (.inl ⟨rfl,?_⟩)) (fun b hb=>.inl (.inl ?_)) (Nat.le_refl _) h.ext ⟨?_,fun _ b hb=>?_⟩ fun _ _ _=>rfl
 ·rcases hb with hb|hb
  ·cases hb.1
  ·exact hb
 ·rcases hb with hb|hb
  ·cases hb
  ·rcases hb with hb|hb
   ·exact hb
   ·exact hb.elim
 ·rcases h0 with⟨rfl,rfl,rfl,h1⟩|⟨b,tg,rfl,h1⟩
  ·exact⟨rfl,fun e he=>(by cases he),h1,Nat.le_refl _,.inl ⟨rfl,rfl⟩⟩
  ·exact⟨h1.2.2.2.1,h1.2.2.2.2.1,h1.2.2.2.2.2.2,Nat.le_refl _,.inr ⟨b,[],tg,rfl,h1.2.1,by rw[List.append_nil]; exact h1.2.2.1,h1.2.2.2.2.2.1,by rw[List.append_nil,cd h1.2.2.2.2.1,h1.2.2.2.1]⟩⟩
 ·have hb:lA a=some b:=hb;rcases h0 with⟨_,_,rfl,_⟩|⟨b',tg,rfl,h1⟩
  ·cases hb
  ·cases hb; exact h1.1
theorem xR {a:Option Addr} {cap w l:Nat} {es:List (List Value)} (h:(jo a cap w l es).P m):Rd m a cap w l es:=by
 obtain⟨h1,h2,h3,h4,h5⟩:=h;refine⟨h1,h4,?_⟩;rcases h5 with⟨rfl,rfl⟩|⟨b,jk,tg,rfl,h6,h7,h8,h9⟩
 ·exact .inl ⟨rfl,by omega⟩
 ·refine .inr (.inr ⟨b,0,rfl,h6,_,tg,h7,fun sz e=>by rcases h8 with h|h<;>rw[h] at e<;>cases e; rfl,fun i e he=>?_⟩)
  have hi:i<es.length:=(List.getElem?_eq_some_iff.1 he).1;have hl:=h2 e (List.mem_of_getElem? he);refine⟨?_,hl⟩;have:=qJ h2 he;rw[Nat.zero_add,List.drop_append_of_le_length (by rw[cd h2]; exact Nat.mul_le_mul_right w (by omega)),List.take_append_of_le_length,this]
  rw[List.length_drop,cd h2];have:(i+1)*w≤es.length*w:=Nat.mul_le_mul_right w hi;rw[Nat.succ_mul] at this; omega
theorem aa.yk (hp:pk ps k=some (.gen (jo a cap w l es))):aa m0 ps (bM ps k (.rd a cap w l es)):=fun m h =>
 h.sW hp (fun b hb=>.inl (.inr (by rcases hb with hb|hb; cases hb.1; exact hb.elim))) (fun b hb=>.inl (.inr (.inl (by rcases hb with hb|hb; exact hb; exact hb.elim)))) (Nat.le_refl _) h.ext (xR (h.get hp).1) fun _ _ _=>rfl
theorem aa.zV {i:Nat} (hp:pk ps k=some (.gen (jo a cap w l es))) (hi:i≤l):aa m0 ps (bM ps k (.gen (jo a cap w i (es.take i)))):=fun m h=>by
 refine h.sW hp (fun b hb=>.inl (.inr (by rcases hb with hb|hb; cases hb.1; exact hb))) (fun b hb=>.inl (.inr (by rcases hb with hb|hb; cases hb; exact hb))) (Nat.le_refl _) h.ext ⟨?_,fun _ b hb=>(h.get hp).2 rfl b hb⟩ fun _ _ _=>rfl
 obtain⟨h1,h2,h3,h4,h5⟩:=(h.get hp).1;refine⟨by rw[List.length_take]; omega,fun e he=>h2 e (List.mem_of_mem_take he),h3,by omega,?_⟩
 rcases h5 with h5|⟨b,jk,tg,rfl,h6,h7,h8,h9⟩
 ·exact .inl h5
 ·have e:es.flatten++jk=(es.take i).flatten++((es.drop i).flatten++jk):=by rw[←List.append_assoc,←List.flatten_append,List.take_append_drop]
  exact .inr ⟨b,(es.drop i).flatten++jk,tg,rfl,h6,by rw[←e]; exact h7,h8,by rw[←e]; exact h9⟩
theorem yn {ys:List α} {hi:Int} {hx:Option Operand} {kd:IntKind} (ht:SlT E.P ty elem w) (hv:ev E fs x=some (.slice a l cap)) (e2:rM E fs hx=some (some (.int kd hi))) (hp:pk ps k=some (.gen (jo a cap w l (xs.map f)))) (hb:okB 0 hi l=true) (h0:0<l) (hys:xs.take hi.toNat=ys) :
  Od E m0 fs ps (.slice ty x none hx none) (.slice a ys.length cap) (bM ps k (.gen (jo a cap w ys.length (ys.map f)))) :=
 fun t m hf hm=>by
  subst hys;have hP:=(hm.get hp).1;obtain⟨h1,h2,h3,h4,h5⟩:=hP;obtain⟨_,b2,b3⟩:=sr hb;have hlen:(xs.take hi.toNat).length=hi.toNat:=by rw[List.length_take]; rw[List.length_map] at h1; omega
  rcases h5 with⟨_,h⟩|⟨b,jk,tg,rfl,h6,h7,h8,h9⟩
  ·omega
  ·refine⟨fun b' hb'=>?_,fun K hK=>?_⟩
   ·have:dD (.slice (some ⟨b,0,none⟩) l cap)=some b:=rfl;simp only[aS,hf.ev hv,Option.bind_some,this] at hb';cases hb'; exact h6
   ·have hbd:dc l cap none (some (.int kd hi)) none=some (0,hi.toNat,cap):=lZ (Nat.zero_le _) (by omega) (.inl ⟨rfl,rfl⟩) (.inr ⟨kd,by rw[Int.toNat_of_nonneg b2]⟩)
    have hs:du E.P ty (.slice (some ⟨b,0,none⟩) l cap) none (some (.int kd hi)) none m=some (.slice (some ⟨b,0,none⟩) hi.toNat cap):=by
     rcases h8 with rfl|rfl
     ·simp only[du,ht.und,ht.known,if_true,h7,hbd,ht.size,Nat.zero_mul,Nat.add_zero,Nat.sub_zero,ite_self]
     ·simp only[du,ht.und,ht.known,if_true,h7,hbd,ht.size,Nat.zero_mul,Nat.add_zero,Nat.sub_zero];rw[if_neg (by simp),if_neg (by omega)]
    rw[Go.Ab.qk (hf.ev hv) (hf.rM rfl) (hf.rM e2) (hf.rM rfl) hs,←hlen];refine hK m ?_;have:=aa.zV (m0:=m0) (i:=(xs.take hi.toNat).length) hp (by rw[hlen]; omega) m hm
    rwa[←List.map_take,show xs.take (xs.take hi.toNat).length=xs.take hi.toNat by rw[hlen]] at this
theorem pT {P:Program} {ty2 n0 c0:Nat} {a0:Option Addr} {es2:List (List Value)} (ht:SlT P ty elem w) (h10:∃e0,P.underlying ty2=some (.slice e0)) (h:Hp m0 m ps) (hp:pk ps k=some (.gen (jo a cap w l es))) (hr:Rd m a0 c0 w n0 es2) (h7:∀e ∈ es2,e.length=w) (ho:dG es2) (hl:lim (l+n0)=true) :
  ∃a' cap' m',cq P ty (some ty2) (.slice a l cap) (.slice a0 n0 c0) m=some (.slice a' (l+n0) cap',m')∧Hp m0 m' (bM ps k (.gen (jo a' cap' w (l+n0) (es++es2)))):=by
 obtain⟨e0,h11⟩:=h10;obtain⟨inf,h12,h13,h14⟩:=ht.bytes;have hln:l+n0≤1073741824:=Nat.le_of_ble_eq_true hl;have hc:=hr.cells;have hlen2:es2.flatten.length=n0*w:=by rw[cd h7,hr.1]
 have hnew:dX P elem (some ty2) (.slice a0 n0 c0) m=some (n0,es2.flatten):=by
  simp only[dX,Option.bind_some,h11,ht.size];have:dA w (.slice a0 n0 c0) n0 m=some es2.flatten:=hc;rw[this]; rfl
 have hfit:(P.info? elem).any (fun i=>dw i.bytes (l+n0) && i.bytes != 0)=true:=by
  rw[h12];have hmul:(2*(l+n0)+2000)*inf.bytes≤(2*1073741824+2000)*1024:=Nat.mul_le_mul (by omega) h14
  simp only[Option.any_some,dw,Bool.and_eq_true,decide_eq_true_eq,bne_iff_ne,ne_eq];exact⟨by omega,h13⟩
 have hzero:(bq P elem).any (fun z=>z.cells.size == w && z.cells.toList.all aP)=true:=ht.zero;have hpos:=ht.pos;have h15:(w == 0)=false:=by simp; omega
 have hguard:(!(known P elem) || aE P elem == 0 || !bh es2.flatten || !(P.info? elem).any (fun i=>dw i.bytes (l+n0) && i.bytes != 0) || es2.flatten.length != n0*aE P elem || !(bq P elem).any (fun z=>z.cells.size == aE P elem && z.cells.toList.all aP))=false:=by
  rw[ht.size,ht.known,hfit,hzero,ig ho,h15,hlen2]; simp
 have hpc:=h.get hp;have hext:=h.ext;have hnew':∀{mm:AMem} {q:List (List Value)},q.length=l+n0→(∀e ∈ q,e.length=w)→(jo (some ⟨mm.next,0,none⟩) (l+n0) w (l+n0) q).P (mm.alloc (.cells q.flatten (.more w))):=fun {mm q} h0 h2 =>
  ⟨h0,h2,hpos,Nat.le_refl _,.inr ⟨mm.next,[],.more w,rfl,by rw[AMem.next_alloc]; omega,by rw[AMem.aY,if_pos rfl,List.append_nil],.inr rfl,by rw[List.append_nil,cd h2,h0]⟩⟩
 obtain⟨h0,h2,h18,h19,h16⟩:=hpc.1;have h3:(es++es2).length=l+n0:=by rw[List.length_append,h0,hr.1]
 have h4:∀e ∈ es++es2,e.length=w:=fun e he=>(List.mem_append.1 he).elim (h2 e) (h7 e);have hfl:es.flatten.length=l*w:=by rw[cd h2,h0]
 have o1:∀b,(Pc.gen (jo a cap w l es)).ow b↔lA a=some b:=fun b=>⟨fun hb=>by rcases hb with hb|hb; cases hb.1; exact hb,fun hb=>.inr hb⟩
 have fresh:∀{mm:AMem} {c':Nat},m.next≤mm.next→Ext m0 mm→(∀b,lA a≠some b→b<m.next→mm.get b=m.get b)→∀{o:AObj},(jo (some ⟨mm.next,0,none⟩) c' w (l+n0) (es++es2)).P (mm.alloc o)→Hp m0 (mm.alloc o) (bM ps k (.gen (jo (some ⟨mm.next,0,none⟩) c' w (l+n0) (es++es2)))):=fun {mm c'} hn he hg {o} hP =>
  h.sW hp (fun b hb=>.inr (by rcases hb with hb|hb; cases hb.1; cases hb; exact hn)) (fun b hb=>.inr (by rcases hb with hb|hb; cases hb; rcases hb with hb|hb; cases hb; exact hn; exact hb.elim)) (by rw[AMem.next_alloc]; omega) (he.alloc _) ⟨hP,fun _ b hb=>by cases hb; exact Nat.le_trans hext.next hn⟩ fun b hb hlt=>by
   rw[AMem.aY,if_neg (by omega)]; exact hg b (fun e=>hb ((o1 b).2 e)) hlt
 rcases h16 with⟨rfl,rfl⟩|⟨b,jk,tg,rfl,h17,h1,h6,h8⟩
 ·obtain rfl:l=0:=by omega
  obtain rfl:es = []:=List.length_eq_zero_iff.1 h0
  by_cases h5:n0=0
  ·subst h5;obtain rfl:es2 = []:=List.length_eq_zero_iff.1 hr.1;refine⟨none,0,m,?_,?_⟩
   ·unfold cq;simp only[ht.und,hnew];rw[if_neg (by rw[hguard]; exact Bool.false_ne_true)]
    rfl
   ·refine h.sW hp (fun b hb=>.inl (.inr (by rcases hb with hb|hb; cases hb.1; exact hb))) (fun b hb=>.inl (.inr (by rcases hb with hb|hb; cases hb; exact hb))) (Nat.le_refl _) h.ext ⟨⟨rfl,fun e he=>(by cases he),hpos,Nat.le_refl _,.inl ⟨rfl,rfl⟩⟩,fun _ b hb=>(by cases hb)⟩ fun _ _ _=>rfl
  ·refine⟨some ⟨m.next,0,none⟩,n0,m.alloc (.cells es2.flatten (.more w)),?_,?_⟩
   ·unfold cq;simp only[ht.und,hnew];rw[if_neg (by rw[hguard]; exact Bool.false_ne_true)]
    simp only[ht.size];rw[if_neg (by simp),if_neg h5,Nat.zero_add]
   ·have:=hnew' (mm:=m) (q:=[]++es2) h3 h4;rw[Nat.zero_add] at this ⊢;exact(by simpa using fresh (mm:=m) (c':=n0) (Nat.le_refl _) hext (fun _ _ _=>rfl) (by simpa using this))
 ·have hlo:=hpc.2 rfl b rfl
  by_cases hcap:l+n0≤cap
  ·have hjk:n0*w≤jk.length:=by
    rw[List.length_append,hfl] at h8;have:=Nat.mul_le_mul_right w hcap;rw[Nat.add_mul] at this;omega
   have hsp:aT (es.flatten++jk) (l*w) es2.flatten=(es++es2).flatten++jk.drop (n0*w):=by
    have e1:=j5 es.flatten jk es2.flatten 0;rw[Nat.add_zero,hfl] at e1;rw[e1,List.flatten_append,List.append_assoc]
    congr 1
    refine List.ext_getElem? fun i=>?_;rw[bO,Nat.zero_add,Nat.sub_zero,List.getElem?_append,hlen2]
    by_cases hi:i<n0*w
    ·rw[if_pos ⟨Nat.zero_le _,hi,by omega⟩,if_pos hi]
    ·rw[if_neg (by omega),if_neg hi,List.getElem?_drop]
     congr 1; omega
   have hlenS:((es++es2).flatten++jk.drop (n0*w)).length=cap*w:=by
    rw[←hsp,bU,h8]
   by_cases hz:es2.flatten = []
   ·
    have h5:n0=0:=by
     rw[hz,List.length_nil] at hlen2;rcases Nat.mul_eq_zero.1 hlen2.symm with e|e
     ·exact e
     ·omega
    subst h5;obtain rfl:es2 = []:=List.length_eq_zero_iff.1 hr.1;refine⟨some ⟨b,0,none⟩,cap,m,?_,?_⟩
    ·unfold cq;simp only[ht.und,hnew];rw[if_neg (by rw[hguard]; exact Bool.false_ne_true)]
     simp only[h1];rw[if_pos hcap];simp[AMem.dn]
    ·rw[List.append_nil,Nat.add_zero];refine h.sW hp (fun b hb=>.inl hb) (fun b hb=>.inl hb) (Nat.le_refl _) h.ext hpc fun _ _ _=>rfl
   ·refine⟨some ⟨b,0,none⟩,cap,m.set b (.cells ((es++es2).flatten++jk.drop (n0*w)) tg),?_,?_⟩
    ·have hst:m.dn b (0+l*w) es2.flatten=some (m.set b (.cells ((es++es2).flatten++jk.drop (n0*w)) tg)):=by
      rw[Nat.zero_add,←hsp];have hfit':l*w+es2.flatten.length≤(es.flatten++jk).length:=by rw[hlen2,List.length_append,hfl]; omega
      cases h9:es2.flatten with
      | nil=>exact absurd h9 hz
      | cons v vs =>
       rw[h9] at hfit';rcases h6 with rfl|rfl<;>simp only[AMem.dn,h1]<;>rw[if_pos hfit']
     unfold cq;simp only[ht.und,hnew];rw[if_neg (by rw[hguard]; exact Bool.false_ne_true)]
     simp only[h1,ht.size];rw[if_pos hcap,hst]; rfl
    ·refine h.sW hp (fun b' hb=>.inl (by rcases hb with hb|hb; cases hb.1; exact .inr hb)) (fun b' hb=>.inl (by rcases hb with hb|hb; cases hb; exact .inr hb)) (by rw[AMem.next_set]; exact Nat.le_refl _) (hext.set hlo _) ⟨⟨h3,h4,hpos,hcap,.inr ⟨b,jk.drop (n0*w),tg,rfl,by rw[AMem.next_set]; exact h17,by rw[AMem.bB,if_pos rfl],h6,hlenS⟩⟩,fun _ b' hb=>by cases hb; exact hlo⟩ fun b' hb hlt=>?_
     rw[AMem.bB,if_neg (fun e=>hb ((o1 b').2 (by rw[e]; rfl)))]
  ·have htake:(es.flatten++jk).take (l*w)=es.flatten:=by rw[List.take_append_of_le_length (by omega),List.take_of_length_le (by omega)]
   rcases h6 with rfl|rfl
   ·refine⟨some ⟨m.next,0,none⟩,l+n0,m.alloc (.cells (es.flatten++es2.flatten) (.more w)),?_,?_⟩
    ·unfold cq;simp only[ht.und,hnew];rw[if_neg (by rw[hguard]; exact Bool.false_ne_true)]
     simp only[ht.size,h1];rw[if_neg hcap];have hld:m.dg b 0 (l*w)=some es.flatten:=by
      simp only[AMem.dg,h1,List.drop_zero,htake];rw[if_pos hfl]
     simp only[hld]
    ·have:=hnew' (mm:=m) h3 h4;rw[List.flatten_append] at this;exact fresh (Nat.le_refl _) hext (fun _ _ _=>rfl) this
   ·refine⟨some ⟨(m.kill b).next,0,none⟩,l+n0,(m.kill b).alloc (.cells (es.flatten++es2.flatten) (.more w)),?_,?_⟩
    ·unfold cq;simp only[ht.und,hnew];rw[if_neg (by rw[hguard]; exact Bool.false_ne_true)]
     simp only[ht.size,h1];rw[if_neg hcap];simp only[and_self,if_true,htake,hfl,AMem.next_kill]
    ·have hk:Ext m0 (m.kill b):=⟨by rw[AMem.next_kill]; exact hext.next,fun x hx=>by rw[AMem.dt,if_neg (by omega)]; exact hext.same x hx,by
      rw[AMem.wl_kill];have:=hext.wl; omega⟩
     have:=hnew' (mm:=m.kill b) h3 h4;rw[List.flatten_append] at this;exact fresh (by rw[AMem.next_kill]; exact Nat.le_refl _) hk (fun b' hb' hlt=>by rw[AMem.dt,if_neg (fun e=>hb' (by rw[e]; rfl))]) this
end
section
variable {E : Env} {n : Nat} {m0 : AMem} {fs : Fs} {ps : List Pc} {ops : Array Oper} {os : List Oper} {K : Tm → AMem → Prop} {dr : Bool}
end
section
variable {E : Env} {n : Nat} {m0 m : AMem} {fs : Fs} {ps : List Pc} {x y : Operand} {ty : TypeId} {v : Value}
end
section
variable {α γ : Type} [DecidableEq α]
end
section
variable {α γ : Type} [DecidableEq α] {E : Env} {m0 m : AMem} {fs : Fs} {ps : List Pc} {f : γ → List Value} {w : Nat} {kE : α → Value}
variable {x y z : Operand} {ty : TypeId}
omit [DecidableEq α] in
theorem wb {ars:Array Operand} {elem l cap:Nat} (hu:E.P.underlying ty=some (.slice elem)) (ha:fQ E fs ars.toList=some [.slice none l cap]):Od E m0 fs ps (.call ⟨.builtin .cap,ars,#[ty]⟩) (.int .i64 (cap:Int)) ps :=
 fun t m hf h=>⟨fun b hb'=>by
  simp only[aS,hf.fQ ha] at hb';have:dD (.slice none l cap)=none:=rfl;rw[this] at hb'; exact(Option.some_ne_none _ hb'.symm).elim,fun K hK=>by
  have:bj E.P .cap #[ty] [.slice none l cap] m=some (.int .i64 (cap:Int),m):=by
   have ht:(#[ty]:Array TypeId)[0]? = some ty:=rfl;simp only[bj,ht,Option.bind_some,hu]
  rw[Go.Ab.dO (hf.fQ ha) this]; exact hK m h⟩
theorem yc {elem:TypeId} {hx:Option Operand} {hv:Option Value} (ht:SlT E.P ty elem w) (hv':ev E fs x=some (.slice none 0 0)) (e2:rM E fs hx=some hv) (hh:hv=none∨∃k,hv=some (.int k 0)) :
  Od E m0 fs ps (.slice ty x none hx none) (.slice none 0 0) ps :=
 fun t m hf h=>⟨fun b hb'=>by
  simp only[aS,hf.ev hv',Option.bind_some] at hb';have e:dD (.slice none 0 0)=none:=rfl;rw[e] at hb';exact(Option.some_ne_none _ hb'.symm).elim,fun K hK=>by
  have hb:dc 0 0 none hv none=some (0,0,0):=by
   have:=lZ (n:=0) (cap:=0) (lo:=0) (hi:=0) (Nat.le_refl _) (Nat.le_refl _) (l:=none) (h:=hv) (.inl ⟨rfl,rfl⟩) (hh.imp (fun e=>⟨e,rfl⟩) fun e=>e);exact this
  have hs:du E.P ty (.slice none 0 0) none hv none m=some (.slice none 0 0):=by
   simp only[du,ht.und,ht.known,if_true,hb]
  rw[Go.Ab.qk (hf.ev hv') (hf.rM (x:=none) rfl) (hf.rM e2) rfl hs];exact hK m h⟩
theorem lL {l:List Value} (h:l.all aP=true):bh l=true:=by
 unfold bh;rw[List.all_eq_true] at h ⊢;intro v hv;have:=h v hv;cases v<;>first|rfl|cases this
theorem zv {c x y:Operand} {b:Bool} (hc:ev E fs c=some (.bool b)) (hx:ev E fs x=some (.bool true)) (hy:ev E fs y=some (.bool false)):Od E m0 fs ps (.pick c x y) (.bool b) ps:=by
 cases b with
 | true=>exact fK hc hx
 | false=>exact aC hc hy
theorem w9 {β:Type} {g:β→List Value} {z0:β} {elem ty2:TypeId} {kd:IntKind} {i:Int} {z:Value} {ars:Array Operand} (ht:SlT E.P ty elem w) (ht2:E.P.underlying ty2=some (.int kd)) (ha:fQ E fs ars.toList=some [.slice none 0 0,.int .i64 i]) (hi:decide (0<i)=true) (hl:lim i.toNat=true) (hz:bq E.P elem=some z) (hp:z.cells.toList.all aP=true) (hzf:z.cells.toList=g z0) :
  Ox E m0 fs ps (.call ⟨.builtin .append,ars,#[ty,ty2]⟩) (fun b=>.slice (some ⟨b,0,none⟩) i.toNat i.toNat) (fun b=>.arr b w i.toNat ((List.replicate i.toNat z0).map g) (.more w)::ps):=by
 obtain⟨n,rfl⟩:∃n:Nat,i=n:=⟨i.toNat,by have:=of_decide_eq_true hi; omega⟩
 have hn:0<n:=by have:=of_decide_eq_true hi; omega
 rw[Int.toNat_natCast] at hl ⊢;rw[←qx,←hzf];have hzs:z.cells.size=w:=by have:=ht.zero; rw[hz] at this; simp only[Option.any_some,Bool.and_eq_true,beq_iff_eq] at this; exact this.1
 refine .made (ob:=fun _=>.cells (List.replicate n z.cells.toList).flatten (.more w)) (p:=fun b=>.arr b w n (List.replicate n z.cells.toList) (.more w)) (fun t=>by simp[aS]) (fun t m hfr K=>?_) (fun _=>rfl) fun _ _ _ h1 h2 h3=>⟨h1,h2,h3,by simp,fun e he=>by rw[List.eq_of_mem_replicate he]; simpa using hzs,.inr rfl,ht.pos⟩
 have hln:n≤1073741824:=Nat.le_of_ble_eq_true hl;obtain⟨inf,hi1,hi2,hi3⟩:=ht.bytes;have hzz:dW E.P elem n=some (List.replicate n z.cells.toList).flatten:=by
  simp only[dW,hz,ht.size];rw[if_pos hzs,gT]
 have hall:(List.replicate n z.cells.toList).flatten.all aP=true:=by
  rw[List.all_eq_true];intro v hv;obtain⟨l,h1,h2⟩:=List.mem_flatten.1 hv;rw[List.eq_of_mem_replicate h1] at h2;exact List.all_eq_true.1 hp v h2
 have hnew:dX E.P elem (some ty2) (.int .i64 (n:Int)) m=some (n,(List.replicate n z.cells.toList).flatten):=by
  simp only[dX,Option.bind_some,ht2];rw[if_pos (by omega),Int.toNat_natCast,hzz,Option.bind_some,if_pos hall]
 have hfit:(E.P.info? elem).any (fun i=>dw i.bytes (0+n) && i.bytes != 0)=true:=by
  rw[hi1];have hmul:(2*(0+n)+2000)*inf.bytes≤(2*1073741824+2000)*1024:=Nat.mul_le_mul (by omega) hi3
  simp only[Option.any_some,dw,Bool.and_eq_true,decide_eq_true_eq,bne_iff_ne,ne_eq];exact⟨by omega,hi2⟩
 have hzero:(bq E.P elem).any (fun z=>z.cells.size == w && z.cells.toList.all aP)=true:=ht.zero;have hpos:=ht.pos;have hw0:(w == 0)=false:=by simp; omega
 have hlen:(List.replicate n z.cells.toList).flatten.length=n*w:=by rw[cd (w:=w) (fun e he=>by rw[List.eq_of_mem_replicate he]; simpa using hzs),List.length_replicate]
 have hone:bh (List.replicate n z.cells.toList).flatten=true:=lL hall;have hguard:(!(known E.P elem) || aE E.P elem == 0 || !bh (List.replicate n z.cells.toList).flatten || !(E.P.info? elem).any (fun i=>dw i.bytes (0+n) && i.bytes != 0) || (List.replicate n z.cells.toList).flatten.length != n*aE E.P elem || !(bq E.P elem).any (fun z=>z.cells.size == aE E.P elem && z.cells.toList.all aP))=false:=by
  rw[ht.size,ht.known,hfit,hzero,hone,hw0,hlen]; simp
 have this:bj E.P .append #[ty,ty2] [.slice none 0 0,.int .i64 (n:Int)] m=some (.slice (some ⟨m.next,0,none⟩) n n,m.alloc (.cells (List.replicate n z.cells.toList).flatten (.more w))):=by
  show cq E.P ty (some ty2) (.slice none 0 0) (.int .i64 (n:Int)) m=_
  unfold cq;simp only[ht.und,hnew];rw[if_neg (by rw[hguard]; exact Bool.false_ne_true)]
  simp only[ne_eq,not_true_eq_false,or_self,if_false,ht.size];rw[if_neg (by omega)]
 rw[Go.Ab.dO (hfr.fQ ha) this]
end
structure Rep (α:Type) where
 w:Nat
 G:Type
 V:α→G→List Value
 A:AMem→(Nat→Prop)→α→G→Prop
 N:α→G→(Nat→Prop)→List Pc
 mono:∀{m:AMem} {R R':Nat→Prop} {x:α} {g:G},A m R x g→(∀b,R b→R' b)→A m R' x g
 st:∀{m m':AMem} {R:Nat→Prop} {x:α} {g:G},A m R x g→m.next≤m'.next→(∀b,R b→b<m.next→m'.get b=m.get b)→A m' R x g
 len:∀x g,(V x g).length=w
 one:∀x g,(V x g).all gQ=true
 hN:∀{lo:Nat} {m:AMem} {R:Nat→Prop} {x:α} {g:G},A m R x g→(∀b,R b→b<m.next)→∀p ∈ N x g R,p.ok lo m∧(∀b,¬p.ow b)∧∀b,p.any b→R b
section
variable {α β : Type}
def Deep (r:Rep α) (m:AMem) (R:Nat→Prop) (L:List α) (es:List (List Value)):Prop :=
 es.length=L.length∧∀(i:Nat) (x:α),L[i]? = some x→∃g,es[i]? = some (r.V x g)∧r.A m R x g
theorem Deep.mono {r:Rep α} {m:AMem} {R R':Nat→Prop} {L:List α} {es:List (List Value)} (h:Deep r m R L es) (hR:∀b,R b→R' b):Deep r m R' L es :=
 ⟨h.1,fun i x hi=>by obtain⟨g,h1,h2⟩:=h.2 i x hi; exact⟨g,h1,r.mono h2 hR⟩⟩
theorem Deep.st {r:Rep α} {m m':AMem} {R:Nat→Prop} {L:List α} {es:List (List Value)} (h:Deep r m R L es) (hn:m.next≤m'.next) (hg:∀b,R b→b<m.next→m'.get b=m.get b):Deep r m' R L es :=
 ⟨h.1,fun i x hi=>by obtain⟨g,h1,h2⟩:=h.2 i x hi; exact⟨g,h1,r.st h2 hn hg⟩⟩
theorem Deep.nil {r:Rep α} {m:AMem} {R:Nat→Prop}:Deep r m R [] []:=⟨rfl,fun i x h=>by simp at h⟩
theorem Deep.cons {r:Rep α} {m:AMem} {R:Nat→Prop} {L:List α} {es:List (List Value)} {x:α} {g:r.G} (hx:r.A m R x g) (h:Deep r m R L es):Deep r m R (x::L) (r.V x g::es) :=
 ⟨by simp[h.1],fun i y hi=>by
  cases i with
  | zero=>cases hi; exact⟨g,rfl,hx⟩
  | succ i=>exact h.2 i y (by simpa using hi)⟩
theorem Deep.append {r:Rep α} {m:AMem} {R:Nat→Prop} {L L':List α} {es es':List (List Value)} (h:Deep r m R L es) (h':Deep r m R L' es'):Deep r m R (L++L') (es++es') :=
 ⟨by simp[h.1,h'.1],fun i y hi=>by
  by_cases hlt:i<L.length
  ·rw[List.getElem?_append_left hlt] at hi;rw[List.getElem?_append_left (by rw[h.1]; exact hlt)]
   exact h.2 i y hi
  ·rw[List.getElem?_append_right (by omega)] at hi
   rw[List.getElem?_append_right (by rw[h.1]; omega),h.1]
   exact h'.2 _ y hi⟩
theorem Deep.sub {r:Rep α} {m:AMem} {R:Nat→Prop} {L:List α} {es:List (List Value)} (h:Deep r m R L es) (lo k:Nat):Deep r m R ((L.drop lo).take k) ((es.drop lo).take k) :=
 ⟨by simp[h.1],fun i y hi=>by
  rw[List.getElem?_take] at hi ⊢
  split at hi
  ·rename_i hlt;rw[if_pos hlt,List.getElem?_drop];rw[List.getElem?_drop] at hi;exact h.2 _ y hi
  ·cases hi⟩
theorem Deep.set {r:Rep α} {m:AMem} {R:Nat→Prop} {L:List α} {es:List (List Value)} {x:α} {g:r.G} (h:Deep r m R L es) (j:Nat) (hx:r.A m R x g):Deep r m R (L.set j x) (es.set j (r.V x g)) :=
 ⟨by simp[h.1],fun i y hi=>by
  rw[List.getElem?_set] at hi ⊢
  split at hi
  ·rename_i e;subst e
   split at hi
   ·rename_i hlt;cases hi;rw[if_pos rfl,if_pos (by rw[h.1]; exact hlt)]
    exact⟨g,rfl,hx⟩
   ·cases hi
  ·rename_i e;rw[if_neg e];exact h.2 i y hi⟩
theorem Deep.dG {r:Rep α} {m:AMem} {R:Nat→Prop} {L:List α} {es:List (List Value)} (h:Deep r m R L es):W.dG es:=fun e he=>by
 obtain⟨i,hi,rfl⟩:=List.mem_iff_getElem.1 he;obtain⟨g,h1,_⟩:=h.2 i (L[i]'(by rw[←h.1]; exact hi)) (by simp)
 rw[List.getElem?_eq_getElem hi] at h1;rw[Option.some.inj h1]; exact r.one _ _
theorem Deep.width {r:Rep α} {m:AMem} {R:Nat→Prop} {L:List α} {es:List (List Value)} (h:Deep r m R L es):∀e ∈ es,e.length=r.w:=fun e he=>by
 obtain⟨i,hi,rfl⟩:=List.mem_iff_getElem.1 he;obtain⟨g,h1,_⟩:=h.2 i (L[i]'(by rw[←h.1]; exact hi)) (by simp)
 rw[List.getElem?_eq_getElem hi] at h1;rw[Option.some.inj h1]; exact r.len _ _
def an (r:Rep α) (R:Nat→Prop) (L:List α) (es:List (List Value)):GPc where
 ow _:=False
 rd b:=R b
 P m:=Deep r m R L es∧∀b,R b→b<m.next
 st _ _ h hn hg:=⟨h.1.st hn fun b hb hlt=>hg b (.inr hb) hlt,fun b hb=>Nat.lt_of_lt_of_le (h.2 b hb) hn⟩
 lt _ b h hb:=hb.elim (fun h=>h.elim) (h.2 b)
theorem dK {r:Rep α} {R:Nat→Prop} {L:List α} {es:List (List Value)} {b:Nat}:¬Pc.ow (.gen (an r R L es)) b:=fun h=>h.elim (fun h=>by cases h.1) fun h=>h
theorem jA {r:Rep α} {R:Nat→Prop} {L:List α} {es:List (List Value)} {b:Nat} (h:Pc.any (.gen (an r R L es)) b):R b:=h.elim (fun h=>by cases h) fun h=>h.elim (fun h=>h.elim) id
theorem k8 {a:Option Addr} {cap w n:Nat} {es:List (List Value)} {b:Nat}:¬Pc.ow (.rd a cap w n es) b:=fun h=>h.elim (fun h=>by cases h.1) fun h=>h.elim
theorem pS {a:Option Addr} {cap w n:Nat} {es:List (List Value)} {b:Nat} (h:Pc.any (.rd a cap w n es) b):lA a=some b:=h.elim id fun h=>h.elim
def rS (f:α→List Value) (w:Nat):Rep (List α) where
 w:=1
 G:=Option Addr × Nat
 V l g:=[.slice g.1 l.length g.2]
 A m R l g:=Rd m g.1 g.2 w l.length (l.map f)∧∀b,lA g.1=some b→R b
 N l g _:=[.rd g.1 g.2 w l.length (l.map f)]
 mono h hR:=⟨h.1,fun b hb=>hR b (h.2 b hb)⟩
 st h hn hg:=⟨h.1.gr hn fun b hb hlt=>hg b (h.2 b hb) hlt,h.2⟩
 len _ _:=rfl
 one _ _:=rfl
 hN h _ p hp:=by
  rw[List.mem_singleton.1 hp];exact⟨h.1,fun b=>k8,fun b hb=>h.2 b (pS hb)⟩
def rL (r:Rep α):Rep (List α) where
 w:=1
 G:=Option Addr × Nat × List (List Value)
 V l g:=[.slice g.1 l.length g.2.1]
 A m R l g:=Rd m g.1 g.2.1 r.w l.length g.2.2∧(∀b,lA g.1=some b→R b)∧Deep r m R l g.2.2
 N l g R:=[.rd g.1 g.2.1 r.w l.length g.2.2,.gen (an r R l g.2.2)]
 mono h hR:=⟨h.1,fun b hb=>hR b (h.2.1 b hb),h.2.2.mono hR⟩
 st h hn hg:=⟨h.1.gr hn fun b hb hlt=>hg b (h.2.1 b hb) hlt,h.2.1,h.2.2.st hn hg⟩
 len _ _:=rfl
 one _ _:=rfl
 hN h hlt p hp:=by
  rcases List.mem_cons.1 hp with rfl|hp
  ·exact⟨h.1,fun b=>k8,fun b hb=>h.2.1 b (pS hb)⟩
  ·rw[List.mem_singleton.1 hp];exact⟨⟨⟨h.2.2,hlt⟩,fun _ b hb=>hb.elim⟩,fun b=>dK,fun b hb=>jA hb⟩
def rP (r:Rep α) (s:Rep β):Rep (α × β) where
 w:=r.w+s.w
 G:=r.G × s.G
 V x g:=r.V x.1 g.1++s.V x.2 g.2
 A m R x g:=r.A m R x.1 g.1∧s.A m R x.2 g.2
 N x g R:=r.N x.1 g.1 R++s.N x.2 g.2 R
 mono h hR:=⟨r.mono h.1 hR,s.mono h.2 hR⟩
 st h hn hg:=⟨r.st h.1 hn hg,s.st h.2 hn hg⟩
 len x g:=by rw[List.length_append,r.len,s.len]
 one x g:=by rw[List.all_append,r.one,s.one]; rfl
 hN h hlt p hp:=by
  rcases List.mem_append.1 hp with hp|hp
  ·exact r.hN h.1 hlt p hp
  ·exact s.hN h.2 hlt p hp
end
section
variable {α β : Type} {E : Env} {n : Nat} {m0 m : AMem} {fs : Fs} {ps : List Pc} {r : Rep α} {r2 : Rep β} {x : Operand} {ty : TypeId}
theorem mz:∀(l:List Pc) (k:Nat),pk (l++ps) (l.length+k)=pk ps k
 | [],k=>by rw[List.nil_append,List.length_nil,Nat.zero_add]
 | p::l,k=>by rw[List.cons_append,List.length_cons,show l.length+1+k=(l.length+k)+1 by omega,dh,mz l k]
theorem Hp.tY {q:Nat} {p:Pc} (h:Hp m0 m ps) (hq:pk ps q=some p) (hpo:∀b,¬p.ow b):∀new:List Pc,(∀r ∈ new,r.ok m0.next m∧(∀b,¬r.ow b)∧∀b,r.any b→p.any b)→Hp m0 m (new++ps)
 | [],_=>h
 | r::l,hl=>(h.tY hq hpo l fun r' h'=>hl r' (List.mem_cons_of_mem _ h')).rW (k:=l.length+q) (by rw[mz]; exact hq) hpo (hl r (List.mem_cons_self ..)).1 (hl r (List.mem_cons_self ..)).2.1 (hl r (List.mem_cons_self ..)).2.2
theorem cF {ag:Bool} {sz b o w j c q off:Nat} {R:Nat→Prop} {L:List α} {es:List (List Value)} {z:α} {V:r.G→Value} {N:r.G→List Pc} (ht:TyI E.P ty ag sz) (hx:ev E fs x=some (ptr b off)) (ho:off=o+j*w+c) (hli:∀m,Hp m0 m ps→mY m b o w es) (hq:pk ps q=some (.gen (an r R L es))) (hl:L[j]? = some z) (hv:∀g,rj ag sz (r.V z g) c=some (V g)) (hs:sY ag sz c w=true) (hN:∀g,N g=r.N z g R++ps):Ox E m0 fs ps (.load ty x) V N:=by
 subst ho;refine uK hx (fun m hm=>(hli m hm).1) fun m hm=>?_;have hP:=(hm.get hq).1;obtain⟨g,h1,h2⟩:=hP.1.2 j z hl;have hs:=nz hs;refine⟨g,jP ht (hli m hm) h1 (hv g) hs.1 hs.2,?_⟩;rw[hN];exact hm.tY hq (fun b=>dK) _ fun p hp=>by
  obtain⟨a1,a2,a3⟩:=r.hN h2 hP.2 p hp;exact⟨a1,a2,fun b hb=>.inr (.inr (a3 b hb))⟩
theorem cE {k b o w l:Nat} {es:List (List Value)} (hp:pk ps k=some (.ro b o w l es)):∀m,Hp m0 m ps→mY m b o w es:=fun _ h=>(h.get hp).2
theorem Hp.eL {j q:Nat} {R:Nat→Prop} {L:List α} {es:List (List Value)} {z:α} (hm:Hp m0 m ps) (hq:pk ps q=some (.gen (an r R L es))) (hl:L[j]? = some z):∃g,es[j]? = some (r.V z g)∧Hp m0 m (r.N z g R++ps):=by
 have hP:=(hm.get hq).1;obtain⟨g,h1,h2⟩:=hP.1.2 j z hl;exact⟨g,h1,hm.tY hq (fun b=>dK) _ fun p hp=>by
  obtain⟨a1,a2,a3⟩:=r.hN h2 hP.2 p hp;exact⟨a1,a2,fun b hb=>.inr (.inr (a3 b hb))⟩⟩
def Lf (m0:AMem) (ps:List Pc) (r:Rep α) (z:α) (g:r.G) (S:Nat→Prop):Prop:=∀m,Hp m0 m ps→r.A m S z g∧∀b,S b→∃q ∈ ps,(∀b,¬q.ow b)∧q.any b
theorem Lf.s {f:α→List Value} {a:Option Addr} {k cap w:Nat} {l:List α} (hp:pk ps k=some (.rd a cap w l.length (l.map f))):Lf m0 ps (rS f w) l (a,cap) (fun b=>lA a=some b):=fun _ hm =>
 ⟨⟨hm.get hp,fun _ h=>h⟩,fun _ hb=>⟨_,fc hp,fun _=>k8,.inl hb⟩⟩
theorem Lf.s0 {f:α→List Value} {w:Nat}:Lf m0 ps (rS f w) [] (none,0) (fun _=>False):=fun _ _=>⟨⟨Rd.nil _ _,fun _ h=>(by cases h)⟩,fun _ h=>h.elim⟩
theorem Lf.l {a:Option Addr} {k cap w q:Nat} {R:Nat→Prop} {l:List α} {es:List (List Value)} (hp:pk ps k=some (.rd a cap w l.length es)) (hq:pk ps q=some (.gen (an r R l es))) (hw:r.w=w):Lf m0 ps (rL r) l (a,cap,es) (fun b=>lA a=some b∨R b):=fun _ hm=>by
 subst hw;exact⟨⟨hm.get hp,fun _ h=>.inl h,(hm.get hq).1.1.mono fun _ h=>.inr h⟩,fun _ hb=>hb.elim (fun hb=>⟨_,fc hp,fun _=>k8,.inl hb⟩) fun hb=>⟨_,fc hq,fun _=>dK,.inr (.inr hb)⟩⟩
theorem Lf.l0:Lf m0 ps (rL r) [] (none,0,[]) (fun _=>False):=fun _ _=>⟨⟨Rd.nil _ _,fun _ h=>(by cases h),Deep.nil⟩,fun _ h=>h.elim⟩
theorem Lf.p {z:α} {y:β} {g:r.G} {g':r2.G} {S S':Nat→Prop} (h:Lf m0 ps r z g S) (h':Lf m0 ps r2 y g' S'):Lf m0 ps (rP r r2) (z,y) (g,g') (fun b=>S b∨S' b):=fun m hm =>
 ⟨⟨r.mono (h m hm).1 fun _ h=>.inl h,r2.mono (h' m hm).1 fun _ h=>.inr h⟩,fun b hb=>hb.elim ((h m hm).2 b) ((h' m hm).2 b)⟩
def bX (m0:AMem) (ps:List Pc) (r:Rep α) (L:List α) (es:List (List Value)) (S:Nat→Prop):Prop:=∀m,Hp m0 m ps→Deep r m S L es∧∀b,S b→∃q ∈ ps,(∀b,¬q.ow b)∧q.any b
theorem bX.nil:bX m0 ps r [] [] (fun _=>False):=fun _ _=>⟨.nil,fun _ h=>h.elim⟩
theorem bX.cons {z:α} {g:r.G} {S S':Nat→Prop} {L:List α} {es:List (List Value)} (h:Lf m0 ps r z g S) (h':bX m0 ps r L es S'):bX m0 ps r (z::L) (r.V z g::es) (fun b=>S b∨S' b):=fun m hm =>
 ⟨.cons (r.mono (h m hm).1 fun _ h=>.inl h) ((h' m hm).1.mono fun _ h=>.inr h),fun b hb=>hb.elim ((h m hm).2 b) ((h' m hm).2 b)⟩
theorem Hp.uH {S:Nat→Prop} {p:Pc} (h:Hp m0 m ps) (hp:p.ok m0.next m) (ho:∀b,¬p.ow b) (ha:∀b,p.any b→∃q ∈ ps,(∀b,¬q.ow b)∧q.any b):Hp m0 m (p::ps) :=
 ⟨h.ext,fun q hq=>by
  rcases List.mem_cons.1 hq with rfl|hq
  ·exact hp
  ·exact h.ok q hq,List.pairwise_cons.2 ⟨fun q hq=>⟨fun b h1 _=>ho b h1,fun b h1 h2=>by
   obtain⟨q',hq',h3,h4⟩:=ha b h2;obtain⟨i,hi⟩:=fO hq;obtain⟨j,hj⟩:=fO hq'
   by_cases e:i=j
   ·subst e;rw[hi] at hj;exact h3 b (by rw[←Option.some.inj hj]; exact h1)
   ·exact(dU h.apart hi hj e).1 b h1 h4⟩,h.apart⟩⟩
theorem aa.dp {L:List α} {es:List (List Value)} {S:Nat→Prop} (h:bX m0 ps r L es S):aa m0 ps (.gen (an r S L es)::ps):=fun m hm=>by
 obtain⟨h1,h2⟩:=h m hm;refine hm.uH (S:=S) ⟨⟨h1,fun b hb=>?_⟩,fun _ b hb=>hb.elim⟩ (fun _=>dK) fun b hb=>h2 b (jA hb);obtain⟨q,hq,_,h4⟩:=h2 b hb;exact Pc.ea (hm.ok q hq) h4
theorem aa.y7:aa m0 ps (.gen (an r (fun _=>False) [] [])::ps):=aa.dp .nil
theorem Hp.ur {q:Nat} {R S:Nat→Prop} {L L':List α} {es es':List (List Value)} (h:Hp m0 m ps) (hq:pk ps q=some (.gen (an r R L es))) (h1:Deep r m (fun b=>R b∨S b) L' es') (h2:∀b,S b→∃q ∈ ps,(∀b,¬q.ow b)∧q.any b):Hp m0 m (bM ps q (.gen (an r (fun b=>R b∨S b) L' es'))):=by
 have hP:=h.get hq;refine⟨h.ext,fun p hp=>?_,fq hq (fun p hp ha=>⟨fun b h3 _=>(dK h3).elim,fun b h3 h4=>?_⟩) h.apart⟩
 ·rcases mq hp with hp|rfl
  ·exact h.ok p hp
  ·refine⟨⟨h1,fun b hb=>hb.elim (hP.1.2 b) fun hb=>?_⟩,fun _ b hb=>hb.elim⟩;obtain⟨q',hq',_,h5⟩:=h2 b hb;exact Pc.ea (h.ok q' hq') h5
 ·rcases jA h4 with h4|h4
  ·exact ha.2 b h3 (.inr (.inr h4))
  ·obtain⟨q',hq',h5,h6⟩:=h2 b h4;obtain⟨i,hi⟩:=fO hp;obtain⟨j,hj⟩:=fO hq'
   by_cases e:i=j
   ·subst e;rw[hi] at hj;exact h5 b (by rw[←Option.some.inj hj]; exact h3)
   ·exact(dU h.apart hi hj e).1 b h3 h6
theorem aa.fy {q j:Nat} {R S:Nat→Prop} {L:List α} {es:List (List Value)} {z:α} {g:r.G} (hq:pk ps q=some (.gen (an r R L es))) (h:Lf m0 ps r z g S):aa m0 ps (bM ps q (.gen (an r (fun b=>R b∨S b) (L.set j z) (es.set j (r.V z g))))):=fun m hm =>
 hm.ur hq (((hm.get hq).1.1.mono fun _ h=>.inl h).set j (r.mono (h m hm).1 fun _ h=>.inr h)) (h m hm).2
theorem aa.wi {q q2:Nat} {R S:Nat→Prop} {L L':List α} {es es':List (List Value)} (hq:pk ps q=some (.gen (an r R L es))) (hq2:pk ps q2=some (.gen (an r S L' es'))):aa m0 ps (bM ps q (.gen (an r (fun b=>R b∨S b) (L++L') (es++es')))):=fun m hm =>
 hm.ur hq (((hm.get hq).1.1.mono fun _ h=>.inl h).append ((hm.get hq2).1.1.mono fun _ h=>.inr h)) fun _ hb=>⟨_,fc hq2,fun _=>dK,.inr (.inr hb)⟩
theorem Pc.sB {lo w l:Nat} {a:Option Addr} {es:List (List Value)} (h:Pc.ok lo m (.sl a w l es)):l=es.length:=by
 rcases h with⟨h0,h1,_⟩|⟨b,tg,_,h1⟩
 ·rw[h0,h1]; rfl
 ·exact h1.2.2.2.1.symm
theorem qd {elem ty2:TypeId} {w k k2 q q2 c0 l l1:Nat} {a a0:Option Addr} {R S:Nat→Prop} {L L':List α} {es es':List (List Value)} {ars:Array Operand} {p0:Pc} (ht:SlT E.P ty elem w) (h3:∃e0,E.P.underlying ty2=some (.slice e0)) (ha:fQ E fs ars.toList=some [.slice a l l,.slice a0 l1 c0]) (hp:pk ps k=some (.sl a w l es)) (hq:pk ps q=some (.gen (an r R L es))) (h1:pk ps k2=some p0) (hr:IsRd p0 a0 c0 w l1 es') (h0:pk ps q2=some (.gen (an r S L' es'))) (hw:r.w=w) (hl:lim (L++L').length=true) :
  Ox E m0 fs ps (.call ⟨.builtin .append,ars,#[ty,ty2]⟩) (fun y:Option Addr × (Nat→Prop)=>.slice y.1 (L++L').length (L++L').length) (fun y=>bM (bM ps q (.gen (an r y.2 (L++L') (es++es')))) k (.sl y.1 w (L++L').length (es++es'))):=fun t m hf hm=>⟨fun b hb=>(by simp[aS] at hb),fun K hK=>by
 have e2:l=L.length:=by rw[Pc.sB (hm.get hp),(hm.get hq).1.1.1]
 have e0:l1=L'.length:=by rw[←(hm.rd h1 hr).1,(hm.get h0).1.1.1]
 have e1:l+l1=(L++L').length:=by rw[e2,e0,List.length_append]
 have h4:=aa.wi (m0:=m0) hq h0 m hm;have hkq:k≠q:=fun e=>by rw[e,hq] at hp; cases hp
 have h5:pk (bM ps q (.gen (an r (fun b=>R b∨S b) (L++L') (es++es')))) k=some (.sl a w l es):=by
  have:∀(l:List Pc) (q k:Nat) (x:Pc),k≠q→pk (bM l q x) k=pk l k:=by
   intro l
   induction l with
   | nil=>intro q k x _; rfl
   | cons p l ih =>
    intro q k x hne;cases q with
    | zero =>
     cases k with
     | zero=>exact absurd rfl hne
     | succ k=>rfl
    | succ q =>
     cases k with
     | zero=>rfl
     | succ k=>rw[cQ,dh,dh]; exact ih q k x fun e=>hne (by rw[e])
  rw[this ps q k _ hkq]; exact hp
 obtain⟨a',m',h6,h2⟩:=lP (n:=l) ht h3 h4 h5 (hm.rd h1 hr) (fun e he=>by rw[←hw]; exact(hm.get h0).1.1.width e he) (hm.get h0).1.1.dG (by rw[e1]; exact hl)
 have:bj E.P .append #[ty,ty2] [.slice a l l,.slice a0 l1 c0] m=some (.slice a' (l+l1) (l+l1),m'):=h6;rw[Go.Ab.dO (hf.fQ ha) this];rw[e1] at h2 ⊢;exact hK (a',_) m' h2⟩
theorem Hp.dp {q:Nat} {R:Nat→Prop} {L:List α} {es:List (List Value)} (h:Hp m0 m ps) (hq:pk ps q=some (.gen (an r R L es))):(an r R L es).P m:=(h.get hq).1
theorem ng:(an r (fun _=>False) [] []).P m:=⟨.nil,fun _ h=>h.elim⟩
theorem Hp.iQ {R:Nat→Prop} {L:List α} {es:List (List Value)} (h:Hp m0 m ps) (ho:∀p ∈ ps,∀b,¬p.ow b) (hd:(an r R L es).P m):Hp m0 m (.gen (an r R L es)::ps) :=
 ⟨h.ext,fun p hp=>by
  rcases List.mem_cons.1 hp with rfl|hp
  ·exact⟨hd,fun _ b hb=>hb.elim⟩
  ·exact h.ok p hp,List.pairwise_cons.2 ⟨fun q hq=>⟨fun b h1 _=>(dK h1).elim,fun b h1 _=>(ho q hq b h1).elim⟩,h.apart⟩⟩
theorem Hp.ct {a:Option Addr} {cap w l:Nat} {es:List (List Value)} (h:Hp m0 m ps) (ho:∀p ∈ ps,∀b,¬p.ow b) (hr:Rd m a cap w l es):Hp m0 m (.rd a cap w l es::ps) :=
 ⟨h.ext,fun p hp=>by
  rcases List.mem_cons.1 hp with rfl|hp
  ·exact hr
  ·exact h.ok p hp,List.pairwise_cons.2 ⟨fun q hq=>⟨fun b h1 _=>(k8 h1).elim,fun b h1 _=>(ho q hq b h1).elim⟩,h.apart⟩⟩
theorem Hp.wC {l0:List Pc} {H R:Nat→Prop} {L:List α} {es:List (List Value)} (h:Hp m0 m (l0++[.gen (eV H)])) (ho:∀p ∈ l0,∀b,¬p.ow b) (hd:(an r R L es).P m) (ha:∀b,R b→¬H b):Hp m0 m (.gen (an r R L es)::(l0++[.gen (eV H)])) :=
 ⟨h.ext,fun p hp=>by
  rcases List.mem_cons.1 hp with rfl|hp
  ·exact⟨hd,fun _ b hb=>hb.elim⟩
  ·exact h.ok p hp,List.pairwise_cons.2 ⟨fun q hq=>⟨fun b h1 _=>(dK h1).elim,fun b h1 h2=>by
   rcases List.mem_append.1 hq with hq|hq
   ·exact(ho q hq b h1).elim
   ·rw[List.mem_singleton.1 hq] at h1;rcases h1 with h1|h1
    ·cases h1.1
    ·exact ha b (jA h2) h1⟩,h.apart⟩⟩
theorem Hp.th {l0:List Pc} {H:Nat→Prop} {a:Option Addr} {cap w l:Nat} {es:List (List Value)} (h:Hp m0 m (l0++[.gen (eV H)])) (ho:∀p ∈ l0,∀b,¬p.ow b) (hr:Rd m a cap w l es) (ha:∀b,lA a=some b→¬H b):Hp m0 m (.rd a cap w l es::(l0++[.gen (eV H)])) :=
 ⟨h.ext,fun p hp=>by
  rcases List.mem_cons.1 hp with rfl|hp
  ·exact hr
  ·exact h.ok p hp,List.pairwise_cons.2 ⟨fun q hq=>⟨fun b h1 _=>(k8 h1).elim,fun b h1 h2=>by
   rcases List.mem_append.1 hq with hq|hq
   ·exact(ho q hq b h1).elim
   ·rw[List.mem_singleton.1 hq] at h1;rcases h1 with h1|h1
    ·cases h1.1
    ·exact ha b (pS h2) h1⟩,h.apart⟩⟩
theorem dy:∀p ∈ ([]:List Pc),∀b,¬p.ow b:=fun _ h=>by cases h
theorem dQ {l:List Pc} {a:Option Addr} {cap w k:Nat} {es:List (List Value)} (h:∀p ∈ l,∀b,¬p.ow b):∀p ∈ (Pc.rd a cap w k es::l),∀b,¬p.ow b:=fun p hp=>by
 rcases List.mem_cons.1 hp with rfl|hp
 ·exact fun _=>k8
 ·exact h p hp
theorem zi {l:List Pc} {R:Nat→Prop} {L:List α} {es:List (List Value)} (h:∀p ∈ l,∀b,¬p.ow b):∀p ∈ (Pc.gen (an r R L es)::l),∀b,¬p.ow b:=fun p hp=>by
 rcases List.mem_cons.1 hp with rfl|hp
 ·exact fun _=>dK
 ·exact h p hp
theorem Hp.eE {q:Nat} {R:Nat→Prop} {L:List α} {es:List (List Value)} (h:Hp m0 m ps) (hq:pk ps q=some (.gen (an r R L es))):∀b,R b→¬rz ps b:=fun b hb ⟨p,hp,h1⟩=>by
 obtain⟨i,hi⟩:=fO hp
 by_cases e:i=q
 ·rw[e,hq] at hi;rw[←Option.some.inj hi] at h1;exact dK h1
 ·exact(dU h.apart hi hq e).1 b h1 (.inr (.inr hb))
end
section
variable {α : Type} {E : Env} {n : Nat} {m0 : AMem} {fs : Fs} {ps : List Pc} {ops : Array Oper} {os : List Oper} {dr : Bool} {K : Tm → AMem → Prop} {r : Rep α}
theorem Wo.eL {j q:Nat} {R:Nat→Prop} {L:List α} {es:List (List Value)} {z:α} {N:r.G→List Pc} (hq:pk ps q=some (.gen (an r R L es))) (hl:L[j]? = some z) (hN:∀g,N g=r.N z g R++ps) (k:∀g,es[j]? = some (r.V z g)→Wo dr E n ops K os m0 fs (N g)):Wo dr E n ops K os m0 fs ps:=by
 cases dr with
 | false=>intro t m hf hm; obtain⟨g,h1,h2⟩:=hm.eL hq hl; exact k g h1 t m hf (by rw[hN]; exact h2)
 | true=>intro t m w hf hm hw; obtain⟨g,h1,h2⟩:=hm.eL hq hl; exact k g h1 t m w hf (by rw[hN]; exact h2) hw
end
section
variable {α : Type} {E : Env} {n : Nat} {m0 : AMem} {fs : Fs} {ps : List Pc} {ops : Array Oper} {os : List Oper} {dr : Bool} {K : Tm → AMem → Prop} {r : Rep α} {prs : List (Nat × Nat)} {ss : List Nk}
theorem Wo.dp {L:List α} {es:List (List Value)} {S:Nat→Prop} (h:bX m0 ps r L es S) (k:∀R,Wo dr E n ops K os m0 fs (.gen (an r R L es)::ps)):Wo dr E n ops K os m0 fs ps:=Wo.aG (aa.dp h) (k _)
theorem Wo.fy {q j:Nat} {R S:Nat→Prop} {L:List α} {es:List (List Value)} {z:α} {g:r.G} (hq:pk ps q=some (.gen (an r R L es))) (h:Lf m0 ps r z g S) (k:∀R',Wo dr E n ops K os m0 fs (bM ps q (.gen (an r R' (L.set j z) (es.set j (r.V z g)))))):Wo dr E n ops K os m0 fs ps:=Wo.aG (aa.fy hq h) (k _)
theorem jS {m:AMem} {q:Nat} {R:Nat→Prop} {L:List α} {es:List (List Value)} (hm:Hp m0 m ps) (hq:pk ps q=some (.gen (an r R L es))):es.length=L.length:=(hm.get hq).1.1.1
theorem ug {lo k w l:Nat} {m:AMem} {p:Pc} {a:Option Addr} {es:List (List Value)} (hm:Hp m0 m ps) (hp:pk ps k=some p) (h:p = .sl a w l es∨(∃c,p = .rd a c w l es)∨∃b tg,p = .arr b w l es tg):l=es.length:=by
 have h0:=hm.get hp;rcases h with rfl|⟨c,rfl⟩|⟨b,tg,rfl⟩
 ·exact Pc.sB h0
 ·exact h0.1.symm
 ·exact h0.2.2.2.1.symm
theorem Wo.eu {k q w l:Nat} {a:Option Addr} {p:Pc} {R:Nat→Prop} {L:List α} {es:List (List Value)} (hp:pk ps k=some p) (hp':p = .sl a w l es∨(∃c,p = .rd a c w l es)∨∃b tg,p = .arr b w l es tg) (hq:pk ps q=some (.gen (an r R L es))) (h:l=L.length→Wo dr E n ops K os m0 fs ps):Wo dr E n ops K os m0 fs ps:=by
 have key:∀m,Hp m0 m ps→l=L.length:=fun m hm=>(ug (lo:=0) hm hp hp').trans (jS hm hq);cases dr with
 | false=>exact fun t m hf hm=>h (key m hm) t m hf hm
 | true=>exact fun t m w hf hm hw=>h (key m hm) t m w hf hm hw
theorem Wn.eu {k q w l:Nat} {a:Option Addr} {p:Pc} {R:Nat→Prop} {L:List α} {es:List (List Value)} (hp:pk ps k=some p) (hp':p = .sl a w l es∨(∃c,p = .rd a c w l es)∨∃b tg,p = .arr b w l es tg) (hq:pk ps q=some (.gen (an r R L es))) (h:l=L.length→Wn E n ops prs K os ss m0 fs ps):Wn E n ops prs K os ss m0 fs ps :=
 fun t m ns hf hm hn=>h ((ug (lo:=0) hm hp hp').trans (jS hm hq)) t m ns hf hm hn
end
section
variable {m0 m : AMem} {ps qs : List Pc}
end
structure Orp {α:Type} (r:Rep α) where
 G:Type
 V:α→G→List Value
 N:α→G→List Pc
 len:∀x g,(V x g).length=r.w
 one:∀x g,(V x g).all gQ=true
 own:∀x g,∀p ∈ N x g,p.bound=true∧∀b,p.any b→p.ow b
 frz:∀{m:AMem} {x:α} {g:G} {S:Nat→Prop},(∀p ∈ N x g,p.ok 0 m)→(∀p ∈ N x g,∀b,p.any b→S b)→∃g',V x g=r.V x g'∧r.A m S x g'
section
variable {α β : Type} {r : Rep α} {r2 : Rep β}
end
section
variable {α : Type} {r : Rep α} {o : Orp r} {E : Env} {n : Nat} {m0 m : AMem} {fs : Fs} {ps : List Pc}
end
section
variable {α : Type} {E : Env} {n : Nat} {m0 m : AMem} {fs : Fs} {ps : List Pc} {r : Rep α} {x : Operand} {ty elem : TypeId}
theorem oI:∀{l:List Pc} {q k:Nat} {x:Pc},k≠q→pk (bM l q x) k=pk l k:=by
 intro l
 induction l with
 | nil=>intro q k x _; rfl
 | cons p l ih =>
  intro q k x hne;cases q with
  | zero =>
   cases k with
   | zero=>exact absurd rfl hne
   | succ k=>rfl
  | succ q =>
   cases k with
   | zero=>rfl
   | succ k=>rw[cQ,dh,dh]; exact ih fun e=>hne (by rw[e])
theorem bX.rep {z:α} {g:r.G} {S:Nat→Prop} (h:Lf m0 ps r z g S) (k:Nat):bX m0 ps r (List.replicate k z) ((List.replicate k (r.V z g)).map fun e=>e) S:=fun m hm=>by
 refine⟨?_,(h m hm).2⟩;rw[List.map_id'];refine⟨by simp,fun i y hi=>?_⟩
 obtain⟨hi1,hi2⟩:=List.getElem?_eq_some_iff.1 hi;rw[List.length_replicate] at hi1;rw[List.getElem_replicate] at hi2;subst hi2;exact⟨g,by rw[List.getElem?_replicate,if_pos hi1],(h m hm).1⟩
theorem xP {k q cap w l:Nat} {a:Option Addr} {R:Nat→Prop} {L:List α} {es:List (List Value)} {hi:Int} {hx:Option Operand} {kd:IntKind} (ht:SlT E.P ty elem w) (hv:ev E fs x=some (.slice a l cap)) (e2:rM E fs hx=some (some (.int kd hi))) (hp:pk ps k=some (.gen (jo a cap w l es))) (hq:pk ps q=some (.gen (an r R L es))) (hb:okB 0 hi l=true) (h0:0<l) :
  Od E m0 fs ps (.slice ty x none hx none) (.slice a (L.take hi.toNat).length cap) (bM (bM ps q (.gen (an r R (L.take hi.toNat) (es.take hi.toNat)))) k (.gen (jo a cap w (L.take hi.toNat).length (es.take hi.toNat)))):=fun t m hf hm=>by
 have hkq:k≠q:=fun e=>by
  have h1:=(hm.get hp).1;rw[e,hq] at hp;have:=congrArg (fun p:Option Pc=>match p with|some (.gen g)=>g.ow|_=>fun _=>False) hp
  simp only[an,jo] at this;obtain⟨_,_,_,h4,h5⟩:=h1;rcases h5 with⟨_,h⟩|⟨b,_,_,ha,_⟩
  ·omega
  ·have:=congrFun this b;rw[ha] at this;exact this.mpr rfl
 have hlen:es.length=L.length:=jS hm hq;have h1:=aa.dp (m0:=m0) (ps:=ps) (r:=r) (L:=L.take hi.toNat) (es:=es.take hi.toNat) (S:=R) (fun m hm=>⟨by have:=(hm.get hq).1.1.sub 0 hi.toNat; simpa using this,fun b hb=>⟨_,fc hq,fun _=>dK,.inr (.inr hb)⟩⟩)
 have h2:=yn (α:=List Value) (f:=fun e=>e) (xs:=es) (ys:=es.take hi.toNat) (m0:=m0) (ps:=ps) ht hv e2 (by rw[List.map_id']; exact hp) hb h0 rfl t m hf hm
 refine⟨h2.1,fun K hK=>h2.2 K fun m' hm'=>?_⟩;have e3:(L.take hi.toNat).length=(es.take hi.toNat).length:=by rw[List.length_take,List.length_take,hlen]
 rw[e3] at hK;refine hK m' ?_;rw[List.map_id'] at hm';have hq':pk (bM ps k (.gen (jo a cap w (es.take hi.toNat).length (es.take hi.toNat)))) q=some (.gen (an r R L es)):=by rw[oI (Ne.symm hkq)]; exact hq
 have h3:=hm'.sW (m':=m') (p':=.gen (an r R (L.take hi.toNat) (es.take hi.toNat))) hq' (fun b hb=>(dK hb).elim) (fun b hb=>.inl (.inr (.inr (jA hb)))) (Nat.le_refl _) hm'.ext ⟨⟨by have:=(hm'.get hq').1.1.sub 0 hi.toNat; simpa using this,(hm'.get hq').1.2⟩,fun _ b hb=>hb.elim⟩ fun _ _ _=>rfl
 have:∀(l:List Pc) (i j:Nat) (x y:Pc),i≠j→bM (bM l i x) j y=bM (bM l j y) i x:=by
  intro l
  induction l with
  | nil=>intro i j x y _; rfl
  | cons p l ih =>
   intro i j x y hne;cases i with
   | zero =>
    cases j with
    | zero=>exact absurd rfl hne
    | succ j=>rfl
   | succ i =>
    cases j with
    | zero=>rfl
    | succ j=>rw[cQ,cQ,cQ,cQ,ih i j x y fun e=>hne (by rw[e])]
 rw[this _ q k _ _ (Ne.symm hkq)];exact h3
theorem xa {ty2:TypeId} {w k q q2 cap l c0 l1:Nat} {a a0:Option Addr} {R S:Nat→Prop} {L L':List α} {es es':List (List Value)} {ars:Array Operand} (ht:SlT E.P ty elem w) (h2:∃e0,E.P.underlying ty2=some (.slice e0)) (ha:fQ E fs ars.toList=some [.slice a l cap,.slice a0 l1 c0]) (hp:pk ps k=some (.gen (jo a cap w l es))) (hq:pk ps q=some (.gen (an r R L es))) (hkq:Nat.beq k q=false) (hr:∀m,Hp m0 m ps→Rd m a0 c0 w l1 es') (h0:pk ps q2=some (.gen (an r S L' es'))) (hw:r.w=w) (hl:lim (L++L').length=true) :
  Ox E m0 fs ps (.call ⟨.builtin .append,ars,#[ty,ty2]⟩) (fun y:Option Addr × Nat × (Nat→Prop)=>.slice y.1 (L++L').length y.2.1) (fun y=>bM (bM ps q (.gen (an r y.2.2 (L++L') (es++es')))) k (.gen (jo y.1 y.2.1 w (L++L').length (es++es')))):=fun t m hf hm=>⟨fun b hb=>(by simp[aS] at hb),fun K hK=>by
 have e2:l=L.length:=by rw[←(hm.get hp).1.1,jS hm hq]
 have e0:l1=L'.length:=by rw[←(hr m hm).1,jS hm h0]
 have e1:l+l1=(L++L').length:=by rw[e2,e0,List.length_append]
 have h3:=aa.wi (m0:=m0) hq h0 m hm;have h4:pk (bM ps q (.gen (an r (fun b=>R b∨S b) (L++L') (es++es')))) k=some (.gen (jo a cap w l es)):=by rw[oI (Nat.ne_of_beq_eq_false hkq)]; exact hp
 obtain⟨a',cap',m',h5,h1⟩:=pT ht h2 h3 h4 (hr m hm) (fun e he=>by rw[←hw]; exact(hm.get h0).1.1.width e he) (hm.get h0).1.1.dG (by rw[e1]; exact hl)
 have:bj E.P .append #[ty,ty2] [.slice a l cap,.slice a0 l1 c0] m=some (.slice a' (l+l1) cap',m'):=h5;rw[Go.Ab.dO (hf.fQ ha) this];rw[e1] at h1 ⊢;exact hK (a',cap',_) m' h1⟩
end
end Go.Ab.W
end

section
namespace Go.Ab
open Go
open Go.ChangeMaps (setBlock)
section
variable {E : Env} {n : Nat} {fn : FuncId} {ro : Option Nat}
def eO (E:Env) (n:Nat) (fn:FuncId) (ro:Option Nat) (c:Code) (Q:AExit→Tm→AMem→Prop) (t:Tm) (m:AMem):Prop :=
 ∀(j:aL) (w:World) (a:Act) (F:Fence) (N:Nat),MR E j m w→TR n j t a.tmps→gw j ro F→Marks N w a.defers→N≤w.heap.size →
  c.wpIn F 0 E.P (fun e' a' w'=>∃e t' m',Q e t' m'∧gU E j m w N n e t' m' e' a' w') a w
variable {Q Q' : AExit → Tm → AMem → Prop} {t : Tm} {m : AMem} {c x y : Code}
theorem eO.of (hE:EnvOk E) (h:bL E n fn ro c Q t m):eO E n fn ro c Q t m:=fun j w a F N hm ht hro hd hN=>by
 obtain⟨e,t',m',⟨k,hk⟩,q⟩:=h;obtain⟨e0,t0,m0,hr,H⟩:=jF hE k _ _ hk;cases hr;exact wpIn_mono (H j w a F N hm ht hro hd hN) fun e' a' w' hq=>⟨e,t',m',q,hq⟩
theorem eO.yy (h:eO E n fn ro x (iY (eO E n fn ro y Q) Q) t m):eO E n fn ro (.seq x y) Q t m:=fun j w a F N hm ht hro hd hN=>by
 refine wpIn_seq (wpIn_mono (h j w a F N hm ht hro hd hN) ?_);rintro e' a' w' ⟨e,t',m',q,hc⟩;obtain⟨rfl,j',s,ht',hd'⟩:=hc;cases e with
 | normal=>exact wpIn_mono (q j' w' a' F N s.mr ht' (hro.mono s.le) hd' (Nat.le_trans hN s.size)) fun _ _ _ ⟨e2,t2,m2,q2,c2⟩=>⟨e2,t2,m2,q2,c2.from hm s⟩
 | exit id=>exact⟨.exit id,t',m',q,rfl,j',s,ht',hd'⟩
 | ret=>exact⟨.ret,t',m',q,rfl,j',s,ht',hd'⟩
theorem eO.seq (hE:EnvOk E) (h:bL E n fn ro x (iY (eO E n fn ro y Q) Q) t m):eO E n fn ro (.seq x y) Q t m:=.yy (.of hE h)
theorem tx {j:aL} {m:AMem} {w:World} (h:MR E j m w) {r:Nat} (hr:∀b k,j b=some k→(m.get b).isSome=true→k.c≠r) {w1:World} (hw:w1=w∨w1=w.drew) (hE:¬E.mono) {o o':Obj} (ho:w.heap[r]? = some o):MR E j m (setBlock w1 r o')∧w.heap.size=(setBlock w1 r o').heap.size∧(∀c,c≠r→(setBlock w1 r o').heap[c]? = w.heap[c]?)∧fb E w (setBlock w1 r o'):=by
 have hh:w1.heap=w.heap:=by rcases hw with rfl|rfl<;>rfl
 have hs:w.heap.size=(setBlock w1 r o').heap.size:=by simp[setBlock,hh]
 have hg:∀c,c≠r→(setBlock w1 r o').heap[c]? = w.heap[c]?:=fun c hc=>by
  show(w1.heap.setIfInBounds r o')[c]? = _
  rw[hh,Array.getElem?_setIfInBounds_ne (Ne.symm hc)]
 refine⟨⟨fun b k e=>⟨(h.lt b k e).1,hs ▸ (h.lt b k e).2⟩,fun b o k hgt e=>?_,h.inj,h.glob⟩,hs,hg,?_⟩
 ·obtain⟨o1,h1,h2⟩:=h.obj b o k hgt e;exact⟨o1,by rw[hg _ (hr b k e (by rw[hgt]; rfl))]; exact h1,h2⟩
 ·rcases hw with rfl|rfl<;>exact⟨rfl,rfl,rfl,fun e=>absurd e hE⟩
theorem oW {j:aL} {m:AMem} {w:World} (h:MR E j m w) {r:Nat} {a:Option Nat} {b0:Nat} {s:Array Nat} {d:Nat} (hr:w.heap[r]? = some (.mapIter a b0 s d)):∀b k,j b=some k→(m.get b).isSome=true→k.c≠r:=by
 intro b k hb hl he;cases hg:m.get b with
 | none=>rw[hg] at hl; cases hl
 | some o =>
  obtain⟨o',h1,h2⟩:=h.obj b o k hg hb;rw[he,hr] at h1;cases h1;cases o<;>exact h2.elim
theorem lJ {w:World} {N:Nat} {ds:List Deferred} (hm:Marks N w ds) {r:Nat} {w':World} {a:Option Nat} {b0:Nat} {s:Array Nat} {d:Nat} (hr:w.heap[r]? = some (.mapIter a b0 s d)) (hg:∀c,c≠r→w'.heap[c]? = w.heap[c]?):Marks N w' ds:=by
 obtain⟨rs,h1,h2,h3⟩:=hm;refine⟨rs,h1,h2,fun x hx=>⟨(h3 x hx).1,?_⟩⟩;rw[hg x fun e=>by subst e; have:=(h3 _ hx).2; rw[hr] at this; cases this]
 exact(h3 x hx).2
end
def yq (w:World) (r c:Nat) (ents:Array MapEntry) (clock:Nat) (S:List Nat) (cnt:Nat):Prop :=
 ∃since seen c0,w.heap[r]? = some (.mapIter (some c) since seen c0)∧w.heap[c]? = some (.map ents clock)∧(∀x ∈ ents.toList,x.born<since)∧since≤c0∧since≤clock∧(∀i x,ents[i]? = some x→(seen.contains x.born=true↔i ∈ S))∧(leftOf ents seen).size=cnt
theorem kL:∀(n:Nat) (S:List Nat),S.Nodup→(∀i ∈ S,i<n)→(∀i,i<n→i ∈ S)→S.Perm (List.range n)
 | 0,S,_,h2,_=>by
  cases S with
  | nil=>exact List.Perm.refl _
  | cons a l=>exact absurd (h2 a (by simp)) (by omega)
 | n+1,S,h1,h2,h3=>by
  have hm:n ∈ S:=h3 n (by omega)
  have hp:=List.perm_cons_erase hm;have ih:=kL n (S.erase n) (h1.erase n) (fun i hi=>by
   have h4:=h2 i (List.mem_of_mem_erase hi);have h5:i≠n:=fun e=>by subst e; exact(List.Nodup.not_mem_erase h1) hi
   omega) fun i hi=>(List.mem_erase_of_ne (by omega)).2 (h3 i (by omega))
  rw[List.range_succ];exact hp.trans ((List.Perm.cons n ih).trans (List.perm_append_singleton n (List.range n)).symm)
section
variable {E : Env} {n : Nat} {fn : FuncId} {ro : Option Nat}
theorem eval_put {a:Act} {d:Tmp} {v:Value} (h:d<a.tmps.size):(a.put (some d) v).eval (.tmp d)=v:=by
 simp[Act.put,Act.eval,h]
theorem sJ (hE:EnvOk E) (hmono:¬E.mono) {B B' i2 i3:Nat} {oN oX oE:Oper} {rest:List Oper} {o1:Array Oper} {X:Code} {d0 e0 e1 f0:Tmp}
  (hN:oN.op = .next (.tmp d0) false∧oN.dst=some e0∧oN.guard=none) (hX:oX.op = .extract (.tmp e0) 0∧oX.dst=some e1∧oX.guard=none) (hOE:oE.op = .entry (.tmp d0)∧oE.dst=some f0∧oE.guard=none) (h6:o1.toList=oE::rest)
  (h3:e0<n) (h4:e1<n) (h12:f0<n) (h13:e0≠d0) (h14:e1≠d0) (_hd3:f0≠d0)
  {mb:AMem} {w0:World} {j0:aL} (h15:MR E j0 mb w0) {bm bi:Nat} {es:List (Value × Value)} {lim:Nat} (hbm:mb.get bm=some (.map es)) (hbl:bm<lim)
  (Inv:List Nat→Tm→AMem→Prop) (hExt:∀S t m,Inv S t m→m.get bm=some (.map es)∧lim≤m.wl∧t.at d0=ptr bi 0)
  (hstep:∀S i e t m,S.Nodup→(∀i ∈ S,i<es.length)→i ∉ S→es[i]? = some e→Inv S t m→jJ E n o1 (fun t' m'=>bL E n fn ro X (fun e' t'' m''=>e' = .normal∧Inv (S++[i]) t'' m'') t' m') rest (((t.set e0 (.tuple #[.bool true,e.1,e.2])).set e1 (.bool true)).set f0 (.tuple #[e.1,e.2])) m)
  {r:Nat} (h30:w0.heap.size≤r) {kb:Blk} {ents:Array MapEntry} {clock:Nat} (hinc:uv ents clock) (a3:List Deferred) (N:Nat) :
  ∀(K:Nat) (S:List Nat) (cnt:Nat) (t:Tm) (m:AMem) (j:aL) (w:World) (a:Act) (F:Fence),cnt<K→S.Nodup→(∀i ∈ S,i<es.length)→Inv S t m→Sim E j0 mb w0 j m w→TR n j t a.tmps→gw j ro F→Marks N w a.defers→N≤w.heap.size →
   j bi=some ⟨r,none⟩→j bm=some kb→ER j es ents.toList→yq w r kb.c ents clock S cnt →
   jh F 0 E.P (.seq (.region i2 #[oN,oX] false) (.seq (.cond (.tmp e1) .skip (.exit B)) (.block B' (.seq (.region i3 o1 false) X))))
    (fun e' a' w'=>∃S t' m',S.Perm (List.range es.length)∧Inv S t' m'∧gU E j0 mb w0 N n (.exit B) ((t'.set e0 (.tuple #[.bool false])).set e1 (.bool false)) m' e' a' w') a w:=by
 intro K
 induction K with
 | zero=>intro S cnt t m j w a F hc; exact absurd hc (by omega)
 | succ K ih =>
  intro S cnt t m j w a F hc hnd hSl hinv s ht hro hmk hNw hjr hjm her hit;have hlen:es.length=ents.size:=by have:=her.len; simpa using this
  obtain⟨hg,hwl,htd⟩:=hExt S t m hinv;obtain⟨since,seen,c0,i0,i2',i3',i5,i4,i1,i6⟩:=hit;refine gF (wpIn_seq (wpIn_region ?_));have hiter:a.eval (.tmp d0) = .pointer (some ⟨r,0,none⟩):=by
   have hv:=ht.2 d0;rw[htd] at hv
   show a.tmps.getD d0 undef=_
   generalize hx:a.tmps.getD d0 undef=x at hv;cases hv with
   | ptr hj=>rw[hjr] at hj; cases hj; rfl
  have hsz:a.tmps.size=n:=ht.1;have hlist:List.range (#[oN,oX]:Array Oper).size = [0,1]:=rfl;rw[hlist];have w0':Region.wanted oN (yielded #[oN,oX] a.tmps)=true:=by simp[Region.wanted,hN.2.2]
  have g0:(#[oN,oX]:Array Oper)[0]? = some oN:=rfl;have g1:(#[oN,oX]:Array Oper)[1]? = some oX:=rfl;simp only[wpOpsIn,g0,g1,w0',if_true];have hexN:execOp a.eval oN=(do pure (.value (←Instr.next (.pointer (some ⟨r,0,none⟩)) false oN.type))):=by simp only[execOp,hN.1,hiter]
  have hdN:∀c,oN.op≠.defer c:=fun c e=>by rw[hN.1] at e; cases e
  have hdX:∀c,oX.op≠.defer c:=fun c e=>by rw[hX.1] at e; cases e
  have hbmj:bm<m.next:=(s.mr.lt bm kb hjm).1
  rcases run_next_at (P:=E.P) w oN.type r kb.c since c0 seen ents clock i0 i2' i3' i5 with⟨q0,hrun⟩|⟨x,hx,w1,h9,hrun⟩
  ·
   refine cC hro.wide hdN (by rw[hexN]; exact gN.value hrun) ?_
   have h1:TR n j (t.set e0 (.tuple #[.bool false])) (a.put oN.dst (.tuple #[.bool false])).tmps:=ht.put (t':=t.set e0 (.tuple #[.bool false])) (.tuple' (LR.cons (.bool false) (.nil j))) (by rw[hN.2.1,ck,if_pos h3])
   rw[hN.2.1] at h1 ⊢;have w1':Region.wanted oX (yielded #[oN,oX] (a.put (some e0) (.tuple #[.bool false])).tmps)=true:=by simp[Region.wanted,hX.2.2]
   rw[if_pos w1'];have hexX:execOp (a.put (some e0) (.tuple #[.bool false])).eval oX=(do pure (.value (←Instr.extract (.tuple #[.bool false]) 0))):=by
    simp only[execOp,hX.1];rw[eval_put (v:=.tuple #[.bool false]) (d:=e0) (a:=a) (hsz.symm ▸ h3)]
   refine cC hro.wide hdX (v:=.bool false) (w':=w) (by rw[hexX]; exact gN.value rfl) ?_
   have h0:=h1.put (t':=(t.set e0 (.tuple #[.bool false])).set e1 (.bool false)) (dst:=oX.dst) (.bool false) (by rw[hX.2.1,ck,if_pos h4])
   rw[hX.2.1] at h0 ⊢;refine wpIn_seq (wpIn_cond_false (eval_put (by simp only[Act.put,Array.size_setIfInBounds]; exact hsz.symm ▸ h4)) (wpIn_exit ?_))
   refine⟨S,t,m,kL _ S hnd hSl fun i hi=>?_,hinv,rfl,j,s,h0,hmk⟩;have hi':i<ents.size:=by omega
   refine(i1 i _ (Array.getElem?_eq_getElem hi')).1 ?_;cases hcs:seen.contains (ents[i]'hi').born with
   | true=>rfl
   | false =>
    have:(ents[i]'hi') ∈ (leftOf ents seen).toList:=by
     unfold leftOf;simp[hcs];exact fun h=>by simp_all
    rw[Array.eq_empty_of_size_eq_zero q0] at this;simp at this
  ·
   obtain⟨hxm,hxs⟩:=mem_left hx;obtain⟨i,hi⟩:=List.mem_iff_getElem?.1 hxm;have hi':ents[i]? = some x:=by simpa using hi
   have hiS:i ∉ S:=fun h=>by rw[(i1 i x hi').2 h] at hxs; cases hxs
   have hil:i<es.length:=by rw[hlen]; exact(Array.getElem?_eq_some_iff.1 hi').1
   obtain⟨y,hy,hky,hvy⟩:=her.get (List.getElem?_eq_getElem hil);rw[hi] at hy;cases hy;have hne:∀b k,j b=some k→(m.get b).isSome=true→k.c≠r:=oW s.mr i0;have hcr:kb.c≠r:=hne bm kb hjm (by rw[hg]; rfl)
   obtain⟨p2,p1,p0,p3⟩:=tx s.mr hne h9 hmono (o':=.mapIter (some kb.c) since (seen.push x.born) clock) i0;have s1:Sim E j0 mb w0 j m (setBlock w1 r (.mapIter (some kb.c) since (seen.push x.born) clock)) :=
    { ext:=s.ext,le:=s.le,new:=s.new,mr:=p2,size:=by rw[←p1]; exact s.size,full:=s.full,away:=s.away,fresh:=s.fresh,frame:=fun c hc H=>by rw[p0 c (by omega)]; exact s.frame c hc H,calm:=s.calm.trans p3}
   have m2:=lJ hmk i0 p0;refine cC hro.wide hdN (by rw[hexN]; exact gN.value hrun) ?_
   generalize h16:setBlock w1 r (.mapIter (some kb.c) since (seen.push x.born) clock)=w2 at s1 m2 p1 p0;have h5:w2.heap[r]? = some (.mapIter (some kb.c) since (seen.push x.born) clock):=by
    rw[←h16];have hh:w1.heap=w.heap:=by rcases h9 with rfl|rfl<;>rfl
    have hrl:=(Array.getElem?_eq_some_iff.1 i0).1;simp[setBlock,hh,hrl]
   have h7:w2.heap[kb.c]? = some (.map ents clock):=by rw[p0 _ hcr]; exact i2'
   have hvT:VR j (.tuple #[.bool true,(es[i]'hil).1,(es[i]'hil).2]) (.tuple #[.bool true,x.key,x.val]):=.tuple' (LR.cons (.bool true) (LR.cons hky (LR.cons hvy (.nil j))));have h1:=ht.put (t':=t.set e0 (.tuple #[.bool true,(es[i]'hil).1,(es[i]'hil).2])) (dst:=oN.dst) hvT (by rw[hN.2.1,ck,if_pos h3])
   rw[hN.2.1] at h1 ⊢;have w1':Region.wanted oX (yielded #[oN,oX] (a.put (some e0) (.tuple #[.bool true,x.key,x.val])).tmps)=true:=by simp[Region.wanted,hX.2.2]
   rw[if_pos w1'];have hexX:execOp (a.put (some e0) (.tuple #[.bool true,x.key,x.val])).eval oX=(do pure (.value (←Instr.extract (.tuple #[.bool true,x.key,x.val]) 0))):=by
    simp only[execOp,hX.1];rw[eval_put (v:=.tuple #[.bool true,x.key,x.val]) (d:=e0) (a:=a) (hsz.symm ▸ h3)]
   refine cC hro.wide hdX (v:=.bool true) (w':=w2) (by rw[hexX]; exact gN.value rfl) ?_
   have h0:=h1.put (t':=(t.set e0 (.tuple #[.bool true,(es[i]'hil).1,(es[i]'hil).2])).set e1 (.bool true)) (dst:=oX.dst) (.bool true) (by rw[hX.2.1,ck,if_pos h4])
   rw[hX.2.1] at h0 ⊢;generalize h8:(a.put (some e0) (.tuple #[.bool true,x.key,x.val])).put (some e1) (.bool true)=a0 at h0;have hdef2:a0.defers=a.defers:=by rw[←h8]; rfl
   have h17:a0.eval (.tmp e1) = .bool true:=by rw[←h8]; exact eval_put (by simp only[Act.put,Array.size_setIfInBounds]; exact hsz.symm ▸ h4)
   have h18:a0.eval (.tmp d0) = .pointer (some ⟨r,0,none⟩):=by
    rw[←h8]
    show(((a.tmps.setIfInBounds e0 _).setIfInBounds e1 _).getD d0 undef)=_
    have h2:a.tmps.getD d0 undef = .pointer (some ⟨r,0,none⟩):=hiter;simp only[Array.getD_eq_getD_getElem?] at h2 ⊢;rw[Array.getElem?_setIfInBounds_ne h14,Array.getElem?_setIfInBounds_ne h13];exact h2
   refine wpIn_seq (wpIn_cond_true h17 (wpIn_skip ?_));refine wpIn_block (wpIn_seq (wpIn_region ?_));have h19:List.range o1.size=0::List.range' 1 (o1.size-1):=by
    have:o1.size=rest.length+1:=by have:=congrArg List.length h6; simpa using this
    rw[this,List.range_eq_range']
    rfl
   rw[h19];have g2:o1[0]? = some oE:=by have:=congrArg (·[0]?) h6; simpa using this
   have w2':Region.wanted oE (yielded o1 a0.tmps)=true:=by simp[Region.wanted,hOE.2.2]
   simp only[wpOpsIn,g2,w2',if_true];have hdE:∀c,oE.op≠.defer c:=fun c e=>by rw[hOE.1] at e; cases e
   have hexE:execOp a0.eval oE=(do pure (.value (←Instr.entry (.pointer (some ⟨r,0,none⟩))))):=by simp only[execOp,hOE.1,h18]
   refine cC hro.wide hdE (by rw[hexE]; exact gN.value (run_entry_at w2 r kb.c since seen ents clock x h5 h7 hxm hinc.2)) ?_
   have hvE:VR j (.tuple #[(es[i]'hil).1,(es[i]'hil).2]) (.tuple #[x.key,x.val]):=.tuple' (LR.cons hky (LR.cons hvy (.nil j)));have h10:=h0.put (t':=((t.set e0 (.tuple #[.bool true,(es[i]'hil).1,(es[i]'hil).2])).set e1 (.bool true)).set f0 (.tuple #[(es[i]'hil).1,(es[i]'hil).2])) (dst:=oE.dst) hvE (by rw[hOE.2.1,ck,if_pos h12])
   rw[hOE.2.1] at h10 ⊢;have hdef3:(a0.put (some f0) (.tuple #[x.key,x.val])).defers=a.defers:=by rw[←hdef2]; rfl
   have hst:=hstep S i _ t m hnd hSl hiS (List.getElem?_eq_getElem hil) hinv;obtain⟨k1,t0,m4,h20,hX4⟩:=iK (iD hst);have hrun3:=gy (ops:=o1) (n:=n) (tf:=t0) (mf:=m4) (F:=F) (jF hE k1) hro.wide (Q:=Exit.then (fun a' w'=>X.wpIn F 0 E.P (Exit.inBlock B' (Exit.then (fun a' w'=>jh F 0 E.P (.seq (.region i2 #[oN,oX] false) (.seq (.cond (.tmp e1) .skip (.exit B)) (.block B' (.seq (.region i3 o1 false) X)))) (fun e' a' w'=>∃S t' m',S.Perm (List.range es.length)∧Inv S t' m'∧gU E j0 mb w0 N n (.exit B) ((t'.set e0 (.tuple #[.bool false])).set e1 (.bool false)) m' e' a' w') a' w')
     (fun e' a' w'=>∃S t' m',S.Perm (List.range es.length)∧Inv S t' m'∧gU E j0 mb w0 N n (.exit B) ((t'.set e0 (.tuple #[.bool false])).set e1 (.bool false)) m' e' a' w'))) a' w')
     (Exit.inBlock B' (Exit.then (fun a' w'=>jh F 0 E.P (.seq (.region i2 #[oN,oX] false) (.seq (.cond (.tmp e1) .skip (.exit B)) (.block B' (.seq (.region i3 o1 false) X)))) (fun e' a' w'=>∃S t' m',S.Perm (List.range es.length)∧Inv S t' m'∧gU E j0 mb w0 N n (.exit B) ((t'.set e0 (.tuple #[.bool false])).set e1 (.bool false)) m' e' a' w') a' w')
     (fun e' a' w'=>∃S t' m',S.Perm (List.range es.length)∧Inv S t' m'∧gU E j0 mb w0 N n (.exit B) ((t'.set e0 (.tuple #[.bool false])).set e1 (.bool false)) m' e' a' w')))) s1.mr a.defers ?_ rest 1 _ m j w2 (a0.put (some f0) (.tuple #[x.key,x.val])) (by rw[h6]; rfl) h20 (.refl s1.mr) h10 hdef3
   ·exact hrun3
   ·
    intro j3 w4 a1 s3 h21 h22;obtain⟨e2,t1,m3,⟨k3,h23⟩,h24,hinv5⟩:=hX4;subst h24;obtain⟨e3,t2,m7,h25,H6⟩:=jF hE k3 _ _ h23;cases h25;have m5:Marks N w4 a1.defers:=by rw[h22]; exact m2.tL s1.mr s3
    refine wpIn_mono (H6 j3 w4 a1 F N s3.mr h21 (hro.mono s3.le) m5 (by have:=s3.size; omega)) ?_
    rintro e4 a2 w3 ⟨rfl,j2,s4,h26,m6⟩;have s2:Sim E j m w2 j2 m3 w3:=s3.trans s1.mr s4;have hk5':=hExt _ _ _ hinv5;have h27:∀b k,j b=some k→(m.get b).isSome=true→k.c≠r:=oW s1.mr h5;have h28:w3.heap[r]? = w2.heap[r]?:=s2.frame r (Array.getElem?_eq_some_iff.1 h5).1 fun b k hb hl he=>absurd he (h27 b k hb hl);have h29:w3.heap[kb.c]? = w2.heap[kb.c]?:=s2.frame kb.c (Array.getElem?_eq_some_iff.1 h7).1 fun b k hb hl he=>by
     have:=s1.mr.inj b bm k kb hb hjm hl (by rw[hg]; rfl) he
     omega
    refine ih (S++[i]) _ t1 m3 j2 w3 a2 F ?_ ?_ ?_ hinv5 (s1.trans h15 s2) h26 ((hro.mono s3.le).mono s4.le) m6 (by have:=s2.size; omega) (s2.le _ _ hjr) (s2.le _ _ hjm) (her.mono s2.le)
     ⟨since,seen.push x.born,clock,by rw[h28]; exact h5,by rw[h29]; exact h7,i3',i4,i4,fun i' x' hx'=>?_,rfl⟩
    ·have:=left_shrinks ents seen x hx;omega
    ·exact List.nodup_append.2 ⟨hnd,by simp,fun p hp q hq=>by rw[List.mem_singleton] at hq; subst hq; exact fun e=>hiS (e ▸ hp)⟩
    ·intro p hp;rcases List.mem_append.1 hp with hp|hp
     ·exact hSl p hp
     ·rw[List.mem_singleton.1 hp]; exact hil
    ·have hcp:(seen.push x.born).contains x'.born=true↔(seen.contains x'.born=true∨x'.born=x.born):=by simp[Array.mem_push]
     rw[hcp,i1 i' x' hx',List.mem_append,List.mem_singleton];refine or_congr Iff.rfl ⟨fun e=>?_,fun e=>?_⟩
     ·have h11:(ents.toList.map (·.born))[i']? = some x'.born:=by rw[List.getElem?_map]; simp[hx']
      have h2:(ents.toList.map (·.born))[i]? = some x.born:=by rw[List.getElem?_map]; simp[hi']
      have hl':i'<(ents.toList.map (·.born)).length:=(List.getElem?_eq_some_iff.1 h11).1;exact(List.getElem_inj (h₀:=hl') (h₁:=(List.getElem?_eq_some_iff.1 h2).1) hinc.2).1 (by
       rw[(List.getElem?_eq_some_iff.1 h11).2,(List.getElem?_eq_some_iff.1 h2).2,e])
     ·subst e; rw[hi'] at hx'; cases hx'; rfl
end
section
variable {E : Env} {n : Nat} {fn : FuncId} {ro : Option Nat}
theorem MR.ze {j:aL} {m:AMem} {w:World} (h:MR E j m w) (x:Nat):MR E j (m.ww x) w :=
 ⟨fun b k e=>by rw[AMem.next_ww]; exact h.lt b k e,fun b o k ho=>by rw[AMem.get_ww] at ho; exact h.obj b o k ho,fun b b' k k' e e'=>by rw[AMem.get_ww,AMem.get_ww]; exact h.inj b b' k k' e e',h.glob⟩
theorem wZ {j j':aL} {m m':AMem} {w w':World} {x:Nat} (s:Sim E j (m.ww x) w j' m' w'):Sim E j m w j' (m'.ww (min m.wl m'.wl)) w' where
 ext:=⟨by have:=s.ext.next; rwa[AMem.next_ww] at this ⊢,by rw[AMem.wl_ww]; omega,fun b hb hl=>by
  rw[AMem.wl_ww] at hl;have:=s.ext.same b (by rw[AMem.next_ww]; exact hb) (by omega)
  rwa[AMem.get_ww] at this ⊢,fun b hb hn=>by
  have:=s.ext.dead b (by rw[AMem.next_ww]; exact hb) (by rw[AMem.get_ww]; exact hn)
  rwa[AMem.get_ww]⟩
 le:=s.le
 new:=fun b k h h'=>by have:=s.new b k h h'; rwa[AMem.next_ww] at this
 mr:=s.mr.ze _
 size:=s.size
 full:=fun b h h' hl=>by
  rw[AMem.next_ww] at h';rw[AMem.get_ww] at hl;exact s.full b (by rw[AMem.next_ww]; exact h) h' hl
 away:=fun b hb hn=>by
  have:=s.away b (by rw[AMem.next_ww]; exact hb) hn
  rwa[AMem.get_ww] at this ⊢
 fresh:=fun b k h h'=>by
  rcases s.fresh b k h h' with hf|⟨b0,k0,a1,a2,a3,a4⟩
  ·exact .inl hf
  ·rw[AMem.get_ww] at a2;exact .inr ⟨b0,k0,a1,a2,a3,by rw[AMem.wl_ww]; omega⟩
 frame:=fun c hc H=>s.frame c hc fun b k hb hl he=>by
  rw[AMem.get_ww] at hl;have:=H b k hb hl he;rw[AMem.wl_ww] at this; omega
 calm:=s.calm
def gH (m:AMem):AMem:=((m.alloc (.cells [] .own)).kill m.next).ww (m.next+1)
theorem cO (m:AMem):(gH m).next=m.next+1:=by unfold gH; rw[AMem.next_ww,AMem.next_kill,AMem.next_alloc]
theorem mB (m:AMem):(gH m).wl=m.next+1:=by unfold gH; rw[AMem.wl_ww]
theorem eo (m:AMem) (b:Nat):(gH m).get b=if b=m.next then none else m.get b:=by
 unfold gH;rw[AMem.get_ww,AMem.dt,AMem.aY]
 split<;>rfl
theorem sh {j:aL} {m:AMem} {w:World} (h:MR E j m w) (o:Obj):Sim E j (m.ww (m.next+1)) w (j.set m.next ⟨w.heap.size,none⟩) (gH m) (w.alloc o):=by
 have hn:j m.next=none:=h.iG
 have hget:∀c,c<w.heap.size→(w.alloc o).heap[c]? = w.heap[c]?:=fun c hc=>by
  show(w.heap.push o)[c]? = w.heap[c]?
  rw[Array.getElem?_push,if_neg (by omega)]
 refine⟨⟨by rw[AMem.next_ww,cO]; omega,by rw[AMem.wl_ww,mB]; omega,fun b hb _=>?_,fun b hb hd=>?_⟩,aL.jj _ hn,fun b k e e'=>?_,⟨fun b k e=>?_,fun b a k ha e=>?_,fun b b' k k' e e' hl hl' hc=>?_,fun g hg=>?_⟩,by rw[World.size_alloc]; omega,fun b hb hb' hl=>?_,fun b hb hj=>?_,fun b k e e'=>?_,fun c hc _=>hget c hc,⟨rfl,rfl,rfl,fun _=>Nat.le_refl _⟩⟩
 ·rw[AMem.next_ww] at hb;rw[eo,if_neg (by omega),AMem.get_ww]
 ·rw[AMem.next_ww] at hb;rw[AMem.get_ww] at hd;rw[eo,if_neg (by omega),hd]
 ·by_cases hb:b=m.next
  ·rw[hb,AMem.next_ww]; exact Nat.le_refl _
  ·rw[aL.bI _ _ hb,e'] at e; cases e
 ·rw[cO,World.size_alloc]
  by_cases hb:b=m.next
  ·subst hb; rw[aL.bQ] at e; cases e;exact⟨Nat.lt_succ_self _,Nat.lt_succ_self _⟩
  ·rw[aL.bI _ _ hb] at e;exact⟨Nat.lt_succ_of_lt (h.lt b k e).1,Nat.lt_succ_of_lt (h.lt b k e).2⟩
 ·rw[eo] at ha
  split at ha
  ·cases ha
  ·rename_i hb;rw[aL.bI _ _ hb] at e;obtain⟨o',h1,h2⟩:=h.obj b a k ha e;exact⟨o',by rw[hget _ (h.lt b k e).2]; exact h1,h2.mono (aL.jj _ hn)⟩
 ·rw[eo] at hl hl'
  split at hl
  ·cases hl
  ·rename_i hb
   split at hl'
   ·cases hl'
   ·rename_i hb';rw[aL.bI _ _ hb] at e;rw[aL.bI _ _ hb'] at e';exact h.inj b b' k k' e e' hl hl' hc
 ·have h1:=h.glob g hg;have hlt:=(h.lt g _ h1).1;rw[aL.bI _ _ (by omega)]; exact h1
 ·rw[AMem.next_ww] at hb;rw[cO] at hb';rw[eo,if_pos (by omega)] at hl
  cases hl
 ·rw[AMem.next_ww] at hb;rw[eo,if_neg (by omega),AMem.get_ww]
 ·by_cases hb:b=m.next
  ·subst hb; rw[aL.bQ] at e; cases e;exact .inl (Nat.le_refl _)
  ·rw[aL.bI _ _ hb,e'] at e; cases e
theorem eO.mapRange (hE:EnvOk E) (hmono:¬E.mono) {B B' i0 i2 i3:Nat} {o2 o1 oN oX oE:Oper} {rest:List Oper} {o3:Array Oper} {X:Code} {d1 d0 e0 e1 f0:Tmp} {mt kt et:TypeId}
  (h1:o2.dst=some d1∧o2.guard=none) (h0:o1.op = .range mt (.tmp d1)∧o1.dst=some d0∧o1.guard=none) (hmt:E.P.underlying mt=some (.map kt et))
  (hN:oN.op = .next (.tmp d0) false∧oN.dst=some e0∧oN.guard=none) (hX:oX.op = .extract (.tmp e0) 0∧oX.dst=some e1∧oX.guard=none) (hOE:oE.op = .entry (.tmp d0)∧oE.dst=some f0∧oE.guard=none) (h5:o3.toList=oE::rest)
  (hb:d1<n∧d0<n∧e0<n∧e1<n∧f0<n) (h6:e0≠d0) (h7:e1≠d0) (h8:f0≠d0)
  {Q:AExit→Tm→AMem→Prop} {t:Tm} {m:AMem} {bm:Nat} {es:List (Value × Value)} (hld:dx E t m o2.op=some (.map (some bm),m)) (hbm:m.get bm=some (.map es)) (hbl:bm<m.next)
  (Inv:List Nat→Tm→AMem→Prop) (hExt:∀S t' m',Inv S t' m'→m'.get bm=some (.map es)∧m.next≤m'.wl∧t'.at d0=ptr m.next 0)
  (hinit:Inv [] ((t.set d1 (.map (some bm))).set d0 (ptr m.next 0)) (gH m))
  (hstep:∀S i e t m,S.Nodup→(∀i ∈ S,i<es.length)→i ∉ S→es[i]? = some e→Inv S t m→jJ E n o3 (fun t' m'=>bL E n fn ro X (fun e' t'' m''=>e' = .normal∧Inv (S++[i]) t'' m'') t' m') rest (((t.set e0 (.tuple #[.bool true,e.1,e.2])).set e1 (.bool true)).set f0 (.tuple #[e.1,e.2])) m)
  (hend:∀S t' m',S.Perm (List.range es.length)→Inv S t' m'→Q .normal ((t'.set e0 (.tuple #[.bool false])).set e1 (.bool false)) (m'.ww (min m.wl m'.wl))) :
  eO E n fn ro (.seq (.region i0 #[o2,o1] false) (.block B (.loop (.seq (.region i2 #[oN,oX] false) (.seq (.cond (.tmp e1) .skip (.exit B)) (.block B' (.seq (.region i3 o3 false) X))))))) Q t m:=fun j w a F N hm ht hro hmk hNw=>by
 refine wpIn_seq (wpIn_region ?_);have hlist:List.range (#[o2,o1]:Array Oper).size = [0,1]:=rfl;rw[hlist];have w0':Region.wanted o2 (yielded #[o2,o1] a.tmps)=true:=by simp[Region.wanted,h1.2]
 have g0:(#[o2,o1]:Array Oper)[0]? = some o2:=rfl;have g1:(#[o2,o1]:Array Oper)[1]? = some o1:=rfl;simp only[wpOpsIn,g0,g1,w0',if_true];obtain⟨j1,w1,v0,q0,s1,q1⟩:=tH hm ht (o:=o2) hld;refine cC hro.wide (iq hld) q0 ?_;cases q1 with
 | map hj =>
 rename_i kb;obtain⟨oo,hh,hor⟩:=s1.mr.obj bm _ kb hbm hj;cases oo with
 | map ents clock =>
  have h2:=(ht.mono s1.le).put (t':=t.set d1 (.map (some bm))) (dst:=o2.dst) (VR.map hj) (by rw[h1.1,ck,if_pos hb.1])
  rw[h1.1] at h2 ⊢;have w1':Region.wanted o1 (yielded #[o2,o1] (a.put (some d1) (.map (some kb.c))).tmps)=true:=by simp[Region.wanted,h0.2.2]
  rw[if_pos w1'];have hsz:a.tmps.size=n:=ht.1;have h9:execOp (a.put (some d1) (.map (some kb.c))).eval o1=(do pure (.value (←Instr.range mt (.map (some kb.c))))):=by
   simp only[execOp,h0.1];rw[eval_put (v:=.map (some kb.c)) (d:=d1) (a:=a) (hsz.symm ▸ hb.1)]
  have hd2':∀c,o1.op≠.defer c:=fun c e=>by rw[h0.1] at e; cases e
  refine cC hro.wide hd2' (by rw[h9]; exact gN.value (run_range_map w1 mt kt et kb.c ents clock hmt hh)) ?_
  have s2:=sh s1.mr (.mapIter (some kb.c) clock #[] clock);have h3:(j1.set m.next ⟨w1.heap.size,none⟩) m.next=some ⟨w1.heap.size,none⟩:=aL.bQ _ _ _
  have h4:=(h2.mono s2.le).put (t':=(t.set d1 (.map (some bm))).set d0 (ptr m.next 0)) (dst:=o1.dst) (v:=ptr m.next 0) (v':=.pointer (some ⟨w1.heap.size,0,none⟩)) (VR.ptr h3) (by rw[h0.2.1,ck,if_pos hb.2.1])
  rw[h0.2.1] at h4 ⊢;have m2:Marks N (w1.alloc (.mapIter (some kb.c) clock #[] clock)) a.defers:=(hmk.tL hm s1).tL (s1.mr.ze (m.next+1)) s2
  have hsize:w1.heap.size<(w1.alloc (.mapIter (some kb.c) clock #[] clock)).heap.size:=by rw[World.size_alloc]; omega
  have hcl:kb.c<w1.heap.size:=(Array.getElem?_eq_some_iff.1 hh).1;have hit:yq (w1.alloc (.mapIter (some kb.c) clock #[] clock)) w1.heap.size kb.c ents clock [] (leftOf ents #[]).size :=
   ⟨clock,#[],clock,by show(w1.heap.push _)[w1.heap.size]? = _; simp,by show(w1.heap.push _)[kb.c]? = _; rw[Array.getElem?_push,if_neg (by omega)]; exact hh,hor.2.1,Nat.le_refl _,Nat.le_refl _,fun i x hx=>by simp,rfl⟩
  refine wpIn_block (ic ?_);have hL:=sJ (fn:=fn) (B:=B) (B':=B') (i2:=i2) (i3:=i3) (X:=X) hE hmono hN hX hOE h5 hb.2.2.1 hb.2.2.2.1 hb.2.2.2.2 h6 h7 h8 (s1.mr.ze (m.next+1)) (bm:=bm) (bi:=m.next) (es:=es) (lim:=m.next) (by rw[AMem.get_ww]; exact hbm) hbl Inv hExt hstep (Nat.le_refl _) (kb:=kb) (ents:=ents) (clock:=clock) hor.2 a.defers N _ [] _ _ (gH m) _ _ (((a.put (some d1) (.map (some kb.c))).put (some d0) (.pointer (some ⟨w1.heap.size,0,none⟩)))) F (Nat.lt_succ_self _) List.nodup_nil (fun i h=>by cases h) hinit s2 h4 ((hro.mono s1.le).mono s2.le) m2 (by have:=s1.size; omega) h3 (s2.le _ _ hj) (hor.1.mono s2.le) hit
  intro bF k cs h10 h11 h12;obtain⟨e',a',w',⟨S,t',m',hS,hI,hq⟩,harr⟩:=hL bF k cs h10 h11 h12;obtain⟨rfl,jf,sf,tf,mf⟩:=hq;refine⟨_,a',w',?_,harr⟩
  show Exit.inBlock B _ (.exit B) a' w'
  simp only[Exit.inBlock,if_true];exact⟨.normal,_,_,hend S t' m' hS hI,rfl,jf,s1.trans hm (wZ sf),tf,mf⟩
 | _=>exact hor.elim
end
end Go.Ab
end

section
namespace Go.Ab.W
open Go Go.Ab
attribute [local irreducible] Tm.at Trie.set Trie.get AMem.get AMem.set AMem.alloc AMem.ww AMem.kill
def hZ (F:Func):Code:=match F.body with
 | some c=>c
 | none=>.skip
def yu:Nat→Code→Code
 | k+1,.seq _ b=>yu k b
 | _,c=>c
section
variable {E : Env} {n : Nat} {m0 : AMem} {fs fs' : Fs} {ps ps' : List Pc} {fn : FuncId} {ro : Option Nat} {Q : AExit → Tm → AMem → Prop} {a b c : Code}
def Vk (E:Env) (n:Nat) (fn:FuncId) (ro:Option Nat) (c:Code) (Q:AExit→Tm→AMem→Prop) (m0:AMem) (fs:Fs) (ps:List Pc):Prop:=∀t m,Fr t fs→Hp m0 m ps→eO E n fn ro c Q t m
theorem Vk.seq (hE:EnvOk E) (h:Wk E n fn ro a (iY (eO E n fn ro b Q) Q) m0 fs ps):Vk E n fn ro (.seq a b) Q m0 fs ps:=fun t m hf hm=>.seq hE (h t m hf hm)
theorem Vk.of (hE:EnvOk E) (h:Wk E n fn ro c Q m0 fs ps):Vk E n fn ro c Q m0 fs ps:=fun t m hf hm=>.of hE (h t m hf hm)
theorem At.sN (h:Vk E n fn ro b Q m0 fs ps):At (iY (eO E n fn ro b Q) Q) .normal m0 fs ps:=h
theorem Vk.bZ (hs:sub fs fs') (h:aa m0 ps ps') (k:Vk E n fn ro c Q m0 fs' ps'):Vk E n fn ro c Q m0 fs ps:=fun t m hf hm=>k t m (hf.sub hs) (h m hm)
theorem Hp.rq {m m':AMem} {new:List Pc} (h:Hp m0 m ps) (h':Hp (gH m) m' new) (ho:∀p ∈ new,p.bound=true∧∀b,p.any b→p.ow b):Hp m0 (m'.ww (min m.wl m'.wl)) (new++ps):=by
 have e1:=h.ext.next
 have e2:=h'.ext.next
 rw[cO] at e2;have e3:=h.ext.wl;have e4:=h'.ext.wl;rw[cO,mB] at e4;have hold:∀b,b<m.next→(m'.ww (min m.wl m'.wl)).get b=m.get b:=fun b hb=>by
  rw[AMem.get_ww,h'.ext.same b (by rw[cO]; omega),eo,if_neg (by omega)]
 refine⟨⟨by rw[AMem.next_ww]; omega,fun b hb=>by rw[hold b (by omega)]; exact h.ext.same b hb,by rw[AMem.wl_ww]; omega⟩,fun p hp=>?_,List.pairwise_append.2 ⟨h'.apart,h.apart,fun p hp q hq=>⟨fun b x1 x2=>?_,fun b x1 x2=>?_⟩⟩⟩
 ·rcases List.mem_append.1 hp with hp|hp
  ·refine Pc.dZ (Pc.ud (h'.ok p hp) (by rw[cO]; omega)) (by rw[AMem.next_ww]; exact Nat.le_refl _) fun b _ _=>by rw[AMem.get_ww]
  ·exact Pc.dZ (h.ok p hp) (by rw[AMem.next_ww]; omega) fun b _ hlt=>hold b hlt
 ·have h1:=Pc.oi (h'.ok p hp) (ho p hp).1 x1;have h2:=Pc.ea (h.ok q hq) x2;rw[cO] at h1; omega
 ·have h1:=Pc.oi (h'.ok p hp) (ho p hp).1 ((ho p hp).2 b x2);have h2:=Pc.ea (h.ok q hq) (Pc.ir x1);rw[cO] at h1; omega
theorem Vk.mapRange (hE:EnvOk E) (hmono:¬E.mono) {γ:Type} {B B' i0 i2 i3:Nat} {o1 o2 oN oX oE:Oper} {rest:List Oper} {o3:Array Oper} {X R:Code} {d1 d0 e0 e1 f0:Tmp} {mt kt et:TypeId}
  (h0:o1.dst=some d1∧o1.guard=none) (h1:o2.op = .range mt (.tmp d1)∧o2.dst=some d0∧o2.guard=none) (hmt:E.P.underlying mt=some (.map kt et))
  (hN:oN.op = .next (.tmp d0) false∧oN.dst=some e0∧oN.guard=none) (hX:oX.op = .extract (.tmp e0) 0∧oX.dst=some e1∧oX.guard=none) (hOE:oE.op = .entry (.tmp d0)∧oE.dst=some f0∧oE.guard=none) (h2:o3.toList=oE::rest)
  (hb:d1<n∧d0<n∧e0<n∧e1<n∧f0<n) (hd:e0≠d0∧e1≠d0∧f0≠d0)
  {bm k:Nat} {es:List (Value × Value)} (hld:∀t m,Fr t fs→Hp m0 m ps→dx E t m o1.op=some (.map (some bm),m)) (hk:pk ps k=some (.obj bm (.map es)))
  (I:Nat→List Nat→γ→Fs × List Pc) (hI:∀bi S g,lk (I bi S g).1 d0=some (ptr bi 0)) (hbd:∀bi S g,∀p ∈ (I bi S g).2,p.bound=true∧∀b,p.any b→p.ow b)
  (g2:Nat→γ) (hinit:∀bi,sub ((d0,ptr bi 0)::(d1,.map (some bm))::fs) (I bi [] (g2 bi)).1∧∀m1,aa m1 [] (I bi [] (g2 bi)).2)
  (hstep:∀bi m1 S i e g,S.Nodup→(∀i ∈ S,i<es.length)→i ∉ S→es[i]? = some e→Wo false E n o3 (fun t' m'=>bL E n fn ro X (fun e' t'' m''=>e' = .normal∧∃g',Fr t'' (I bi (S++[i]) g').1∧Hp m1 m'' (I bi (S++[i]) g').2) t' m') rest m1 ((f0,.tuple #[e.1,e.2])::(e1,.bool true)::(e0,.tuple #[.bool true,e.1,e.2])::(I bi S g).1) (I bi S g).2)
  (hend:∀bi S g,S.Perm (List.range es.length)→Vk E n fn ro R Q m0 ((e1,.bool false)::(e0,.tuple #[.bool false])::(I bi S g).1) ((I bi S g).2++ps)) :
  Vk E n fn ro (.seq (.seq (.region i0 #[o1,o2] false) (.block B (.loop (.seq (.region i2 #[oN,oX] false) (.seq (.cond (.tmp e1) .skip (.exit B)) (.block B' (.seq (.region i3 o3 false) X))))))) R) Q m0 fs ps:=fun t m hf hm=>by
 refine .yy ?_;have hp:Pc.ok m0.next m (.obj bm (.map es)):=hm.get hk
 refine eO.mapRange hE hmono h0 h1 hmt hN hX hOE h2 hb hd.1 hd.2.1 hd.2.2 (hld t m hf hm) hp.2.2 hp.2.1 (fun S t' m'=>∃g,Fr t' (I m.next S g).1∧Hp (gH m) m' (I m.next S g).2) (fun S t' m' ⟨g,g1,g0⟩=>?_) ?_ ?_ ?_
 ·refine⟨?_,?_,g1 _ _ (hI _ _ _)⟩
  ·rw[g0.ext.same bm (by rw[cO]; have:=hp.2.1; omega),eo,if_neg (by have:=hp.2.1; omega)]
   exact hp.2.2
  ·have:=g0.ext.wl;rw[cO,mB] at this; omega
 ·obtain⟨j1,j2⟩:=hinit m.next
  exact⟨g2 m.next,Fr.sub (Fr.set (Fr.set hf)) j1,j2 _ _ (Hp.start _)⟩
 ·intro S i e t' m' x1 x2 x3 x4 ⟨g,g1,g0⟩;exact hstep m.next (gH m) S i e g x1 x2 x3 x4 _ _ (Fr.set (Fr.set (Fr.set g1))) g0
 ·intro S t' m' hS ⟨g,g1,g0⟩;exact hend m.next S g hS _ _ (Fr.set (Fr.set g1)) (hm.rq g0 (hbd _ _ _))
def uf (E:Env) (f:FuncId) (args:List Value) (m:AMem) (R:Value→AMem→Prop):Prop:=∀(j:aL) (w:World) (args':List Value),MR E j m w→LR j args args'→eK E.P false f args'.toArray w (fun v' w'=>∃v1 m1,R v1 m1∧fV E j m w v1 m1 v' w')
theorem sq (hE:EnvOk E) {f:FuncId} {F:Func} {args:List Value} {rs:List ResultVar} {N:Nat} {R:Value→AMem→Prop} {m:AMem} (hf:E.P.funcs[f]? = some F) (hb:F.body=some c) (hrs:F.results.toList=rs) (hN:max args.length F.ntmps=N)
  (h:eO E N f none c (fN E rs R) (Trie.ofList args 0 .nil) m):uf E f args m R:=fun j w args' hm hl=>by
 subst hrs hN;refine .inl ⟨hE.call f F c hf hb _ w,?_⟩;refine callsIn_of_wp_marks hf hb trivial ?_;refine wpIn_mono (h j w { tmps:=args'.toArray++Array.replicate (F.ntmps-args'.toArray.size) undef,defers:=[]} Fence.wide w.heap.size hm (TR.enter hl F.ntmps) rfl (Marks.nil _ _) (Nat.le_refl _)) ?_;rintro e' a' w' ⟨e,t',m',hq,rfl,j',s,ht,rs,hnd,hds,hrs⟩;have key:∀{vs:List Value},bY E t' m' F.results.toList=some vs→R (fm vs) m'→LeavesInM Fence.wide 0 E.P F a'.tmps (fun e w'=>∃v,e = .returned v∧∃v1 m1,R v1 m1∧fV E j m w v1 m1 v w') a'.defers .returning w':=by
  intro vs hvs hR;rw[hds];refine gp (fun w'' s'=>?_) rs w' s hnd hrs;obtain⟨v',hv1,hv2⟩:=jY s'.mr ht hvs;exact⟨v',hv1,v',rfl,fm vs,m',hR,j',s',hv2⟩
 cases e with
 | exit id=>exact hq.elim
 | normal =>
  simp only[fN] at hq;unfold oR at hq
  split at hq
  ·rename_i vs hv; exact key hv hq
  ·exact hq.elim
 | ret =>
  simp only[fN] at hq;unfold oR at hq
  split at hq
  ·rename_i vs hv; exact key hv hq
  ·exact hq.elim
theorem nO (hE:EnvOk E) {f:FuncId} {F:Func} {args:List Value} {rs:List ResultVar} {N:Nat} {R:Value→AMem→Prop} {m:AMem} (hf:E.P.funcs[f]? = some F) (hb:F.body=some c) (hrs:F.results.toList=rs) (hN:max args.length F.ntmps=N) (hm:Hp m0 m ps)
  (h:Vk E N f none c (fN E rs R) m0 (jz args 0 []) ps):uf E f args m R:=sq hE hf hb hrs hN (h _ m (Fr.args args 0 [] _ (Fr.nil _)) hm)
end
def om {α:Type} (r:Rep α):Prop:=∀(m:AMem) (R R':Nat→Prop) (x x':α) (g g':r.G),r.A m R x g→r.A m R' x' g'→r.V x g=r.V x' g'→x=x'
theorem nA {α:Type} {f:α→List Value} (hf:∀x y,f x=f y→x=y) {m:AMem} {a:Option Addr} {cap cap' w n n':Nat} {l l':List α} (h:Rd m a cap w n (l.map f)) (h':Rd m a cap' w n' (l'.map f)) (hn:n=n'):l=l':=by
 subst hn;have hl:l.length=l'.length:=by have:=h.1.trans h'.1.symm; simpa using this
 refine List.ext_getElem? fun i=>?_
 by_cases hi:i<l.length
 ·have e1:(l.map f)[i]? = some (f l[i]):=by simp[hi]
  have e2:(l'.map f)[i]? = some (f (l'[i]'(by omega))):=by simp[show i<l'.length by omega]
  have hn:0<n:=by have:=h.1; simp at this; omega
  rcases h.2.2 with⟨_,h0⟩|⟨_,_,_,h0,_⟩|⟨b,o,ha,_,all,tg,g1,_,g2⟩
  ·omega
  ·omega
  ·rcases h'.2.2 with⟨_,h0⟩|⟨_,_,_,h0,_⟩|⟨b',o',ha',_,all',tg',g1',_,g2'⟩
   ·omega
   ·omega
   ·rw[ha] at ha'; cases ha';rw[g1] at g1'; cases g1';have:=(g2 i _ e1).1.symm.trans (g2' i _ e2).1;rw[List.getElem?_eq_getElem hi,List.getElem?_eq_getElem (show i<l'.length by omega),hf _ _ this]
 ·rw[List.getElem?_eq_none (by omega),List.getElem?_eq_none (by omega)]
theorem lW {m:AMem} {a:Option Addr} {cap cap' w n n':Nat} {es es':List (List Value)} (h:Rd m a cap w n es) (h':Rd m a cap' w n' es') (hn:n=n'):es=es':=by
 have:=nA (f:=fun e:List Value=>e) (fun _ _ h=>h) (m:=m) (a:=a) (cap:=cap) (cap':=cap') (w:=w) (n:=n) (n':=n') (l:=es) (l':=es') (by rw[List.map_id']; exact h) (by rw[List.map_id']; exact h') hn
 exact this
theorem yf {α:Type} {f:α→List Value} {w:Nat} (hf:∀x y,f x=f y→x=y):om (rS f w):=fun m R R' x x' g g' h h' e=>by
 have e1:Value.slice g.1 x.length g.2 = .slice g'.1 x'.length g'.2:=List.head_eq_of_cons_eq e;injection e1 with e2 e3 e4;have h1:=h.1;have h2:=h'.1;rw[←e2] at h2;exact nA hf h1 h2 e3
theorem Deep.uniq {α:Type} {r:Rep α} (hr:om r) {m:AMem} {R R':Nat→Prop} {L L':List α} {es:List (List Value)} (h:Deep r m R L es) (h':Deep r m R' L' es):L=L':=by
 have hl:L.length=L'.length:=h.1.symm.trans h'.1;refine List.ext_getElem? fun i=>?_
 by_cases hi:i<L.length
 ·obtain⟨g,e1,a1⟩:=h.2 i L[i] (by simp)
  obtain⟨g',e2,a2⟩:=h'.2 i (L'[i]'(by omega)) (by simp)
  rw[List.getElem?_eq_getElem hi,List.getElem?_eq_getElem (show i<L'.length by omega),hr m R R' _ _ g g' a1 a2 (Option.some.inj (e1.symm.trans e2))]
 ·rw[List.getElem?_eq_none (by omega),List.getElem?_eq_none (by omega)]
theorem zN {α:Type} {r:Rep α} (hr:om r):om (rL r):=fun m R R' x x' g g' h h' e=>by
 have e1:Value.slice g.1 x.length g.2.1 = .slice g'.1 x'.length g'.2.1:=List.head_eq_of_cons_eq e;injection e1 with e2 e3 e4;have h1:=h.1;have h2:=h'.1;rw[←e2] at h2;have e5:=lW h1 h2 e3;have d2:=h'.2.2;rw[←e5] at d2;exact h.2.2.uniq hr d2
theorem zw {α β:Type} {r:Rep α} {s:Rep β} (hr:om r) (hs:om s):om (rP r s):=fun m R R' x x' g g' h h' e=>by
 have e0:r.V x.1 g.1++s.V x.2 g.2=r.V x'.1 g'.1++s.V x'.2 g'.2:=e;obtain⟨e1,e2⟩:=List.append_inj e0 (by rw[r.len,r.len])
 exact Prod.ext (hr m R R' _ _ _ _ h.1 h'.1 e1) (hs m R R' _ _ _ _ h.2 h'.2 e2)
section
variable {α : Type} {m0 m : AMem} {ps : List Pc} {r : Rep α}
theorem aa.yS {q i j:Nat} {R:Nat→Prop} {L L':List α} {es:List (List Value)} (hq:pk ps q=some (.gen (an r R L es))) (hL:L.take i++L.drop j=L'):aa m0 ps (.gen (an r R L' (es.take i++es.drop j))::ps):=fun m hm=>by
 subst hL;exact hm.rW hq (fun _=>dK) ⟨⟨by
  have h:=(hm.get hq).1.1;have h1:=h.sub 0 i;have h2:=h.sub j (L.length-j);rw[List.drop_zero,List.drop_zero] at h1;rw[List.take_of_length_le (by simp),List.take_of_length_le (by simp[h.1])] at h2
  exact h1.append h2,(hm.get hq).1.2⟩,fun _ b hb=>hb.elim⟩ (fun _=>dK) fun _ h=>h
end
end Go.Ab.W
end

section
namespace Go.Proofs.YtmndpgfbkicndaaGreat
open Go Go.Ab Go.Ab.W
abbrev dL:=Int × Int × Int × Int
abbrev dz:dL→List Value:=eP (eI .i64) (eP (eI .i64) (eP (eI .i64) (eI .i64)))
def bV:List Value→Option (List dL)
 | []=>some []
 | .int .i64 a::.int .i64 b::.int .i64 c::.int .i64 d::r=>(bV r).map ((a,b,c,d)::·)
 | _=>none
def cY (x y:dL):Bool:=decide (x.1<y.1∨x.1=y.1∧x.2.1≤y.2.1)
def k5 (l:List dL):Bool:=l.all (fun x=>decide (0≤x.1) && decide (x.1<120) && decide (0≤x.2.1) && decide (x.2.1<120)) && decide ((l.map fun x=>(x.1,x.2.1)).Nodup)
def hY (m:AMem) (w b n n':Nat):Option (List Value × Tag) :=
 match m.get b with
 | some (.cells cs .own)=>if n=n'∧cs.length=n*w then some (cs,.own) else none
 | some (.cells cs (.more k))=>if n=n'∧cs.length=n*w∧k=w then some (cs,.more k) else none
 | _=>none
def gm (args:List Value) (m:AMem):Option (Value × AMem) :=
 match args with
 | [.slice none 0 _,.func (.func 105) xs ys]=>if xs.size=0∧ys.size=0 then some (.tuple #[],m) else none
 | [.slice (some ⟨b,0,none⟩) n n',.func (.func 105) xs ys] =>
  match hY m 4 b n n' with
  | some (cs,tg) =>
   match bV cs with
   | some l=>if (xs.size=0∧ys.size=0)∧lim n=true∧k5 l=true then some (.tuple #[],m.set b (.cells ((l.mergeSort cY).map dz).flatten tg)) else none
   | none=>none
  | none=>none
 | _=>none
def jd (z:Value) (args:List Value) (m:AMem):Option (Value × AMem) :=
 match args with
 | [.slice (some ⟨b,0,none⟩) n n',.int .i64 i,.int .i64 j] =>
  match hY m 1 b n n' with
  | some (cs,tg)=>if 0≤i∧i≤j∧j≤n∧lim n=true∧cs.all gQ=true then some (.slice (some ⟨b,0,none⟩) (n-(j.toNat-i.toNat)) n,m.set b (.cells (cs.take i.toNat++cs.drop j.toNat++List.replicate (j.toNat-i.toNat) z) tg)) else none
  | none=>none
 | _=>none
def uJ (f:FuncId):Option Prim:=if f=104 then some ⟨gm⟩ else if f=115 then some ⟨jd (.slice none 0 0)⟩ else if f=101 then some ⟨jd (.int .i64 0)⟩ else none
@[reducible] noncomputable def E15v (p q:Option Prim):Env:={ P:=Tryz.prog,glob:=0,cu:=fun f=>if f=65 then p else if f=38 then q else uJ f,mono:=False}
theorem yO:ownKnob Tryz.prog.godebug=none:=by kernel_rfl
theorem oF:pX Tryz.prog=true:=by kernel_rfl
end Go.Proofs.YtmndpgfbkicndaaGreat
end

section
namespace Go.Proofs.YtmndpgfbkicndaaGreat
open Go Go.Ab Go.Ab.W
set_option maxRecDepth 10000
set_option maxHeartbeats 4000000
attribute [local irreducible] Tm.at Trie.set Trie.get AMem.get AMem.set AMem.alloc AMem.ww AMem.kill
variable {p q : Option Prim}
theorem yx {P:Program} {ty e l c l' c':Nat} (hu:P.underlying ty=some (.slice e)):cB .eql ty P (.slice none l c) (.slice none l' c')=some (.bool true):=by
 simp only[cB,Op.maxDepth,fU,hu,Option.map_some,Option.isNone_none]
theorem yo {P:Program} {ty e l c l' c':Nat} {A:Addr} (hu:P.underlying ty=some (.slice e)):cB .eql ty P (.slice (some A) l c) (.slice none l' c')=some (.bool false):=by
 simp only[cB,Op.maxDepth,fU,hu,Option.map_some]
theorem Rd.vi {m:AMem} {cap w n:Nat} {es:List (List Value)} (h:Rd m none cap w n es):n=0:=by
 rcases h.2.2 with⟨_,h⟩|⟨_,_,h,_⟩|⟨_,_,h,_⟩
 ·exact h
 ·cases h
 ·cases h
theorem xi:(E15v p q).P.underlying 29=some (.slice 28):=by kernel_rfl
theorem wX:SlT (E15v p q).P 29 28 1:=SlT.of (by kernel_rfl)
theorem zG:bq (E15v p q).P 28=some (.slice none 0 0):=by kernel_rfl
theorem tv (n:Nat) (es:List (List Value)) (a:Option Addr) (c:Nat) (hl:lim n=true) (hw:∀e ∈ es,e.length=1) (ho:dG es) (m:AMem) (h:Rd m a c 1 n es):aW (E15v p q) 116 [.slice a n c] m (fun v m'=>∃x:Option Addr,v = .slice x n n∧Hp m m' [.sl x 1 n es]):=by
 cases a with
 | none =>
  have h0:=Rd.vi h;subst h0;have:es = []:=List.length_eq_zero_iff.1 h.1;subst this;refine ak (m0:=m) (ps:=[]) (N:=8) (rs:=[.tmp 2]) rfl Tryz.func116 rfl rfl rfl (Hp.start m) ?_;refine Wk.seq ?_;refine Wk.region ?_;refine Wo.od (ai rfl) rfl ?_;refine Wo.nil ?_;refine At.tn ?_;refine Wk.seq ?_;refine Wk.seq ?_;refine Wk.region ?_;refine Wo.od (ab rfl) rfl ?_;refine Wo.od (aq rfl rfl (yx xi)) rfl ?_;refine Wo.nil ?_;refine At.tn ?_;refine Wk.ay rfl rfl ?_;refine Wk.seq ?_;refine Wk.region ?_;refine Wo.od (ai rfl) rfl ?_;refine Wo.nil ?_;refine At.tn ?_;refine Wk.ret ?_;refine At.tr ?_;exact At.ret (.tmp rfl .nil) fun m' hm=>⟨none,rfl,(aa.nil 1 rfl) m' hm⟩
 | some A =>
  refine ak (m0:=m) (ps:=[.rd (some A) c 1 n es]) (N:=8) (rs:=[.tmp 2]) rfl Tryz.func116 rfl rfl rfl ((Hp.start m).ct dy h) ?_;refine Wk.seq ?_;refine Wk.region ?_;refine Wo.od (ai rfl) rfl ?_;refine Wo.nil ?_;refine At.tn ?_;refine Wk.seq ?_;refine Wk.seq ?_;refine Wk.region ?_;refine Wo.od (ab rfl) rfl ?_;refine Wo.od (aq rfl rfl (yo xi)) rfl ?_;refine Wo.nil ?_;refine At.tn ?_;refine Wk.ax rfl rfl ?_;refine Wk.skip ?_;refine At.tn ?_;refine Wk.seq ?_;refine Wk.region ?_;refine Wo.x (aN (es:=[]) wX rfl (aO wX zG rfl rfl) rfl rfl) gn rfl fun b=>?_;refine Wo.od (ab rfl) rfl ?_;refine Wo.aG (aa.close (k:=0) rfl) ?_;refine Wo.x (y6 (k:=0) (k2:=1) (n:=0) (es:=[]) (es2:=es) wX ⟨_,xi⟩ rfl rfl rfl (.rd _ _ _ _ _) hw ho (by rw[Nat.zero_add]; exact hl)) gn rfl fun a2=>?_
  refine Wo.od (ai rfl) rfl ?_;refine Wo.nil ?_;refine At.tn ?_;refine Wk.ret ?_;exact At.ret (.tmp rfl .nil) fun m' hm=>⟨a2,by show Value.slice a2 (0+n) (0+n)=_; rw[Nat.zero_add],by
   have:=(aa.U [0] rfl rfl) m' hm;rwa[Nat.zero_add] at this⟩
def yP (_:Nat) (l:List (List Int)):Option (List (List Int)):=gd (lim l.length) (some l)
theorem uF (n:Nat) (l:List (List Int)) (es:List (List Value)) {R:Nat→Prop} (a:Option Addr) (c:Nat) (r:List (List Int)) (hF:yP n l=some r) (m:AMem) (h:Rd m a c 1 l.length es) (hd:(an (rS (eI .i64) 1) R l es).P m):aW (E15v p q) 116 [.slice a l.length c] m (fun v m'=>∃x:Option Addr × Nat,v = .slice x.1 x.2 x.2∧Hp m m' [.sl x.1 1 x.2 es]):=by
 obtain⟨hl,hF⟩:=al hF;exact(tv l.length es a c hl (fun e he=>hd.1.width e he) hd.1.dG m h).mono fun v m' ⟨x,h1,h2⟩=>⟨(x,l.length),h1,h2⟩
def xb (_:Nat) (l:List (List Int)) (i j:Int):Option (List (List Int)):=gd (decide (0<l.length) && decide (0≤i) && decide (i≤j) && decide (j≤(l.length:Int)) && lim l.length) (some (l.take i.toNat++l.drop j.toNat))
theorem rU (n:Nat) {m0 m:AMem} {ps:List Pc} {k qq:Nat} {a:Option Addr} {R:Nat→Prop} {l r:List (List Int)} {es:List (List Value)} {i j:Int} (h:Hp m0 m ps) (hp:pk ps k=some (.sl a 1 l.length es)) (hq:pk ps qq=some (.gen (an (rS (eI .i64) 1) R l es))) (hF:xb n l i j=some r) :
  aW (E15v p q) 115 [.slice a l.length l.length,.int .i64 i,.int .i64 j] m (fun v m'=>∃_:Unit,v = .slice a r.length l.length∧Hp m0 m' (bM ps k (.gen (jo a l.length 1 r.length (es.take i.toNat++es.drop j.toNat))))):=by
 obtain⟨hc,hF⟩:=al hF;simp only[Bool.and_eq_true,decide_eq_true_eq] at hc;obtain⟨⟨⟨⟨c0,c1⟩,c2⟩,c3⟩,c4⟩:=hc;have hr:=Option.some.inj hF;subst hr;have hel:es.length=l.length:=jS h hq;have hwid:∀e ∈ es,e.length=1:=fun e he=>(h.get hq).1.1.width e he;rcases h.get hp with⟨h0,_⟩|⟨b,tg,rfl,g1,g2,g3,g4,g5,g6,g7⟩
 ·omega
 ·have hfl:es.flatten.length=l.length*1:=by rw[cd hwid,hel]
  have hwb:hY m 1 b l.length l.length=some (es.flatten,tg):=by
   unfold hY;rcases g6 with rfl|rfl<;>simp only[g3]
   ·rw[if_pos ⟨trivial,hfl⟩]
   ·rw[if_pos ⟨trivial,hfl,trivial⟩]
  have ft:∀(k:Nat) (l:List (List Value)),(∀e ∈ l,e.length=1)→(l.take k).flatten=l.flatten.take k∧(l.drop k).flatten=l.flatten.drop k:=by
   intro k l
   induction l generalizing k with
   | nil=>intro _; simp
   | cons e l ih =>
    intro hl;cases k with
    | zero=>simp
    | succ k =>
     obtain⟨x1,x2⟩:=ih k fun e he=>hl e (List.mem_cons_of_mem _ he);have he:=hl e (List.mem_cons_self ..);obtain⟨y,rfl⟩:∃y,e = [y]:=List.length_eq_one_iff.1 he;simp[x1,x2]
  have hlen:(l.take i.toNat++l.drop j.toNat).length=l.length-(j.toNat-i.toNat):=by simp; omega
  refine aW.cu (p:=⟨jd (.slice none 0 0)⟩) rfl (v:=.slice (some ⟨b,0,none⟩) (l.take i.toNat++l.drop j.toNat).length l.length) (m':=m.set b (.cells (es.flatten.take i.toNat++es.flatten.drop j.toNat++List.replicate (j.toNat-i.toNat) (.slice none 0 0)) tg)) ?_ ⟨(),rfl,?_⟩
  ·show jd _ [.slice (some ⟨b,0,none⟩) l.length l.length,.int .i64 i,.int .i64 j] m=_
   simp only[jd,hwb];rw[if_pos ⟨c1,c2,c3,c4,ig (h.get hq).1.1.dG⟩,hlen]
  ·refine h.sW hp (fun b' hb=>.inl (.inl ⟨rfl,hb.elim (fun h=>by cases h.1) id⟩)) (fun b' hb=>.inl (.inl (hb.elim (fun h=>by cases h) fun h=>h.elim id fun h=>h.elim))) (by rw[AMem.next_set]; exact Nat.le_refl _) (h.ext.set g1 _) ⟨⟨?_,?_,by decide,by rw[hlen]; omega,.inr ⟨b,List.replicate (j.toNat-i.toNat) (.slice none 0 0),tg,rfl,by rw[AMem.next_set]; exact g2,?_,g6,?_⟩⟩,fun _ b' hb=>by cases hb; exact g1⟩ fun b' hb hlt=>?_
   ·rw[hlen]; simp; omega
   ·intro e he;rcases List.mem_append.1 he with he|he
    ·exact hwid e (List.mem_of_mem_take he)
    ·exact hwid e (List.mem_of_mem_drop he)
   ·rw[AMem.bB,if_pos rfl,List.flatten_append,(ft _ es hwid).1,(ft _ es hwid).2]
   ·have e1:=(ft i.toNat es hwid).1;have e2:=(ft j.toNat es hwid).2;rw[List.flatten_append,e1,e2];simp[hfl]; omega
   ·rw[AMem.bB,if_neg fun e=>hb (.inl ⟨rfl,by rw[e]; rfl⟩)]
theorem uU {n:Nat} {l r:List (List Int)} {i j:Int} (h:xb n l i j=some r):l.take i.toNat++l.drop j.toNat=r:=by
 obtain⟨_,h⟩:=al h;exact Option.some.inj h
end Go.Proofs.YtmndpgfbkicndaaGreat
end

section
namespace Go.Ab.W
open Go Go.Ab
section
variable {E : Env} {n : Nat} {m0 : AMem} {fs : Fs} {ps : List Pc} {x : Operand} {v : Value} {ty : TypeId}
end
class TyC (P:Program) (ty:TypeId) (ag:outParam Bool) (sz:outParam Nat):Prop where
 t:TyI P ty ag sz
class FaC (P:Program) (ty:TypeId) (f:Nat) (off:outParam Nat):Prop where
 t:∀b o:Nat,aM P ty (ptr b o) f=some (ptr b (o+off))
class SlC (P:Program) (ty:TypeId) (el:outParam TypeId) (w:outParam Nat):Prop where
 t:SlT P ty el w
class ArC (P:Program) (ty:TypeId) (el:outParam TypeId) (len w:outParam Nat):Prop where
 t:ArT P ty el len w
class UsC (P:Program) (ty:TypeId) (el:outParam TypeId):Prop where
 t:P.underlying ty=some (.slice el)
section
variable {E : Env} {n : Nat} {m0 : AMem} {fs : Fs} {ps ps' : List Pc} {ops : Array Oper} {os : List Oper} {K : Tm → AMem → Prop} {dr : Bool}
variable {ty : TypeId} {p : String} {af : Array Edge} {d : Option Nat} {o : Op} {g : Option (Nat × Bool)} {v : Value}
end
section
variable {k : IntKind} {P : Program} {ty : TypeId}
end
section
variable {E : Env} {n : Nat} {m0 : AMem} {fs : Fs} {ps ps' : List Pc} {ops : Array Oper} {os : List Oper} {K : Tm → AMem → Prop} {dr : Bool}
variable {ty ty' oty : TypeId} {p : String} {af : Array Edge} {d : Nat} {dd : Option Nat} {o : Op} {a b r v : Value} {x y c : Operand}
def zT (ps:List Pc) (q q':Pc) (ps':List Pc):Prop:=∃k,pk ps k=some q∧bM ps k q'=ps'
end
structure Bx (Q:Prop):Prop where
 v:Q
section
variable {E : Env} {n : Nat} {m0 : AMem} {fs : Fs} {ps : List Pc} {fn : FuncId} {ro : Option Nat} {c : Code} {Q : AExit → Tm → AMem → Prop}
end
section
variable {E : Env} {n : Nat} {m0 : AMem} {fs fs' : Fs} {ps ps' : List Pc} {ops : Array Oper} {os : List Oper} {K : Tm → AMem → Prop} {dr : Bool} {fn : FuncId} {ro : Option Nat} {c : Code} {Q : AExit → Tm → AMem → Prop}
variable {ty oty : TypeId} {p : String} {af : Array Edge} {d : Nat} {g : Option (Nat × Bool)} {x : Operand} {v : Value}
def ap {ρ:Type} {δ:ρ→Type} (X:(r:ρ)→δ r→En) (r:ρ):δ r→En:=X r
theorem lo {σ ρ γ:Type} {δ:ρ→Type} {body:σ→Option (σ ⊕ ρ)} {X:(r:ρ)→δ r→En} {N:Nat} {s:σ} {r:ρ} (h:eC body N s=some r) (g:γ) (ks:List Nat) (I:σ→γ→En)
  (hb:∀s g r,body s=some r→Wk E n fn ro c (match r with | .inl s'=>ll m0 (I s') | .inr r=>ll m0 (X r)) m0 (I s g).fs (I s g).ps)
  (hs:sub fs (I s g).fs:=by repeat first|exact sn|refine sc rfl ?_) (hd:ji ks=true:=by rfl) (hp:U ps ks=some (I s g).ps:=by rfl)
  (hn:∀s g,(I s g).e = .normal:=by exact fun _ _=>rfl) (hx:∀r g,(X r g).e≠.normal:=by intro r d; first | (intro e; cases e; done) | (rcases r with r|r<;>first | (intro e; cases e; done) | (rcases r with r|r<;>first | (intro e; cases e; done) | (rcases r with r|r<;>intro e<;>cases e)))):Wk E n fn ro (.loop c) (ll m0 (ap X r)) m0 fs ps:=.bZ hs (aa.U ks hd hp) (Wk.loop body I X hb hn hx N s r h g)
variable {m : AMem} {a : Option Addr} {cap w l : Nat} {es : List (List Value)}
variable {α : Type} {V : α → Value} {N : α → List Pc} {R : α → Pc} {f : Operand} {q : FuncId} {ars : Array Operand} {ts : Array TypeId} {args : List Value} {prs : List (Nat × Nat)} {ss : List Nk}
theorem wc (hg:nG ops fs g true) (hc:∀m,Hp m0 m ps→aW E q args m (fun v m'=>∃x,v=V x∧Hp m m' (N x))) (k:∀x,Wo dr E n ops K os m0 ((d,V x)::fs) (N x++ps)) (hf:ev E fs f=some (.func (.func q) #[] #[]):=by rfl) (ha:fQ E fs ars.toList=some args:=by rfl) (ho:∀x,mM (N x)=true:=by exact fun _=>rfl) (hd:Nat.blt d n=true:=by rfl):Wo dr E n ops K (⟨some d,.call ⟨.value f,ars,ts⟩,ty,p,af,g⟩::os) m0 fs ps:=Wo.x (aR hf ha hc ho) hg hd k
theorem nc (hg:nG ops fs g true) (hc:∀m,Hp m0 m ps→aW E q args m (fun v m'=>∃x,v=V x∧Hp m m' (N x))) (k:∀x,Wn E n ops prs K os (.call::ss) m0 ((d,V x)::fs) (N x++ps)) (hf:ev E fs f=some (.func (.func q) #[] #[]):=by rfl) (ha:fQ E fs ars.toList=some args:=by rfl) (ho:∀x,mM (N x)=true:=by exact fun _=>rfl) (hd:Nat.blt d n=true:=by rfl):Wn E n ops prs K (⟨some d,.call ⟨.value f,ars,ts⟩,ty,p,af,g⟩::os) ss m0 fs ps:=Wn.c (fL hf ha hc ho) hg hd k
end
end Go.Ab.W
end

section
namespace Go.Proofs.YtmndpgfbkicndaaGreat
open Go Go.Ab Go.Ab.W
def wq (n:Nat) (l1:List (List (List Int))):(Int × Int)→Option ((Int × Int) ⊕ (Int)):=fun(v12,v13) =>
br (decide (v13<(l1.length:Int))) (
gd (cg v13 l1.length) (
ob (l1[v13.toNat]?) fun l49 =>
br (decide (IntKind.wrap .i64 (v12+(l49.length:Int))<0)) (
none) (
some (.inl (IntKind.wrap .i64 (v12+(l49.length:Int)),IntKind.wrap .i64 (v13+1)))))) (
some (.inr v12))
def wT (n:Nat) (l1:List (List (List Int))):(List (List Int) × Int)→Option ((List (List Int) × Int) ⊕ (List (List Int))):=fun(l2,v0) =>
br (decide (v0<(l1.length:Int))) (
gd (cg v0 l1.length) (
ob (l1[v0.toNat]?) fun l3 =>
gd (lim (l2++l3).length) (
some (.inl ((l2++l3),IntKind.wrap .i64 (v0+1)))))) (
some (.inr l2))
def zM (n:Nat) (l1:List (List (List Int))):Option (List (List Int)) :=
ob (
eC (wq n l1) n (0,0)) fun v0 =>
ob (
br (decide (v0<0)) (
none) (
ob (
br (decide (0<IntKind.wrap .i64 (v0-(IntKind.wrap .i64 (0-0))))) (
gd (decide ((0:Int)<IntKind.wrap .i64 (v0-(IntKind.wrap .i64 (0-0))))) (gd (lim ((IntKind.wrap .i64 (v0-(IntKind.wrap .i64 (0-0)))).toNat)) (
gd (okB 0 0 ((IntKind.wrap .i64 (v0-(IntKind.wrap .i64 (0-0)))).toNat)) (
gd (decide (0<((IntKind.wrap .i64 (v0-(IntKind.wrap .i64 (0-0)))).toNat))) (
some ((List.replicate (IntKind.wrap .i64 (v0-(IntKind.wrap .i64 (0-0)))).toNat ([]:List Int)).take (0:Int).toNat)))))) (
some ([]:List (List Int)))) fun l2 =>
some l2)) fun l3 =>
ob (
eC (wT n l1) n (l3,0)) fun l4 =>
some l4
def rv (n:Nat) (l1:List (Int)) (l6:List (List Int)):Option (List (List Int)) :=
ob (zM n ([[l1],l6])) fun l23 =>
some l23
def wU (n:Nat) (l1:List Int) (v1:Int):(Int × List ((Int × Int) × (Int × Int × Int × Int)))→Option ((Int × List ((Int × Int) × (Int × Int × Int × Int))) ⊕ (List ((Int × Int) × (Int × Int × Int × Int)))):=fun(v0,l2) =>
br (decide (v0<(l1.length:Int))) (
gd (cg v0 l1.length) (
ob (l1[v0.toNat]?) fun x3 =>
gd (decide ((l1.length:Int)≠0)) (
gd (cg (Int.tmod (IntKind.wrap .i64 (v0+1)) (l1.length:Int)) l1.length) (
ob (l1[(Int.tmod (IntKind.wrap .i64 (v0+1)) (l1.length:Int)).toNat]?) fun x4 =>
ob (
ob (some ((gO l2 (mi x3 x4,ma x3 x4)).getD ((0:Int),(0:Int),(0:Int),(0:Int)),(gO l2 (mi x3 x4,ma x3 x4)).isSome)) fun((y0,y1,y2,y3),y4) =>
ob (
br (!y4) (
some (mi x3 x4,ma x3 x4,-1,-1)) (
some (y0,y1,y2,y3))) fun(v2,v3,v4,v5) =>
ob (
br (decide (x3=mi x3 x4)) (
some (v1,v5)) (
some (v4,v1))) fun(v6,v7) =>
some (lC l2 (mi x3 x4,ma x3 x4) (v2,v3,v6,v7))) fun l3 =>
some (.inl (IntKind.wrap .i64 (v0+1),l3)))))) (
some (.inr l2))
def vW (n:Nat) (l1:List (List Int)) (v1:Int):(Int × List ((Int × Int) × (Int × Int × Int × Int)))→Option ((Int × List ((Int × Int) × (Int × Int × Int × Int))) ⊕ (List ((Int × Int) × (Int × Int × Int × Int)))):=fun(v0,l2) =>
br (decide (v0<(l1.length:Int))) (
gd (cg v0 l1.length) (
ob (l1[v0.toNat]?) fun l3 =>
ob (
eC (wU n l3 v1) n (0,l2)) fun l4 =>
some (.inl (IntKind.wrap .i64 (v0+1),l4)))) (
some (.inr l2))
def wu (n:Nat) (l1:List (List Int × List (List Int))):(Int × List ((Int × Int) × (Int × Int × Int × Int)))→Option ((Int × List ((Int × Int) × (Int × Int × Int × Int))) ⊕ (List ((Int × Int) × (Int × Int × Int × Int)))):=fun(v0,l2) =>
br (decide (v0<(l1.length:Int))) (
gd (cg v0 l1.length) (
ob (l1[v0.toNat]?) fun(l3,l4) =>
ob (rv n l3 l4) fun l5 =>
ob (
eC (vW n l5 v0) n (0,l2)) fun l6 =>
some (.inl (IntKind.wrap .i64 (v0+1),l6)))) (
some (.inr l2))
def xx (n:Nat) (l5:List (Int × Int)) (l1:List (List Int × List (List Int))):Option (List ((Int × Int) × (Int × Int × Int × Int))) :=
ob (
some ([]:List ((Int × Int) × (Int × Int × Int × Int)))) fun l2 =>
ob (
ob (
eC (wu n l1) n (0,l2)) fun l3 =>
some l3) fun l4 =>
some l4
def q5 (x:dL):List dL→List dL
 | []=>[x]
 | y::l=>if cY x y then x::y::l else y::q5 x l
def kA:List dL→List dL
 | []=>[]
 | x::l=>q5 x (kA l)
def vj (_:Nat) (l1:List (Int × Int)) (l5:List (List Int × List (List Int))):Option (List dL) :=
 ob (xx 100000 l1 l5) fun es=>gd (k5 (es.map (·.2)) && lim es.length) (some (kA (es.map (·.2))))
def zh (n:Nat) (x1:Int) (x2:Int):Option (Bool) :=
br (decide (mi x1 x2 < -1000000)) (
some true) (
some (decide (1000000<ma x1 x2)))
def wK (n:Nat) (l1:List (Int)):(Int × Int)→Option ((Int × Int) ⊕ (Int)):=fun(v14,v15) =>
br (decide (v15<(l1.length:Int))) (
gd (cg v15 l1.length) (
ob (l1[v15.toNat]?) fun x25 =>
some (.inl (mi v14 x25,IntKind.wrap .i64 (v15+1))))) (
some (.inr v14))
def zO (n:Nat) (l1:List (Int)):Option (Int) :=
br (decide ((l1.length:Int)<1)) (
none) (
gd (cg 0 l1.length) (
ob (l1[(0:Int).toNat]?) fun x10 =>
ob (
eC (wK n l1) n (x10,1)) fun v22 =>
some v22))
def wh (n:Nat) (l1:List (Int)):(Int × Int)→Option ((Int × Int) ⊕ (Int)):=fun(v14,v15) =>
br (decide (v15<(l1.length:Int))) (
gd (cg v15 l1.length) (
ob (l1[v15.toNat]?) fun x25 =>
some (.inl (ma v14 x25,IntKind.wrap .i64 (v15+1))))) (
some (.inr v14))
def zt (n:Nat) (l1:List (Int)):Option (Int) :=
br (decide ((l1.length:Int)<1)) (
none) (
gd (cg 0 l1.length) (
ob (l1[(0:Int).toNat]?) fun x10 =>
ob (
eC (wh n l1) n (x10,1)) fun v22 =>
some v22))
def wA (n:Nat) (l12:List (Int)) (l1:List (Int × Int)) (x16:Int):(List (Int × Int) × Int)→Option ((List (Int × Int) × Int) ⊕ (List (Int × Int))):=fun(l36,v38) =>
br (decide (v38<(l12.length:Int))) (
gd (cg v38 l12.length) (
ob (l12[v38.toNat]?) fun x64 =>
gd (cg x64 l1.length) (
ob (l1[x64.toNat]?) fun(x69,x70) =>
gd (cg x64 l1.length) (
gd (lim (l36++[(IntKind.wrap .i64 (x16*x69),IntKind.wrap .i64 (x16*x70))]).length) (
some (.inl ((l36++[(IntKind.wrap .i64 (x16*x69),IntKind.wrap .i64 (x16*x70))]),IntKind.wrap .i64 (v38+1)))))))) (
some (.inr l36))
def vK (n:Nat) (l1:List (Int × Int)) (l5:List (List Int × List (List Int))) (l12:List (Int)) (x16:Int):Option (List (Int × Int)) :=
ob (
eC (wA n l12 l1 x16) n (([]:List (Int × Int)),0)) fun l58 =>
some l58
def pw (n:Nat) (x1:Int) (x2:Int):Option (Bool) :=
ob (some (ma (ma (ma x1 (IntKind.wrap .i64 (0-x1))) x2) (IntKind.wrap .i64 (0-x2)))) fun y4 =>
br (decide (1000000<y4)) (
some true) (
some (decide (mi x1 x2 < -1000000)))
def uG (n:Nat) (x1:Int):Option (Bool) :=
some (!decide (x1=x1))
def tz (n:Nat) (x1:Int) (x2:Int):Option (Int) :=
ob (uG n x1) fun r4 =>
ob (uG n x2) fun r6 =>
br (r4) (
br (r6) (
some 0) (
some (-1))) (
br (r6) (
some 1) (
br (decide (x1<x2)) (
some (-1)) (
br (decide (x2<x1)) (
some 1) (
some 0))))
def oB (n:Nat) (x1:Int) (x2:Int) (x3:Int) (x4:Int) (x5:Int) (x6:Int):Option (Int) :=
ob (some (IntKind.wrap .i64 ((IntKind.wrap .i64 (x3-x1))*(IntKind.wrap .i64 (x6-x2))))) fun y10 =>
ob (some (IntKind.wrap .i64 ((IntKind.wrap .i64 (x4-x2))*(IntKind.wrap .i64 (x5-x1))))) fun y12 =>
ob (tz n y10 y12) fun r15 =>
some r15
def sb (n:Nat) (l1:List (Int)):Int→Option ((Int) ⊕ ((Int) ⊕ (Unit))):=fun v6 =>
br (decide (v6<(l1.length:Int))) (
gd (cg v6 l1.length) (
ob (l1[v6.toNat]?) fun x20 =>
br (!decide (x20=0)) (
some (.inr (.inl x20))) (
some (.inl (IntKind.wrap .i64 (v6+1)))))) (
some (.inr (.inr ())))
def xT (n:Nat) (l1:List (Int)):Option (Int) :=
ob (α:=(Int) ⊕ (Unit)) (
eC (sb n l1) n 0) fun r24=>match r24 with
| .inl v15 =>
some v15
| .inr _ =>
some 0
def sU (n:Nat) (x1:Int) (x2:Int) (x3:Int) (x4:Int):Option (Int) :=
ob (tz n x1 x3) fun r8 =>
ob (tz n x2 x4) fun r10 =>
ob (xT n ([r8,r10])) fun r13 =>
some r13
def vA (n:Nat) (x1:Int) (x2:Int) (x3:Int) (x4:Int) (x5:Int) (x6:Int) (x7:Int):Option (Bool) :=
ob (oB n x2 x3 x4 x5 x6 x7) fun r11 =>
br (!decide (r11=0)) (
some false) (
ob (
ob (sU n x2 x3 x4 x5) fun r23 =>
br (decide (0<r23)) (
some (x4,x5,x2,x3)) (
some (x2,x3,x4,x5))) fun(v18,v19,v20,v21) =>
ob (sU n v18 v19 x6 x7) fun r28 =>
br (decide (r28≤0)) (
ob (sU n x6 x7 v20 v21) fun r31 =>
some (decide (r31≤0))) (
some false))
def uc (n:Nat) (x2:Int) (x5:Int) (x6:Int) (x7:Int) (x8:Int) (x9:Int) (x10:Int) (x11:Int) (x1:Int) (x12:Int):(List ((Int × Int) × Bool) × Int)→Option ((List ((Int × Int) × Bool) × Int) ⊕ (List ((Int × Int) × Bool))):=fun(l1,v0) =>
br (decide (v0<4)) (
ob (
gd (cg v0 4) (
ob ([(x2,x5),(x6,x7),(x8,x9),(x10,x11)][v0.toNat]?) fun(x3,x4) =>
ob (
ob (vA n x1 x2 x5 x6 x7 x3 x4) fun r0 =>
br (r0) (
ob (vA n x12 x8 x9 x10 x11 x3 x4) fun r1 =>
some r1) (
some false)) fun v1 =>
br (v1) (
some (lC l1 (x3,x4) true)) (
some l1))) fun l2 =>
some (.inl (l2,IntKind.wrap .i64 (v0+1)))) (
some (.inr l1))
def vo (n:Nat) (x1:Int) (x2:Int) (x3:Int) (x4:Int) (x5:Int) (x10:Int) (x6:Int) (x7:Int) (x8:Int) (x9:Int):Option (Int) :=
ob (oB n x2 x3 x4 x5 x6 x7) fun r0 =>
ob (oB n x2 x3 x4 x5 x8 x9) fun r1 =>
ob (oB n x6 x7 x8 x9 x2 x3) fun r3 =>
ob (oB n x6 x7 x8 x9 x4 x5) fun r4 =>
ob (
eC (uc n x2 x3 x4 x5 x6 x7 x8 x9 x1 x10) n (([]:List ((Int × Int) × Bool)),0)) fun l1 =>
ob (some (l1.length)) fun y0 =>
br (decide (1<(y0:Int))) (
some 3) (
ob (some (l1.length)) fun y1 =>
br (decide ((y1:Int)=1)) (
some 1) (
ob (
br (decide (IntKind.wrap .i64 (r0*r1)<0)) (
some (decide (IntKind.wrap .i64 (r3*r4)<0))) (
some false)) fun v0 =>
br (v0) (
some 2) (
some 0)))
def tG (n:Nat) (l1:List (Int × Int)):Int→Option ((Int) ⊕ ((Int) ⊕ (Unit))):=fun v49 =>
br (decide (v49<(l1.length:Int))) (
gd (cg v49 l1.length) (
ob (l1[v49.toNat]?) fun(x66,x67) =>
ob (pw n x66 x67) fun r70 =>
br (r70) (
some (.inr (.inl v49))) (
some (.inl (IntKind.wrap .i64 (v49+1)))))) (
some (.inr (.inr ())))
def ti (n:Nat) (l1:List (Int × Int)):Int→Option ((Int) ⊕ ((Int) ⊕ (Unit))):=fun v0 =>
br (decide (v0<(l1.length:Int))) (
gd (cg v0 l1.length) (
ob (l1[v0.toNat]?) fun(x3,x4) =>
gd (decide ((l1.length:Int)≠0)) (
gd (cg (Int.tmod (IntKind.wrap .i64 (v0+1)) (l1.length:Int)) l1.length) (
ob (l1[(Int.tmod (IntKind.wrap .i64 (v0+1)) (l1.length:Int)).toNat]?) fun(x5,x6) =>
ob (α:=(Unit) ⊕ (Unit)) (
br ((decide (x3=x5) && decide (x4=x6))) (
some (.inl ())) (
some (.inr ()))) fun r0=>match r0 with
| .inl _ =>
some (.inr (.inl v0))
| .inr _ =>
some (.inl (IntKind.wrap .i64 (v0+1))))))) (
some (.inr (.inr ())))
def sS (n:Nat) (l1:List (Int × Int)):Int→Option ((Int) ⊕ ((Int) ⊕ (Unit))):=fun v0 =>
br (decide (v0<(l1.length:Int))) (
gd (cg v0 l1.length) (
ob (l1[v0.toNat]?) fun(x3,x4) =>
gd (decide ((l1.length:Int)≠0)) (
gd (cg (Int.tmod (IntKind.wrap .i64 (v0+1)) (l1.length:Int)) l1.length) (
ob (l1[(Int.tmod (IntKind.wrap .i64 (v0+1)) (l1.length:Int)).toNat]?) fun(x5,x6) =>
ob (α:=(Unit) ⊕ (Unit)) (
gd (decide ((l1.length:Int)≠0)) (
ob (some (Int.tmod (IntKind.wrap .i64 ((IntKind.wrap .i64 (v0+(l1.length:Int)))-1)) (l1.length:Int))) fun y0 =>
gd (cg y0 l1.length) (
ob (l1[y0.toNat]?) fun(x7,x8) =>
ob (
ob (oB n x7 x8 x3 x4 x5 x6) fun r0 =>
br (decide (r0=0)) (
ob (some (IntKind.wrap .i64 ((IntKind.wrap .i64 (x3-x7))*(IntKind.wrap .i64 (x5-x3))))) fun y1 =>
ob (some (IntKind.wrap .i64 ((IntKind.wrap .i64 (x4-x8))*(IntKind.wrap .i64 (x6-x4))))) fun y2 =>
some (decide (IntKind.wrap .i64 (y1+y2)<0))) (
some false)) fun v1 =>
br (v1) (
some (.inl ())) (
some (.inr ()))))) fun r1=>match r1 with
| .inl _ =>
some (.inr (.inl v0))
| .inr _ =>
some (.inl (IntKind.wrap .i64 (v0+1))))))) (
some (.inr (.inr ())))
def sD (n:Nat) (l1:List (Int × Int)) (v1:Int) (x3:Int) (x4:Int) (x5:Int) (x6:Int):Int→Option ((Int) ⊕ ((Unit) ⊕ ((Unit) ⊕ (Unit)))):=fun v0 =>
br (decide (v0<(l1.length:Int))) (
gd (cg v0 l1.length) (
ob (l1[v0.toNat]?) fun(x7,x8) =>
gd (decide ((l1.length:Int)≠0)) (
gd (cg (Int.tmod (IntKind.wrap .i64 (v0+1)) (l1.length:Int)) l1.length) (
ob (l1[(Int.tmod (IntKind.wrap .i64 (v0+1)) (l1.length:Int)).toNat]?) fun(x9,x10) =>
ob (α:=(Unit) ⊕ ((Unit) ⊕ (Unit))) (
br (decide (IntKind.wrap .i64 (v1-1)≤v0)) (
some (.inl ())) (
ob (
br (decide (v0=0)) (
some (decide (v1=IntKind.wrap .i64 ((l1.length:Int)-1)))) (
some false)) fun v2 =>
br (v2) (
some (.inr (.inl ()))) (
ob (vo n v1 x3 x4 x5 x6 v0 x7 x8 x9 x10) fun r0 =>
br (!decide (r0=0)) (
some (.inr (.inr ()))) (
some (.inr (.inl ())))))) fun r1=>match r1 with
| .inl _ =>
some (.inr (.inl ()))
| .inr (.inl _) =>
some (.inl (IntKind.wrap .i64 (v0+1)))
| .inr (.inr _) =>
some (.inr (.inr (.inl ()))))))) (
some (.inr (.inr (.inr ()))))
def uo (n:Nat) (l1:List (Int × Int)):Int→Option ((Int) ⊕ ((Int) ⊕ (Unit))):=fun v0 =>
br (decide (v0<(l1.length:Int))) (
gd (cg v0 l1.length) (
ob (l1[v0.toNat]?) fun(x3,x4) =>
gd (decide ((l1.length:Int)≠0)) (
gd (cg (Int.tmod (IntKind.wrap .i64 (v0+1)) (l1.length:Int)) l1.length) (
ob (l1[(Int.tmod (IntKind.wrap .i64 (v0+1)) (l1.length:Int)).toNat]?) fun(x5,x6) =>
ob (α:=(Unit) ⊕ (Unit)) (
ob (
some ()) fun _ =>
ob (α:=(Unit) ⊕ ((Unit) ⊕ (Unit))) (
ob (α:=(Unit) ⊕ ((Unit) ⊕ (Unit))) (
eC (sD n l1 v0 x3 x4 x5 x6) n 0) fun r0=>match r0 with
| .inl _ =>
some (.inl ())
| .inr (.inl _) =>
some (.inr (.inl ()))
| .inr (.inr _) =>
some (.inr (.inr ()))) fun r1=>match r1 with
| .inl _ =>
some (.inl ())
| .inr (.inl _) =>
some (.inr ())
| .inr (.inr _) =>
some (.inl ())) fun r3=>match r3 with
| .inl _ =>
some (.inl (IntKind.wrap .i64 (v0+1)))
| .inr _ =>
some (.inr (.inl v0)))))) (
some (.inr (.inr ())))
def xH (n:Nat) (l1:List (Int × Int)):Option (Int × Int) :=
ob (
br (decide ((l1.length:Int)<3)) (
some true) (
some (decide (40<(l1.length:Int))))) fun v1 =>
br (v1) (
some (1,0)) (
ob (
ob (α:=(Int) ⊕ (Unit)) (
eC (tG n l1) n 0) fun r0=>match r0 with
| .inl v2 =>
some v2
| .inr _ =>
some (-1)) fun v0 =>
br (decide (0≤v0)) (
some (2,v0)) (
ob (
some ()) fun _ =>
ob (α:=(Int) ⊕ (Unit)) (
ob (α:=(Int) ⊕ (Unit)) (
eC (ti n l1) n 0) fun r1=>match r1 with
| .inl v3 =>
some (.inl v3)
| .inr _ =>
some (.inr ())) fun r3=>match r3 with
| .inl v4 =>
some (3,v4)
| .inr _ =>
ob (
some ()) fun _ =>
ob (α:=(Int) ⊕ (Unit)) (
ob (α:=(Int) ⊕ (Unit)) (
eC (sS n l1) n 0) fun r4=>match r4 with
| .inl v5 =>
some (.inl v5)
| .inr _ =>
some (.inr ())) fun r5=>match r5 with
| .inl v6 =>
some (4,v6)
| .inr _ =>
ob (
some ()) fun _ =>
ob (α:=(Int) ⊕ (Unit)) (
ob (α:=(Int) ⊕ (Unit)) (
eC (uo n l1) n 0) fun r6=>match r6 with
| .inl v7 =>
some (.inl v7)
| .inr _ =>
some (.inr ())) fun r7=>match r7 with
| .inl v8 =>
some (5,v8)
| .inr _ =>
some (0,0)))
def zE (n:Nat) (l1:List (Int × Int)):Option (Int) :=
ob (xH n l1) fun(r6,r7) =>
br (decide (0<r6)) (
some 140) (
some 0)
def wW (n:Nat) (l1:List (Int × Int)):(Int × Int)→Option ((Int × Int) ⊕ (Int)):=fun(v7,v8) =>
br (decide (v8<(l1.length:Int))) (
gd (cg v8 l1.length) (
ob (l1[v8.toNat]?) fun(x32,x33) =>
gd (decide ((l1.length:Int)≠0)) (
gd (cg (Int.tmod (IntKind.wrap .i64 (v8+1)) (l1.length:Int)) l1.length) (
ob (l1[(Int.tmod (IntKind.wrap .i64 (v8+1)) (l1.length:Int)).toNat]?) fun(x38,x39) =>
ob (some (IntKind.wrap .i64 ((IntKind.wrap .i64 (x32*x39))-(IntKind.wrap .i64 (x33*x38))))) fun y42 =>
some (.inl (IntKind.wrap .i64 (v7+y42),IntKind.wrap .i64 (v8+1))))))) (
some (.inr v7))
def zm (n:Nat) (l1:List (Int × Int)):Option (Int) :=
ob (
eC (wW n l1) n (0,0)) fun v27 =>
some v27
def w7 (n:Nat) (x1:Int) (x2:Int) (x3:Int) (x4:Int) (x5:Int) (x6:Int) (x7:Int) (x8:Int):Option (Int × Int) :=
ob (
ob (pw n x1 x2) fun r58 =>
br (r58) (
some true) (
ob (pw n x3 x4) fun r61 =>
br (r61) (
some true) (
ob (pw n x5 x6) fun r64 =>
br (r64) (
some true) (
ob (pw n x7 x8) fun r67 =>
br (r67) (
some true) (
br ((decide (x1=x3) && decide (x2=x4))) (
some true) (
some (decide (x5=x7) && decide (x6=x8)))))))) fun v56 =>
br (v56) (
some (0,2)) (
ob (vo n 0 x1 x2 x3 x4 0 x5 x6 x7 x8) fun r74 =>
some (r74,0))
def xy (n:Nat) (l1:List (Int × Int)) (l5:List (List Int × List (List Int))) (x12:Int) (x13:Int) (x14:Int) (x15:Int) (x16:Int) (x17:Int) (x18:Int) (x19:Int):Option (Bool) :=
ob (
br (decide (x12=x16)) (
br (decide (x13=x17)) (
some true) (
br (decide (x12=x17)) (
some (decide (x13=x16))) (
some false))) (
br (decide (x12=x17)) (
some (decide (x13=x16))) (
some false))) fun v39 =>
br (v39) (
some false) (
gd (cg x12 l1.length) (
ob (l1[x12.toNat]?) fun(x50,x51) =>
gd (cg x13 l1.length) (
ob (l1[x13.toNat]?) fun(x54,x55) =>
gd (cg x16 l1.length) (
ob (l1[x16.toNat]?) fun(x58,x59) =>
gd (cg x17 l1.length) (
ob (l1[x17.toNat]?) fun(x62,x63) =>
ob (w7 n x50 x51 x54 x55 x58 x59 x62 x63) fun(r66,r67) =>
br (decide (r66=0)) (
some false) (
br (decide (r66=1)) (
br (!decide (x12=x16)) (
br (!decide (x12=x17)) (
br (!decide (x13=x16)) (
some (!decide (x13=x17))) (
some false)) (
some false)) (
some false)) (
some true)))))))
def vZ (n:Nat) (l1:List (Int × Int)) (x3:Int) (x7:Int):(Int × Int)→Option ((Int × Int) ⊕ ((Unit) ⊕ (Int))):=fun(v1,v0) =>
br (decide (v0<(l1.length:Int))) (
ob (α:=(Unit) ⊕ (Int)) (
gd (cg v0 l1.length) (
ob (l1[v0.toNat]?) fun(x6,x4) =>
gd (decide ((l1.length:Int)≠0)) (
gd (cg (Int.tmod (IntKind.wrap .i64 (v0+1)) (l1.length:Int)) l1.length) (
ob (l1[(Int.tmod (IntKind.wrap .i64 (v0+1)) (l1.length:Int)).toNat]?) fun(x8,x5) =>
ob (some (IntKind.wrap .i64 ((IntKind.wrap .i64 (x8-x6))*(IntKind.wrap .i64 (x3-x4))))) fun y0 =>
ob (some (IntKind.wrap .i64 ((IntKind.wrap .i64 (x5-x4))*(IntKind.wrap .i64 (x7-x6))))) fun y1 =>
ob (
br (decide (IntKind.wrap .i64 (y0-y1)=0)) (
br (decide (mi x6 x8≤x7)) (
br (decide (x7≤ma x6 x8)) (
br (decide (mi x4 x5≤x3)) (
some (decide (x3≤ma x4 x5))) (
some false)) (
some false)) (
some false)) (
some false)) fun v2 =>
br (v2) (
some (.inl ())) (
ob (
br (decide (x4≤x3)) (
br (decide (x3<x5)) (
some (decide (0<IntKind.wrap .i64 (y0-y1)))) (
some false)) (
some false)) fun v3 =>
br (v3) (
some (.inr (IntKind.wrap .i64 (v1+1)))) (
ob (
br (decide (x3<x4)) (
br (decide (x5≤x3)) (
some (decide (IntKind.wrap .i64 (y0-y1)<0))) (
some false)) (
some false)) fun v4 =>
br (v4) (
some (.inr (IntKind.wrap .i64 (v1-1)))) (
some (.inr v1)))))))) fun r0=>match r0 with
| .inl _ =>
some (.inr (.inl ()))
| .inr v5 =>
some (.inl (v5,IntKind.wrap .i64 (v0+1)))) (
some (.inr (.inr v1)))
def yB (n:Nat) (l1:List (Int × Int)) (x3:Int) (x4:Int):Option (Int) :=
ob (α:=(Unit) ⊕ (Int)) (
eC (vZ n l1 x4 x3) n (0,0)) fun r0=>match r0 with
| .inl _ =>
some 1
| .inr v0 =>
br (decide (v0=0)) (
some 0) (
some 2)
def wE (n:Nat) (l1:List (List Int)) (l2:List (Int × Int)) (l3:List (List Int × List (List Int))) (x3:Int) (x4:Int) (x5:Int):Int→Option ((Int) ⊕ ((Int) ⊕ (Unit))):=fun v0 =>
br (decide (v0<(l1.length:Int))) (
gd (cg v0 l1.length) (
ob (l1[v0.toNat]?) fun l4 =>
ob (
ob (vK n l2 l3 l4 x3) fun l5 =>
ob (yB n l5 x4 x5) fun r0 =>
some (!decide (r0=0))) fun v1 =>
br (v1) (
some (.inr (.inl v0))) (
some (.inl (IntKind.wrap .i64 (v0+1)))))) (
some (.inr (.inr ())))
def yp (n:Nat) (l1:List (Int × Int)) (l2:List (List Int × List (List Int))) (l3:List (Int)) (l4:List (List Int)) (x3:Int) (x4:Int) (x5:Int):Option (Bool) :=
ob (vK n l1 l2 l3 x5) fun l5 =>
ob (yB n l5 x3 x4) fun r0 =>
br (decide (r0=2)) (
ob (
ob (α:=(Int) ⊕ (Unit)) (
eC (wE n l4 l1 l2 x5 x3 x4) n 0) fun r1=>match r1 with
| .inl v0 =>
some v0
| .inr _ =>
some (-1)) fun v1 =>
some (decide (v1<0))) (
some false)
def vV (n:Nat) (l1:List Int):(Int × List ((Int × Int) × Bool))→Option ((Int × List ((Int × Int) × Bool)) ⊕ ((List ((Int × Int) × Bool)) ⊕ (List ((Int × Int) × Bool)))):=fun(v0,l2) =>
br (decide (v0<(l1.length:Int))) (
gd (cg v0 l1.length) (
ob (l1[v0.toNat]?) fun x3 =>
gd (decide ((l1.length:Int)≠0)) (
gd (cg (Int.tmod (IntKind.wrap .i64 (v0+1)) (l1.length:Int)) l1.length) (
ob (l1[(Int.tmod (IntKind.wrap .i64 (v0+1)) (l1.length:Int)).toNat]?) fun x4 =>
ob (α:=(Unit) ⊕ (Unit)) (
ob (some ((gO l2 (x3,x4)).getD false)) fun y0 =>
br (y0) (
some (.inl ())) (
some (.inr ()))) fun r0=>match r0 with
| .inl _ =>
some (.inr (.inl l2))
| .inr _ =>
some (.inl (IntKind.wrap .i64 (v0+1),(lC l2 (x3,x4) true))))))) (
some (.inr (.inr l2)))
def wV (n:Nat) (l1:List (List Int)):(Int × List ((Int × Int) × Bool))→Option ((Int × List ((Int × Int) × Bool)) ⊕ ((List ((Int × Int) × Bool)) ⊕ (List ((Int × Int) × Bool)))):=fun(v0,l2) =>
br (decide (v0<(l1.length:Int))) (
gd (cg v0 l1.length) (
ob (l1[v0.toNat]?) fun l3 =>
ob (α:=(List ((Int × Int) × Bool)) ⊕ (List ((Int × Int) × Bool))) (
eC (vV n l3) n (0,l2)) fun r0=>match r0 with
| .inl l4 =>
some (.inr (.inl l4))
| .inr l5 =>
some (.inl (IntKind.wrap .i64 (v0+1),l5)))) (
some (.inr (.inr l2)))
def wP (n:Nat) (l1:List (List Int × List (List Int))):(Int × List ((Int × Int) × Bool))→Option ((Int × List ((Int × Int) × Bool)) ⊕ ((Int × List ((Int × Int) × Bool)) ⊕ (List ((Int × Int) × Bool)))):=fun(v0,l2) =>
br (decide (v0<(l1.length:Int))) (
gd (cg v0 l1.length) (
ob (l1[v0.toNat]?) fun(l3,l4) =>
ob (rv n l3 l4) fun l5 =>
ob (α:=(List ((Int × Int) × Bool)) ⊕ (List ((Int × Int) × Bool))) (
eC (wV n l5) n (0,l2)) fun r0=>match r0 with
| .inl l6 =>
some (.inr (.inl (v0,l6)))
| .inr l7 =>
some (.inl (IntKind.wrap .i64 (v0+1),l7)))) (
some (.inr (.inr l2)))
def wo (n:Nat) (l1:List (Int × Int × Int × Int)) (l2:List (Int × Int)) (l3:List (List Int × List (List Int))) (x3:Int) (x4:Int) (v1:Int) (v2:Int):Int→Option ((Int) ⊕ ((Int) ⊕ (Unit))):=fun v0 =>
br (decide (v0<(l1.length:Int))) (
gd (cg v0 l1.length) (
ob (l1[v0.toNat]?) fun(x5,x6,x7,x8) =>
ob (
ob (xy n l2 l3 x3 x4 v1 v2 x5 x6 x7 x8) fun r0 =>
some r0) fun v3 =>
br (v3) (
some (.inr (.inl v0))) (
some (.inl (IntKind.wrap .i64 (v0+1)))))) (
some (.inr (.inr ())))
def wB (n:Nat) (l1:List Int) (l3:List (Int × Int)) (l4:List (List Int × List (List Int))) (v1:Int) (v2:Int):(Int × List (Int × Int × Int × Int))→Option ((Int × List (Int × Int × Int × Int)) ⊕ ((List (Int × Int × Int × Int)) ⊕ (List (Int × Int × Int × Int)))):=fun(v0,l2) =>
br (decide (v0<(l1.length:Int))) (
gd (cg v0 l1.length) (
ob (l1[v0.toNat]?) fun x3 =>
gd (decide ((l1.length:Int)≠0)) (
gd (cg (Int.tmod (IntKind.wrap .i64 (v0+1)) (l1.length:Int)) l1.length) (
ob (l1[(Int.tmod (IntKind.wrap .i64 (v0+1)) (l1.length:Int)).toNat]?) fun x4 =>
ob (α:=(Unit) ⊕ (List (Int × Int × Int × Int))) (
ob (
ob (α:=(Int) ⊕ (Unit)) (
eC (wo n l2 l3 l4 x3 x4 v1 v2) n 0) fun r0=>match r0 with
| .inl v3 =>
some v3
| .inr _ =>
some (-1)) fun v4 =>
br (decide (0≤v4)) (
some (.inl ())) (
gd (lim (l2++[(x3,x4,v1,v2)]).length) (
some (.inr (l2++[(x3,x4,v1,v2)]))))) fun r1=>match r1 with
| .inl _ =>
some (.inr (.inl l2))
| .inr l5 =>
some (.inl (IntKind.wrap .i64 (v0+1),l5)))))) (
some (.inr (.inr l2)))
def vO (n:Nat) (l1:List (List Int)) (l3:List (Int × Int)) (l4:List (List Int × List (List Int))) (v1:Int):(Int × List (Int × Int × Int × Int))→Option ((Int × List (Int × Int × Int × Int)) ⊕ ((List (Int × Int × Int × Int)) ⊕ (List (Int × Int × Int × Int)))):=fun(v0,l2) =>
br (decide (v0<(l1.length:Int))) (
gd (cg v0 l1.length) (
ob (l1[v0.toNat]?) fun l5 =>
ob (α:=(List (Int × Int × Int × Int)) ⊕ (List (Int × Int × Int × Int))) (
eC (wB n l5 l3 l4 v1 v0) n (0,l2)) fun r0=>match r0 with
| .inl l6 =>
some (.inr (.inl l6))
| .inr l7 =>
some (.inl (IntKind.wrap .i64 (v0+1),l7)))) (
some (.inr (.inr l2)))
def wa (n:Nat) (l1:List (List Int × List (List Int))) (l3:List (Int × Int)):(Int × List (Int × Int × Int × Int))→Option ((Int × List (Int × Int × Int × Int)) ⊕ ((Int × List (Int × Int × Int × Int)) ⊕ (List (Int × Int × Int × Int)))):=fun(v0,l2) =>
br (decide (v0<(l1.length:Int))) (
gd (cg v0 l1.length) (
ob (l1[v0.toNat]?) fun(l4,l5) =>
ob (rv n l4 l5) fun l6 =>
ob (α:=(List (Int × Int × Int × Int)) ⊕ (List (Int × Int × Int × Int))) (
eC (vO n l6 l3 l1 v0) n (0,l2)) fun r0=>match r0 with
| .inl l7 =>
some (.inr (.inl (v0,l7)))
| .inr l8 =>
some (.inl (IntKind.wrap .i64 (v0+1),l8)))) (
some (.inr (.inr l2)))
def vX (n:Nat) (l1:List Int) (v1:Int) (v2:Int) (l3:List (List Int × List (List Int))) (l4:List (List Int)) (l2:List (Int × Int)) (l5:List Int):Int→Option ((Int) ⊕ ((Unit) ⊕ (Unit))):=fun v0 =>
br (decide (v0<(l1.length:Int))) (
gd (cg v0 l1.length) (
ob (l1[v0.toNat]?) fun x3 =>
gd (decide ((l1.length:Int)≠0)) (
gd (cg (Int.tmod (IntKind.wrap .i64 (v0+1)) (l1.length:Int)) l1.length) (
ob (l1[(Int.tmod (IntKind.wrap .i64 (v0+1)) (l1.length:Int)).toNat]?) fun x4 =>
ob (α:=(Unit) ⊕ (Unit)) (
br (decide (v1=0)) (
some (.inl ())) (
gd (cg v2 l3.length) (
ob (yP n l4) fun _ =>
ob (xb n l4 (IntKind.wrap .i64 (v1-1)) v1) fun l6 =>
ob (
gd (cg x3 l2.length) (
ob (l2[x3.toNat]?) fun(x5,x6) =>
gd (cg x4 l2.length) (
ob (l2[x4.toNat]?) fun(x7,x8) =>
some (IntKind.wrap .i64 (x5+x7),IntKind.wrap .i64 (x6+x8))))) fun(v3,v4) =>
ob (yp n l2 l3 l5 l6 v3 v4 2) fun r0 =>
br (!r0) (
some (.inr ())) (
some (.inl ()))))) fun r1=>match r1 with
| .inl _ =>
some (.inl (IntKind.wrap .i64 (v0+1)))
| .inr _ =>
some (.inr (.inl ())))))) (
some (.inr (.inr ())))
def wg (n:Nat) (l1:List (List Int)) (v1:Int) (l2:List (List Int × List (List Int))) (l3:List (List Int)) (l4:List (Int × Int)) (l5:List Int):Int→Option ((Int) ⊕ ((Unit) ⊕ (Unit))):=fun v0 =>
br (decide (v0<(l1.length:Int))) (
gd (cg v0 l1.length) (
ob (l1[v0.toNat]?) fun l6 =>
ob (α:=(Unit) ⊕ (Unit)) (
eC (vX n l6 v0 v1 l2 l3 l4 l5) n 0) fun r0=>match r0 with
| .inl _ =>
some (.inr (.inl ()))
| .inr _ =>
some (.inl (IntKind.wrap .i64 (v0+1))))) (
some (.inr (.inr ())))
def tQ (n:Nat) (l1:List (List Int × List (List Int))) (l4:List (Int × Int)):Int→Option ((Int) ⊕ ((Int) ⊕ (Unit))):=fun v0 =>
br (decide (v0<(l1.length:Int))) (
gd (cg v0 l1.length) (
ob (l1[v0.toNat]?) fun(l2,l3) =>
ob (rv n l2 l3) fun l5 =>
ob (α:=(Unit) ⊕ (Unit)) (
eC (wg n l5 v0 l1 l3 l4 l2) n 0) fun r0=>match r0 with
| .inl _ =>
some (.inr (.inl v0))
| .inr _ =>
some (.inl (IntKind.wrap .i64 (v0+1))))) (
some (.inr (.inr ())))
def tp (n:Nat) (l2:List (List Int × List (List Int))) (v1:Int) (x3:Int) (l1:List (Int × Int)) (x4:Int):Int→Option ((Int) ⊕ ((Unit) ⊕ (Unit))):=fun v0 =>
br (decide (v0<(l2.length:Int))) (
gd (cg v0 l2.length) (
ob (l2[v0.toNat]?) fun(l3,l4) =>
ob (
br (!decide (v0=v1)) (
ob (
gd (cg x3 l1.length) (
ob (l1[x3.toNat]?) fun(x5,x6) =>
gd (cg x4 l1.length) (
ob (l1[x4.toNat]?) fun(x7,x8) =>
some (IntKind.wrap .i64 (x5+x7),IntKind.wrap .i64 (x6+x8))))) fun(v2,v3) =>
ob (yp n l1 l2 l3 l4 v2 v3 2) fun r0 =>
some r0) (
some false)) fun v4 =>
br (v4) (
some (.inr (.inl ()))) (
some (.inl (IntKind.wrap .i64 (v0+1)))))) (
some (.inr (.inr ())))
def sF (n:Nat) (l1:List Int) (l2:List (List Int × List (List Int))) (v1:Int) (l3:List (Int × Int)):Int→Option ((Int) ⊕ ((Unit) ⊕ (Unit))):=fun v0 =>
br (decide (v0<(l1.length:Int))) (
gd (cg v0 l1.length) (
ob (l1[v0.toNat]?) fun x3 =>
gd (decide ((l1.length:Int)≠0)) (
gd (cg (Int.tmod (IntKind.wrap .i64 (v0+1)) (l1.length:Int)) l1.length) (
ob (l1[(Int.tmod (IntKind.wrap .i64 (v0+1)) (l1.length:Int)).toNat]?) fun x4 =>
ob (α:=(Unit) ⊕ (Unit)) (
ob (α:=(Unit) ⊕ (Unit)) (
eC (tp n l2 v1 x3 l3 x4) n 0) fun r0=>match r0 with
| .inl _ =>
some (.inl ())
| .inr _ =>
some (.inr ())) fun r1=>match r1 with
| .inl _ =>
some (.inr (.inl ()))
| .inr _ =>
some (.inl (IntKind.wrap .i64 (v0+1))))))) (
some (.inr (.inr ())))
def tC (n:Nat) (l1:List (List Int)) (l2:List (List Int × List (List Int))) (v1:Int) (l3:List (Int × Int)):Int→Option ((Int) ⊕ ((Unit) ⊕ (Unit))):=fun v0 =>
br (decide (v0<(l1.length:Int))) (
gd (cg v0 l1.length) (
ob (l1[v0.toNat]?) fun l4 =>
ob (α:=(Unit) ⊕ (Unit)) (
eC (sF n l4 l2 v1 l3) n 0) fun r0=>match r0 with
| .inl _ =>
some (.inr (.inl ()))
| .inr _ =>
some (.inl (IntKind.wrap .i64 (v0+1))))) (
some (.inr (.inr ())))
def tP (n:Nat) (l1:List (List Int × List (List Int))) (l2:List (Int × Int)):Int→Option ((Int) ⊕ ((Int) ⊕ (Unit))):=fun v0 =>
br (decide (v0<(l1.length:Int))) (
gd (cg v0 l1.length) (
ob (l1[v0.toNat]?) fun(l3,l4) =>
ob (rv n l3 l4) fun l5 =>
ob (α:=(Unit) ⊕ (Unit)) (
eC (tC n l5 l1 v0 l2) n 0) fun r0=>match r0 with
| .inl _ =>
some (.inr (.inl v0))
| .inr _ =>
some (.inl (IntKind.wrap .i64 (v0+1))))) (
some (.inr (.inr ())))
def zq (n:Nat) (l2:List (Int × Int)) (l1:List (List Int × List (List Int))):Option (Int × Int) :=
ob (
some ([]:List ((Int × Int) × Bool))) fun l3 =>
ob (α:=(Int × List ((Int × Int) × Bool)) ⊕ (List ((Int × Int) × Bool))) (
ob (α:=(Int × List ((Int × Int) × Bool)) ⊕ (List ((Int × Int) × Bool))) (
eC (wP n l1) n (0,l3)) fun r0=>match r0 with
| .inl (v0,l4) =>
some (.inl (v0,l4))
| .inr l5 =>
some (.inr l5)) fun r1=>match r1 with
| .inl (v1,l8) =>
some (7,v1)
| .inr l9 =>
ob (
some ()) fun _ =>
ob (α:=(Int × List (Int × Int × Int × Int)) ⊕ (List (Int × Int × Int × Int))) (
ob (α:=(Int × List (Int × Int × Int × Int)) ⊕ (List (Int × Int × Int × Int))) (
eC (wa n l1 l2) n (0,([]:List (Int × Int × Int × Int)))) fun r3=>match r3 with
| .inl (v2,l6) =>
some (.inl (v2,l6))
| .inr l7 =>
some (.inr l7)) fun r4=>match r4 with
| .inl (v3,l10) =>
some (8,v3)
| .inr l11 =>
ob (
some ()) fun _ =>
ob (α:=(Int) ⊕ (Unit)) (
ob (α:=(Int) ⊕ (Unit)) (
eC (tQ n l1 l2) n 0) fun r5=>match r5 with
| .inl v4 =>
some (.inl v4)
| .inr _ =>
some (.inr ())) fun r6=>match r6 with
| .inl v5 =>
some (9,v5)
| .inr _ =>
ob (
some ()) fun _ =>
ob (α:=(Int) ⊕ (Unit)) (
ob (α:=(Int) ⊕ (Unit)) (
eC (tP n l1 l2) n 0) fun r7=>match r7 with
| .inl v6 =>
some (.inl v6)
| .inr _ =>
some (.inr ())) fun r8=>match r8 with
| .inl v7 =>
some (10,v7)
| .inr _ =>
some (0,0)
def wM (n:Nat) (l1:List (Int × Int)):Int→Option ((Int) ⊕ ((Int) ⊕ (Unit))):=fun v63 =>
br (decide (v63<(l1.length:Int))) (
gd (cg v63 l1.length) (
ob (l1[v63.toNat]?) fun(x81,x82) =>
ob (zh n x81 x82) fun r86 =>
br (r86) (
some (.inr (.inl v63))) (
some (.inl (IntKind.wrap .i64 (v63+1)))))) (
some (.inr (.inr ())))
def wI (n:Nat) (l1:List (Int × Int)):(List ((Int × Int) × Bool) × Int)→Option ((List ((Int × Int) × Bool) × Int) ⊕ ((Int) ⊕ (Unit))):=fun(l2,v0) =>
br (decide (v0<(l1.length:Int))) (
gd (cg v0 l1.length) (
ob (l1[v0.toNat]?) fun(x3,x4) =>
ob (some ((gO l2 (x3,x4)).getD false)) fun y0 =>
br (y0) (
some (.inr (.inl v0))) (
some (.inl ((lC l2 (x3,x4) true),IntKind.wrap .i64 (v0+1)))))) (
some (.inr (.inr ())))
def wG (n:Nat) (l2:List (List Int)) (l3:List (Int × Int)):Int→Option ((Int) ⊕ ((Unit) ⊕ (Unit))):=fun v0 =>
br (decide (v0<(l2.length:Int))) (
gd (cg v0 l2.length) (
ob (l2[v0.toNat]?) fun l1 =>
ob (
br (decide ((l1.length:Int)<3)) (
some true) (
br (decide (40<(l1.length:Int))) (
some true) (
ob (zO n l1) fun r0 =>
br (decide (r0<0)) (
some true) (
ob (zt n l1) fun r1 =>
some (decide ((l3.length:Int)≤r1)))))) fun v1 =>
br (v1) (
some (.inr (.inl ()))) (
some (.inl (IntKind.wrap .i64 (v0+1)))))) (
some (.inr (.inr ())))
def wN (n:Nat) (l1:List (List Int × List (List Int))) (l3:List (Int × Int)):Int→Option ((Int) ⊕ ((Int) ⊕ (Unit))):=fun v0 =>
br (decide (v0<(l1.length:Int))) (
gd (cg v0 l1.length) (
ob (l1[v0.toNat]?) fun(l4,l2) =>
ob (
br (decide (8<(l2.length:Int))) (
some true) (
ob (
ob (rv n l4 l2) fun l5 =>
ob (α:=(Unit) ⊕ (Unit)) (
eC (wG n l5 l3) n 0) fun r0=>match r0 with
| .inl _ =>
some true
| .inr _ =>
some false) fun v1 =>
some v1)) fun v2 =>
br (v2) (
some (.inr (.inl v0))) (
some (.inl (IntKind.wrap .i64 (v0+1)))))) (
some (.inr (.inr ())))
def wz (n:Nat) (l1:List (List Int)) (l2:List (Int × Int)) (l3:List (List Int × List (List Int))):Int→Option ((Int) ⊕ ((Unit) ⊕ (Unit))):=fun v0 =>
br (decide (v0<(l1.length:Int))) (
gd (cg v0 l1.length) (
ob (l1[v0.toNat]?) fun l4 =>
ob (
ob (vK n l2 l3 l4 1) fun l5 =>
ob (zE n l5) fun r0 =>
some (!decide (r0=0))) fun v1 =>
br (v1) (
some (.inr (.inl ()))) (
some (.inl (IntKind.wrap .i64 (v0+1)))))) (
some (.inr (.inr ())))
def vU (n:Nat) (l1:List (List Int × List (List Int))) (l2:List (Int × Int)):Int→Option ((Int) ⊕ ((Int) ⊕ (Unit))):=fun v0 =>
br (decide (v0<(l1.length:Int))) (
gd (cg v0 l1.length) (
ob (l1[v0.toNat]?) fun(l3,l4) =>
ob (
ob (
ob (rv n l3 l4) fun l5 =>
ob (α:=(Unit) ⊕ (Unit)) (
eC (wz n l5 l2 l1) n 0) fun r0=>match r0 with
| .inl _ =>
some true
| .inr _ =>
some false) fun v1 =>
some v1) fun v2 =>
br (v2) (
some (.inr (.inl v0))) (
some (.inl (IntKind.wrap .i64 (v0+1)))))) (
some (.inr (.inr ())))
def vS (n:Nat) (l1:List (List Int)) (l2:List (Int × Int)) (l3:List (List Int × List (List Int))):Int→Option ((Int) ⊕ ((Unit) ⊕ (Unit))):=fun v0 =>
br (decide (v0<(l1.length:Int))) (
gd (cg v0 l1.length) (
ob (l1[v0.toNat]?) fun l4 =>
ob (
ob (vK n l2 l3 l4 1) fun l5 =>
ob (zm n l5) fun r0 =>
some ((decide (r0<0)) == (decide (v0=0)))) fun v1 =>
br (v1) (
some (.inr (.inl ()))) (
some (.inl (IntKind.wrap .i64 (v0+1)))))) (
some (.inr (.inr ())))
def wv (n:Nat) (l1:List (List Int × List (List Int))) (l2:List (Int × Int)):Int→Option ((Int) ⊕ ((Int) ⊕ (Unit))):=fun v0 =>
br (decide (v0<(l1.length:Int))) (
gd (cg v0 l1.length) (
ob (l1[v0.toNat]?) fun(l3,l4) =>
ob (
ob (
ob (rv n l3 l4) fun l5 =>
ob (α:=(Unit) ⊕ (Unit)) (
eC (vS n l5 l2 l1) n 0) fun r0=>match r0 with
| .inl _ =>
some true
| .inr _ =>
some false) fun v1 =>
some v1) fun v2 =>
br (v2) (
some (.inr (.inl v0))) (
some (.inl (IntKind.wrap .i64 (v0+1)))))) (
some (.inr (.inr ())))
def zo (n:Nat) (l1:List (Int × Int)) (l2:List (List Int × List (List Int))):Option (Int × Int) :=
ob (
br (decide ((l1.length:Int)<3)) (
some true) (
br (decide (120<(l1.length:Int))) (
some true) (
br (decide ((l2.length:Int)<1)) (
some true) (
some (decide (64<(l2.length:Int))))))) fun v4 =>
br (v4) (
some (1,0)) (
ob (
ob (α:=(Int) ⊕ (Unit)) (
eC (wM n l1) n 0) fun r0=>match r0 with
| .inl v5 =>
some v5
| .inr _ =>
some (-1)) fun v0 =>
br (decide (0≤v0)) (
some (2,v0)) (
ob (α:=(Int) ⊕ (Unit)) (
eC (wI n l1) n (([]:List ((Int × Int) × Bool)),0)) fun r1=>match r1 with
| .inl v6 =>
some (3,v6)
| .inr _ =>
ob (
ob (α:=(Int) ⊕ (Unit)) (
eC (wN n l2 l1) n 0) fun r3=>match r3 with
| .inl v7 =>
some v7
| .inr _ =>
some (-1)) fun v1 =>
br (decide (0≤v1)) (
some (4,v1)) (
ob (
ob (α:=(Int) ⊕ (Unit)) (
eC (vU n l2 l1) n 0) fun r4=>match r4 with
| .inl v8 =>
some v8
| .inr _ =>
some (-1)) fun v2 =>
br (decide (0≤v2)) (
some (5,v2)) (
ob (
ob (α:=(Int) ⊕ (Unit)) (
eC (wv n l2 l1) n 0) fun r5=>match r5 with
| .inl v9 =>
some v9
| .inr _ =>
some (-1)) fun v3 =>
br (decide (0≤v3)) (
some (6,v3)) (
ob (zq n l1 l2) fun(r6,r7) =>
some (r6,r7))))))
def xL (n:Nat) (l1:List (Int × Int)) (l5:List (List Int × List (List Int))):Option (Int) :=
ob (zo n l1 l5) fun(r14,r15) =>
br (decide (0<r14)) (
some 150) (
some 0)
def xd (n:Nat) (r0:Unit→Int→Option (Int)) (l1:List (Int × Int)):Unit→Int→Option (Int):=fun _ x3 =>
ob (some ((gO l1 x3).getD (0:Int),(gO l1 x3).isSome)) fun(y0,y1) =>
ob (
br (y1) (
some (!decide (y0=x3))) (
some false)) fun v0 =>
br (v0) (
ob (r0 () y0) fun r1 =>
some r1) (
some x3)
def yG (n:Nat) (l79:List (Int × Int)):Nat→Unit→Int→Option (Int)
 | 0=>fun _ _=>none
 | k+1=>xd n (yG n l79 k) l79
def wS (n:Nat) (x4:Int) (x5:Int):(List (Int × Int) × Int)→Option ((List (Int × Int) × Int) ⊕ (List (Int × Int))):=fun(l1,v0) =>
br (decide (v0<2)) (
ob (
gd (cg v0 2) (
ob ([x4,x5][v0.toNat]?) fun x3 =>
ob (some ((gO l1 x3).getD (0:Int),(gO l1 x3).isSome)) fun(y1,y0) =>
br (!y0) (
some (lC l1 x3 x3)) (
some l1))) fun l2 =>
some (.inl (l2,IntKind.wrap .i64 (v0+1)))) (
some (.inr l1))
def wx (n:Nat) (l1:List (Int × Int × Int × Int)):(List (Int × Int) × Int)→Option ((List (Int × Int) × Int) ⊕ (List (Int × Int))):=fun(l3,v0) =>
br (decide (v0<(l1.length:Int))) (
gd (cg v0 l1.length) (
ob (l1[v0.toNat]?) fun(x3,x4,x5,x6) =>
ob (
eC (wS n x3 x4) n (l3,0)) fun l2 =>
ob (yG n l2 n () x3) fun r0 =>
ob (yG n l2 n () x4) fun r1 =>
some (.inl ((lC l2 r0 r1),IntKind.wrap .i64 (v0+1))))) (
some (.inr l3))
def wY (n:Nat) (l1:List (Int × Int)) (l2:List (List Int × List (List Int))):Option ((Int × Int × Int × Int × Int) ⊕ (List (Int × Int × Int × Int) × List (Int × Int))) :=
ob (xL n l1 l2) fun r0 =>
br (!decide (r0=0)) (
some (.inl (0,0,0,0,r0))) (
ob (vj n l1 l2) fun l3 =>
ob (
eC (wx n l3) n (([]:List (Int × Int)),0)) fun l4 =>
some (.inr (l3,l4)))
def jq (r:List (Int × Int)):Int:=(r.countP (fun p=>decide (p.1=p.2)):Nat)
def wD (_:Nat) (l1:List (Int × Int)) (l5:List (List Int × List (List Int))):Option (Int × Int × Int × Int × Int) :=
 ob (wY 100000 l1 l5) fun s=>match s with
 | .inl x=>some x
 | .inr (l,r)=>gd (lim r.length) (some ((r.length:Int),(l.length:Int),(l5.length:Int),jq r,0))
end Go.Proofs.YtmndpgfbkicndaaGreat
end

section
namespace Go.Ab
open Go
section
variable {E : Env} {j j1 : aL} {m m1 : AMem} {w w1 : World}
theorem Sim.same (h:MR E j m w) (hold:∀c,c<w.heap.size→w1.heap[c]? = w.heap[c]?) (hsize:w.heap.size≤w1.heap.size) (hcalm:fb E w w1):Sim E j m w j m w1 where
 ext:=.refl m
 le:=.refl j
 new:=fun b k h h'=>by simp[h'] at h
 mr:=⟨fun b k hb=>⟨(h.lt b k hb).1,Nat.lt_of_lt_of_le (h.lt b k hb).2 hsize⟩,fun b o k ho hb=>by
  obtain⟨o',h1,h2⟩:=h.obj b o k ho hb;exact⟨o',(hold k.c (h.lt b k hb).2).trans h1,h2⟩,h.inj,h.glob⟩
 size:=hsize
 full:=fun b h h' _=>absurd h (by omega)
 away:=fun _ _ _=>rfl
 fresh:=fun b k h h'=>by simp[h'] at h
 frame:=fun c hc _=>hold c hc
 calm:=hcalm
theorem ln (hE:EnvOk E) {pr:FuncId→Option Prim} (h:∀f p,pr f=some p→E.cu f=some p∨∀args m v m',p.run args m=some (v,m')→∀(j:aL) (w:World) (args':List Value),MR E j m w→LR j args args'→eK E.P (E.cu f).isSome f args'.toArray w (fV E j m w v m')):EnvOk { E with cu:=pr}:=by
 refine⟨hE.call,hE.mixed,fun f p hp args m v m' hrun j w args' hm hl=>?_⟩;have hp':({ E with cu:=pr}:Env).cu f=some p:=hp;have hm0:MR E j m w:=MR.env (E:={ E with cu:=pr}) (E':=E) rfl hm;have key:∀v' w',fV E j m w v m' v' w'→fV { E with cu:=pr} j m w v m' v' w':=fun v' w' ⟨j',s,hv⟩=>⟨j',Sim.env (E:=E) rfl (fun e=>e) s,hv⟩;rcases h f p hp with h1|h1
 ·exact gY (fun _=>by rw[hp']; rfl) (hE.cu f p h1 args m v m' hrun j w args' hm0 hl) key
 ·exact gY (fun _=>by rw[hp']; rfl) (h1 args m v m' hrun j w args' hm0 hl) key
end
theorem uh {j:aL} {l:List Value} (h:∀x ∈ l,bC x=true):LR j l l :=
 ⟨rfl,fun i v hi=>⟨v,hi,VR.bC (h v (List.mem_of_getElem? hi))⟩⟩
theorem oP {W W':World} (hc:Calm W W') (hs:W.heap.size≤W'.heap.size) (hold:∀c,c<W.heap.size→W'.heap[c]? = W.heap[c]?):∃q os,W'=Sort.grow (W.drewN q) os:=by
 refine⟨W'.drawn-W.drawn,W'.heap.extract W.heap.size W'.heap.size,?_⟩;have hh:W'.heap=W.heap++W'.heap.extract W.heap.size W'.heap.size:=by
  apply Array.ext_getElem?;intro i;rw[Array.getElem?_append]
  split
  ·exact hold i ‹_›
  ·rw[Array.getElem?_extract]
   split
   ·congr 1; omega
   ·exact Array.getElem?_eq_none (by omega)
 obtain⟨h1,h2,h3,h4⟩:=hc;cases W; cases W';simp only[Sort.grow,World.drewN] at *;subst h1; subst h2; subst h3
 congr 1
 omega
theorem p4 {E:Env} (hE:EnvOk E) (hmono:E.mono:=by trivial) {f:FuncId} {args:List Value} (hp:E.cu f=none) {v:Value} (hpl:∀x ∈ args,bC x=true) (hv:bC v=true)
  (h:aW E f args (rK E.glob fun _=>none) fun v' _=>v'=v) {W:World} (hW:E.glob≤W.heap.size) :
  Calls E.P f args.toArray W fun e W'=>e = .returned v∧∃q os,W'=Sort.grow (W.drewN q) os:=by
 obtain⟨v',m',⟨k,hr⟩,rfl⟩:=h;have hm:MR E (rE E.glob) (rK E.glob fun _=>none) W:=vF (Nat.le_refl _) hW fun b cs hb=>by cases hb
 refine callsIn_wide.1 ((jx hE hr hp hm (uh hpl)).mono ?_);rintro e W' ⟨v1,rfl,j',s,hv1⟩;rw[eb hv hv1];refine⟨rfl,oP ⟨s.calm.1,s.calm.2.1,s.calm.2.2.1,s.calm.2.2.2 hmono⟩ s.size fun c hc=>s.frame c hc fun b k hb hl _=>?_⟩;have:(rK E.glob fun _=>none).get b=none:=by simp[AMem.get,rK,Heap.get_nil]
 rw[this] at hl; cases hl
theorem gK {w:World} {B:Nat} {c:Array Value} {e:TypeId} {fz:Nat × Nat} (h:w.heap[B]? = some (.cells c e fz)) (f:Array Value→Array Value):Sort.mapBlock w B f=w.putObj B (.cells (f c) e fz):=by
 unfold Sort.mapBlock World.putObj
 congr 1
 apply Array.ext_getElem?;intro i;rw[Array.getElem?_modify,Array.getElem?_setIfInBounds]
 by_cases hi:B=i
 ·subst hi;obtain⟨hlt,hv⟩:=Array.getElem?_eq_some_iff.1 h;simp[hlt,hv,Sort.onCells]
 ·simp[hi]
theorem qI {E:Env} {j:aL} {m:AMem} {w:World} (h:MR E j m w) {b:Nat} {k:Blk} (hk:j b=some k) {cs cs':List Value} {tag:Tag} (hg:m.get b=some (.cells cs tag)) (hl:cs'.length=cs.length) (hp:cs'.all aP=true) (n:Nat) (os:Array Obj) :
  Sim E j m w j (m.set b (.cells cs' tag)) (Sort.grow (Sort.putRow id (Sort.ahead w n) k.c 0 cs'.toArray) os):=by
 obtain⟨c,e,fz,h1,h2,h3⟩:=h.eT hk hg;have s1:Sim E j m w j m (Sort.ahead w n):=Sim.of_heap h rfl ⟨rfl,rfl,rfl,Nat.le_add_right _ _⟩;have hle:cs.length≤c.size:=by
  cases tag with
  | ro=>exact Nat.le_of_eq h2.2.symm
  | own=>exact Nat.le_of_eq h2.2.1.symm
  | more sz=>exact h2.2.1
 have hor:OR j k (.cells cs' tag) (.cells (Sort.putCells id 0 cs'.toArray c) e fz):=by
  have hget:∀i,(Sort.putCells id 0 cs'.toArray c)[i]? = if i<cs'.length then(if i<c.size then some cs'[i]! else none) else c[i]?:=by
   intro i;simp only[Sort.putCells,Array.getElem?_mapIdx,Nat.zero_le,true_and,Nat.zero_add,List.size_toArray,Nat.sub_zero,id]
   by_cases hi:i<c.size
   ·rw[Array.getElem?_eq_getElem hi];simp only[Option.map_some]
    by_cases hj:i<cs'.length
    ·simp[hj,hi]
    ·simp[hj]
   ·rw[Array.getElem?_eq_none (by omega)]
    simp[hi]
  refine⟨?_,fun i v hi=>?_⟩
  ·rw[show cs'.length=cs.length from hl]
   refine jr.put h2 (by simp[Sort.putCells]) fun i hi=>?_
   rw[hget,if_neg (by omega)]
  ·have hlt:i<cs'.length:=(List.getElem?_eq_some_iff.1 hi).1;refine⟨v,?_,.aP (List.all_eq_true.1 hp v (List.mem_of_getElem? hi))⟩;rw[hget,if_pos hlt,if_pos (by omega),List.getElem!_eq_getElem?_getD,hi]; rfl
 have s2:=eS s1.mr hk (by rw[hg]; rfl) hor
 have e2:Sort.putRow id (Sort.ahead w n) k.c 0 cs'.toArray=(Sort.ahead w n).putObj k.c (.cells (Sort.putCells id 0 cs'.toArray c) e fz):=gK (w:=Sort.ahead w n) h1 _;rw[e2];refine(s1.trans h s2).trans h (Sim.same s2.mr (fun x hx=>?_) (by simp) ⟨rfl,rfl,rfl,fun _=>Nat.le_refl _⟩)
 show(_++_:Array Obj)[x]? = _
 rw[Array.getElem?_append,if_pos hx]
theorem nS {α:Type} [Inhabited α] {enc:α→List Value} {k:Nat} (hk:∀x,(enc x).length=k) (h0:0<k):∀(l:List α) (t:Nat),t<l.length*k→(l.map enc).flatten[t]! = (enc l[t/k]!)[t%k]!
 | [],t,h=>by simp at h
 | x::l,t,h=>by
  simp only[List.map_cons,List.flatten_cons];rw[List.getElem!_eq_getElem?_getD,List.getElem?_append]
  by_cases ht:t<k
  ·rw[if_pos (by rw[hk]; exact ht),Nat.div_eq_of_lt ht,Nat.mod_eq_of_lt ht,←List.getElem!_eq_getElem?_getD]; rfl
  ·rw[if_neg (by rw[hk]; exact ht),hk,←List.getElem!_eq_getElem?_getD,nS hk h0 l (t-k) (by simp only[List.length_cons,Nat.add_mul,Nat.one_mul] at h; omega)]
   have e1:t/k=(t-k)/k+1:=by rw[Nat.div_eq_sub_div h0 (by omega)]
   have e2:t%k=(t-k)%k:=Nat.mod_eq_sub_mod (by omega)
   rw[e1,e2]; rfl
theorem cd {α:Type} {enc:α→List Value} {k:Nat} (hk:∀x,(enc x).length=k):∀l:List α,(l.map enc).flatten.length=l.length*k
 | []=>by simp
 | x::l=>by simp only[List.map_cons,List.flatten_cons,List.length_append,List.length_cons,hk,cd hk l,Nat.add_mul,Nat.one_mul]; omega
theorem ei {α:Type} [Inhabited α] {enc:α→List Value} {k:Nat} (hk:∀x,(enc x).length=k) (h0:0<k) (l:List α):Sort.flatK enc k l.toArray=(l.map enc).flatten.toArray:=by
 refine Sort.ext_get! (by simp[cd hk]) fun t ht=>?_
 have ht':t<l.length*k:=by simpa using ht
 rw[Sort.get_flatK _ _ _ _ (by simpa using ht')]
 have:=nS hk h0 l t ht';simp at this ⊢;rw[this]
theorem lO {E:Env} {j:aL} {m:AMem} {w:World} (h:MR E j m w) {b:Nat} {k:Blk} (hk:j b=some k) {cs:List Value} {tag:Tag} (hg:m.get b=some (.cells cs tag)) (ht:tag≠.ro) (hp:cs.all aP=true) :
  Sort.Holds id w k.c 0 cs.toArray:=by
 obtain⟨c,e,fz,h1,h2,h3⟩:=h.eT hk hg;have hfz:fz=(0,0):=by
  cases tag with
  | ro=>exact absurd rfl ht
  | own=>exact h2.2.2
  | more sz=>exact h2.2.2.1
 subst hfz;intro i hi;have hi':i<cs.length:=by simpa using hi
 obtain⟨v',g1,g2⟩:=h3 i cs[i] (List.getElem?_eq_getElem hi');have:=ec (List.all_eq_true.1 hp _ (List.getElem_mem hi')) g2;subst this;refine⟨?_,?_⟩
 ·simp only[World.cell?,h1,Nat.zero_add];simp[g1,hi']
 ·simp only[World.frozen?,h1]; simp
theorem pF {E:Env} {j:aL} {m:AMem} {w:World} (h:MR E j m w) {b:Nat} {k:Blk} (hk:j b=some k) {cs:List Value} {tag:Tag} (hg:m.get b=some (.cells cs tag)) (ht:tag≠.ro) :
  ∃cc:List Value,LR j cs cc∧Sort.Holds id w k.c 0 cc.toArray:=by
 obtain⟨c,e,fz,h1,h2,h3⟩:=h.eT hk hg;have hfz:fz=(0,0):=by
  cases tag with
  | ro=>exact absurd rfl ht
  | own=>exact h2.2.2
  | more sz=>exact h2.2.2.1
 have hle:cs.length≤c.size:=by
  cases tag with
  | ro=>exact absurd rfl ht
  | own=>exact Nat.le_of_eq h2.2.1.symm
  | more sz=>exact h2.2.1
 subst hfz;have hl:(c.toList.take cs.length).length=cs.length:=by rw[List.length_take]; exact Nat.min_eq_left (by simpa using hle)
 refine⟨c.toList.take cs.length,⟨hl.symm,fun i v hi=>?_⟩,fun i hi=>?_⟩
 ·obtain⟨v',g1,g2⟩:=h3 i v hi;have hlt:=(List.getElem?_eq_some_iff.1 hi).1;exact⟨v',by rw[List.getElem?_take,if_pos hlt]; simpa using g1,g2⟩
 ·have hi':i<cs.length:=by rw[List.size_toArray,hl] at hi; exact hi
  refine⟨?_,?_⟩
  ·simp only[World.cell?,h1,Nat.zero_add];have hic:i<c.size:=by omega
   simp[hi',hic]
  ·simp only[World.frozen?,h1]; simp
theorem sj {E:Env} {j:aL} {m:AMem} {w:World} (h:MR E j m w) {b:Nat} {k:Blk} (hk:j b=some k) {cs cs' cc':List Value} {tag:Tag} (hg:m.get b=some (.cells cs tag)) (hl:cs'.length=cs.length) (hp:LR j cs' cc') (n:Nat) (os:Array Obj) :
  Sim E j m w j (m.set b (.cells cs' tag)) (Sort.grow (Sort.putRow id (Sort.ahead w n) k.c 0 cc'.toArray) os):=by
 obtain⟨c,e,fz,h1,h2,h3⟩:=h.eT hk hg;have s1:Sim E j m w j m (Sort.ahead w n):=Sim.of_heap h rfl ⟨rfl,rfl,rfl,Nat.le_add_right _ _⟩;have hlc:cs'.length=cc'.length:=hp.1;have hle:cs.length≤c.size:=by
  cases tag with
  | ro=>exact Nat.le_of_eq h2.2.symm
  | own=>exact Nat.le_of_eq h2.2.1.symm
  | more sz=>exact h2.2.1
 have hor:OR j k (.cells cs' tag) (.cells (Sort.putCells id 0 cc'.toArray c) e fz):=by
  have hget:∀i,(Sort.putCells id 0 cc'.toArray c)[i]? = if i<cc'.length then(if i<c.size then some cc'[i]! else none) else c[i]?:=by
   intro i;simp only[Sort.putCells,Array.getElem?_mapIdx,Nat.zero_le,true_and,Nat.zero_add,List.size_toArray,Nat.sub_zero,id]
   by_cases hi:i<c.size
   ·rw[Array.getElem?_eq_getElem hi];simp only[Option.map_some]
    by_cases hj:i<cc'.length
    ·simp[hj,hi]
    ·simp[hj]
   ·rw[Array.getElem?_eq_none (by omega)]
    simp[hi]
  refine⟨?_,fun i v hi=>?_⟩
  ·rw[show cs'.length=cs.length from hl]
   refine jr.put h2 (by simp[Sort.putCells]) fun i hi=>?_
   rw[hget,if_neg (by omega)]
  ·have hlt:i<cs'.length:=(List.getElem?_eq_some_iff.1 hi).1;obtain⟨v',g1,g2⟩:=hp.2 i v hi;refine⟨v',?_,g2⟩;rw[hget,if_pos (by omega),if_pos (by omega),List.getElem!_eq_getElem?_getD,g1]; rfl
 have s2:=eS s1.mr hk (by rw[hg]; rfl) hor
 have e2:Sort.putRow id (Sort.ahead w n) k.c 0 cc'.toArray=(Sort.ahead w n).putObj k.c (.cells (Sort.putCells id 0 cc'.toArray c) e fz):=gK (w:=Sort.ahead w n) h1 _;rw[e2];refine(s1.trans h s2).trans h (Sim.same s2.mr (fun x hx=>?_) (by simp) ⟨rfl,rfl,rfl,fun _=>Nat.le_refl _⟩)
 show(_++_:Array Obj)[x]? = _
 rw[Array.getElem?_append,if_pos hx]
end Go.Ab
end

section
namespace Go.Proofs
open Go.Shelf
def Tryz.pJ:Go.Shelf.Ren:=⟨fun|6=>104|15=>128|14=>127|28=>149|29=>150|20=>141|21=>142|22=>143|23=>144|24=>145|25=>146|26=>147|27=>148|46=>156|47=>157|48=>158|49=>159|50=>160|57=>164|n=>n,fun|22=>57|24=>64|25=>126|3=>3|39=>150|0=>0|53=>171|55=>173|4=>4|46=>165|45=>164|50=>94|5=>5|9=>9|66=>177|70=>181|76=>185|77=>75|n=>n,fun|n=>n⟩
theorem Tryz.pO:Go.Proofs.SlLaysF0.n6 Tryz.prog Tryz.pJ:={
 mixed:=by kernel_rfl
 f6:=⟨Tryz.f104.name,by decide,Tryz.func104.trans (congrArg some (by kernel_rfl))⟩
 f14:=⟨Tryz.f127.name,by decide,Tryz.func127.trans (congrArg some (by kernel_rfl))⟩
 f15:=Tryz.func128.trans (congrArg some (by kernel_rfl))
 f20:=⟨Tryz.f141.name,by decide,Tryz.func141.trans (congrArg some (by kernel_rfl))⟩
 f21:=⟨Tryz.f142.name,by decide,Tryz.func142.trans (congrArg some (by kernel_rfl))⟩
 f22:=⟨Tryz.f143.name,by decide,Tryz.func143.trans (congrArg some (by kernel_rfl))⟩
 f23:=⟨Tryz.f144.name,by decide,Tryz.func144.trans (congrArg some (by kernel_rfl))⟩
 f24:=⟨Tryz.f145.name,by decide,Tryz.func145.trans (congrArg some (by kernel_rfl))⟩
 f25:=⟨Tryz.f146.name,by decide,Tryz.func146.trans (congrArg some (by kernel_rfl))⟩
 f26:=⟨Tryz.f147.name,by decide,Tryz.func147.trans (congrArg some (by kernel_rfl))⟩
 f27:=⟨Tryz.f148.name,by decide,Tryz.func148.trans (congrArg some (by kernel_rfl))⟩
 f28:=Tryz.func149.trans (congrArg some (by kernel_rfl))
 f29:=Tryz.func150.trans (congrArg some (by kernel_rfl))
 f46:=⟨Tryz.f156.name,by decide,Tryz.func156.trans (congrArg some (by kernel_rfl))⟩
 f47:=Tryz.func157.trans (congrArg some (by kernel_rfl))
 f48:=Tryz.func158.trans (congrArg some (by kernel_rfl))
 f49:=⟨Tryz.f159.name,by decide,Tryz.func159.trans (congrArg some (by kernel_rfl))⟩
 f50:=⟨Tryz.f160.name,by decide,Tryz.func160.trans (congrArg some (by kernel_rfl))⟩
 f57:=⟨Tryz.f164.name,by decide,Tryz.func164.trans (congrArg some (by kernel_rfl))⟩
 t0:=Tryz.underlying0
 a0:=Tryz.isAgg0
 z0:=Tryz.sizeOf0
 v0:=Tryz.zeroValue0
 t3:=Tryz.underlying3
 a3:=Tryz.isAgg3
 z3:=Tryz.sizeOf3
 v3:=Tryz.zeroValue3
 t4:=Tryz.underlying4
 a4:=Tryz.isAgg4
 z4:=Tryz.sizeOf4
 v4:=Tryz.zeroValue4
 t5:=Tryz.underlying5
 a5:=Tryz.isAgg5
 z5:=Tryz.sizeOf5
 v5:=Tryz.zeroValue5
 t9:=Tryz.underlying9
 a9:=Tryz.isAgg9
 z9:=Tryz.sizeOf9
 v9:=Tryz.zeroValue9
 t22:=Tryz.underlying57
 a22:=Tryz.isAgg57
 z22:=Tryz.sizeOf57
 v22:=Tryz.zeroValue57
 t25:=Tryz.underlying126
 a25:=Tryz.isAgg126
 z25:=Tryz.sizeOf126
 v25:=Tryz.zeroValue126
 t39:=Tryz.underlying150
 a39:=Tryz.isAgg150
 z39:=Tryz.sizeOf150
 v39:=Tryz.zeroValue150
 t45:=Tryz.underlying164
 a45:=Tryz.isAgg164
 z45:=Tryz.sizeOf164
 v45:=Tryz.zeroValue164
 t46:=Tryz.underlying165
 a46:=Tryz.isAgg165
 z46:=Tryz.sizeOf165
 v46:=Tryz.zeroValue165
 t50:=Tryz.underlying94
 a50:=Tryz.isAgg94
 z50:=Tryz.sizeOf94
 v50:=Tryz.zeroValue94
 t53:=Tryz.underlying171
 a53:=Tryz.isAgg171
 z53:=Tryz.sizeOf171
 v53:=Tryz.zeroValue171
 t55:=Tryz.underlying173
 a55:=Tryz.isAgg173
 z55:=Tryz.sizeOf173
 v55:=Tryz.zeroValue173
 t66:=Tryz.underlying177
 a66:=Tryz.isAgg177
 z66:=Tryz.sizeOf177
 v66:=Tryz.zeroValue177
 t70:=Tryz.underlying181
 a70:=Tryz.isAgg181
 z70:=Tryz.sizeOf181
 v70:=Tryz.zeroValue181
 t76:=Tryz.underlying185
 a76:=Tryz.isAgg185
 z76:=Tryz.sizeOf185
 v76:=Tryz.zeroValue185
 t77:=Tryz.underlying75
 a77:=Tryz.isAgg75
 z77:=Tryz.sizeOf75
 v77:=Tryz.zeroValue75}
end Go.Proofs
end

section
namespace Go.Proofs.YtmndpgfbkicndaaGreat
open Go Go.Ab Go.Ab.W
set_option maxRecDepth 10000
noncomputable def ri:Env:={ P:=Tryz.prog,glob:=0,cu:=fun _=>none,mono:=True}
theorem ku:EnvOk ri:=nJ oF fun f p hp=>by cases hp
namespace W105
set_option maxHeartbeats 4000000
attribute [local irreducible] Tm.at Trie.set Trie.get AMem.get AMem.set AMem.alloc AMem.ww AMem.kill
def yX (n:Nat) (x1:Int) (x2:Int) (x3:Int) (x4:Int) (x5:Int) (x6:Int) (x7:Int) (x8:Int):Option (Int) :=
ob (some (IntKind.wrap .i64 ((IntKind.wrap .i64 (120*(IntKind.wrap .i64 (x1-x5))))+x2))) fun y11 =>
some (IntKind.wrap .i64 (y11-x6))
theorem k7:∀b o,aM ri.P 64 (ptr b o) 0=some (ptr b (o+0)):=fun _ _=>by kernel_rfl
theorem aX:TyI ri.P 3 false 1:=⟨by kernel_rfl,by kernel_rfl,by kernel_rfl⟩
theorem kY:∀b o,aM ri.P 64 (ptr b o) 1=some (ptr b (o+1)):=fun _ _=>by kernel_rfl
theorem vg (n:Nat) (x1:Int) (x2:Int) (x3:Int) (x4:Int) (x5:Int) (x6:Int) (x7:Int) (x8:Int)  (r:Int) (hF:yX n x1 x2 x3 x4 x5 x6 x7 x8=some r) (m:AMem)  :
  aW ri 105 [.agg #[.int .i64 x1,.int .i64 x2,.int .i64 x3,.int .i64 x4],.agg #[.int .i64 x5,.int .i64 x6,.int .i64 x7,.int .i64 x8]] m (fun v m'=>∃x:Unit,v = .int .i64 r∧Hp m m' []):=by
 unfold yX at hF;refine ak (m0:=m) (ps:=[]) (N:=17) (rs:=[.tmp 4]) rfl Tryz.func105 rfl rfl rfl (Hp.start m) ?_;refine Wk.seq ?_;refine Wk.region ?_;refine Wo.x (bR rfl) gn rfl fun b9=>?_;refine Wo.x (bR rfl) gn rfl fun b10=>?_;refine Wo.od (ai rfl) rfl ?_;refine Wo.nil ?_;refine At.tn ?_;refine Wk.seq ?_;refine Wk.region ?_;refine Wo.od (au (r:=ptr b9 0) rfl (k7 _ _)) rfl ?_;refine Wo.od (aj (k:=1) aX rfl rfl rfl) rfl ?_;refine Wo.od (au (r:=ptr b10 0) rfl (k7 _ _)) rfl ?_;refine Wo.od (aj (k:=0) aX rfl rfl rfl) rfl ?_;refine Wo.od (aq rfl rfl (bT _ _ _)) rfl ?_;refine Wo.od (aq rfl rfl (dv _ _ _)) rfl ?_;refine Wo.od (au (r:=ptr b9 1) rfl (kY _ _)) rfl ?_;refine Wo.od (aj (k:=1) aX rfl rfl rfl) rfl ?_;obtain⟨y11,h12,hF⟩:=J hF;refine Wo.od (aq rfl rfl ((aA _ _ _).trans (cI h12))) rfl ?_;refine Wo.od (au (r:=ptr b10 1) rfl (kY _ _)) rfl ?_;refine Wo.od (aj (k:=0) aX rfl rfl rfl) rfl ?_;refine Wo.od (aq rfl rfl (bT _ _ _)) rfl ?_;refine Wo.od (ai rfl) rfl ?_;refine Wo.nil ?_;refine At.tn ?_;refine Wk.ret ?_;cases hF;exact At.ret (.tmp rfl .nil) fun m' hm=>⟨(),rfl,(aa.U [] rfl rfl) m' hm⟩
end W105
def lX (x y:dL):Int:=IntKind.wrap .i64 (IntKind.wrap .i64 (IntKind.wrap .i64 (120*IntKind.wrap .i64 (x.1-y.1))+x.2.1)-y.2.1)
theorem kB (x y:dL) {W:World} :
  Calls Tryz.prog 105 #[.agg (dz x).toArray,.agg (dz y).toArray] W fun e W'=>e = .returned (.int .i64 (lX x y))∧∃q os,W'=Sort.grow (W.drewN q) os :=
 p4 (E:=ri) ku (hmono:=trivial) (f:=105) (args:=[.agg #[.int .i64 x.1,.int .i64 x.2.1,.int .i64 x.2.2.1,.int .i64 x.2.2.2],.agg #[.int .i64 y.1,.int .i64 y.2.1,.int .i64 y.2.2.1,.int .i64 y.2.2.2]]) rfl (by intro v hv; simp at hv; rcases hv with rfl|rfl<;>rfl) rfl
  ((W105.vg 5 x.1 x.2.1 x.2.2.1 x.2.2.2 y.1 y.2.1 y.2.2.1 y.2.2.2 (lX x y) rfl _).mono fun v m' ⟨_,h,_⟩=>h) (Nat.zero_le _)
theorem kq {x:Int} (h1 : -1000000≤x) (h2:x≤1000000):IntKind.wrap .i64 x=x:=by
 simp only[IntKind.wrap,IntKind.bits,IntKind.signed]
 show(if (true && decide (x%18446744073709551616≥9223372036854775808))=true then x%18446744073709551616-18446744073709551616 else x%18446744073709551616)=x
 simp only[Bool.true_and,decide_eq_true_eq]
 split<;>omega
def lH (x:dL):Prop:=0≤x.1∧x.1<120∧0≤x.2.1∧x.2.1<120
theorem sx {x y:dL} (hx:lH x) (hy:lH y):lX x y=120*(x.1-y.1)+x.2.1-y.2.1:=by
 obtain⟨a1,a2,a3,a4⟩:=hx;obtain⟨b1,b2,b3,b4⟩:=hy;unfold lX;rw[kq (x:=x.1-y.1) (by omega) (by omega),kq (x:=120*(x.1-y.1)) (by omega) (by omega),kq (x:=120*(x.1-y.1)+x.2.1) (by omega) (by omega),kq (by omega) (by omega)]
theorem ub {x y:dL} (hx:lH x) (hy:lH y):lX x y<0↔x.1<y.1∨x.1=y.1∧x.2.1<y.2.1:=by
 rw[sx hx hy];obtain⟨a1,a2,a3,a4⟩:=hx;obtain⟨b1,b2,b3,b4⟩:=hy;omega
theorem qK (w:World):(isAgg 64).run Tryz.prog w = .ok true w:=by rw[iH (by kernel_rfl) w,show cL Tryz.prog 64=true by kernel_rfl]
theorem oe (w:World):(Go.sizeOf 64).run Tryz.prog w = .ok 4 w:=by rw[bW (by kernel_rfl) w,show aE Tryz.prog 64=4 by kernel_rfl]
theorem ov:∀args w,(callFunc 105 args).run Tryz.prog w = .ok (.enter 105 args) w:=fun args w=>ku.call 105 _ _ Tryz.func105 rfl args w
end Go.Proofs.YtmndpgfbkicndaaGreat
end

section
namespace Go.Proofs
open Go.Shelf
def Tryz.tj:Go.Shelf.Ren:=⟨fun|45=>115|n=>n,fun|22=>29|23=>28|3=>3|4=>4|0=>0|n=>n,fun|n=>n⟩
theorem Tryz.zx:Go.Proofs.SlLaysE.n45 Tryz.prog Tryz.tj:={
 mixed:=by kernel_rfl
 f45:=⟨Tryz.f115.name,by decide,Tryz.func115.trans (congrArg some (by kernel_rfl))⟩
 t0:=Tryz.underlying0
 a0:=Tryz.isAgg0
 z0:=Tryz.sizeOf0
 v0:=Tryz.zeroValue0
 t3:=Tryz.underlying3
 a3:=Tryz.isAgg3
 z3:=Tryz.sizeOf3
 v3:=Tryz.zeroValue3
 t4:=Tryz.underlying4
 a4:=Tryz.isAgg4
 z4:=Tryz.sizeOf4
 v4:=Tryz.zeroValue4
 t22:=Tryz.underlying29
 a22:=Tryz.isAgg29
 z22:=Tryz.sizeOf29
 v22:=Tryz.zeroValue29
 a23:=Tryz.isAgg28
 z23:=Tryz.sizeOf28}
def Tryz.s9:Go.Shelf.Ren:=⟨fun|45=>101|n=>n,fun|22=>28|23=>3|3=>3|4=>4|0=>0|n=>n,fun|n=>n⟩
theorem Tryz.zB:Go.Proofs.SlLaysE.n45 Tryz.prog Tryz.s9:={
 mixed:=by kernel_rfl
 f45:=⟨Tryz.f101.name,by decide,Tryz.func101.trans (congrArg some (by kernel_rfl))⟩
 t0:=Tryz.underlying0
 a0:=Tryz.isAgg0
 z0:=Tryz.sizeOf0
 v0:=Tryz.zeroValue0
 t3:=Tryz.underlying3
 a3:=Tryz.isAgg3
 z3:=Tryz.sizeOf3
 v3:=Tryz.zeroValue3
 t4:=Tryz.underlying4
 a4:=Tryz.isAgg4
 z4:=Tryz.sizeOf4
 v4:=Tryz.zeroValue4
 t22:=Tryz.underlying28
 a22:=Tryz.isAgg28
 z22:=Tryz.sizeOf28
 v22:=Tryz.zeroValue28
 a23:=Tryz.isAgg3
 z23:=Tryz.sizeOf3}
end Go.Proofs
end

section
namespace Go.Ab
open Go
section
variable {E : Env} {j : aL} {m : AMem} {w : World}
theorem VR.at {b o l c:Nat} {v':Value} (h:VR j (.slice (some ⟨b,o,none⟩) l c) v'):∃k c',j b=some k∧v' = .slice (some ⟨k.c,o,none⟩) l c':=by
 cases h with
 | slice hj hm=>exact⟨_,_,hj,rfl⟩
 | sliceM hj hm _ _ _ _=>exact⟨_,_,hj,rfl⟩
end
end Go.Ab
end

section
namespace Go.Proofs.YtmndpgfbkicndaaGreat
open Go Go.Ab Go.Ab.W
set_option maxRecDepth 10000
theorem j4:∀l:List dL,bV (l.map dz).flatten=some l
 | []=>rfl
 | (a,b,c,d)::l=>by
  show(bV (l.map dz).flatten).map _=_
  rw[j4 l]; rfl
theorem mI:∀{cs:List Value} {l:List dL},bV cs=some l→cs=(l.map dz).flatten:=by
 intro cs
 induction cs using bV.induct with
 | case1=>intro l h; cases h; rfl
 | case2 a b c d r ih =>
  intro l h;have h':(bV r).map ((a,b,c,d)::·)=some l:=h;cases hr:bV r with
  | none=>rw[hr] at h'; cases h'
  | some l' =>
   rw[hr] at h'; cases h';rw[ih hr]; rfl
 | case3 cs h1 h2 =>
  intro l h;unfold bV at h
  split at h
  ·exact absurd rfl h1
  ·rename_i a b c d r;exact absurd rfl (h2 a b c d r)
  ·cases h
theorem ja (l:List dL):((l.map dz).flatten).all aP=true:=by
 induction l with
 | nil=>rfl
 | cons x l ih=>rw[List.map_cons,List.flatten_cons,List.all_append,ih]; rfl
theorem j6 {m:AMem} {w b n n':Nat} {cs:List Value} {tg:Tag} (h:hY m w b n n'=some (cs,tg)):m.get b=some (.cells cs tg)∧tg≠.ro∧n=n'∧cs.length=n*w∧(tg = .own∨tg = .more w):=by
 unfold hY at h
 split at h
 ·rename_i cs' hg
  split at h
  ·rename_i hc; cases h; exact⟨hg,(by intro e; cases e),hc.1,hc.2,.inl rfl⟩
  ·cases h
 ·rename_i cs' k hg
  split at h
  ·rename_i hc; cases h; exact⟨hg,(by intro e; cases e),hc.1,hc.2.1,.inr (by rw[hc.2.2])⟩
  ·cases h
 ·cases h
theorem nZ {j:aL} {f:FuncId} {xs ys:Array Value} {v:Value} (h:VR j (.func (.func f) xs ys) v) (h1:xs.size=0) (h2:ys.size=0):v = .func (.func f) #[] #[]:=by
 cases h with
 | @func _ _ ys' _ ds a _ c _ =>
  have e1:ys'=#[]:=Array.eq_empty_of_size_eq_zero (a.symm.trans h1);have e2:ds=#[]:=Array.eq_empty_of_size_eq_zero (c.symm.trans h2);rw[e1,e2]
theorem lq {n:Nat} (h:lim n=true):n≤1073741824:=Nat.le_of_ble_eq_true h
theorem k9 {l:List dL} (h:k5 l=true):(∀x ∈ l,lH x)∧(l.map fun x=>(x.1,x.2.1)).Nodup:=by
 unfold k5 at h;simp only[Bool.and_eq_true,decide_eq_true_eq] at h;refine⟨fun x hx=>?_,h.2⟩;have:=List.all_eq_true.1 h.1 x hx;simp only[Bool.and_eq_true,decide_eq_true_eq] at this;exact⟨this.1.1.1,this.1.1.2,this.1.2,this.2⟩
section
variable (l : List dL)
abbrev Pl:={ x:dL // x ∈ l}
def pd (x y:Pl l):Int:=lX x.1 y.1
variable {l}
theorem yA (hl:∀x ∈ l,lH x) (x y:Pl l):Go.Proofs.ltOf (pd l) x y=decide (x.1.1<y.1.1∨x.1.1=y.1.1∧x.1.2.1<y.1.2.1):=by
 unfold Go.Proofs.ltOf pd
 congr 1
 exact propext (ub (hl _ x.2) (hl _ y.2))
theorem yK (hl:∀x ∈ l,lH x):Go.Sort.SWO (Go.Proofs.ltOf (pd l)) where
 irrefl x:=by rw[yA hl]; simp
 trans x y z h1 h2:=by rw[yA hl] at *; simp only[decide_eq_true_eq] at *; omega
 ntrans x y z h1 h2:=by rw[yA hl] at *; simp only[decide_eq_false_iff_not] at *; omega
theorem iJ {α β:Type} {f:α→β}:∀{l:List α},(l.map f).Nodup→∀{x y:α},x ∈ l→y ∈ l→f x=f y→x=y
 | [],_,_,_,hx,_,_=>by cases hx
 | a::l,h,x,y,hx,hy,e=>by
  rw[List.map_cons] at h;obtain⟨h1,h2⟩:=List.nodup_cons.1 h;rcases List.mem_cons.1 hx with ex|hx
  ·rcases List.mem_cons.1 hy with ey|hy
   ·rw[ex,ey]
   ·exact absurd (List.mem_map.2 ⟨y,hy,by rw[←e,ex]⟩) h1
  ·rcases List.mem_cons.1 hy with ey|hy
   ·exact absurd (List.mem_map.2 ⟨x,hx,by rw[e,ey]⟩) h1
   ·exact iJ h2 hx hy e
theorem yl (hl:∀x ∈ l,lH x) (hn:(l.map fun x=>(x.1,x.2.1)).Nodup) (x y:Pl l) (h1:Go.Proofs.ltOf (pd l) x y=false) (h2:Go.Proofs.ltOf (pd l) y x=false):x=y:=by
 rw[yA hl] at h1 h2;simp only[decide_eq_false_iff_not] at h1 h2;exact Subtype.ext (iJ hn x.2 y.2 (Prod.ext (by simp only; omega) (by simp only; omega)))
end
theorem tE {α β:Type} (f:α→β) (le:β→β→Bool):∀(n:Nat) (l:List α),l.length=n→(l.mergeSort (fun x y=>le (f x) (f y))).map f=(l.map f).mergeSort le:=fun _ l _=>List.map_mergeSort (fun _ _ _ _=>rfl)
theorem u1 {l:List dL} (hl:∀x ∈ l,lH x):(fun x y:Pl l=>!(Go.Proofs.ltOf (pd l)) y x)=fun x y=>cY x.1 y.1:=by
 funext x y
 rw[yA hl]; unfold cY;rw[←decide_not]
 congr 1
 apply propext; omega
theorem kH:∀args w,(callFunc 104 args).run Tryz.prog w = .ok (.enter 104 args) w:=fun args w=>ku.call 104 _ _ Tryz.func104 rfl args w
theorem oD {p q:Option Prim} {pr:Bool} {args:List Value} {m m':AMem} {v:Value} (h:gm args m=some (v,m')) {j:aL} {w:World} {args':List Value} (hm:MR (E15v p q) j m w) (hl:LR j args args') :
  eK (E15v p q).P pr 104 args'.toArray w (fV (E15v p q) j m w v m'):=by
 unfold gm at h
 split at h
 ·rename_i c xs ys
  split at h
  ·rename_i hc; cases h;obtain⟨v0,vs,rfl,h1,hvs⟩:=hl.cons_inv;obtain⟨v1,v2,rfl,h2,h3⟩:=hvs.cons_inv;obtain rfl:=h3.cJ;have e0:=nZ h2 hc.1 hc.2;subst e0;cases h1;have hcon:=Go.Proofs.AnyF.slices_SortFunc_none Tryz.pO none c (.func (.func 105) #[] #[]) w
   change Calls Tryz.prog 104 _ _ _ at hcon
   refine .inl ⟨kH _ _,callsIn_wide.2 ?_⟩;refine Calls.mono hcon ?_;rintro e w' ⟨rfl,rfl⟩;exact⟨_,rfl,j,.refl hm,VR.undef j⟩
  ·cases h
 ·rename_i b n n' xs ys
  split at h
  ·rename_i cs tg hcs;obtain⟨hg,htg,rfl,hcl,_⟩:=j6 hcs
   split at h
   ·rename_i l h7
    split at h
    ·rename_i hc; cases h;obtain⟨⟨h8,h9⟩,hlim,hok⟩:=hc;obtain⟨h4,h10⟩:=k9 hok;obtain⟨v0,vs,rfl,h1,hvs⟩:=hl.cons_inv;obtain⟨v1,v2,rfl,h2,h3⟩:=hvs.cons_inv;obtain rfl:=h3.cJ;have e0:=nZ h2 h8 h9;subst e0;obtain⟨k,c',hk,rfl⟩:=h1.at
     have ecs:=mI h7;have hp:cs.all aP=true:=by rw[ecs]; exact ja l
     have h5:∀x:dL,(dz x).length=4:=fun _=>rfl;have hlen:l.length=n:=by
      have:=cd h5 l;rw[←ecs,hcl] at this; omega
     by_cases hnil:l = []
     ·
      subst hnil;have h11:n=0:=by rw[←hlen]; rfl
      have h12:cs = []:=ecs;subst h11 h12;have:Inhabited (Pl [((0,0,0,0):dL)]):=⟨⟨(0,0,0,0),List.mem_singleton.2 rfl⟩⟩;have h6:∀x ∈ [((0,0,0,0):dL)],lH x:=fun x hx=>by rw[List.mem_singleton.1 hx]; exact⟨by decide,by decide,by decide,by decide⟩
      have h0:∀x:Pl [((0,0,0,0):dL)],(dz x.1).length=4:=fun _=>rfl;have hH:Go.Sort.HoldsK (fun x:Pl [((0,0,0,0):dL)]=>dz x.1) 4 w k.c 0 ([]:List (Pl [((0,0,0,0):dL)])).toArray:=by
       unfold Go.Sort.HoldsK;rw[ei h0 (by decide)]
       exact lO hm hk hg htg rfl
      have hcon:=Go.Proofs.AnyQ.slices_SortFunc_total Tryz.pO 4 (fun w=>qK w) (fun w=>oe w) (fun x:Pl [((0,0,0,0):dL)]=>dz x.1) h0 (fun x v hv=>by simp[dz,eP,eI] at hv; rcases hv with rfl|rfl|rfl|rfl<;>rfl) (pd _) (yK h6) 105 #[] k.c 0 c' ([]:List (Pl [((0,0,0,0):dL)])).toArray w ov
       (fun m os dk _ x y=>kB x.1 y.1) hH (hm.lt b k hk).2 (by simp) (yl h6 (by decide))
      change Calls Tryz.prog 104 _ _ _ at hcon
      simp only[List.size_toArray,List.length_nil] at hcon;refine .inl ⟨kH _ _,callsIn_wide.2 ?_⟩;refine Calls.mono hcon ?_;rintro e w' ⟨rfl,q,os,rfl⟩;refine⟨_,rfl,j,?_,VR.undef j⟩;unfold Go.Proofs.sortWorldK Go.Sort.putRowK;rw[ei h0 (by decide)]
      rw[List.mergeSort_nil,List.mergeSort_nil];exact qI hm hk hg rfl rfl q os
     ·have:Inhabited (Pl l):=⟨⟨l.head hnil,List.head_mem hnil⟩⟩;have h0:∀x:Pl l,(dz x.1).length=4:=fun _=>rfl;have eat:(l.attach.map fun x:Pl l=>dz x.1)=l.map dz:=by
       rw[show(fun x:Pl l=>dz x.1)=dz ∘ Subtype.val from rfl,←List.map_map,List.attach_map_subtype_val]
      have hH:Go.Sort.HoldsK (fun x:Pl l=>dz x.1) 4 w k.c 0 l.attach.toArray:=by
       unfold Go.Sort.HoldsK;rw[ei h0 (by decide),eat,←ecs]
       exact lO hm hk hg htg hp
      have hcon:=Go.Proofs.AnyQ.slices_SortFunc_total Tryz.pO 4 (fun w=>qK w) (fun w=>oe w) (fun x:Pl l=>dz x.1) h0 (fun x v hv=>by simp[dz,eP,eI] at hv; rcases hv with rfl|rfl|rfl|rfl<;>rfl) (pd l) (yK h4) 105 #[] k.c 0 c' l.attach.toArray w ov
       (fun m os dk _ x y=>kB x.1 y.1) hH (hm.lt b k hk).2 (by have:=lq hlim; simp; omega) (yl h4 h10)
      change Calls Tryz.prog 104 _ _ _ at hcon
      rw[u1 h4] at hcon;simp only[List.size_toArray,List.length_attach,hlen] at hcon;refine .inl ⟨kH _ _,callsIn_wide.2 ?_⟩;refine Calls.mono hcon ?_;rintro e w' ⟨rfl,q,os,rfl⟩;refine⟨_,rfl,j,?_,VR.undef j⟩;unfold Go.Proofs.sortWorldK Go.Sort.putRowK;rw[ei h0 (by decide)]
      have e1:((l.attach.mergeSort fun x y:Pl l=>cY x.1 y.1).map fun x:Pl l=>dz x.1)=(l.mergeSort cY).map dz:=by
       rw[show(fun x:Pl l=>dz x.1)=dz ∘ Subtype.val from rfl,←List.map_map,tE Subtype.val cY _ _ rfl,List.attach_map_subtype_val]
      rw[e1];exact qI hm hk hg (by rw[cd h5,hcl,List.length_mergeSort,hlen]) (ja _) q os
    ·cases h
   ·cases h
  ·cases h
 ·cases h
abbrev C1:={ v:Value // v.oneCell'=true}
instance:Inhabited C1:=⟨⟨.slice none 0 0,rfl⟩⟩
theorem w6 {j:aL} {v v':Value} (h:VR j v v') (hv:gQ v=true):v'.oneCell'=true:=by
 have h1:=lg h hv;cases v'<;>first|rfl|cases h1
theorem ta {j:aL} {cs cc:List Value} (h:LR j cs cc) (ho:cs.all gQ=true):∃l:List C1,l.map Subtype.val=cc:=by
 have h1:∀v ∈ cc,v.oneCell'=true:=fun v hv=>by
  obtain⟨i,hi⟩:=List.mem_iff_getElem?.1 hv;have hl:i<cs.length:=by rw[h.1]; exact(List.getElem?_eq_some_iff.1 hi).1
  obtain⟨v',g1,g2⟩:=h.2 i cs[i] (List.getElem?_eq_getElem hl);rw[hi] at g1; cases g1;exact w6 g2 (List.all_eq_true.1 ho _ (List.getElem_mem hl))
 exact⟨cc.attach.map fun x=>⟨x.1,h1 x.1 x.2⟩,by rw[List.map_map]; exact List.attach_map_subtype_val cc⟩
theorem sX {j:aL} {a a' b b':List Value} (h:LR j a a') (g:LR j b b'):LR j (a++b) (a'++b'):=by
 refine⟨by rw[List.length_append,List.length_append,h.1,g.1],fun i v hi=>?_⟩
 by_cases hc:i<a.length
 ·rw[List.getElem?_append,if_pos hc] at hi;rw[List.getElem?_append,if_pos (by have:=h.1; omega)]
  exact h.2 i v hi
 ·rw[List.getElem?_append,if_neg hc] at hi;rw[List.getElem?_append,if_neg (by have:=h.1; omega),←h.1]
  exact g.2 _ v hi
theorem vq {j:aL} {a a':List Value} (h:LR j a a') (n:Nat):LR j (a.take n) (a'.take n):=by
 refine⟨by rw[List.length_take,List.length_take,h.1],fun i v hi=>?_⟩
 rw[List.getElem?_take] at hi ⊢
 split at hi
 ·rename_i hc; rw[if_pos hc]; exact h.2 i v hi
 ·cases hi
theorem uO {j:aL} {a a':List Value} (h:LR j a a') (n:Nat):LR j (a.drop n) (a'.drop n):=by
 refine⟨by rw[List.length_drop,List.length_drop,h.1],fun i v hi=>?_⟩
 rw[List.getElem?_drop] at hi ⊢;exact h.2 _ v hi
theorem xB {j:aL} {z z':Value} (h:VR j z z') (n:Nat):LR j (List.replicate n z) (List.replicate n z'):=by
 refine⟨by simp,fun i v hi=>?_⟩
 rw[List.getElem?_replicate] at hi
 split at hi
 ·rename_i hc; cases hi;exact⟨z',by rw[List.getElem?_replicate,if_pos hc],h⟩
 ·cases hi
theorem VR.yZ {E:Env} {j:aL} {m:AMem} {w:World} (hm:MR E j m w) {b n:Nat} {cs:List Value} {tg:Tag} (hg:m.get b=some (.cells cs tg)) (htg:tg≠.ro) (hlim:lim n=true) {v':Value} (h:VR j (.slice (some ⟨b,0,none⟩) n n) v') :
  ∃k c',j b=some k∧v' = .slice (some ⟨k.c,0,none⟩) n c'∧(n≤c'∧c'≤9223372036854775807)∧∀x,x≤n→VR j (.slice (some ⟨b,0,none⟩) x n) (.slice (some ⟨k.c,0,none⟩) x c'):=by
 have hll:=lq hlim;cases h with
 | slice hj hmo=>exact⟨_,_,hj,rfl,⟨Nat.le_refl _,by omega⟩,fun x _=>.slice hj hmo⟩
 | sliceM hj hmo a1 a2 a3 a4 =>
  rename_i c' sz na nc k;obtain⟨c0,e0,fz,g1,g2,g3⟩:=hm.eT hj hg;cases tg with
  | ro=>exact absurd rfl htg
  | own=>have:k.more=none:=g2.1; rw[hmo] at this; cases this
  | more sz' =>
   obtain⟨d1,d2,rfl,d4,d5⟩:k.more=some (sz',cs.length,c0.size)∧cs.length≤c0.size∧fz=(0,0)∧0<sz'∧gD sz' c0:=g2;rw[hmo] at d1;simp only[Option.some.injEq,Prod.mk.injEq] at d1;obtain⟨rfl,rfl,rfl⟩:=d1;refine⟨k,c',hj,rfl,⟨a4,?_⟩,fun x hx=>.sliceM hj hmo a1 a2 hx a4⟩;unfold gD at d5;rw[←a2,Nat.add_zero,Nat.mul_comm] at d5;exact Nat.le_of_mul_le_mul_left d5 d4
theorem kQ {p q:Option Prim} {pr:Bool} {f:FuncId} {z:Value} {ρ:Go.Shelf.Ren} (L:Go.Proofs.SlLaysE.n45 Tryz.prog ρ) (hf:ρ.f 45=f) (F:Func) (c:Code) (hF:Tryz.prog.funcs[f]? = some F) (hb:F.body=some c) (h0:z.oneCell'=true) (hzr:∀j,VR j z z)
  (v0:∀w,(Go.zeroValue (ρ.t 23)).run Tryz.prog w = .ok z w) (i0:TypeInfo) (h1:Tryz.prog.info? (ρ.t 23)=some i0) (h2:i0.size=1)
  {args:List Value} {m m':AMem} {v:Value} (h:jd z args m=some (v,m')) {j:aL} {w:World} {args':List Value} (hm:MR (E15v p q) j m w) (hl:LR j args args') :
  eK (E15v p q).P pr f args'.toArray w (fV (E15v p q) j m w v m'):=by
 unfold jd at h
 split at h
 ·rename_i b n n' i k
  split at h
  ·rename_i cs tg hcs;obtain⟨hg,htg,rfl,hcl,_⟩:=j6 hcs
   split at h
   ·rename_i hc; cases h;obtain⟨hi0',hik,hkn,hlim,hone⟩:=hc;obtain⟨v1,vs,rfl,h3,hvs⟩:=hl.cons_inv;obtain⟨v2,v3,rfl,h4,h5⟩:=hvs.cons_inv;obtain⟨v4,v5,rfl,h6,h7⟩:=h5.cons_inv;obtain rfl:=h7.cJ;obtain⟨kb,c',hk,rfl,hcap,hres⟩:=VR.yZ hm hg htg hlim h3;cases h4;cases h6;obtain⟨i,rfl⟩:=Int.eq_ofNat_of_zero_le hi0';obtain⟨k,rfl⟩:=Int.eq_ofNat_of_zero_le (show 0≤k by omega)
    simp only[Int.ofNat_le,Int.toNat_natCast] at *;obtain⟨cc,hcc,hH⟩:=pF hm hk hg htg;obtain⟨d,rfl⟩:=ta hcc hone;have hdl:d.length=n:=by have:=hcc.1; rw[List.length_map] at this; omega
    have eH:∀(w:World) (l:List C1),Go.Sort.Holds id w kb.c 0 (l.map Subtype.val).toArray→Go.Sort.Holds (Subtype.val:C1→Value) w kb.c 0 l.toArray:=by
     intro w l h i hi;have hi':i<l.length:=by simpa using hi
     have:=h i (by simpa using hi')
     simpa [hi'] using this
    have hcon:=Go.Proofs.AnyE.slices_Delete L (Subtype.val:C1→Value) (fun x=>x.2) ⟨z,h0⟩ v0 i0 h1 h2 kb.c 0 c' i k d.toArray w (eH _ _ hH) (by simp[hdl]; exact hcap.1) hcap.2 hik (by simp[hdl]; exact hkn)
    rw[hf] at hcon;simp only[List.size_toArray,hdl] at hcon;have hent:∀args w,(callFunc f args).run Tryz.prog w = .ok (.enter f args) w:=fun args w=>ku.call f F c hF hb args w;refine .inl ⟨hent _ _,callsIn_wide.2 ?_⟩;refine Calls.mono hcon ?_;rintro e w' ⟨rfl,q,rfl⟩;refine⟨_,rfl,j,?_,hres _ (Nat.sub_le _ _)⟩;have e0:Go.Sort.putRow (Subtype.val:C1→Value) (Sort.ahead w q) kb.c 0 (d.take i++d.drop k++List.replicate (k-i) (⟨z,h0⟩:C1)).toArray=Go.Sort.putRow id (Sort.ahead w q) kb.c 0 ((d.map Subtype.val).take i++(d.map Subtype.val).drop k++List.replicate (k-i) z).toArray:=by
     have e1:∀l:List C1,Go.Sort.putRow (Subtype.val:C1→Value) (Sort.ahead w q) kb.c 0 l.toArray=Go.Sort.putRow id (Sort.ahead w q) kb.c 0 (l.map Subtype.val).toArray:=fun l=>by
      unfold Go.Sort.putRow Go.Sort.putCells
      congr 1
      funext c
      congr 1
      funext x v
      simp only[List.size_toArray,List.length_map,id]
      by_cases hx:0≤x∧x<0+l.length
      ·simp[show x<l.length by omega]
      ·rw[if_neg hx,if_neg hx]
     rw[e1];simp[List.map_take,List.map_drop]
    rw[e0,←Sort.grow_empty (Go.Sort.putRow id _ _ _ _)];exact sj hm hk hg (by simp; omega) (sX (sX (vq hcc _) (uO hcc _)) (xB (hzr j) _)) q #[]
   ·cases h
  ·cases h
 ·cases h
end Go.Proofs.YtmndpgfbkicndaaGreat
end

section
namespace Go.Proofs.YtmndpgfbkicndaaGreat
open Go Go.Ab Go.Ab.W
theorem qM {t:TypeId} (h:(Tryz.prog.info? t).map (·.size)=some 1):∃i,Tryz.prog.info? t=some i∧i.size=1:=by
 cases e:Tryz.prog.info? t with
 | none=>rw[e] at h; cases h
 | some i=>rw[e] at h; exact⟨i,rfl,Option.some.inj h⟩
theorem kM:EnvOk (E15v none none):=nJ oF fun f P hp args m v m' h j w args' hm hl=>by
 have hp0:(E15v none none).cu f=uJ f:=by
  show(if f=65 then none else if f=38 then none else uJ f)=_
  split
  ·rename_i e; subst e; rfl
  ·split
   ·rename_i e; subst e; rfl
   ·rfl
 rw[hp0] at hp;unfold uJ at hp
 split at hp
 ·rename_i e; subst e; cases hp;exact oD h hm hl
 ·split at hp
  ·rename_i e; subst e; cases hp;obtain⟨i0,hi0,hs⟩:=qM (t:=28) (by kernel_rfl)
   exact kQ Tryz.zx rfl _ _ Tryz.func115 rfl rfl (fun j=>.snil 0 0) Tryz.zeroValue28 i0 hi0 hs h hm hl
  ·split at hp
   ·rename_i e; subst e; cases hp;obtain⟨i0,hi0,hs⟩:=qM (t:=3) (by kernel_rfl)
    exact kQ Tryz.zB rfl _ _ Tryz.func101 rfl rfl (fun j=>.int _ _) Tryz.zeroValue3 i0 hi0 hs h hm hl
   ·cases hp
end Go.Proofs.YtmndpgfbkicndaaGreat
end
