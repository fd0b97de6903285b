/- A part of the proof. -/
import Derived.Test.YthmekkhpddehjaaGreatRm3
import Derived.Shelf.GgSortFunc.RowK
import Derived.Shelf.SlSortCmp.WholeK
import Derived.Shelf.SlGeneric
import Derived.Ground.SlsfProg
import Derived.Test.YthmekkhpddehjaaGreatProg
import Derived.Shelf.SlSortCmp.NoneTotal
import Derived.Lib.Overlaps
import Derived.HandedShaped
section
namespace Go.Ab.W
open Go Go.Ab
section
variable {P : Program} {ty el : TypeId}
theorem fw {eq:TypeId→Value→Value→Option Bool} {xs ys:Array Value} {t off:Nat} {rest:List (TypeId × Nat)} {x y:Value} {b r:Bool} (h1:ep P t xs off=some x) (h2:ep P t ys off=some y) (h3:eq t x y=some b) (h4:fY eq P xs ys rest=some r):fY eq P xs ys ((t,off)::rest)=some (b && r):=by
 unfold fY;rw[h1,h2]
 dsimp only
 rw[h3];cases b with
 | true=>exact h4
 | false=>rfl
theorem nX {k:IntKind} (he:P.underlying el=some (.int k)) (d:Nat) (x y:Nat):ik P (d+1) el (.int k ((x:Nat):Int)) (.int k ((y:Nat):Int))=some (decide (x=y)):=by
 simp only[ik,he,if_true]
 congr 1
 rw[Bool.eq_iff_iff];simp only[beq_iff_eq,decide_eq_true_eq];omega
theorem IV {k:IntKind} (hu:P.underlying ty=some (.array 8 el)) (hk:known P el=true) (hs:aA P el=1) (ha:dC P el=false) (he:P.underlying el=some (.int k)) (d:Nat) (x0 y0 x1 y1 x2 y2 x3 y3 x4 y4 x5 y5 x6 y6 x7 y7:Nat) :
  ik P (d+2) ty (.agg #[.int k ((x0:Nat):Int),.int k ((x1:Nat):Int),.int k ((x2:Nat):Int),.int k ((x3:Nat):Int),.int k ((x4:Nat):Int),.int k ((x5:Nat):Int),.int k ((x6:Nat):Int),.int k ((x7:Nat):Int)])
   (.agg #[.int k ((y0:Nat):Int),.int k ((y1:Nat):Int),.int k ((y2:Nat):Int),.int k ((y3:Nat):Int),.int k ((y4:Nat):Int),.int k ((y5:Nat):Int),.int k ((y6:Nat):Int),.int k ((y7:Nat):Int)]) =
   some (decide (x0=y0) && decide (x1=y1) && decide (x2=y2) && decide (x3=y3) && decide (x4=y4) && decide (x5=y5) && decide (x6=y6) && decide (x7=y7)):=by
 have hp:∀(cs:Array Value) (i:Nat) (v:Value),cs[i]? = some v→ep P el cs i=some v:=fun cs i v h=>by
  unfold ep;rw[hk,ha,h]; rfl
 show ik P ((d+1)+1) ty _ _=_
 unfold ik;simp only[hu,hk,if_true,hs]
 show fY _ P _ _ [(el,0),(el,1),(el,2),(el,3),(el,4),(el,5),(el,6),(el,7)]=_
 simp only[Bool.and_assoc];rw[fw (hp _ 0 _ rfl) (hp _ 0 _ rfl) (nX he d x0 y0) (fw (hp _ 1 _ rfl) (hp _ 1 _ rfl) (nX he d x1 y1) (fw (hp _ 2 _ rfl) (hp _ 2 _ rfl) (nX he d x2 y2) (fw (hp _ 3 _ rfl) (hp _ 3 _ rfl) (nX he d x3 y3) (fw (hp _ 4 _ rfl) (hp _ 4 _ rfl) (nX he d x4 y4) (fw (hp _ 5 _ rfl) (hp _ 5 _ rfl) (nX he d x5 y5) (fw (hp _ 6 _ rfl) (hp _ 6 _ rfl) (nX he d x6 y6) (fw (hp _ 7 _ rfl) (hp _ 7 _ rfl) (nX he d x7 y7) rfl)))))))];simp only[Bool.and_true]
theorem K5 {k:IntKind} (hu:P.underlying ty=some (.array 8 el)) (hk:known P el=true) (hs:aA P el=1) (ha:dC P el=false) (he:P.underlying el=some (.int k)) (x0 y0 x1 y1 x2 y2 x3 y3 x4 y4 x5 y5 x6 y6 x7 y7:Nat) :
  ik P Op.maxDepth ty (.agg #[.int k ((x0:Nat):Int),.int k ((x1:Nat):Int),.int k ((x2:Nat):Int),.int k ((x3:Nat):Int),.int k ((x4:Nat):Int),.int k ((x5:Nat):Int),.int k ((x6:Nat):Int),.int k ((x7:Nat):Int)])
   (.agg #[.int k ((y0:Nat):Int),.int k ((y1:Nat):Int),.int k ((y2:Nat):Int),.int k ((y3:Nat):Int),.int k ((y4:Nat):Int),.int k ((y5:Nat):Int),.int k ((y6:Nat):Int),.int k ((y7:Nat):Int)]) =
   some (decide (x0=y0) && decide (x1=y1) && decide (x2=y2) && decide (x3=y3) && decide (x4=y4) && decide (x5=y5) && decide (x6=y6) && decide (x7=y7)) :=
 IV hu hk hs ha he 9998 x0 y0 x1 y1 x2 y2 x3 y3 x4 y4 x5 y5 x6 y6 x7 y7
end
def LX {α:Type}:List α→Option (α × α × α)
 | [a,b,c]=>some (a,b,c)
 | _=>none
theorem C0 {α:Type} {xs:List α} {a b c:α} (hx:LX xs=some (a,b,c)):xs = [a,b,c]:=by
 unfold LX at hx
 split at hx
 ·cases hx; rfl
 ·cases hx
section
variable {P : Program} {ty : TypeId}
def Bl (P:Program) (ty u v:TypeId) (k l:IntKind):Bool:=match P.underlying ty with
 | some (.struct fs) => !(P.stoodInHeld ty || fs.any (·.name == "_")) && (fs.toList.map (fun f => (f.type, f.offset)) == [(u, 0), (v, 1)]) && known P u && known P v && (match P.underlying u, P.underlying v with | some (.int k'), some (.int l') => k' == k && l' == l | _, _ => false)
 | _=>false
theorem rG {u v : TypeId} {k l : IntKind} (h : Bl P ty u v k l = true) : ∃ fs, P.underlying ty = some (.struct fs) ∧ (P.stoodInHeld ty || fs.any (·.name == "_")) = false ∧ fs.toList.map (fun f => (f.type, f.offset)) = [(u, 0), (v, 1)] ∧
  known P u=true∧known P v=true∧P.underlying u=some (.int k)∧P.underlying v=some (.int l):=by
 unfold Bl at h
 split at h
 ·rename_i fs hf;simp only[Bool.and_eq_true,Bool.not_eq_true',beq_iff_eq] at h;obtain⟨⟨⟨⟨h1,h2⟩,h3⟩,h4⟩,h5⟩:=h
  split at h5
  ·rename_i k' l' e1 e2;simp only[Bool.and_eq_true,beq_iff_eq] at h5;obtain⟨rfl,rfl⟩:=h5;exact⟨fs,hf,h1,h2,h3,h4,e1,e2⟩
  ·cases h5
 ·cases h
theorem Hr {el:TypeId} {k:IntKind} (he:P.underlying el=some (.int k)) (d:Nat) (x y:Int):ik P (d+1) el (.int k x) (.int k y)=some (decide (x=y)):=by
 simp only[ik,he,if_true]
 rfl
theorem Cv {u v:TypeId} {k l:IntKind} (h:Bl P ty u v k l=true) (a c b d:Int) :
  ik P Op.maxDepth ty (.agg #[.int k a,.int l b]) (.agg #[.int k c,.int l d])=some (decide (a=c) && decide (b=d)):=by
 obtain⟨fs,hf,h1,h2,h3,h4,h5,h6⟩:=rG h;have a1:dC P u=false:=by simp only[dC,h5]
 have a2:dC P v=false:=by simp only[dC,h6]
 have p0:∀x y:Value,ep P u #[x,y] 0=some x:=fun x y=>by simp only[ep,h3,a1]; rfl
 have p1:∀x y:Value,ep P v #[x,y] 1=some y:=fun x y=>by simp only[ep,h4,a2]; rfl
 show ik P (9999+1) ty _ _=_
 unfold ik;simp only[hf,h1,Bool.false_eq_true,if_false,h2];rw[fw (p0 _ _) (p0 _ _) (Hr h5 9998 a c) (fw (p1 _ _) (p1 _ _) (Hr h6 9998 b d) rfl)];simp only[Bool.and_true]
theorem Km {u v:TypeId} {k l:IntKind} (h:Bl P ty u v k l=true):KeyE P ty (fun p:Int × Int=>.agg #[.int k p.1,.int l p.2]) where
 eq:=fun a b=>by
  rw[Cv h]
  congr 1
  by_cases h:a=b
  ·subst h; simp
  ·have:¬(a.1=b.1∧a.2=b.2):=fun⟨h1,h2⟩=>h (Prod.ext h1 h2);rw[decide_eq_false h,←Bool.decide_and,decide_eq_false this]
 ok:=fun a=>by
  obtain⟨fs,hf,h1,h2,h3,h4,h5,h6⟩:=rG h;have k1:dz P u=true:=by simp only[dz,h5]
  have k2:dz P v=true:=by simp only[dz,h6]
  have e:fs.toList.all (fun f=>dz P f.type && known P f.type && decide (f.offset<(#[Value.int k a.1,.int l a.2]:Array Value).size)) =
    (fs.toList.map fun f=>(f.type,f.offset)).all fun x=>dz P x.1 && known P x.1 && decide (x.2<(#[Value.int k a.1,.int l a.2]:Array Value).size):=by rw[List.all_map]; rfl
  simp only[fX,hf];rw[e,h2];simp only[List.all_cons,List.all_nil,k1,k2,h3,h4]
  rfl
 plain:=fun a=>rfl
 same:=fun a=>by simp[Instr.sameBits]
theorem Is {k:IntKind} (a b c d:Int) {ts:Array TypeId} (m:AMem):aY P .max ts [.int k a,.int k b,.int k c,.int k d] m=some (.int k (ma (ma (ma a b) c) d),m):=rfl
end
section
variable {E : Env} {n : Nat} {m0 : AMem} {fs : Fs} {ps : List Pc} {x : Operand} {v : Value} {ty : TypeId}
end
class TyC (P:Program) (ty:TypeId) (ag:outParam Bool) (sz:outParam Nat):Prop where
 t:TyI P ty ag sz
class FaC (P:Program) (ty:TypeId) (f:Nat) (off:outParam Nat):Prop where
 t:∀b o:Nat,aL P ty (ptr b o) f=some (ptr b (o+off))
class SlC (P:Program) (ty:TypeId) (el:outParam TypeId) (w:outParam Nat):Prop where
 t:SlT P ty el w
class ArC (P:Program) (ty:TypeId) (el:outParam TypeId) (len w:outParam Nat):Prop where
 t:ArT P ty el len w
class UsC (P:Program) (ty:TypeId) (el:outParam TypeId):Prop where
 t:P.underlying ty=some (.slice el)
section
variable {E : Env} {n : Nat} {m0 : AMem} {fs : Fs} {ps ps' : List Pc} {ops : Array Oper} {os : List Oper} {K : Tm → AMem → Prop} {dr : Bool}
variable {ty : TypeId} {p : String} {af : Array Edge} {d : Option Nat} {o : Op} {g : Option (Nat × Bool)} {v : Value}
end
section
variable {k : IntKind} {P : Program} {ty : TypeId}
end
section
variable {E : Env} {n : Nat} {m0 : AMem} {fs : Fs} {ps ps' : List Pc} {ops : Array Oper} {os : List Oper} {K : Tm → AMem → Prop} {dr : Bool}
variable {ty ty' oty : TypeId} {p : String} {af : Array Edge} {d : Nat} {dd : Option Nat} {o : Op} {a b r v : Value} {x y c : Operand}
def Me (ps:List Pc) (q q':Pc) (ps':List Pc):Prop:=∃k,pk ps k=some q∧cu ps k q'=ps'
end
structure Bx (Q:Prop):Prop where
 v:Q
section
variable {E : Env} {n : Nat} {m0 : AMem} {fs : Fs} {ps : List Pc} {fn : FuncId} {ro : Option Nat} {c : Code} {Q : AExit → Tm → AMem → Prop}
def Wl (E:Env) (n:Nat) (fn:FuncId) (ro:Option Nat) (c:Code) (Q:AExit→Tm→AMem→Prop) (m0:AMem) (fs:Fs) (ps:List Pc):Prop:=∀t m,Fr t fs→Hp m0 m ps→oc E n fn ro c Q t m
theorem Wk.B1 (h:Wl E n fn ro c Q m0 fs ps):Wk E n fn ro (.loop c) Q m0 fs ps:=fun t m hf hm=>.loop (h t m hf hm)
theorem Wl.round (h:Wk E n fn ro c (om (oc E n fn ro c Q) Q) m0 fs ps):Wl E n fn ro c Q m0 fs ps:=fun t m hf hm=>.round (h t m hf hm)
theorem At.tl (h:Wl E n fn ro c Q m0 fs ps):At (om (oc E n fn ro c Q) Q) .normal m0 fs ps:=h
end
section
variable {E : Env} {n : Nat} {m0 : AMem} {fs fs' : Fs} {ps ps' : List Pc} {ops : Array Oper} {os : List Oper} {K : Tm → AMem → Prop} {dr : Bool} {fn : FuncId} {ro : Option Nat} {c : Code} {Q : AExit → Tm → AMem → Prop}
variable {ty oty : TypeId} {p : String} {af : Array Edge} {d : Nat} {g : Option (Nat × Bool)} {x : Operand} {v : Value}
def ap {ρ:Type} {δ:ρ→Type} (X:(r:ρ)→δ r→En) (r:ρ):δ r→En:=X r
theorem lo {σ ρ γ:Type} {δ:ρ→Type} {body:σ→Option (σ ⊕ ρ)} {X:(r:ρ)→δ r→En} {N:Nat} {s:σ} {r:ρ} (h:cq body N s=some r) (g:γ) (ks:List Nat) (I:σ→γ→En)
  (hb:∀s g r,body s=some r→Wk E n fn ro c (match r with | .inl s'=>pO m0 (I s') | .inr r=>pO m0 (X r)) m0 (I s g).fs (I s g).ps)
  (hs:sub fs (I s g).fs:=by repeat first|exact sn|refine sc rfl ?_) (hd:nb ks=true:=by rfl) (hp:ab ps ks=some (I s g).ps:=by rfl)
  (hn:∀s g,(I s g).e = .normal:=by exact fun _ _=>rfl) (hx:∀r g,(X r g).e≠.normal:=by intro r d; first | (intro e; cases e; done) | (rcases r with r|r<;>first | (intro e; cases e; done) | (rcases r with r|r<;>first | (intro e; cases e; done) | (rcases r with r|r<;>intro e<;>cases e)))):Wk E n fn ro (.loop c) (pO m0 (ap X r)) m0 fs ps:=.de hs (ae.ab ks hd hp) (Wk.loop body I X hb hn hx N s r h g)
variable {m : AMem} {a : Option Addr} {cap w l : Nat} {es : List (List Value)}
variable {α : Type} {V : α → Value} {N : α → List Pc} {R : α → Pc} {f : Operand} {q : FuncId} {ars : Array Operand} {ts : Array TypeId} {args : List Value} {prs : List (Nat × Nat)} {ss : List Nk}
theorem wc (hg:uY ops fs g true) (hc:∀m,Hp m0 m ps→aG E q args m (fun v m'=>∃x,v=V x∧Hp m m' (N x))) (k:∀x,Wo dr E n ops K os m0 ((d,V x)::fs) (N x++ps)) (hf:ev E fs f=some (.func (.func q) #[] #[]):=by rfl) (ha:gQ E fs ars.toList=some args:=by rfl) (ho:∀x,uc (N x)=true:=by exact fun _=>rfl) (hd:Nat.blt d n=true:=by rfl):Wo dr E n ops K (⟨some d,.call ⟨.value f,ars,ts⟩,ty,p,af,g⟩::os) m0 fs ps:=Wo.x (bh hf ha hc ho) hg hd k
theorem nc (hg:uY ops fs g true) (hc:∀m,Hp m0 m ps→aG E q args m (fun v m'=>∃x,v=V x∧Hp m m' (N x))) (k:∀x,Wn E n ops prs K os (.call::ss) m0 ((d,V x)::fs) (N x++ps)) (hf:ev E fs f=some (.func (.func q) #[] #[]):=by rfl) (ha:gQ E fs ars.toList=some args:=by rfl) (ho:∀x,uc (N x)=true:=by exact fun _=>rfl) (hd:Nat.blt d n=true:=by rfl):Wn E n ops prs K (⟨some d,.call ⟨.value f,ars,ts⟩,ty,p,af,g⟩::os) ss m0 fs ps:=Wn.c (e9 hf ha hc ho) hg hd k
theorem vk {P:Program} {b n j k w:Nat} {es:List (List Value)} {tg:Tag} {e:List Value} {v:Value} (hm:Hp m0 m ps) (ht:TyI P ty false 1) (hp:pk ps k=some (.arr b w n es tg)) (he:es[j]? = some e) (hv:Bp false 1 e 0=some v) (hs:AD false 1 0 w=true):dg P ty (ptr b (j*w+0)) m=some v:=by
 have hs:=oJ hs;have:=jX (P:=P) ht (Own.FO (hm.get hp)) he hv hs.1 hs.2;rwa[Nat.zero_add] at this
end
end Go.Ab.W
end

section
namespace Go.Proofs.YthmekkhpddehjaaGreat
open Go Go.Ab Go.Ab.W
def LG (_:Nat):Option Bool:=some true
theorem HV (n:Nat) (r:Bool) (hF:LG n=some r) (m:AMem):aG aE 18 [] m (fun v m'=>∃_:Unit,v = .bool r∧Hp m m' []):=by
 cases hF;exact aG.cE (p:=⟨lE⟩) rfl (v:=.bool true) (m':=m) rfl ⟨(),rfl,Hp.start m⟩
def A6 (_:Nat) (x y c:Nat):Option (Nat × Nat):=gd (decide (c≤1)) (some ((x+y+c)%18446744073709551616,(x+y+c)/18446744073709551616))
def E4 (_:Nat) (x y c:Nat):Option (Nat × Nat):=gd (decide (c≤1)) (some ((x+18446744073709551616-y-c)%18446744073709551616,if x<y+c then 1 else 0))
theorem sr {V:Nat→Nat→Nat→Value} {x y c:Nat} (hc:c≤1) (m:AMem):dV V [.int .u64 ((x:Nat):Int),.int .u64 ((y:Nat):Int),.int .u64 ((c:Nat):Int)] m=some (V x y c,m):=by
 show(if Nat.ble c 1 then some (V x y c,m) else none)=_
 rw[Nat.ble_eq_true_of_le hc]; rfl
theorem s9 (n:Nat) (x y c:Nat) (r:Nat × Nat) (hF:A6 n x y c=some r) (m:AMem) :
  aG aE 144 [.int .u64 ((x:Nat):Int),.int .u64 ((y:Nat):Int),.int .u64 ((c:Nat):Int)] m (fun v m'=>∃_:Unit,v = .tuple #[.int .u64 ((r.1:Nat):Int),.int .u64 ((r.2:Nat):Int)]∧Hp m m' []):=by
 obtain⟨hc,hF⟩:=an hF;have hr:=Option.some.inj hF;subst hr;exact aG.cE (p:=⟨dV vw⟩) rfl (sr (of_decide_eq_true hc) m) ⟨(),rfl,.start m⟩
theorem zN (n:Nat) (x y c:Nat) (r:Nat × Nat) (hF:E4 n x y c=some r) (m:AMem) :
  aG aE 145 [.int .u64 ((x:Nat):Int),.int .u64 ((y:Nat):Int),.int .u64 ((c:Nat):Int)] m (fun v m'=>∃_:Unit,v = .tuple #[.int .u64 ((r.1:Nat):Int),.int .u64 ((r.2:Nat):Int)]∧Hp m m' []):=by
 obtain⟨hc,hF⟩:=an hF;have hr:=Option.some.inj hF;subst hr;exact aG.cE (p:=⟨dV sR⟩) rfl (sr (of_decide_eq_true hc) m) ⟨(),by
  show sR x y c=_
  unfold sR
  split<;>rfl,.start m⟩
end Go.Proofs.YthmekkhpddehjaaGreat
end

section
namespace Go.Proofs.YthmekkhpddehjaaGreat
open Go Go.Ab Go.Ab.W
set_option maxRecDepth 10000
def JZ (_:Nat) (x1:Int) (x2:Int):Option (Bool) :=
ob (some (ma (ma (ma x1 (IntKind.wrap .i64 (0-x1))) x2) (IntKind.wrap .i64 (0-x2)))) fun y4 =>
br (decide (1000000<y4)) (
some true) (
some (decide (mi x1 x2 < -1000000)))
def yW (_:Nat) (x1:Int):Option (Bool) :=
some (!decide (x1=x1))
def EW (n:Nat) (x1:Int) (x2:Int):Option (Int) :=
ob (yW n x1) fun r4 =>
ob (yW n x2) fun r6 =>
br (r4) (
br (r6) (
some 0) (
some (-1))) (
br (r6) (
some 1) (
br (decide (x1<x2)) (
some (-1)) (
br (decide (x2<x1)) (
some 1) (
some 0))))
def BE (n:Nat) (x1:Int) (x2:Int) (x3:Int) (x4:Int) (x5:Int) (x6:Int):Option (Int) :=
ob (some (IntKind.wrap .i64 ((IntKind.wrap .i64 (x3-x1))*(IntKind.wrap .i64 (x6-x2))))) fun y10 =>
ob (some (IntKind.wrap .i64 ((IntKind.wrap .i64 (x4-x2))*(IntKind.wrap .i64 (x5-x1))))) fun y12 =>
ob (EW n y10 y12) fun r15 =>
some r15
def mj (_:Nat) (l1:List (Int)):Int→Option ((Int) ⊕ ((Int) ⊕ (Unit))):=fun v6 =>
br (decide (v6<(l1.length:Int))) (
gd (bV v6 l1.length) (
ob (l1[v6.toNat]?) fun x20 =>
br (!decide (x20=0)) (
some (.inr (.inl x20))) (
some (.inl (IntKind.wrap .i64 (v6+1)))))) (
some (.inr (.inr ())))
def Ij (n:Nat) (l1:List (Int)):Option (Int) :=
ob (α:=(Int) ⊕ (Unit)) (
cq (mj n l1) n 0) fun r24=>match r24 with
| .inl v15 =>
some v15
| .inr _ =>
some 0
def BH (n:Nat) (x1:Int) (x2:Int) (x3:Int) (x4:Int):Option (Int) :=
ob (EW n x1 x3) fun r8 =>
ob (EW n x2 x4) fun r10 =>
ob (Ij n ([r8,r10])) fun r13 =>
some r13
def z6 (n:Nat) (_:Int) (x2:Int) (x3:Int) (x4:Int) (x5:Int) (x6:Int) (x7:Int):Option (Bool) :=
ob (BE n x2 x3 x4 x5 x6 x7) fun r11 =>
br (!decide (r11=0)) (
some false) (
ob (
ob (BH n x2 x3 x4 x5) fun r23 =>
br (decide (0<r23)) (
some (x4,x5,x2,x3)) (
some (x2,x3,x4,x5))) fun(v18,v19,v20,v21) =>
ob (BH n v18 v19 x6 x7) fun r28 =>
br (decide (r28≤0)) (
ob (BH n x6 x7 v20 v21) fun r31 =>
some (decide (r31≤0))) (
some false))
def nU (n:Nat) (x2:Int) (x14:Int) (x15:Int) (x5:Int) (x7:Int) (x8:Int) (x9:Int) (x10:Int) (x1:Int) (x6:Int):(List ((Int × Int) × Bool) × Int)→Option ((List ((Int × Int) × Bool) × Int) ⊕ (List ((Int × Int) × Bool))):=fun(l1,v1) =>
br (decide (v1<4)) (
ob (
gd (bV v1 4) (
ob ([(x2,x14),(x15,x5),(x7,x8),(x9,x10)][v1.toNat]?) fun(x3,x4) =>
ob (
ob (z6 n x1 x2 x14 x15 x5 x3 x4) fun r0 =>
br (r0) (
ob (z6 n x6 x7 x8 x9 x10 x3 x4) fun r1 =>
some r1) (
some false)) fun v2 =>
br (v2) (
some (gV l1 (x3,x4) true)) (
some l1))) fun l2 =>
some (.inl (l2,IntKind.wrap .i64 (v1+1)))) (
some (.inr l1))
def Lp (n:Nat) (x1:Int) (x2:Int) (x3:Int) (x4:Int) (x5:Int) (x6:Int) (x7:Int) (x8:Int) (x9:Int) (x10:Int):Option (Int) :=
ob (BE n x2 x3 x4 x5 x7 x8) fun r0 =>
ob (BE n x2 x3 x4 x5 x9 x10) fun r1 =>
ob (BE n x7 x8 x9 x10 x2 x3) fun r2 =>
ob (BE n x7 x8 x9 x10 x4 x5) fun r3 =>
ob (
cq (nU n x2 x3 x4 x5 x7 x8 x9 x10 x1 x6) n (([]:List ((Int × Int) × Bool)),0)) fun l1 =>
ob (some (l1.length)) fun y0 =>
br (decide (1<(y0:Int))) (
some 3) (
ob (some (l1.length)) fun y1 =>
br (decide ((y1:Int)=1)) (
some 1) (
ob (
br (decide (IntKind.wrap .i64 (r0*r1)<0)) (
some (decide (IntKind.wrap .i64 (r2*r3)<0))) (
some false)) fun v1 =>
br (v1) (
some 2) (
some 0)))
end Go.Proofs.YthmekkhpddehjaaGreat
end

section
namespace Go.Proofs.YthmekkhpddehjaaGreat
open Go Go.Ab Go.Ab.W
def LL (n:Nat) (x1:Int) (x2:Int) (x3:Int) (x4:Int):Option (Int) :=
ob (BH n x1 x2 x3 x4) fun r8 =>
some r8
end Go.Proofs.YthmekkhpddehjaaGreat
end

section
namespace Go.Proofs.YthmekkhpddehjaaGreat.W51
open Go Go.Ab Go.Ab.W
set_option maxRecDepth 10000
set_option maxHeartbeats 4000000
attribute [local irreducible] Tm.at Trie.set Trie.get AMem.get AMem.set AMem.alloc AMem.ww AMem.kill
theorem aF:TyI lU.P 33 true 2:=⟨by kernel_rfl,by kernel_rfl,by kernel_rfl⟩
theorem aV:∀b o,aL lU.P 33 (ptr b o) 0=some (ptr b (o+0)):=fun _ _=>by kernel_rfl
theorem bg:TyI lU.P 3 false 1:=⟨by kernel_rfl,by kernel_rfl,by kernel_rfl⟩
theorem aR:∀b o,aL lU.P 33 (ptr b o) 1=some (ptr b (o+1)):=fun _ _=>by kernel_rfl
theorem FH:lU.P.underlying 102=some (.slice 3):=by kernel_rfl
theorem vL:SlT lU.P 102 3 1:=SlT.of (by kernel_rfl)
theorem z3:bA lU.P 3=some (.int .i64 0):=by kernel_rfl
theorem mC (n:Nat) (x1:Int)  (r:Bool) (hF:yW n x1=some r) (m:AMem)  :
  aG lU 103 [.int .i64 x1] m (fun v m'=>∃_:Unit,v = .bool r∧Hp m m' []):=by
 unfold yW at hF;refine aB (m0:=m) (ps:=[]) (N:=6) (rs:=[.tmp 2]) rfl Tryz.func103 rfl rfl rfl (Hp.start m)<|Wk.seq<|Wk.region<|Wo.od (ai rfl) rfl<|Wo.nil<|At.tn<|Wk.seq<|Wk.region<|Wo.od (aa rfl) rfl<|Wo.od (aa rfl) rfl<|Wo.od (aj rfl rfl (bF _ _)) rfl<|Wo.od (ai rfl) rfl<|Wo.nil<|At.tn<|Wk.ret ?_;cases hF;exact At.ret (.tmp rfl .nil) fun m' hm=>⟨(),rfl,(ae.ab [] rfl rfl) m' hm⟩
theorem nJ (n:Nat) (x1:Int) (x2:Int)  (r:Int) (hF:EW n x1 x2=some r) (m:AMem)  :
  aG lU 83 [.int .i64 x1,.int .i64 x2] m (fun v m'=>∃_:Unit,v = .int .i64 r∧Hp m m' []):=by
 unfold EW at hF;refine aB (m0:=m) (ps:=[]) (N:=20) (rs:=[.tmp 4]) rfl Tryz.func83 rfl rfl rfl (Hp.start m)<|Wk.seq<|Wk.region<|Wo.od (ai rfl) rfl<|Wo.nil<|At.tn<|Wk.seq<|Wk.region<|Wo.od (aa rfl) rfl ?_;obtain⟨r4,h3,hF⟩:=J hF;refine Wo.x (bh rfl rfl (fun m hm=>mC n x1  _ h3 m) fun _=>rfl) gn rfl ?_;rintro⟨⟩;refine Wo.od (ai rfl) rfl<|Wo.nil<|At.tn<|Wk.seq<|Wk.region<|Wo.od (aa rfl) rfl ?_;obtain⟨r6,h5,hF⟩:=J hF;refine Wo.x (bh rfl rfl (fun m hm=>mC n x2  _ h5 m) fun _=>rfl) gn rfl ?_;rintro⟨⟩;refine Wo.od (ai rfl) rfl<|Wo.nil<|At.tn<|Wk.seq<|Wk.seq<|Wk.region<|Wo.od (aa rfl) rfl<|Wo.nil<|At.tn ?_;rcases ah hF with⟨h7,hF⟩|⟨h7,hF⟩
 ·refine Wk.au rfl h7<|Wk.seq<|Wk.seq<|Wk.region<|Wo.od (aa rfl) rfl<|Wo.nil<|At.tn ?_;rcases ah hF with⟨h8,hF⟩|⟨h8,hF⟩
  ·refine Wk.au rfl h8<|Wk.seq<|Wk.region<|Wo.od (ai rfl) rfl<|Wo.nil<|At.tn<|Wk.ret<|At.tr<|At.tr ?_;cases hF;exact At.ret (.tmp rfl .nil) fun m' hm=>⟨(),rfl,(ae.ab [] rfl rfl) m' hm⟩
  ·refine Wk.aw rfl h8<|Wk.skip<|At.tn<|Wk.seq<|Wk.region<|Wo.od (ai rfl) rfl<|Wo.nil<|At.tn<|Wk.ret<|At.tr ?_;cases hF;exact At.ret (.tmp rfl .nil) fun m' hm=>⟨(),rfl,(ae.ab [] rfl rfl) m' hm⟩
 ·refine Wk.aw rfl h7<|Wk.skip<|At.tn<|Wk.seq<|Wk.seq<|Wk.region<|Wo.od (aa rfl) rfl<|Wo.nil<|At.tn ?_;rcases ah hF with⟨h9,hF⟩|⟨h9,hF⟩
  ·refine Wk.au rfl h9<|Wk.seq<|Wk.region<|Wo.od (ai rfl) rfl<|Wo.nil<|At.tn<|Wk.ret<|At.tr ?_;cases hF;exact At.ret (.tmp rfl .nil) fun m' hm=>⟨(),rfl,(ae.ab [] rfl rfl) m' hm⟩
  ·refine Wk.aw rfl h9<|Wk.skip<|At.tn<|Wk.seq<|Wk.seq<|Wk.region<|Wo.od (aa rfl) rfl<|Wo.od (aa rfl) rfl<|Wo.od (aj rfl rfl (aD _ _ _)) rfl<|Wo.nil<|At.tn ?_;rcases ah hF with⟨h10,hF⟩|⟨h10,hF⟩
   ·refine Wk.au rfl h10<|Wk.seq<|Wk.region<|Wo.od (ai rfl) rfl<|Wo.nil<|At.tn<|Wk.ret<|At.tr ?_;cases hF;exact At.ret (.tmp rfl .nil) fun m' hm=>⟨(),rfl,(ae.ab [] rfl rfl) m' hm⟩
   ·refine Wk.aw rfl h10<|Wk.skip<|At.tn<|Wk.seq<|Wk.seq<|Wk.region<|Wo.od (aa rfl) rfl<|Wo.od (aa rfl) rfl<|Wo.od (aj rfl rfl (bB _ _ _)) rfl<|Wo.nil<|At.tn ?_;rcases ah hF with⟨h11,hF⟩|⟨h11,hF⟩
    ·refine Wk.au rfl h11<|Wk.seq<|Wk.region<|Wo.od (ai rfl) rfl<|Wo.nil<|At.tn<|Wk.ret<|At.tr ?_;cases hF;exact At.ret (.tmp rfl .nil) fun m' hm=>⟨(),rfl,(ae.ab [] rfl rfl) m' hm⟩
    ·refine Wk.aw rfl h11<|Wk.skip<|At.tn<|Wk.seq<|Wk.region<|Wo.od (ai rfl) rfl<|Wo.nil<|At.tn<|Wk.ret ?_;cases hF;exact At.ret (.tmp rfl .nil) fun m' hm=>⟨(),rfl,(ae.ab [] rfl rfl) m' hm⟩
theorem yq (n:Nat) (l1:List (Int)) (a2:Option Addr) (c3:Nat) (r:Int) (hF:Ij n l1=some r) (m:AMem) (h4:Rd m a2 c3 1 l1.length (l1.map (eI .i64))) :
  aG lU 82 [.slice a2 l1.length c3] m (fun v m'=>∃_:Unit,v = .int .i64 r∧Hp m m' []):=by
 unfold Ij at hF;refine aB (m0:=m) (ps:=[.rd a2 c3 1 l1.length (l1.map (eI .i64))]) (N:=18) (rs:=[.tmp 2]) rfl Tryz.func82 rfl rfl rfl ((Hp.start m).jj rfl h4)<|Wk.seq<|Wk.region<|Wo.od (ai rfl) rfl<|Wo.nil<|At.tn<|Wk.seq<|Wk.region<|Wo.od (ai rfl) rfl<|Wo.nil<|At.tn<|Wk.seq<|Wk.seq<|Wk.region<|Wo.od (aa rfl) rfl<|Wo.od (bL (k:=0) FH rfl rfl (.inl rfl)) rfl<|Wo.od (aa rfl) rfl<|Wo.nil<|At.tn<|Wk.block ?_;obtain⟨r24,h23,hF⟩:=J hF;refine Wk.cut (G:=(fun(r:(Int) ⊕ (Unit)) (g:Unit)=>match r,g with | .inl v15,_=>⟨.ret,[(2,.int .i64 v15)],[]⟩ | .inr _,_=>⟨(.exit 0),[(3,.int .i64 0)],[]⟩) r24) ?_ ?_
 ·refine Wk.de (fs':=[(3,.int .i64 0),(6,.slice a2 l1.length c3),(7,.int .i64 (l1.length:Int)),(8,.int .i64 0)]) (ps':=[.rd a2 c3 1 l1.length (l1.map (eI .i64))]) (sc rfl (sc rfl (sc rfl (sc rfl sn)))) (ae.ab [0] rfl rfl) ?_;refine Wk.loop (σ:=Int) (ρ:=(Int) ⊕ (Unit)) (γ:=Unit) (δ:=fun _=>Unit) _ (fun(s:Int) (g:Unit)=>match s,g with|v6,_=>⟨.normal,[(3,.int .i64 0),(6,.slice a2 l1.length c3),(7,.int .i64 (l1.length:Int)),(8,.int .i64 v6)],[.rd a2 c3 1 l1.length (l1.map (eI .i64))]⟩) (fun(r:(Int) ⊕ (Unit)) (g:Unit)=>match r,g with | .inl v15,_=>⟨.ret,[(2,.int .i64 v15)],[]⟩ | .inr _,_=>⟨(.exit 0),[(3,.int .i64 0)],[]⟩) ?_ (fun _ _=>rfl) (fun r d=>by rcases r with _|_<;>(intro e; cases e)) _ _ _ h23 ()
  clear hF h23;rintro v6 ⟨⟩ r hF;unfold mj at hF;refine Wk.seq<|Wk.region<|Wo.od (aj rfl rfl (aD _ _ _)) rfl<|Wo.nil<|At.tn<|Wk.seq ?_;rcases ah hF with⟨h16,hF⟩|⟨h16,hF⟩
  ·refine Wk.au rfl h16<|Wk.skip<|At.tn<|Wk.seq<|Wk.block<|Wk.seq<|Wk.region ?_;obtain⟨h17,hF⟩:=an hF;replace h17:=ar h17;refine Wo.cB (k:=0) rfl (bw h17) ?_;rintro b18 o19 rfl;refine Wo.og (bC vL rfl rfl h17) gn rfl ?_;obtain⟨x20,h21,hF⟩:=J hF;refine Wo.od (bG (k:=0) bg rfl rfl (aN h21) rfl rfl) rfl<|Wo.od (ai rfl) rfl<|Wo.nil<|At.tn<|Wk.seq<|Wk.region<|Wo.od (aa rfl) rfl<|Wo.od (aa rfl) rfl<|Wo.od (aj rfl rfl (bF _ _)) rfl<|Wo.nil<|At.tn ?_;rcases ah hF with⟨h22,hF⟩|⟨h22,hF⟩
   ·refine Wk.au rfl h22<|Wk.seq<|Wk.region<|Wo.od (aa rfl) rfl<|Wo.od (ai rfl) rfl<|Wo.nil<|At.tn<|Wk.ret<|At.br<|At.tr ?_;cases hF;exact At.en () rfl (sc rfl sn) (ae.ab [] rfl rfl)
   ·refine Wk.aw rfl h22<|Wk.skip<|At.bn<|At.tn<|Wk.region<|Wo.od (aj rfl rfl (az _ _ _)) rfl<|Wo.od (aa rfl) rfl<|Wo.nil ?_;cases hF;exact At.en () rfl (sc rfl (sc rfl (sc rfl (sc rfl sn)))) (ae.ab [1] rfl rfl)
  ·refine Wk.aw rfl h16<|Wk.exit<|At.te ?_;cases hF;exact At.en () rfl (sc rfl sn) (ae.ab [] rfl rfl)
 ·clear h23;rcases r24 with v15|_
  ·rintro⟨⟩;refine At.br<|At.tr ?_;have hr:=Option.some.inj hF;subst r;exact At.ret (.tmp rfl .nil) fun m' hm=>⟨(),rfl,(ae.ab [] rfl rfl) m' hm⟩
  ·rintro⟨⟩;refine At.be<|At.tn<|Wk.seq<|Wk.region<|Wo.od (aa rfl) rfl<|Wo.od (ai rfl) rfl<|Wo.nil<|At.tn<|Wk.ret ?_;cases hF;exact At.ret (.tmp rfl .nil) fun m' hm=>⟨(),rfl,(ae.ab [] rfl rfl) m' hm⟩
theorem pg (n:Nat) (x1:Int) (x2:Int) (x3:Int) (x4:Int)  (r:Int) (hF:BH n x1 x2 x3 x4=some r) (m:AMem)  :
  aG lU 52 [.agg #[.int .i64 x1,.int .i64 x2],.agg #[.int .i64 x3,.int .i64 x4]] m (fun v m'=>∃_:Unit,v = .int .i64 r∧Hp m m' []):=by
 unfold BH at hF;refine aB (m0:=m) (ps:=[]) (N:=17) (rs:=[.tmp 4]) rfl Tryz.func52 rfl rfl rfl (Hp.start m)<|Wk.seq<|Wk.region<|Wo.x (bW rfl) gn rfl fun b5=>?_;refine Wo.x (bW rfl) gn rfl fun b6=>?_;refine Wo.od (ai rfl) rfl<|Wo.nil<|At.tn<|Wk.seq<|Wk.eT (prs:=[(4,6),(4,8)]) (by kernel_rfl)<|Wn.od (ax (r:=ptr b5 0) rfl (aV _ _)) rfl<|Wn.od (ak (k:=1) bg rfl rfl rfl) rfl<|Wn.od (ax (r:=ptr b6 0) rfl (aV _ _)) rfl<|Wn.od (ak (k:=0) bg rfl rfl rfl) rfl ?_
 obtain⟨r8,h7,hF⟩:=J hF;refine Wn.c (e9 rfl rfl (fun m hm=>nJ n x1 x3  _ h7 m) fun _=>rfl) gn rfl ?_;rintro⟨⟩;refine Wn.od (ax (r:=ptr b5 1) rfl (aR _ _)) rfl<|Wn.od (ak (k:=1) bg rfl rfl rfl) rfl<|Wn.od (ax (r:=ptr b6 1) rfl (aR _ _)) rfl<|Wn.od (ak (k:=0) bg rfl rfl rfl) rfl ?_;obtain⟨r10,h9,hF⟩:=J hF;refine Wn.c (e9 rfl rfl (fun m hm=>nJ n x2 x4  _ h9 m) fun _=>rfl) gn rfl ?_;rintro⟨⟩;refine Wn.x (kY (es:=([r8,r10]:List (Int)).map (eI .i64)) vL rfl (k6 vL z3 rfl rfl) rfl rfl) gn rfl fun b11=>?_;obtain⟨r13,h12,hF⟩:=J hF;refine Wn.c (e9 rfl rfl (fun m hm=>yq n ([r8,r10]) (some ⟨b11,0,none⟩) 2 _ h12 m (hm.rd (k:=0) rfl (.arr _ _ _ _ _))) fun _=>rfl) gn rfl ?_;rintro⟨⟩;refine Wn.od (ai rfl) rfl<|Wn.nil (fun m hm=>gP.all rfl)<|At.tn<|Wk.ret ?_;have hr:=Option.some.inj hF;subst r;exact At.ret (.tmp rfl .nil) fun m' hm=>⟨(),rfl,(ae.ab [] rfl rfl) m' hm⟩
theorem Je (n:Nat) (x1:Int) (x2:Int) (x3:Int) (x4:Int)  (r:Int) (hF:LL n x1 x2 x3 x4=some r) (m:AMem)  :
  aG lU 51 [.agg #[.int .i64 x1,.int .i64 x2],.agg #[.int .i64 x3,.int .i64 x4]] m (fun v m'=>∃_:Unit,v = .int .i64 r∧Hp m m' []):=by
 unfold LL at hF;refine aB (m0:=m) (ps:=[]) (N:=8) (rs:=[.tmp 4]) rfl Tryz.func51 rfl rfl rfl (Hp.start m)<|Wk.seq<|Wk.region<|Wo.x (bW rfl) gn rfl fun b5=>?_;refine Wo.x (bW rfl) gn rfl fun b6=>?_;refine Wo.od (ai rfl) rfl<|Wo.nil<|At.tn<|Wk.seq<|Wk.region<|Wo.od (ak (k:=1) aF rfl rfl rfl) rfl<|Wo.od (ak (k:=0) aF rfl rfl rfl) rfl ?_;obtain⟨r8,h7,hF⟩:=J hF;refine Wo.x (bh rfl rfl (fun m hm=>pg n x1 x2 x3 x4  _ h7 m) fun _=>rfl) gn rfl ?_;rintro⟨⟩;refine Wo.od (ai rfl) rfl<|Wo.nil<|At.tn<|Wk.ret ?_;have hr:=Option.some.inj hF;subst r;exact At.ret (.tmp rfl .nil) fun m' hm=>⟨(),rfl,(ae.ab [] rfl rfl) m' hm⟩
end Go.Proofs.YthmekkhpddehjaaGreat.W51
end

section
namespace Go.Ab
open Go
def tz (x:Nat):Nat:=if x=0 then 64 else Nat.log2 (x &&& (2 ^ 64-x))
end Go.Ab
end

section
namespace Go.Ab.W
open Go Go.Ab
theorem Ck {a:Nat} (h:a<2 ^ 64):uw .u64 a=a:=Nat.mod_eq_of_lt h
theorem BV {a b:Nat} (ha:a<2 ^ 64) (hb:b<2 ^ 64):uw .u64 (uw .u64 a &&& uw .u64 b)=a &&& b:=by
 rw[Ck ha,Ck hb,Ck (Nat.lt_of_le_of_lt Nat.and_le_left ha)]
section
variable {σ ρ τ : Type}
end
end Go.Ab.W
end

section
namespace Go.Ab.B
open Go Go.Ab Go.Ab.W
section
variable {α β σ ρ : Type}
theorem gS (a b:Option β):br true a b=a:=rfl
theorem cr (a b:Option β):br false a b=b:=rfl
theorem aW (a:Option β):gd true a=a:=rfl
theorem al (x:α) (f:α→Option β):ob (some x) f=f x:=rfl
theorem aO {p:Prop} [Decidable p] (h:p) (a b:Option β):br (decide p) a b=a:=by rw[decide_eq_true h]; rfl
theorem aH {p:Prop} [Decidable p] (h:¬p) (a b:Option β):br (decide p) a b=b:=by rw[decide_eq_false h]; rfl
theorem Ib (c:Bool) (a b:Option β):br c a b=if c then a else b:=by cases c<;>rfl
theorem pJ (c d:Bool):br c (some true) (some d)=some (c || d):=by cases c<;>rfl
theorem dS (c d:Bool):br c (some d) (some false)=some (c && d):=by cases c<;>rfl
theorem mc {p:Prop} [Decidable p] (h:p) (a:Option β):gd (decide p) a=a:=by rw[decide_eq_true h]; rfl
theorem aI {i n:Nat} (h:i<n):bV (i:Int) n=true:=decide_eq_true ⟨Int.natCast_nonneg i,by simpa using h⟩
theorem aq {x:Int} (h1 : -9223372036854775808≤x) (h2:x<9223372036854775808):IntKind.wrap .i64 x=x:=wrap_i64 x h1 (by omega)
theorem aS {i:Nat} (h:i<4611686018427387904):IntKind.wrap .i64 ((i:Int)+1)=((i+1:Nat):Int):=by rw[aq (by omega) (by omega)]; rfl
theorem bp {body:σ→Option (σ ⊕ ρ)} {n:Nat} {s s':σ} (h:body s=some (.inl s')):cq body (n+1) s=cq body n s':=by simp only[cq,h]
theorem bN {body:σ→Option (σ ⊕ ρ)} {n:Nat} {s:σ} {r:ρ} (h:body s=some (.inr r)):cq body (n+1) s=some r:=by simp only[cq,h]
end
theorem cL {u v B C:Int} (_:0≤B) (hu1 : -B≤u) (hu2:u≤B) (hv1 : -C≤v) (hv2:v≤C) : -(B*C)≤u*v∧u*v≤B*C:=by
 have hC:0≤C:=by omega
 have h1:0≤(B-u)*(C-v):=Int.mul_nonneg (by omega) (by omega)
 have h2:0≤(B+u)*(C+v):=Int.mul_nonneg (by omega) (by omega)
 have h3:0≤(B-u)*(C+v):=Int.mul_nonneg (by omega) (by omega)
 have h4:0≤(B+u)*(C-v):=Int.mul_nonneg (by omega) (by omega)
 have e1:(B-u)*(C-v)=B*C-B*v-u*C+u*v:=by rw[Int.sub_mul,Int.mul_sub,Int.mul_sub]; omega
 have e2:(B+u)*(C+v)=B*C+B*v+u*C+u*v:=by rw[Int.add_mul,Int.mul_add,Int.mul_add]; omega
 have e3:(B-u)*(C+v)=B*C+B*v-u*C-u*v:=by rw[Int.sub_mul,Int.mul_add,Int.mul_add]; omega
 have e4:(B+u)*(C-v)=B*C-B*v+u*C-u*v:=by rw[Int.add_mul,Int.mul_sub,Int.mul_sub]; omega
 omega
theorem rX {α:Type} [DecidableEq α]:∀{l m:List α},l.Nodup→(∀a ∈ l,a ∈ m)→l.length≤m.length
 | [],_,_,_=>Nat.zero_le _
 | a::l,m,hn,hs=>by
  obtain⟨n1,n2⟩:=List.nodup_cons.1 hn;have ha:=hs a List.mem_cons_self;have:=rX (l:=l) (m:=m.erase a) n2 fun b hb=>by
   have hne:b≠a:=fun e=>n1 (e ▸ hb);exact(List.mem_erase_of_ne hne).2 (hs b (List.mem_cons_of_mem _ hb))
  rw[List.length_erase_of_mem ha] at this;have hp:0<m.length:=List.length_pos_of_mem ha;rw[List.length_cons]; omega
end Go.Ab.B
end

section
namespace Jd
abbrev P2:=Rat × Rat
def tn (a b c:P2):Rat:=(b.1-a.1)*(c.2-a.2)-(b.2-a.2)*(c.1-a.1)
def af (α β γ:Rat) (x:P2):Rat:=α*x.1+β*x.2+γ
def Sep (a b p q:P2):Prop:=∃α β γ,0<af α β γ a∧0<af α β γ b∧af α β γ p<0∧af α β γ q<0
section
variable {a b p q : P2}
end
def bT:Nat→(Nat→Int)→Int
 | 0,_=>0
 | n+1,f=>bT n f+f n
theorem cg {n:Nat} {f g:Nat→Int} (h:∀i,i<n→f i=g i):bT n f=bT n g:=by
 induction n with
 | zero=>rfl
 | succ n ih=>simp only[bT]; rw[ih fun i hi=>h i (by omega),h n (by omega)]
theorem wT (n:Nat) (f g:Nat→Int):bT n (fun i=>f i-g i)=bT n f-bT n g:=by
 induction n with
 | zero=>rfl
 | succ n ih=>simp only[bT]; rw[ih]; omega
theorem qy (n:Nat) (f:Nat→Int):bT n (fun i=>f (i+1)-f i)=f n-f 0:=by
 induction n with
 | zero=>simp[bT]
 | succ n ih=>simp only[bT]; rw[ih]; omega
theorem AB {n:Nat} {f:Nat→Int} (h:∀i,i<n→f i=0):bT n f=0:=by
 induction n with
 | zero=>rfl
 | succ n ih=>simp only[bT]; rw[ih fun i hi=>h i (by omega),h n (by omega)]; rfl
def dt (u w x:P2):Rat:=(w.1-u.1)*(x.1-w.1)+(w.2-u.2)*(x.2-w.2)
structure Simple (n:Nat) (v:Nat→P2):Prop where
 n3:2<n
 cl:v n=v 0
 cl1:v (n+1)=v 1
 ne:∀i,i<n→v i≠v (i+1)
 ic:∀i,i<n→tn (v i) (v (i+1)) (v (i+2))≠0∨0<dt (v i) (v (i+1)) (v (i+2))
 sep:∀i j,i<n→j<n→i≠j→j≠i+1→i≠j+1→¬(i=0∧j+1=n)→¬(j=0∧i+1=n)→Sep (v i) (v (i+1)) (v j) (v (j+1))
section
variable {n : Nat} {v : Nat → P2}
end
section
variable {n : Nat} {v : Nat → P2}
end
abbrev I2:=Int × Int
def ti (a b c:I2):Int:=(b.1-a.1)*(c.2-a.2)-(b.2-a.2)*(c.1-a.1)
theorem gh (a b p:I2):ti b a p = -ti a b p:=by unfold ti; grind
theorem yX (a b:I2):ti a b a=0:=by unfold ti; grind
theorem yg (a b:I2):ti a b b=0:=by unfold ti; grind
theorem FP (a b c d:I2):ti a b d-ti a b c=ti c d a-ti c d b:=by unfold ti; grind
def dD (a b p:I2):Prop:=ti a b p=0∧min a.1 b.1≤p.1∧p.1≤max a.1 b.1∧min a.2 b.2≤p.2∧p.2≤max a.2 b.2
instance (a b p:I2):Decidable (dD a b p):=by unfold dD; infer_instance
theorem dD.swap {a b p:I2} (h:dD a b p):dD b a p:=by
 obtain⟨h1,h2⟩:=h;exact⟨by rw[gh,h1]; rfl,by omega⟩
theorem o7 {a b p:I2}:dD a b p↔dD b a p:=⟨dD.swap,dD.swap⟩
theorem HD (a b:I2):dD a b a:=⟨yX a b,by omega⟩
theorem HN (a b:I2):dD a b b:=⟨yg a b,by omega⟩
theorem zv {a b p:I2} (h:a.1<b.1):dD a b p↔ti a b p=0∧a.1≤p.1∧p.1≤b.1:=by
 refine⟨fun⟨h1,h2⟩=>⟨h1,by omega⟩,fun⟨h1,h2,h3⟩=>⟨h1,by omega,by omega,?_,?_⟩⟩
 all_goals
  unfold ti at h1;have e1:(b.1-a.1)*(p.2-a.2)=(b.2-a.2)*(p.1-a.1):=by omega
  have e2:(b.1-a.1)*(b.2-p.2)=(b.2-a.2)*(b.1-p.1):=by grind
  by_cases hy:a.2≤b.2
  ·have m1:0≤(b.1-a.1)*(p.2-a.2):=by rw[e1]; exact Int.mul_nonneg (by omega) (by omega)
   have m2:0≤(b.1-a.1)*(b.2-p.2):=by rw[e2]; exact Int.mul_nonneg (by omega) (by omega)
   have k1:=Int.nonneg_of_mul_nonneg_right m1 (by omega)
   have k2:=Int.nonneg_of_mul_nonneg_right m2 (by omega)
   omega
  ·have m1:0≤(b.1-a.1)*(a.2-p.2):=by
    rw[show(b.1-a.1)*(a.2-p.2)=(a.2-b.2)*(p.1-a.1) by grind]; exact Int.mul_nonneg (by omega) (by omega)
   have m2:0≤(b.1-a.1)*(p.2-b.2):=by
    rw[show(b.1-a.1)*(p.2-b.2)=(a.2-b.2)*(b.1-p.1) by grind]; exact Int.mul_nonneg (by omega) (by omega)
   have k1:=Int.nonneg_of_mul_nonneg_right m1 (by omega)
   have k2:=Int.nonneg_of_mul_nonneg_right m2 (by omega)
   omega
theorem Ch {a b p:I2} (h:a.1=b.1) (hab:a≠b):dD a b p↔p.1=a.1∧min a.2 b.2≤p.2∧p.2≤max a.2 b.2:=by
 have hy:a.2≠b.2:=fun e=>hab (Prod.ext h e);refine⟨fun⟨_,h2⟩=>by omega,fun⟨h1,h2⟩=>⟨?_,by omega⟩⟩
 unfold ti;rw[h1,←h]; grind
theorem kT {a b p:I2} (h:a.1=b.1) (hab:a≠b) (h0:ti a b p=0):p.1=a.1:=by
 have hy:b.2-a.2≠0:=fun e=>hab (Prod.ext h (by omega))
 unfold ti at h0;rw[h,Int.sub_self,Int.zero_mul] at h0;have:(b.2-a.2)*(p.1-b.1)=0:=by omega
 rcases Int.mul_eq_zero.1 this with e|e
 ·exact absurd e hy
 ·omega
theorem my {a b p q:I2} (h:a.1≠b.1) (hp:ti a b p=0) (hq:ti a b q=0) (e:p.1=q.1):p=q:=by
 have:(b.1-a.1)*(p.2-q.2)=0:=by unfold ti at hp hq; rw[e] at hp; grind
 rcases Int.mul_eq_zero.1 this with e' | e'
 ·omega
 ·exact Prod.ext e (by omega)
def Lx (a b:I2):Prop:=a.1<b.1∨a.1=b.1∧a.2≤b.2
theorem IG {a b p:I2} (hab:a≠b) (h:Lx a b):dD a b p↔ti a b p=0∧Lx a p∧Lx p b:=by
 unfold Lx at *
 by_cases hx:a.1<b.1
 ·rw[zv hx];refine⟨fun⟨h1,h2,h3⟩=>⟨h1,?_,?_⟩,fun⟨h1,h2,h3⟩=>⟨h1,by omega,by omega⟩⟩
  ·by_cases e:p.1=a.1
   ·have:=my (by omega) h1 (yX a b) e
    rw[this]; omega
   ·omega
  ·by_cases e:p.1=b.1
   ·have:=my (by omega) h1 (yg a b) e
    rw[this]; omega
   ·omega
 ·have e:a.1=b.1:=by omega
  rw[Ch e hab];refine⟨fun⟨h1,h2⟩=>⟨?_,by omega,by omega⟩,fun⟨h1,h2,h3⟩=>?_⟩
  ·unfold ti; rw[h1,←e]; grind
  ·have:=kT e hab h1;omega
def ig (a b c d x:I2):Prop:=(x=a∨x=b∨x=c∨x=d)∧dD a b x∧dD c d x
def low (a b c d:I2):Int:=if a.1=b.1 then max (min a.2 b.2) (min c.2 d.2)-min (max a.2 b.2) (max c.2 d.2) else max (min a.1 b.1) (min c.1 d.1)-min (max a.1 b.1) (max c.1 d.1)
theorem Gv {a b c d:I2} (hab:a≠b) (hcd:c≠d) (hc:ti a b c=0) (hd:ti a b d=0):∃f:I2→Int,low a b c d=max (min (f a) (f b)) (min (f c) (f d))-min (max (f a) (f b)) (max (f c) (f d)) ∧
  (∀x y,ti a b x=0→ti a b y=0→f x=f y→x=y)∧(∀x,dD a b x↔ti a b x=0∧min (f a) (f b)≤f x∧f x≤max (f a) (f b))∧(∀x,ti a b x=0→(dD c d x↔min (f c) (f d)≤f x∧f x≤max (f c) (f d))):=by
 by_cases h:a.1=b.1
 ·have h3:=kT h hab hc;have h4:=kT h hab hd;refine⟨fun x=>x.2,by unfold low; rw[if_pos h],fun x y hx hy e=>Prod.ext ((kT h hab hx).trans (kT h hab hy).symm) e,fun x=>?_,fun x hx=>?_⟩
  ·rw[Ch h hab];refine⟨fun⟨h0,h1⟩=>⟨?_,h1⟩,fun⟨h0,h1⟩=>⟨kT h hab h0,h1⟩⟩;unfold ti; rw[h0,←h]; grind
  ·rw[Ch (by omega) hcd]
   have:=kT h hab hx;exact⟨fun h=>h.2,fun h=>⟨by omega,h⟩⟩
 ·have h2:c.1≠d.1:=fun e=>hcd (my h hc hd e);have dir:∀x,ti a b x=0→ti c d x=0:=fun x hx=>by
   have e0:(b.1-a.1)*(c.2-a.2)=(b.2-a.2)*(c.1-a.1):=by unfold ti at hc; omega
   have e1:(b.1-a.1)*(d.2-a.2)=(b.2-a.2)*(d.1-a.1):=by unfold ti at hd; omega
   have e2:(b.1-a.1)*(x.2-a.2)=(b.2-a.2)*(x.1-a.1):=by unfold ti at hx; omega
   have:(b.1-a.1)*ti c d x=0:=by
    unfold ti;have:(b.1-a.1)*((d.1-c.1)*(x.2-c.2)-(d.2-c.2)*(x.1-c.1))=(d.1-c.1)*((b.1-a.1)*(x.2-a.2)-(b.1-a.1)*(c.2-a.2))-((b.1-a.1)*(d.2-a.2)-(b.1-a.1)*(c.2-a.2))*(x.1-c.1):=by grind
    rw[this,e0,e1,e2]; grind
   rcases Int.mul_eq_zero.1 this with e|e
   ·omega
   ·exact e
  have gen:∀{u w:I2},u.1≠w.1→∀x,(dD u w x↔ti u w x=0∧min u.1 w.1≤x.1∧x.1≤max u.1 w.1):=fun {u w} huw x=>by
   by_cases hl:u.1<w.1
   ·rw[zv hl]; refine⟨fun⟨h0,h1⟩=>⟨h0,by omega⟩,fun⟨h0,h1⟩=>⟨h0,by omega⟩⟩
   ·rw[o7,zv (by omega),gh]; refine⟨fun⟨h0,h1⟩=>⟨by omega,by omega⟩,fun⟨h0,h1⟩=>⟨by omega,by omega⟩⟩
  refine⟨fun x=>x.1,by unfold low; rw[if_neg h],fun x y hx hy e=>my h hx hy e,gen h,fun x hx=>?_⟩
  rw[gen h2];exact⟨fun h=>h.2,fun h=>⟨dir x hx,h⟩⟩
theorem xi {a b c d:I2} (hab:a≠b) (hcd:c≠d) (hc:ti a b c=0) (hd:ti a b d=0) :
  (0<low a b c d↔∀x,¬ig a b c d x)∧(low a b c d<0↔∃x y,ig a b c d x∧ig a b c d y∧x≠y):=by
 obtain⟨f,e,hi,h1,h2⟩:=Gv hab hcd hc hd;have ha0:=yX a b;have hb0:=yg a b;have hfab:f a≠f b:=fun h=>hab (hi a b ha0 hb0 h);have hfcd:f c≠f d:=fun h=>hcd (hi c d hc hd h);have Gi:∀x,ig a b c d x↔(x=a∨x=b∨x=c∨x=d)∧(min (f a) (f b)≤f x∧f x≤max (f a) (f b))∧(min (f c) (f d)≤f x∧f x≤max (f c) (f d)):=fun x=>by
  unfold ig;refine⟨fun⟨h,g1,g2⟩=>⟨h,((h1 x).1 g1).2,(h2 x ((h1 x).1 g1).1).1 g2⟩,fun⟨h,g1,g2⟩=>?_⟩;have hx:ti a b x=0:=by rcases h with rfl|rfl|rfl|rfl<;>assumption
  exact⟨h,(h1 x).2 ⟨hx,g1⟩,(h2 x hx).2 g2⟩
 rw[e];have lo:∃x,(x=a∨x=b∨x=c∨x=d)∧f x=max (min (f a) (f b)) (min (f c) (f d)):=by
  by_cases g1:f a≤f b<;>by_cases g2:f c≤f d
  ·by_cases g3:f a≤f c
   ·exact⟨c,by simp,by omega⟩
   ·exact⟨a,by simp,by omega⟩
  ·by_cases g3:f a≤f d
   ·exact⟨d,by simp,by omega⟩
   ·exact⟨a,by simp,by omega⟩
  ·by_cases g3:f b≤f c
   ·exact⟨c,by simp,by omega⟩
   ·exact⟨b,by simp,by omega⟩
  ·by_cases g3:f b≤f d
   ·exact⟨d,by simp,by omega⟩
   ·exact⟨b,by simp,by omega⟩
 have hi':∃x,(x=a∨x=b∨x=c∨x=d)∧f x=min (max (f a) (f b)) (max (f c) (f d)):=by
  by_cases g1:f a≤f b<;>by_cases g2:f c≤f d
  ·by_cases g3:f b≤f d
   ·exact⟨b,by simp,by omega⟩
   ·exact⟨d,by simp,by omega⟩
  ·by_cases g3:f b≤f c
   ·exact⟨b,by simp,by omega⟩
   ·exact⟨c,by simp,by omega⟩
  ·by_cases g3:f a≤f d
   ·exact⟨a,by simp,by omega⟩
   ·exact⟨d,by simp,by omega⟩
  ·by_cases g3:f a≤f c
   ·exact⟨a,by simp,by omega⟩
   ·exact⟨c,by simp,by omega⟩
 obtain⟨x,x1,x2⟩:=lo;obtain⟨y,y1,y2⟩:=hi';constructor
 ·refine⟨fun h z hz=>?_,fun h=>?_⟩
  ·have:=(Gi z).1 hz;omega
  ·refine Decidable.byContradiction fun hc=>h x ((Gi x).2 ⟨x1,by omega,by omega⟩)
 ·refine⟨fun h=>⟨x,y,(Gi x).2 ⟨x1,by omega,by omega⟩,(Gi y).2 ⟨y1,by omega,by omega⟩,fun e=>by rw[e] at x2; omega⟩,fun⟨z,w,hz,hw,hne⟩=>?_⟩
  refine Decidable.byContradiction fun hc=>hne (hi z w ?_ ?_ ?_)
  ·exact hz.2.1.1
  ·exact hw.2.1.1
  ·have:=(Gi z).1 hz;have:=(Gi w).1 hw;omega
theorem Gq {a b c d:I2} (hcd:c≠d) (h:¬(ti a b c=0∧ti a b d=0)) {x y:I2} (hx:dD a b x∧dD c d x) (hy:dD a b y∧dD c d y):x=y:=by
 obtain⟨⟨a1,_⟩,⟨a2,_⟩⟩:=hx;obtain⟨⟨b1,_⟩,⟨b2,_⟩⟩:=hy;have hk:(b.1-a.1)*(d.2-c.2)-(b.2-a.2)*(d.1-c.1)≠0:=fun e=>by
  have e1:ti a b d-ti a b c=0:=by
   have:ti a b d-ti a b c=(b.1-a.1)*(d.2-c.2)-(b.2-a.2)*(d.1-c.1):=by unfold ti; grind
   omega
  have e2:(d.1-c.1)*ti a b c=0:=by
   have t:(d.1-c.1)*ti a b c=(d.1-c.1)*ti a b x-(b.1-a.1)*ti c d x-(x.1-c.1)*((b.1-a.1)*(d.2-c.2)-(b.2-a.2)*(d.1-c.1)):=by unfold ti; grind
   rw[t,a1,a2,e]; simp
  have e3:(d.2-c.2)*ti a b c=0:=by
   have t:(d.2-c.2)*ti a b c=(d.2-c.2)*ti a b x-(b.2-a.2)*ti c d x-(x.2-c.2)*((b.1-a.1)*(d.2-c.2)-(b.2-a.2)*(d.1-c.1)):=by unfold ti; grind
   rw[t,a1,a2,e]; simp
  have h0:ti a b c=0:=by
   rcases Int.mul_eq_zero.1 e2 with g|g
   ·rcases Int.mul_eq_zero.1 e3 with g' | g'
    ·exact absurd (Prod.ext (by omega) (by omega)) hcd
    ·exact g'
   ·exact g
  exact h ⟨h0,by omega⟩
 have f1:((b.1-a.1)*(d.2-c.2)-(b.2-a.2)*(d.1-c.1))*(x.1-y.1)=0:=by
  have t:((b.1-a.1)*(d.2-c.2)-(b.2-a.2)*(d.1-c.1))*(x.1-y.1)=(d.1-c.1)*(ti a b x-ti a b y)-(b.1-a.1)*(ti c d x-ti c d y):=by unfold ti; grind
  rw[t,a1,a2,b1,b2]; simp
 have f2:((b.1-a.1)*(d.2-c.2)-(b.2-a.2)*(d.1-c.1))*(x.2-y.2)=0:=by
  have t:((b.1-a.1)*(d.2-c.2)-(b.2-a.2)*(d.1-c.1))*(x.2-y.2)=(d.2-c.2)*(ti a b x-ti a b y)-(b.2-a.2)*(ti c d x-ti c d y):=by unfold ti; grind
  rw[t,a1,a2,b1,b2]; simp
 refine Prod.ext ?_ ?_
 ·rcases Int.mul_eq_zero.1 f1 with g|g
  ·exact absurd g hk
  ·omega
 ·rcases Int.mul_eq_zero.1 f2 with g|g
  ·exact absurd g hk
  ·omega
def di (a b c:I2):Int:=(b.1-a.1)*(c.1-b.1)+(b.2-a.2)*(c.2-b.2)
def NM (a b c d:I2):Prop:=(∀x,¬ig a b c d x)∧¬(((0<ti a b c∧ti a b d<0)∨(ti a b c<0∧0<ti a b d))∧((0<ti c d a∧ti c d b<0)∨(ti c d a<0∧0<ti c d b)))
def nx (r:List I2) (i:Nat):I2:=r.getD (i%r.length) (0,0)
structure VR (r:List I2):Prop where
 n3:2<r.length
 still:∀i,nx r i≠nx r (i+1)
 rE:∀i,¬(ti (nx r i) (nx r (i+1)) (nx r (i+2))=0∧di (nx r i) (nx r (i+1)) (nx r (i+2))<0)
 meet:∀j i,j+1<i→i<r.length→¬(j=0∧i+1=r.length)→NM (nx r j) (nx r (j+1)) (nx r i) (nx r (i+1))
theorem LD {x:Int}:0≤x*x:=by
 rcases Int.le_total 0 x with h|h
 ·exact Int.mul_nonneg h h
 ·exact Int.mul_nonneg_of_nonpos_of_nonpos h h
theorem K6 {x:Int} (h:x*x=0):x=0:=by
 rcases Int.mul_eq_zero.1 h with h|h<;>exact h
def wi (a b p:I2):Int:=if a.2≤p.2∧p.2<b.2∧0<ti a b p then 1 else if b.2≤p.2∧p.2<a.2∧ti a b p<0 then -1 else 0
theorem AY {a b p:I2} (h:(a.2≤p.2∧p.2<b.2)∨(b.2≤p.2∧p.2<a.2)) (h0:ti a b p=0):dD a b p:=by
 have sw:∀{a b p:I2},a.2<b.2→a.2≤p.2→p.2≤b.2→ti a b p=0→dD a b p:=by
  intro a b p h1 h2 h3 h0;have h0':ti (a.2,a.1) (b.2,b.1) (p.2,p.1)=0:=by unfold ti at *; grind
  have:=(zv (a:=(a.2,a.1)) (b:=(b.2,b.1)) (p:=(p.2,p.1)) h1).2 ⟨h0',h2,h3⟩;exact⟨h0,this.2.2.2.1,this.2.2.2.2,this.2.1,this.2.2.1⟩
 rcases h with h|h
 ·exact sw (by omega) (by omega) (by omega) h0
 ·exact(sw (a:=b) (b:=a) (by omega) (by omega) (by omega) (by rw[gh,h0]; rfl)).swap
def jq (r:List I2) (p:I2):Int:=bT r.length fun i=>wi (nx r i) (nx r (i+1)) p
theorem EA (a b p:I2):wi a b p=0∨wi a b p=1∨wi a b p = -1:=by
 unfold wi
 split
 ·omega
 ·split<;>omega
def rZ (a b c d:I2):Prop:=((0<ti a b c∧ti a b d<0)∨(ti a b c<0∧0<ti a b d))∧((0<ti c d a∧ti c d b<0)∨(ti c d a<0∧0<ti c d b))
def EM (a b c d:I2):Prop:=ti a b c=0∧ti a b d=0
section
variable {a b c d : I2}
theorem Hd (hab:a≠b) (hcd:c≠d):(∃x y,ig a b c d x∧ig a b c d y∧x≠y)↔EM a b c d∧low a b c d<0:=by
 by_cases h:EM a b c d
 ·have:=(xi hab hcd h.1 h.2).2;exact⟨fun g=>⟨h,this.2 g⟩,fun g=>this.1 g.2⟩
 ·exact⟨fun⟨x,y,hx,hy,hne⟩=>absurd (Gq hcd h hx.2 hy.2) hne,fun g=>absurd g.1 h⟩
theorem CS (hab:a≠b) (hcd:c≠d):(∃x,ig a b c d x)↔(EM a b c d∧low a b c d≤0)∨(¬EM a b c d∧(dD a b c∨dD a b d∨dD c d a∨dD c d b)):=by
 by_cases h:EM a b c d
 ·have:=(xi hab hcd h.1 h.2).1;constructor
  ·rintro⟨x,hx⟩;refine .inl ⟨h,?_⟩;refine Decidable.byContradiction fun hc=>?_;exact this.1 (by omega) x hx
  ·rintro(⟨_,g⟩|⟨g,_⟩)
   ·refine Classical.byContradiction fun hc=>?_;have:=this.2 fun x hx=>hc ⟨x,hx⟩;omega
   ·exact absurd h g
 ·constructor
  ·rintro⟨x,h1,h2,h3⟩;refine .inr ⟨h,?_⟩;rcases h1 with rfl|rfl|rfl|rfl
   ·exact .inr (.inr (.inl h3))
   ·exact .inr (.inr (.inr h3))
   ·exact .inl h2
   ·exact .inr (.inl h2)
  ·rintro(⟨g,_⟩|⟨_,g⟩)
   ·exact absurd g h
   ·rcases g with g|g|g|g
    ·exact⟨c,.inr (.inr (.inl rfl)),g,HD c d⟩
    ·exact⟨d,.inr (.inr (.inr rfl)),g,HN c d⟩
    ·exact⟨a,.inl rfl,HD a b,g⟩
    ·exact⟨b,.inr (.inl rfl),HN a b,g⟩
theorem vz (h:rZ a b c d):¬EM a b c d∧∀x,¬ig a b c d x:=by
 unfold rZ at h;refine⟨fun g=>?_,fun x ⟨h1,h2,h3⟩=>?_⟩
 ·unfold EM at g; omega
 ·have e2:=h2.1;have e3:=h3.1;rcases h1 with rfl|rfl|rfl|rfl<;>omega
noncomputable def uN (a b c d:I2):Int:=open Classical in if ∃x y,ig a b c d x∧ig a b c d y∧x≠y then 3 else if ∃x,ig a b c d x then 1 else if rZ a b c d then 2 else 0
theorem Gu (hab:a≠b) (hcd:c≠d):uN a b c d=open Classical in if EM a b c d then(if 0<low a b c d then 0 else if low a b c d=0 then 1 else 3) else if rZ a b c d then 2 else if dD a b c∨dD a b d∨dD c d a∨dD c d b then 1 else 0:=by
 classical
 unfold uN;have h2:=Hd hab hcd;have h1:=CS hab hcd
 by_cases hc:EM a b c d
 ·have hx:¬rZ a b c d:=fun h=>(vz h).1 hc;rw[if_pos hc,if_neg hx]
  by_cases g1:0<low a b c d
  ·rw[if_pos g1,if_neg (fun h=>by have:=(h2.1 h).2; omega),if_neg (fun h=>(h1.1 h).elim (fun g=>by have:=g.2; omega) (fun g=>g.1 hc))]
  ·by_cases g2:low a b c d=0
   ·rw[if_neg g1,if_pos g2,if_neg (fun h=>by have:=(h2.1 h).2; omega),if_pos (h1.2 (.inl ⟨hc,by omega⟩))]
   ·rw[if_neg g1,if_neg g2,if_pos (h2.2 ⟨hc,by omega⟩)]
 ·rw[if_neg hc,if_neg (fun h=>hc (h2.1 h).1)]
  by_cases hx:rZ a b c d
  ·rw[if_pos hx,if_pos hx,if_neg (fun⟨x,h⟩=>(vz hx).2 x h)]
  ·rw[if_neg hx,if_neg hx]
   by_cases hb:dD a b c∨dD a b d∨dD c d a∨dD c d b
   ·rw[if_pos hb,if_pos (h1.2 (.inr ⟨hc,hb⟩))]
   ·rw[if_neg hb,if_neg (fun h=>(h1.1 h).elim (fun g=>hc g.1) (fun g=>hb g.2))]
theorem um:uN a b c d=0↔NM a b c d:=by
 classical
 unfold uN NM;constructor
 ·intro h
  by_cases h1:∃x y,ig a b c d x∧ig a b c d y∧x≠y
  ·rw[if_pos h1] at h; exact absurd h (by decide)
  ·rw[if_neg h1] at h
   by_cases h2:∃x,ig a b c d x
   ·rw[if_pos h2] at h; exact absurd h (by decide)
   ·rw[if_neg h2] at h
    by_cases h3:rZ a b c d
    ·rw[if_pos h3] at h; exact absurd h (by decide)
    ·exact⟨fun x hx=>h2 ⟨x,hx⟩,h3⟩
 ·rintro⟨h1,h2⟩;rw[if_neg (fun⟨x,_,hx,_⟩=>h1 x hx),if_neg (fun⟨x,hx⟩=>h1 x hx)];exact if_neg h2
end
section
variable {a b c d : I2}
theorem j4 {x:I2}:ig a b c d x↔ig c d a b x:=by
 unfold ig;constructor<;>rintro⟨h,g1,g2⟩<;>exact⟨by rcases h with h|h|h|h<;>simp[h],g2,g1⟩
theorem ir {x:I2}:ig a b c d x↔ig b a c d x:=by
 unfold ig;rw[o7 (a:=a) (b:=b)];constructor<;>rintro⟨h,g⟩<;>exact⟨by rcases h with h|h|h|h<;>simp[h],g⟩
theorem Gp:rZ a b c d↔rZ c d a b:=by unfold rZ; exact And.comm
theorem Cf:rZ a b c d↔rZ b a c d:=by
 unfold rZ;rw[gh a b c,gh a b d];constructor<;>rintro⟨h,g⟩<;>constructor<;>omega
theorem tq:uN c d a b=uN a b c d:=by
 classical
 have h1:(∃x y,ig c d a b x∧ig c d a b y∧x≠y)↔∃x y,ig a b c d x∧ig a b c d y∧x≠y :=
  ⟨fun⟨x,y,p,q,r⟩=>⟨x,y,j4.1 p,j4.1 q,r⟩,fun⟨x,y,p,q,r⟩=>⟨x,y,j4.1 p,j4.1 q,r⟩⟩
 have h2:(∃x,ig c d a b x)↔∃x,ig a b c d x:=⟨fun⟨x,p⟩=>⟨x,j4.1 p⟩,fun⟨x,p⟩=>⟨x,j4.1 p⟩⟩;unfold uN;simp only[h1,h2,Gp (a:=c) (b:=d) (c:=a) (d:=b)]
theorem vN:uN b a c d=uN a b c d:=by
 classical
 have h1:(∃x y,ig b a c d x∧ig b a c d y∧x≠y)↔∃x y,ig a b c d x∧ig a b c d y∧x≠y :=
  ⟨fun⟨x,y,p,q,r⟩=>⟨x,y,ir.1 p,ir.1 q,r⟩,fun⟨x,y,p,q,r⟩=>⟨x,y,ir.1 p,ir.1 q,r⟩⟩
 have h2:(∃x,ig b a c d x)↔∃x,ig a b c d x:=⟨fun⟨x,p⟩=>⟨x,ir.1 p⟩,fun⟨x,p⟩=>⟨x,ir.1 p⟩⟩;unfold uN;simp only[h1,h2,Cf (a:=b) (b:=a) (c:=c) (d:=d)]
end
end Jd
end

section
namespace Go.Proofs.YthmekkhpddehjaaGreat
open Go Go.Ab Go.Ab.W Go.Ab.B Jd
def nL (x:Int):Prop:=-9223372036854775808≤x∧x<9223372036854775808
def Fa (p:I2):Prop:=p.1 < -1000000∨1000000<p.1∨p.2 < -1000000∨1000000<p.2
instance (p:I2):Decidable (Fa p):=by unfold Fa; infer_instance
instance (a b p:I2):Decidable (dD a b p):=by unfold dD; infer_instance
theorem nw (a b:Int):ma a b=max a b:=by unfold ma; split<;>omega
theorem uj (a b:Int):mi a b=min a b:=by unfold mi; split<;>omega
theorem Hn {x:Int} (h:nL x):IntKind.wrap .i64 (0-x)=if x = -9223372036854775808 then x else -x:=by
 unfold nL at h
 split
 ·rename_i e; subst e; decide
 ·rw[aq (by omega) (by omega)]; omega
theorem Dd (n:Nat) {x y:Int} (hx:nL x) (hy:nL y):JZ n x y=some (decide (Fa (x,y))):=by
 unfold JZ;rw[Hn hx,Hn hy,al,pJ,←Bool.decide_or]
 congr 1
 rw[decide_eq_decide];unfold nL at hx hy;unfold Fa
 dsimp only
 rw[nw,nw,nw,uj]
 split<;>split<;>omega
def sg (z:Int):Int:=if z<0 then -1 else if 0<z then 1 else 0
theorem zl (n:Nat) (x y:Int):EW n x y=some (sg (x-y)):=by
 unfold EW yW sg;simp only[decide_true,Bool.not_true,al,cr]
 by_cases h:x<y
 ·rw[aO h,if_pos (show x-y<0 by omega)]
 ·rw[aH h,if_neg (show ¬x-y<0 by omega)]
  by_cases g:y<x
  ·rw[aO g,if_pos (show 0<x-y by omega)]
  ·rw[aH g,if_neg (show ¬0<x-y by omega)]
def Nr (p:I2):Prop:=-1000000≤p.1∧p.1≤1000000∧-1000000≤p.2∧p.2≤1000000
theorem Ev {p:I2}:¬Fa p↔Nr p:=by unfold Fa Nr; omega
theorem ju (n:Nat) {a b c:I2} (ha:Nr a) (hb:Nr b) (hc:Nr c):BE n a.1 a.2 b.1 b.2 c.1 c.2=some (sg (ti a b c)):=by
 unfold Nr at ha hb hc;have m1:=cL (B:=2000000) (C:=2000000) (u:=b.1-a.1) (v:=c.2-a.2) (by decide) (by omega) (by omega) (by omega) (by omega)
 have m2:=cL (B:=2000000) (C:=2000000) (u:=b.2-a.2) (v:=c.1-a.1) (by decide) (by omega) (by omega) (by omega) (by omega)
 unfold BE;rw[aq (x:=b.1-a.1) (by omega) (by omega),aq (x:=c.2-a.2) (by omega) (by omega),aq (x:=b.2-a.2) (by omega) (by omega),aq (x:=c.1-a.1) (by omega) (by omega),
  aq (by omega) (by omega),aq (by omega) (by omega),al,al,zl,al]
 rfl
theorem ft {z:Int}:sg z=0↔z=0:=by unfold sg; split<;>(try split)<;>omega
theorem p5 {z:Int}:sg z<0↔z<0:=by unfold sg; split<;>(try split)<;>omega
theorem qG {z:Int}:0<sg z↔0<z:=by unfold sg; split<;>(try split)<;>omega
theorem iz (z:Int):sg z = -1∨sg z=0∨sg z=1:=by unfold sg; split<;>(try split)<;>simp
theorem JK (n:Nat) (r s:Int) (hn:2<n):Ij n [r,s]=some (if r≠0 then r else s):=by
 obtain⟨n,rfl⟩:∃n',n=n'+3:=⟨n-3,by omega⟩
 have L0:mj (n+3) [r,s] 0=if r≠0 then some (.inr (.inl r)) else some (.inl 1):=by
  unfold mj;rw[aO (by simp),show bV 0 [r,s].length=true from rfl,aW]
  show ob (some r) _=_
  rw[al]
  by_cases h:r=0
  ·rw[decide_eq_true h,Bool.not_true,cr,if_neg (by simpa using h)]; rfl
  ·rw[decide_eq_false h,Bool.not_false,gS,if_pos h]
 have L1:mj (n+3) [r,s] 1=if s≠0 then some (.inr (.inl s)) else some (.inl 2):=by
  unfold mj;rw[aO (by simp),show bV 1 [r,s].length=true from rfl,aW]
  show ob (some s) _=_
  rw[al]
  by_cases h:s=0
  ·rw[decide_eq_true h,Bool.not_true,cr,if_neg (by simpa using h)]; rfl
  ·rw[decide_eq_false h,Bool.not_false,gS,if_pos h]
 have L2:mj (n+3) [r,s] 2=some (.inr (.inr ())):=by
  unfold mj;rw[aH (by simp)]
 unfold Ij
 by_cases h:r=0
 ·rw[if_neg (by simpa using h)] at L0 ⊢
  rw[bp L0]
  by_cases g:s=0
  ·rw[if_neg (by simpa using g)] at L1
   rw[bp L1,bN L2,al,g]
  ·rw[if_pos g] at L1;rw[bN L1,al]
 ·rw[if_pos h] at L0 ⊢;rw[bN L0,al]
def yn (a b:I2):Int:=if sg (a.1-b.1)≠0 then sg (a.1-b.1) else sg (a.2-b.2)
theorem sK (n:Nat) (a b:I2) (hn:2<n):BH n a.1 a.2 b.1 b.2=some (yn a b):=by
 unfold BH;rw[zl,al,zl,al,JK n _ _ hn,al]; rfl
theorem sW {a b:I2}:yn a b≤0↔Lx a b:=by
 unfold yn Lx;have h1:=ft (z:=a.1-b.1);have h2:=qG (z:=a.1-b.1);have h3:=qG (z:=a.2-b.2)
 split<;>omega
theorem yz (n:Nat) (e:Int) {a b p:I2} (ha:Nr a) (hb:Nr b) (hp:Nr p) (hab:a≠b) (hn:2<n):z6 n e a.1 a.2 b.1 b.2 p.1 p.2=some (decide (dD a b p)):=by
 unfold z6;rw[ju n ha hb hp,al]
 by_cases h0:ti a b p=0
 ·rw[decide_eq_true (ft.2 h0),Bool.not_true,cr,sK n a b hn,al];have key:∀{u v:I2},u≠v→Lx u v→ti u v p=0→(ob (BH n u.1 u.2 p.1 p.2) fun r28=>br (decide (r28≤0)) (ob (BH n p.1 p.2 v.1 v.2) fun r31=>some (decide (r31≤0))) (some false))=some (decide (dD u v p)):=fun {u v} huv hl ht=>by
   rw[sK n u p hn,al,sK n p v hn,al,dS,←Bool.decide_and]
   congr 1
   rw[decide_eq_decide,IG huv hl,sW,sW];exact⟨fun h=>⟨ht,h⟩,fun h=>h.2⟩
  by_cases hl:0<yn a b
  ·rw[aO hl,al];have hl':Lx b a:=by
    have:¬Lx a b:=fun h=>by have:=sW.2 h; omega
    unfold Lx at this ⊢; omega
   have:=key hab.symm hl' (by rw[gh,h0]; rfl)
   dsimp only
   rw[this]
   congr 1
   rw[decide_eq_decide]; exact o7
  ·rw[aH hl,al];exact key hab (sW.1 (by omega)) h0
 ·rw[decide_eq_false (fun h=>h0 (ft.1 h)),Bool.not_false,gS,decide_eq_false fun h=>h0 h.1]
theorem ez {α β:Type} [DecidableEq α] (k:α):∀(xs:List (α × β)) (i:Nat),(dB k xs i=none∧k ∉ xs.map Prod.fst)∨∃j v,dB k xs i=some (i+j,v)∧(xs[j]?).map Prod.fst=some k
 | [],_=>.inl ⟨rfl,by simp⟩
 | e::es,i=>by
  unfold dB
  by_cases h:k=e.1
  ·rw[if_pos h]; exact .inr ⟨0,e.2,rfl,by rw[h]; rfl⟩
  ·rw[if_neg h];rcases ez k es (i+1) with⟨h1,h2⟩|⟨j,v,h1,h2⟩
   ·exact .inl ⟨h1,fun g=>by
     rw[List.map_cons,List.mem_cons] at g;exact g.elim h h2⟩
   ·exact .inr ⟨j+1,v,by rw[h1,show i+1+j=i+(j+1) by omega],h2⟩
theorem Br {α β:Type} [DecidableEq α] (xs:List (α × β)) (k:α) (v:β):(gV xs k v).map Prod.fst=if k ∈ xs.map Prod.fst then xs.map Prod.fst else xs.map Prod.fst++[k]:=by
 unfold gV;rcases ez k xs 0 with⟨h1,h2⟩|⟨j,w,h1,h2⟩
 ·rw[h1,if_neg h2]; simp
 ·rw[h1,Nat.zero_add];have hj:j<xs.length:=by
   refine Decidable.byContradiction fun hc=>?_;rw[List.getElem?_eq_none (by omega)] at h2; cases h2
  have e:(xs.map Prod.fst)[j]? = some k:=by rw[List.getElem?_map]; exact h2
  rw[if_pos (List.mem_of_getElem? e),List.map_set];refine List.ext_getElem? fun t=>?_;rw[List.getElem?_set]
  by_cases ht:j=t
  ·subst ht;rw[if_pos rfl,if_pos (by rw[List.length_map]; exact hj),e]
  ·rw[if_neg ht]
def uO (a b c d:I2) (l:List (I2 × Bool)) (x:I2):List (I2 × Bool):=if dD a b x∧dD c d x then gV l x true else l
theorem vc {a b c d:I2}:∀(xs:List I2) (l:List (I2 × Bool)),(l.map Prod.fst).Nodup→((xs.foldl (uO a b c d) l).map Prod.fst).Nodup∧∀q,q ∈ (xs.foldl (uO a b c d) l).map Prod.fst↔q ∈ l.map Prod.fst∨(q ∈ xs∧dD a b q∧dD c d q)
 | [],l,hn=>⟨hn,fun q=>by simp⟩
 | x::xs,l,hn=>by
  rw[List.foldl_cons];have key:((uO a b c d l x).map Prod.fst).Nodup∧∀q,q ∈ (uO a b c d l x).map Prod.fst↔q ∈ l.map Prod.fst∨(q=x∧dD a b q∧dD c d q):=by
   unfold uO
   by_cases h:dD a b x∧dD c d x
   ·rw[if_pos h,Br]
    by_cases g:x ∈ l.map Prod.fst
    ·rw[if_pos g];exact⟨hn,fun q=>⟨.inl,fun e=>e.elim id fun e=>e.1 ▸ g⟩⟩
    ·rw[if_neg g];refine⟨List.nodup_append.2 ⟨hn,by simp,fun u hu v hv=>?_⟩,fun q=>?_⟩
     ·rw[List.mem_singleton] at hv;intro e; rw[e,hv] at hu; exact g hu
     ·rw[List.mem_append,List.mem_singleton];exact⟨fun e=>e.elim .inl fun e=>.inr ⟨e,e ▸ h⟩,fun e=>e.elim .inl fun e=>.inr e.1⟩
   ·rw[if_neg h];exact⟨hn,fun q=>⟨.inl,fun e=>e.elim id fun⟨e,g⟩=>absurd (e ▸ g) h⟩⟩
  obtain⟨k1,k2⟩:=key;obtain⟨r1,r2⟩:=vc xs _ k1;refine⟨r1,fun q=>?_⟩;rw[r2,k2,List.mem_cons];constructor
  ·rintro((h|⟨rfl,h⟩) | ⟨h,g⟩)
   ·exact .inl h
   ·exact .inr ⟨.inl rfl,h⟩
   ·exact .inr ⟨.inr h,g⟩
  ·rintro(h|⟨rfl|h,g⟩)
   ·exact .inl (.inl h)
   ·exact .inl (.inr ⟨rfl,g⟩)
   ·exact .inr ⟨h,g⟩
theorem tv (n:Nat) (e f:Int) {a b c d x:I2} (ha:Nr a) (hb:Nr b) (hc:Nr c) (hd:Nr d) (hx:Nr x) (hab:a≠b) (hcd:c≠d) (hn:2<n) (l:List (I2 × Bool)) {i:Nat} (hi:i<4) (he:[a,b,c,d][i]? = some x) :
  nU n a.1 a.2 b.1 b.2 c.1 c.2 d.1 d.2 e f (l,(i:Int))=some (.inl (uO a b c d l x,((i+1:Nat):Int))):=by
 unfold nU
 dsimp only
 rw[aO (by omega),aI hi,aW,Int.toNat_natCast]
 have:[(a.1,a.2),(b.1,b.2),(c.1,c.2),(d.1,d.2)][i]? = some (x.1,x.2):=he;rw[this,al]
 dsimp only
 rw[yz n e ha hb hx hab hn,al,yz n f hc hd hx hcd hn,al,dS,al,aS (by omega)]
 unfold uO
 by_cases h:dD a b x∧dD c d x
 ·rw[decide_eq_true h.1,decide_eq_true h.2,if_pos h]; rfl
 ·rw[if_neg h,←Bool.decide_and,decide_eq_false h]; rfl
theorem IB (n:Nat) (e f:Int) {a b c d:I2} (ha:Nr a) (hb:Nr b) (hc:Nr c) (hd:Nr d) (hab:a≠b) (hcd:c≠d) (hn:5<n):Lp n e a.1 a.2 b.1 b.2 f c.1 c.2 d.1 d.2=some (uN a b c d):=by
 classical
 unfold Lp;rw[ju n ha hb hc,al,ju n ha hb hd,al,ju n hc hd ha,al,ju n hc hd hb,al];have L:cq (nU n a.1 a.2 b.1 b.2 c.1 c.2 d.1 d.2 e f) n ([],0)=some ([a,b,c,d].foldl (uO a b c d) []):=by
  obtain⟨m,hm⟩:∃m,n=m+5:=⟨n-5,by omega⟩
  have L5:∀l,nU n a.1 a.2 b.1 b.2 c.1 c.2 d.1 d.2 e f (l,((4:Nat):Int))=some (.inr l):=fun l=>by
   unfold nU
   dsimp only
   rw[aH (by decide)]
  have h0:=tv n e f ha hb hc hd ha hab hcd (by omega) [] (i:=0) (by decide) rfl
  have h1:=tv n e f ha hb hc hd hb hab hcd (by omega) (uO a b c d [] a) (i:=1) (by decide) rfl
  have h2:=tv n e f ha hb hc hd hc hab hcd (by omega) (uO a b c d (uO a b c d [] a) b) (i:=2) (by decide) rfl
  have h3:=tv n e f ha hb hc hd hd hab hcd (by omega) (uO a b c d (uO a b c d (uO a b c d [] a) b) c) (i:=3) (by decide) rfl
  have:∀body:(List (I2 × Bool) × Int)→Option ((List (I2 × Bool) × Int) ⊕ List (I2 × Bool)),body=nU n a.1 a.2 b.1 b.2 c.1 c.2 d.1 d.2 e f→cq body n ([],0)=some ([a,b,c,d].foldl (uO a b c d) []):=fun body hbd=>by
   rw[←hbd] at h0 h1 h2 h3 L5;rw[hm,show(0:Int)=((0:Nat):Int) from rfl,bp h0,bp h1,bp h2,bp h3,bN (L5 _)]
   rfl
  exact this _ rfl
 obtain⟨k1,k2⟩:=vc (a:=a) (b:=b) (c:=c) (d:=d) [a,b,c,d] [] (by simp)
 have hlen:([a,b,c,d].foldl (uO a b c d) []).length=(([a,b,c,d].foldl (uO a b c d) []).map Prod.fst).length:=by rw[List.length_map]
 rw[L,al];generalize [a,b,c,d].foldl (uO a b c d) []=l at *;have kc:∀q,q ∈ l.map Prod.fst↔ig a b c d q:=fun q=>by
  rw[k2];unfold ig;constructor
  ·rintro(h|⟨h,g⟩)
   ·simp at h
   ·exact⟨by simpa only[List.mem_cons,List.not_mem_nil,or_false] using h,g⟩
  ·rintro⟨h,g⟩;exact .inr ⟨by simpa only[List.mem_cons,List.not_mem_nil,or_false] using h,g⟩
 rw[al,al,hlen];generalize l.map Prod.fst=ks at *;unfold uN
 by_cases h2:∃x y,ig a b c d x∧ig a b c d y∧x≠y
 ·obtain⟨x,y,hx,hy,hne⟩:=h2;have:=rX (l:=[x,y]) (m:=ks) (by simp[hne]) fun q hq=>by
   simp only[List.mem_cons,List.not_mem_nil,or_false] at hq;rcases hq with rfl|rfl
   ·exact(kc _).2 hx
   ·exact(kc _).2 hy
  have hl:2≤ks.length:=this;rw[aO (by omega),if_pos ⟨x,y,hx,hy,hne⟩]
 ·have hl1:ks.length≤1:=by
   match ks,k1,kc with
   | [],_,_=>exact Nat.zero_le _
   | [_],_,_=>exact Nat.le_refl _
   | x::y::t,k1,kc =>
    refine absurd ⟨x,y,(kc x).1 (by simp),(kc y).1 (by simp),?_⟩ h2
    intro e; subst e; simp at k1
  rw[if_neg h2,aH (by omega)]
  by_cases h1:∃x,ig a b c d x
  ·obtain⟨x,hx⟩:=h1;have:0<ks.length:=List.length_pos_of_mem ((kc x).2 hx);rw[if_pos ⟨x,hx⟩,aO (by omega)]
  ·have:ks.length=0:=by
    match ks,kc with
    | [],_=>rfl
    | x::t,kc=>exact absurd ⟨x,(kc x).1 (by simp)⟩ h1
   rw[if_neg h1,aH (by omega)]
   have w:∀u v:Int,IntKind.wrap .i64 (sg u*sg v)=sg u*sg v:=fun u v=>by
    have h1:=iz u;have h2:=iz v;rcases h1 with h1|h1|h1<;>rcases h2 with h2|h2|h2<;>rw[h1,h2]<;>decide
   have s:∀u v:Int,sg u*sg v<0↔(0<u∧v<0)∨(u<0∧0<v):=fun u v=>by
    have a1:=p5 (z:=u);have a2:=qG (z:=u);have b1:=p5 (z:=v);have b2:=qG (z:=v);have h1:=iz u;have h2:=iz v;rcases h1 with h1|h1|h1<;>rcases h2 with h2|h2|h2<;>rw[h1] at a1 a2 ⊢<;>rw[h2] at b1 b2 ⊢<;>omega
   rw[w,w,dS,al,Ib]
   by_cases hx:rZ a b c d
   ·rw[if_pos hx,if_pos];unfold rZ at hx;rw[Bool.and_eq_true,decide_eq_true_eq,decide_eq_true_eq,s,s];exact hx
   ·rw[if_neg hx,if_neg];rw[Bool.and_eq_true,decide_eq_true_eq,decide_eq_true_eq,s,s];exact hx
end Go.Proofs.YthmekkhpddehjaaGreat
end

section
namespace Go.Ab
open Go
theorem Ce {j:aT} {l:List Value} (h:∀x ∈ l,bq x=true):LR j l l :=
 ⟨rfl,fun _ v hi=>⟨v,hi,VR.bq (h v (List.mem_of_getElem? hi))⟩⟩
theorem wN {W W':World} (hc:Calm W W') (hs:W.heap.size≤W'.heap.size) (hold:∀c,c<W.heap.size→W'.heap[c]? = W.heap[c]?):∃q os,W'=Sort.grow (W.drewN q) os:=by
 refine⟨W'.drawn-W.drawn,W'.heap.extract W.heap.size W'.heap.size,?_⟩;have hh:W'.heap=W.heap++W'.heap.extract W.heap.size W'.heap.size:=by
  apply Array.ext_getElem?;intro i;rw[Array.getElem?_append]
  split
  ·exact hold i ‹_›
  ·rw[Array.getElem?_extract]
   split
   ·congr 1; omega
   ·exact Array.getElem?_eq_none (by omega)
 obtain⟨h1,h2,h3,h4⟩:=hc;cases W; cases W';simp only[Sort.grow,World.drewN] at *;subst h1; subst h2; subst h3
 congr 1
 omega
theorem yU {E:Env} (hE:EnvOk E) (hmono:E.mono:=by trivial) {f:FuncId} {args:List Value} (hp:E.cE f=none) {v:Value} (hpl:∀x ∈ args,bq x=true) (hv:bq v=true)
  (h:aG E f args (oF E.glob fun _=>none) fun v' _=>v'=v) {W:World} (hW:E.glob≤W.heap.size) :
  Calls E.P f args.toArray W fun e W'=>e = .returned v∧∃q os,W'=Sort.grow (W.drewN q) os:=by
 obtain⟨v',m',⟨k,hr⟩,rfl⟩:=h;have hm:MR E (A1 E.glob) (oF E.glob fun _=>none) W:=Gl (Nat.le_refl _) hW fun b cs hb=>by cases hb
 refine callsIn_wide.1 ((lI hE hr hp hm (Ce hpl)).mono ?_);rintro e W' ⟨v1,rfl,j',s,hv1⟩;rw[fj hv hv1];refine⟨rfl,wN ⟨s.calm.1,s.calm.2.1,s.calm.2.2.1,s.calm.2.2.2 hmono⟩ s.size fun c hc=>s.frame c hc fun b k hb hl _=>?_⟩;have:(oF E.glob fun _=>none).get b=none:=by simp[AMem.get,oF,Heap.get_nil]
 rw[this] at hl; cases hl
theorem oH {w:World} {B:Nat} {c:Array Value} {e:TypeId} {fz:Nat × Nat} (h:w.heap[B]? = some (.cells c e fz)) (f:Array Value→Array Value):Sort.mapBlock w B f=w.putObj B (.cells (f c) e fz):=by
 unfold Sort.mapBlock World.putObj
 congr 1
 apply Array.ext_getElem?;intro i;rw[Array.getElem?_modify,Array.getElem?_setIfInBounds]
 by_cases hi:B=i
 ·subst hi;obtain⟨hlt,hv⟩:=Array.getElem?_eq_some_iff.1 h;simp[hlt,hv,Sort.onCells]
 ·simp[hi]
theorem Fo {E:Env} {j:aT} {m:AMem} {w:World} (h:MR E j m w) {b:Nat} {k:Blk} (hk:j b=some k) {cs cs':List Value} {tag:Tag} (hg:m.get b=some (.cells cs tag)) (hl:cs'.length=cs.length) (hp:cs'.all aM=true) (n:Nat) (os:Array Obj) :
  Sim E j m w j (m.set b (.cells cs' tag)) (Sort.grow (Sort.putRow id (Sort.ahead w n) k.c 0 cs'.toArray) os):=by
 obtain⟨c,e,fz,h1,h2,h3⟩:=h.j8 hk hg;have s1:Sim E j m w j m (Sort.ahead w n):=Sim.of_heap h rfl ⟨rfl,rfl,rfl,Nat.le_add_right _ _⟩;have hle:cs.length≤c.size:=by
  cases tag with
  | ro=>exact Nat.le_of_eq h2.2.symm
  | own=>exact Nat.le_of_eq h2.2.1.symm
  | more sz=>exact h2.2.1
 have hor:OR j k (.cells cs' tag) (.cells (Sort.putCells id 0 cs'.toArray c) e fz):=by
  have hget:∀i,(Sort.putCells id 0 cs'.toArray c)[i]? = if i<cs'.length then(if i<c.size then some cs'[i]! else none) else c[i]?:=by
   intro i;simp only[Sort.putCells,Array.getElem?_mapIdx,Nat.zero_le,true_and,Nat.zero_add,List.size_toArray,Nat.sub_zero,id]
   by_cases hi:i<c.size
   ·rw[Array.getElem?_eq_getElem hi];simp only[Option.map_some]
    by_cases hj:i<cs'.length
    ·simp[hj,hi]
    ·simp[hj]
   ·rw[Array.getElem?_eq_none (by omega)]
    simp[hi]
  refine⟨?_,fun i v hi=>?_⟩
  ·rw[show cs'.length=cs.length from hl]
   refine rK.put h2 (by simp[Sort.putCells]) fun i hi=>?_
   rw[hget,if_neg (by omega)]
  ·have hlt:i<cs'.length:=(List.getElem?_eq_some_iff.1 hi).1;refine⟨v,?_,.aM (List.all_eq_true.1 hp v (List.mem_of_getElem? hi))⟩;rw[hget,if_pos hlt,if_pos (by omega),List.getElem!_eq_getElem?_getD,hi]; rfl
 have s2:=hY s1.mr hk (by rw[hg]; rfl) hor
 have e2:Sort.putRow id (Sort.ahead w n) k.c 0 cs'.toArray=(Sort.ahead w n).putObj k.c (.cells (Sort.putCells id 0 cs'.toArray c) e fz):=oH (w:=Sort.ahead w n) h1 _;rw[e2];refine(s1.trans h s2).trans h (Sim.same s2.mr (fun x hx=>?_) (by simp) ⟨rfl,rfl,rfl,fun _=>Nat.le_refl _⟩)
 show(_++_:Array Obj)[x]? = _
 rw[Array.getElem?_append,if_pos hx]
theorem xb {α:Type} [Inhabited α] {enc:α→List Value} {k:Nat} (hk:∀x,(enc x).length=k) (h0:0<k):∀(l:List α) (t:Nat),t<l.length*k→(l.map enc).flatten[t]! = (enc l[t/k]!)[t%k]!
 | [],t,h=>by simp at h
 | x::l,t,h=>by
  simp only[List.map_cons,List.flatten_cons];rw[List.getElem!_eq_getElem?_getD,List.getElem?_append]
  by_cases ht:t<k
  ·rw[if_pos (by rw[hk]; exact ht),Nat.div_eq_of_lt ht,Nat.mod_eq_of_lt ht,←List.getElem!_eq_getElem?_getD]; rfl
  ·rw[if_neg (by rw[hk]; exact ht),hk,←List.getElem!_eq_getElem?_getD,xb hk h0 l (t-k) (by simp only[List.length_cons,Nat.add_mul,Nat.one_mul] at h; omega)]
   have e1:t/k=(t-k)/k+1:=by rw[Nat.div_eq_sub_div h0 (by omega)]
   have e2:t%k=(t-k)%k:=Nat.mod_eq_sub_mod (by omega)
   rw[e1,e2]; rfl
theorem dq {α:Type} {enc:α→List Value} {k:Nat} (hk:∀x,(enc x).length=k):∀l:List α,(l.map enc).flatten.length=l.length*k
 | []=>by simp
 | x::l=>by simp only[List.map_cons,List.flatten_cons,List.length_append,List.length_cons,hk,dq hk l,Nat.add_mul,Nat.one_mul]; omega
theorem kA {α:Type} [Inhabited α] {enc:α→List Value} {k:Nat} (hk:∀x,(enc x).length=k) (h0:0<k) (l:List α):Sort.flatK enc k l.toArray=(l.map enc).flatten.toArray:=by
 refine Sort.ext_get! (by simp[dq hk]) fun t ht=>?_
 have ht':t<l.length*k:=by simpa using ht
 rw[Sort.get_flatK _ _ _ _ (by simpa using ht')]
 have:=xb hk h0 l t ht';simp at this ⊢;rw[this]
theorem AG {E:Env} {j:aT} {m:AMem} {w:World} (h:MR E j m w) {b:Nat} {k:Blk} (hk:j b=some k) {cs:List Value} {tag:Tag} (hg:m.get b=some (.cells cs tag)) (ht:tag≠.ro) (hp:cs.all aM=true) :
  Sort.Holds id w k.c 0 cs.toArray:=by
 obtain⟨c,e,fz,h1,h2,h3⟩:=h.j8 hk hg;have hfz:fz=(0,0):=by
  cases tag with
  | ro=>exact absurd rfl ht
  | own=>exact h2.2.2
  | more sz=>exact h2.2.2.1
 subst hfz;intro i hi;have hi':i<cs.length:=by simpa using hi
 obtain⟨v',g1,g2⟩:=h3 i cs[i] (List.getElem?_eq_getElem hi');have:=ec (List.all_eq_true.1 hp _ (List.getElem_mem hi')) g2;subst this;refine⟨?_,?_⟩
 ·simp only[World.cell?,h1,Nat.zero_add];simp[g1,hi']
 ·simp only[World.frozen?,h1]; simp
end Go.Ab
end

section
namespace Go.Proofs
open Go.Shelf
def Tryz.vd:Go.Shelf.Ren:=⟨fun|6=>50|15=>81|14=>80|28=>101|29=>102|20=>93|21=>94|22=>95|23=>96|24=>97|25=>98|26=>99|27=>100|46=>121|47=>122|48=>123|49=>124|50=>125|57=>143|n=>n,fun|22=>22|24=>33|25=>91|3=>3|39=>117|0=>0|53=>134|55=>136|4=>4|46=>127|45=>126|50=>131|5=>5|9=>9|66=>164|70=>168|76=>187|77=>81|n=>n,fun|n=>n⟩
theorem Tryz.zZ:Go.Proofs.SlLaysF0.n6 Tryz.prog Tryz.vd:={
 mixed:=by kernel_rfl
 f6:=⟨Tryz.f50.name,by decide,Tryz.func50.trans (congrArg some (by kernel_rfl))⟩
 f14:=⟨Tryz.f80.name,by decide,Tryz.func80.trans (congrArg some (by kernel_rfl))⟩
 f15:=Tryz.func81.trans (congrArg some (by kernel_rfl))
 f20:=⟨Tryz.f93.name,by decide,Tryz.func93.trans (congrArg some (by kernel_rfl))⟩
 f21:=⟨Tryz.f94.name,by decide,Tryz.func94.trans (congrArg some (by kernel_rfl))⟩
 f22:=⟨Tryz.f95.name,by decide,Tryz.func95.trans (congrArg some (by kernel_rfl))⟩
 f23:=⟨Tryz.f96.name,by decide,Tryz.func96.trans (congrArg some (by kernel_rfl))⟩
 f24:=⟨Tryz.f97.name,by decide,Tryz.func97.trans (congrArg some (by kernel_rfl))⟩
 f25:=⟨Tryz.f98.name,by decide,Tryz.func98.trans (congrArg some (by kernel_rfl))⟩
 f26:=⟨Tryz.f99.name,by decide,Tryz.func99.trans (congrArg some (by kernel_rfl))⟩
 f27:=⟨Tryz.f100.name,by decide,Tryz.func100.trans (congrArg some (by kernel_rfl))⟩
 f28:=Tryz.func101.trans (congrArg some (by kernel_rfl))
 f29:=Tryz.func102.trans (congrArg some (by kernel_rfl))
 f46:=⟨Tryz.f121.name,by decide,Tryz.func121.trans (congrArg some (by kernel_rfl))⟩
 f47:=Tryz.func122.trans (congrArg some (by kernel_rfl))
 f48:=Tryz.func123.trans (congrArg some (by kernel_rfl))
 f49:=⟨Tryz.f124.name,by decide,Tryz.func124.trans (congrArg some (by kernel_rfl))⟩
 f50:=⟨Tryz.f125.name,by decide,Tryz.func125.trans (congrArg some (by kernel_rfl))⟩
 f57:=⟨Tryz.f143.name,by decide,Tryz.func143.trans (congrArg some (by kernel_rfl))⟩
 t0:=Tryz.underlying0
 a0:=Tryz.isAgg0
 z0:=Tryz.sizeOf0
 v0:=Tryz.zeroValue0
 t3:=Tryz.underlying3
 a3:=Tryz.isAgg3
 z3:=Tryz.sizeOf3
 v3:=Tryz.zeroValue3
 t4:=Tryz.underlying4
 a4:=Tryz.isAgg4
 z4:=Tryz.sizeOf4
 v4:=Tryz.zeroValue4
 t5:=Tryz.underlying5
 a5:=Tryz.isAgg5
 z5:=Tryz.sizeOf5
 v5:=Tryz.zeroValue5
 t9:=Tryz.underlying9
 a9:=Tryz.isAgg9
 z9:=Tryz.sizeOf9
 v9:=Tryz.zeroValue9
 t22:=Tryz.underlying22
 a22:=Tryz.isAgg22
 z22:=Tryz.sizeOf22
 v22:=Tryz.zeroValue22
 t25:=Tryz.underlying91
 a25:=Tryz.isAgg91
 z25:=Tryz.sizeOf91
 v25:=Tryz.zeroValue91
 t39:=Tryz.underlying117
 a39:=Tryz.isAgg117
 z39:=Tryz.sizeOf117
 v39:=Tryz.zeroValue117
 t45:=Tryz.underlying126
 a45:=Tryz.isAgg126
 z45:=Tryz.sizeOf126
 v45:=Tryz.zeroValue126
 t46:=Tryz.underlying127
 a46:=Tryz.isAgg127
 z46:=Tryz.sizeOf127
 v46:=Tryz.zeroValue127
 t50:=Tryz.underlying131
 a50:=Tryz.isAgg131
 z50:=Tryz.sizeOf131
 v50:=Tryz.zeroValue131
 t53:=Tryz.underlying134
 a53:=Tryz.isAgg134
 z53:=Tryz.sizeOf134
 v53:=Tryz.zeroValue134
 t55:=Tryz.underlying136
 a55:=Tryz.isAgg136
 z55:=Tryz.sizeOf136
 v55:=Tryz.zeroValue136
 t66:=Tryz.underlying164
 a66:=Tryz.isAgg164
 z66:=Tryz.sizeOf164
 v66:=Tryz.zeroValue164
 t70:=Tryz.underlying168
 a70:=Tryz.isAgg168
 z70:=Tryz.sizeOf168
 v70:=Tryz.zeroValue168
 t76:=Tryz.underlying187
 a76:=Tryz.isAgg187
 z76:=Tryz.sizeOf187
 v76:=Tryz.zeroValue187
 t77:=Tryz.underlying81
 a77:=Tryz.isAgg81
 z77:=Tryz.sizeOf81
 v77:=Tryz.zeroValue81}
end Go.Proofs
end

section
namespace Go.Proofs.YthmekkhpddehjaaGreat
open Go Go.Ab Go.Ab.W Go.Ab.B Jd
set_option maxRecDepth 10000
theorem GC (x y:Int × Int):LL 5 x.1 x.2 y.1 y.2=some (yn x y):=by
 unfold LL;rw[sK 5 x y (by decide),al]
theorem AP (x y:Int × Int) {W:World} :
  Calls Tryz.prog 51 #[.agg (qO x).toArray,.agg (qO y).toArray] W fun e W'=>e = .returned (.int .i64 (yn x y))∧∃q os,W'=Sort.grow (W.drewN q) os :=
 yU (E:=lU) tM (hmono:=trivial) (f:=51) (args:=[.agg #[.int .i64 x.1,.int .i64 x.2],.agg #[.int .i64 y.1,.int .i64 y.2]]) rfl (by intro v hv; simp at hv; rcases hv with rfl|rfl<;>rfl) rfl
  ((W51.Je 5 x.1 x.2 y.1 y.2 _ (GC x y) _).mono fun v m' ⟨_,h,_⟩=>h) (Nat.zero_le _)
theorem K1 (x y:Int × Int):Go.Proofs.ltOf yn x y=decide (x.1<y.1∨x.1=y.1∧x.2<y.2):=by
 unfold Go.Proofs.ltOf yn;have h1:=p5 (z:=x.1-y.1);have h2:=p5 (z:=x.2-y.2);have h3:=ft (z:=x.1-y.1)
 congr 1
 apply propext
 split<;>omega
theorem LQ:Go.Sort.SWO (Go.Proofs.ltOf yn) where
 irrefl x:=by rw[K1]; simp
 trans x y z h1 h2:=by rw[K1] at *; simp only[decide_eq_true_eq] at *; omega
 ntrans x y z h1 h2:=by rw[K1] at *; simp only[decide_eq_false_iff_not] at *; omega
theorem L6 (x y:Int × Int) (h1:Go.Proofs.ltOf yn x y=false) (h2:Go.Proofs.ltOf yn y x=false):x=y:=by
 rw[K1] at h1 h2;simp only[decide_eq_false_iff_not] at h1 h2;exact Prod.ext (by omega) (by omega)
theorem AE (oh off size:Nat) (w:World):Go.Proofs.CmpLays Tryz.prog 51 #[] qO 2 yn oh off size w :=
 fun _ _ _ _ x y=>AP x y
end Go.Proofs.YthmekkhpddehjaaGreat
end

section
namespace Go.Ab
open Go
section
variable {E : Env} {j : aT} {m : AMem} {w : World}
theorem VR.at {b o l c:Nat} {v':Value} (h:VR j (.slice (some ⟨b,o,none⟩) l c) v'):∃k c',j b=some k∧v' = .slice (some ⟨k.c,o,none⟩) l c':=by
 cases h with
 | slice hj hm=>exact⟨_,_,hj,rfl⟩
 | sliceM hj hm _ _ _ _=>exact⟨_,_,hj,rfl⟩
end
end Go.Ab
end

section
namespace Go.Proofs.YthmekkhpddehjaaGreat
open Go Go.Ab Go.Ab.W
set_option maxRecDepth 10000
theorem Cb:(fun x y=>!(Go.Proofs.ltOf yn) y x)=zY:=by
 funext x y
 show(!(Go.Proofs.ltOf yn) y x)=zY x y
 rw[K1]; unfold zY;rw[←decide_not]
 congr 1
 apply propext; omega
theorem iE:∀{cs:List Value} {l:List (Int × Int)},df cs=some l→cs=(l.map qO).flatten
 | [],l,h=>by cases h; rfl
 | .int .i64 a::.int .i64 b::r,l,h=>by
  have h':(df r).map ((a,b)::·)=some l:=h;cases hr:df r with
  | none=>rw[hr] at h'; cases h'
  | some l' =>
   rw[hr] at h'; cases h';rw[iE hr]; rfl
 | [_],_,h=>by unfold df at h; split at h<;>simp_all
 | _::_::_,l,h=>by
  unfold df at h
  split at h
  ·rename_i e; cases e
  ·rename_i a b r e;rw[e];cases hr:df r with
   | none=>rw[hr] at h; cases h
   | some l' =>
    rw[hr] at h; cases h;rw[iE hr]; rfl
  ·cases h
theorem va {m:AMem} {b n n':Nat} {cs:List Value} {tg:Tag} (h:xH m b n n'=some (cs,tg)):m.get b=some (.cells cs tg)∧tg≠.ro∧n=n'∧cs.length=n*2∧cs.all aM=true:=by
 unfold xH at h
 split at h
 ·rename_i cs' hg
  split at h
  ·rename_i hc; cases h; exact⟨hg,(by intro e; cases e),hc⟩
  ·cases h
 ·rename_i cs' hg
  split at h
  ·rename_i hc; cases h; exact⟨hg,(by intro e; cases e),hc⟩
  ·cases h
 ·cases h
theorem wM {j:aT} {f:FuncId} {xs ys:Array Value} {v:Value} (h:VR j (.func (.func f) xs ys) v) (h1:xs.size=0) (h2:ys.size=0):v = .func (.func f) #[] #[]:=by
 cases h with
 | @func _ _ ys' _ ds a _ c _ =>
  have e1:ys'=#[]:=Array.eq_empty_of_size_eq_zero (a.symm.trans h1);have e2:ds=#[]:=Array.eq_empty_of_size_eq_zero (c.symm.trans h2);rw[e1,e2]
theorem GL (w:World):(isAgg 33).run Tryz.prog w = .ok true w:=by rw[jV (by kernel_rfl) w,show dC Tryz.prog 33=true by kernel_rfl]
theorem DP (w:World):(Go.sizeOf 33).run Tryz.prog w = .ok 2 w:=by rw[ct (by kernel_rfl) w,show aA Tryz.prog 33=2 by kernel_rfl]
theorem I4 {n:Nat} (h:lim n=true):n≤1073741824:=Nat.le_of_ble_eq_true h
theorem xP (l:List (Int × Int)):((l.map qO).flatten).all aM=true:=by
 induction l with
 | nil=>rfl
 | cons x l ih=>rw[List.map_cons,List.flatten_cons,List.all_append,ih]; rfl
theorem F0:∀args w,(callFunc 51 args).run Tryz.prog w = .ok (.enter 51 args) w:=fun args w=>tM.call 51 _ _ Tryz.func51 rfl args w
theorem vm {pr:Bool} {args:List Value} {m m':AMem} {v:Value} (h:tS args m=some (v,m')) {j:aT} {w:World} {args':List Value} (hm:MR qP j m w) (hl:LR j args args') :
  gL qP.P pr 50 args'.toArray w (jn qP j m w v m'):=by
 have hcall:∀args w,(callFunc 50 args).run Tryz.prog w = .ok (.enter 50 args) w:=fun args w=>tM.call 50 _ _ Tryz.func50 rfl args w;unfold tS at h
 split at h
 ·rename_i c xs ys
  split at h
  ·rename_i hc; cases h;obtain⟨v1,vs,rfl,h1,hvs⟩:=hl.cons_inv;obtain⟨v2,v3,rfl,h2,h3⟩:=hvs.cons_inv;obtain rfl:=h3.cV;have e0:=wM h2 hc.1 hc.2;subst e0;cases h1;have hcon:=Go.Proofs.AnyF.slices_SortFunc_none Tryz.zZ none c (.func (.func 51) #[] #[]) w
   change Calls Tryz.prog 50 _ _ _ at hcon
   refine .inl ⟨hcall _ _,callsIn_wide.2 ?_⟩;refine Calls.mono hcon ?_;rintro e w' ⟨rfl,rfl⟩;exact⟨_,rfl,j,.refl hm,VR.undef j⟩
  ·cases h
 ·rename_i b n n' xs ys
  split at h
  ·rename_i cs tg hcs;obtain⟨hg,htg,rfl,hcl,hp⟩:=va hcs
   split at h
   ·rename_i l h4
    split at h
    ·rename_i hc; cases h;obtain⟨⟨h5,h6⟩,hlim⟩:=hc;obtain⟨v1,vs,rfl,h1,hvs⟩:=hl.cons_inv;obtain⟨v2,v3,rfl,h2,h3⟩:=hvs.cons_inv;obtain rfl:=h3.cV;have e0:=wM h2 h5 h6;subst e0;obtain⟨k,c',hk,rfl⟩:=h1.at
     have h0:∀x,(qO x).length=2:=fun _=>rfl;have ecs:=iE h4;have hlen:l.length=n:=by
      have:=dq h0 l;rw[←ecs,hcl] at this; omega
     have hH:Go.Sort.HoldsK qO 2 w k.c 0 l.toArray:=by
      unfold Go.Sort.HoldsK;rw[kA h0 (by decide),←ecs]
      exact AG hm hk hg htg hp
     have hcon:=Go.Proofs.AnyQ.slices_SortFunc_total Tryz.zZ 2 (fun w=>GL w) (fun w=>DP w) qO h0 (fun x v hv=>by simp[qO,eP,eI] at hv; rcases hv with rfl|rfl<;>rfl) yn LQ 51 #[] k.c 0 c' l.toArray w F0
      (AE _ _ _ _) hH (hm.lt b k hk).2 (by have:=I4 hlim; simp; omega) L6
     change Calls Tryz.prog 50 _ _ _ at hcon
     rw[Cb] at hcon;simp only[List.size_toArray,hlen] at hcon;refine .inl ⟨hcall _ _,callsIn_wide.2 ?_⟩;refine Calls.mono hcon ?_;rintro e w' ⟨rfl,q,os,rfl⟩;refine⟨_,rfl,j,?_,VR.undef j⟩;unfold Go.Proofs.sortWorldK Go.Sort.putRowK;rw[kA h0 (by decide)]
     exact Fo hm hk hg (by rw[dq h0,hcl,List.length_mergeSort,hlen]) (xP _) q os
    ·cases h
   ·cases h
  ·cases h
 ·cases h
end Go.Proofs.YthmekkhpddehjaaGreat
end

section
namespace Go.Proofs.YthmekkhpddehjaaGreat
open Go Go.Ab
theorem Hi:EnvOk qP:=w8 xu fun f p hp args m v m' hrun j w args' hm hl=>by
 have hp':Fh f=some p:=hp;unfold Fh at hp'
 split at hp'
 ·rename_i hf;subst hf;cases hp';exact qQ hrun hm hl
 ·split at hp'
  ·rename_i hf;subst hf;cases hp';exact lH (E:=qP) yO (fun x y c w hc=>E9 Tryz.func144 (by kernel_rfl) (by kernel_rfl) (by kernel_rfl) (by kernel_rfl) x y c w hc) rfl hrun hm hl
  ·split at hp'
   ·rename_i hf;subst hf;cases hp';exact lH (E:=qP) zj (fun x y c w hc=>Ha Tryz.func145 (by kernel_rfl) (by kernel_rfl) (by kernel_rfl) (by kernel_rfl) x y c w hc) rfl hrun hm hl
   ·cases hp'
theorem A5:∃fuel m',run qP fuel (.call 18 [] m14)=some (.val (.bool true) m')∧0≤m'.wl:=xa (E:=qP) (F:=ux) (n:=1000) (g:=0) By xK
theorem tG {args:List Value} {m m':AMem} {v:Value} (h:lE args m=some (v,m')) {j:aT} {w:World} {args':List Value} (hm:MR qP j m w) (hl:LR j args args') :
  gL qP.P (qP.cE 18).isSome 18 args'.toArray w (jn qP j m w v m'):=by
 unfold lE at h
 split at h
 ·cases h;obtain⟨fuel,m0,h1,h2⟩:=A5;exact sL (E:=qP) (gs:=fun _=>none) Hi (fun x c h=>by cases h) h1 h2 rfl hm (fun x c hx hg=>by cases hg) hl
 ·cases h
theorem Gz:EnvOk aE:=yR (E:=qP) Hi (pr:=BW) fun f p hp=>by
 unfold BW at hp
 split at hp
 ·rename_i e;cases hp;subst e;exact .inr fun args m v m' h j w args' hm hl=>tG h hm hl
 ·split at hp
  ·rename_i e;cases hp;subst e;exact .inr fun args m v m' h j w args' hm hl=>vm h hm hl
  ·exact .inl hp
end Go.Proofs.YthmekkhpddehjaaGreat
end

section
namespace Go.Proofs.YthmekkhpddehjaaGreat
set_option maxRecDepth 100000
open Go Go.ChangeShapes Go.WideShapes Go.ChangeAt Go.WideMaps Go.WideElems Go.RowKit Go.Ab Go.Ab.W
section
variable {H : Type} {enc : TypeId × Value → H} {W : World} {sp : Nat → Bool} {held : Bool} {v : Value} {d : DataW H} {p : List MemPlace} {base : Nat}
end
theorem Lw:laidOutB Tryz.prog=true:=by kernel_rfl
theorem Fi:mapsRowed Tryz.prog=true:=by kernel_rfl
theorem F4:sizedB Tryz.prog=true:=by kernel_rfl
theorem AW {H:Type} {enc:TypeId × Value→H} {f:FuncId} {fn:Func} {s:ChangeSpec} {W:World} {args:Array Value} {ds:List (DataW H)} {before:List MemPlace} {tb:TypeId} {fresh handsOn:Bool} {absArgs:List Value} (hpr:aE.cE f=none)
  (hvars:s.vars = []) (hres:fn.resultTypes.toList = [tb]) (hrs:fn.resultTypes.size=1) (htb:Tryz.prog.underlying tb=some .bool) (hpt:∀t ∈ fn.params.toList,t<Tryz.prog.types.size) (hfn:s.fn H ds = { results:=[.lit (.bool true)],args:=ds,vars:=[]})
  (hW:DataW.Whole enc Tryz.prog fn.params.toList s.vars false W args.toList ds [] before)
  (hl:LR (fo W) absArgs args.toList) (hc:aG aE f absArgs (eO W) (fun v m'=>∃_:Unit,v = .bool true∧Hp (eO W) m' [])) :
  Calls Tryz.prog f args W fun e W'=>∃v,e = .returned v∧s.post enc Tryz.prog fn false fresh handsOn false W args v W':=by
 obtain⟨v,m',⟨fuel,hrun⟩,_,rfl,hm'⟩:=hc;have hm:MR aE (fo W) (eO W) W:=H4 (Nat.zero_le _);have hcall:=callsIn_wide.1 (lI Gz hrun hpr hm hl);refine hcall.mono fun e W' ⟨v',he,j',sm,hv⟩=>?_;have hv':v' = .bool true:=ec rfl hv;subst hv';have hwl:(eO W).next≤m'.wl:=by
  have h1:=hm'.ext.wl;have h2:min (eO W).wl (eO W).next=(eO W).next:=Nat.min_self _
  omega
 exact⟨_,he,BX Lw Fi F4 hvars hres hrs htb hpt hfn hW sm.calm (sm.grown hm hwl)⟩
theorem CW {W:World} (h:W.ShapedOpen Tryz.prog):0<W.heap.size:=by
 unfold World.ShapedOpen at h;obtain⟨_,h2⟩:=h;have e:((begin Tryz.prog (fun _ _=>0) default).world).heap.size=Tryz.prog.globals.size+5:=by
  unfold begin; simp only[Array.size_push,Array.size_mapIdx]
 obtain⟨o,o0,h3,_⟩:=h2 Tryz.prog.globals.size (Nat.le_refl _) (by rw[e]; omega)
 exact Nat.lt_of_le_of_lt (Nat.zero_le _) (Array.getElem?_eq_some_iff.1 h3).1
theorem Ml:BF Tryz.prog 5 26=some [.int .i16,.int .i16]:=by kernel_rfl
theorem Ma:BF Tryz.prog 5 28=some [.sl 5,.int .i16,.int .i16,.int .u8,.bool,.bool]:=by kernel_rfl
theorem MO:BF Tryz.prog 5 5=some [.int .u8]:=by kernel_rfl
theorem L3:Tryz.prog.underlying 26=some (.array 2 25):=by kernel_rfl
theorem bounds_i16 {n:Int} (h:(Lit.int .i16 n).wf=true) : -32768≤n∧n≤32767:=by
 have h':(decide ((-32768:Int)≤n) && decide (n≤32767))=true:=h
 simpa using h'
section
variable {H : Type} {enc : TypeId × Value → H} {W : World} {sp : Nat → Bool} {held : Bool} {v : Value} {d : DataW H} {p : List MemPlace} {base : Nat}
theorem oR {P:Program} {base:Nat} {v:Value} (h:qe enc P W base sp held (.int .i16) v):∃n:Int,v = .int .i16 n∧-32768≤n∧n≤32767:=by
 obtain⟨n,rfl,hw⟩:=h;exact⟨n,rfl,bounds_i16 hw⟩
theorem wO {P:Program} {base:Nat} {v:Value} (h:qe enc P W base sp held .bool v):∃b,v = .bool b:=h
theorem Mc:∀(n:Nat) (cs:List Value) (x:DataW H × List MemPlace),DataW.trod enc Tryz.prog W 0 sp held n 5 cs=some x→∃p:Nat,cs=eN .u8 p∧p<256:=by
 intro n cs x h;obtain⟨v1,cs,rfl,h1,h⟩:=dX (xd 5 5 _ MO n _ x h);obtain rfl:=pA h;obtain⟨a,rfl,ha⟩:=CX h1;exact⟨a,rfl,ha⟩
theorem Kq (hok:Value.okWide Tryz.prog W .any base 28 v) (hs:0<W.heap.size) (h:DataW.Trod enc Tryz.prog W 0 sp held 28 v d p):∃(l:List Nat) (a:Option Addr) (c:Nat) (x1 x2:Int) (x3:Nat) (x4 x5:Bool),
  VR (fo W) (.agg #[.slice a l.length c,.int .i16 x1,.int .i16 x2,.int .u8 ((x3:Nat):Int),.bool x4,.bool x5]) v∧(∀q ∈ l,q<256)∧(-32768≤x1∧x1≤32767)∧(-32768≤x2∧x2≤32767)∧x3<256∧Rd (eO W) a c 1 l.length (l.map (eN .u8)):=by
 obtain⟨cs,rfl,_⟩:=okWide_struct (t:=28) (fs:=Tryz.prog.underlying 28 |>.elim #[] fun u=>match u with | .struct fs=>fs|_=>#[]) (by kernel_rfl) hok
 obtain⟨n,h⟩:=h;obtain⟨v1,r,hr,h1,h⟩:=dX (pw Ma h);obtain⟨v2,r,rfl,h2,h⟩:=dX h;obtain⟨v3,r,rfl,h3,h⟩:=dX h;obtain⟨v4,r,rfl,h4,h⟩:=dX h;obtain⟨v5,r,rfl,h5,h⟩:=dX h;obtain⟨v6,r,rfl,h6,h⟩:=dX h;obtain rfl:=pA h;obtain⟨a,c,l,e1,e2,e3,e4⟩:=I3 (f:=eN .u8) (w:=1) (by kernel_rfl) (by omega) hs (fun q=>rfl) Mc h1
 obtain⟨x1,rfl,g1⟩:=oR h2;obtain⟨x2,rfl,g2⟩:=oR h3;obtain⟨x3,rfl,g3⟩:=CX h4;obtain⟨x4,rfl⟩:=wO h5;obtain⟨x5,rfl⟩:=wO h6;refine⟨l,a,c,x1,x2,x3,x4,x5,?_,e3,g1,g2,g3,e2⟩;refine Cx (l:=[.slice a l.length c,.int .i16 x1,.int .i16 x2,.int .u8 ((x3:Nat):Int),.bool x4,.bool x5]) ?_;rw[hr];exact .cons e1 (LR.plain rfl)
theorem Hw (hok:Value.okWide Tryz.prog W .any base 26 v) (h:DataW.Trod enc Tryz.prog W 0 sp held 26 v d p):∃(x1 x2:Int),VR (fo W) (.agg #[.int .i16 x1,.int .i16 x2]) v∧(-32768≤x1∧x1≤32767)∧(-32768≤x2∧x2≤32767):=by
 obtain⟨cs,rfl,_⟩:=uG L3 hok;obtain⟨n,h⟩:=h;obtain⟨v1,r,hr,h1,h⟩:=dX (pw Ml h);obtain⟨v2,r,rfl,h2,h⟩:=dX h;obtain rfl:=pA h;obtain⟨x1,rfl,g1⟩:=oR h1;obtain⟨x2,rfl,g2⟩:=oR h2;refine⟨x1,x2,?_,g1,g2⟩;refine Cx (l:=[.int .i16 x1,.int .i16 x2]) ?_;rw[hr];exact LR.plain rfl
end
end Go.Proofs.YthmekkhpddehjaaGreat
end

section
namespace Go.Proofs.YthmekkhpddehjaaGreat
open Go Go.Ab Go.Ab.W
set_option maxRecDepth 10000
def Jx (_:Nat) (l1:List (Nat)) (_:Int) (_:Int) (_:Nat) (_:Bool) (_:Bool) (x10:Int):Option (Int) :=
br (decide ((l1.length:Int)=0)) (
some (Int.tmod x10 3)) (
gd (decide ((l1.length:Int)≠0)) (
gd (bV (Int.tmod x10 (l1.length:Int)) l1.length) (
ob (l1[(Int.tmod x10 (l1.length:Int)).toNat]?) fun x17 =>
some (IntKind.wrap .i64 ((x17:Nat):Int)))))
def rU (n:Nat) (l3:List (Nat)) (x5:Int) (x6:Int) (x7:Nat) (x8:Bool) (x9:Bool):(List (Int × Int) × List (Int × Int) × Int)→Option ((List (Int × Int) × List (Int × Int) × Int) ⊕ (List (Int × Int))):=fun(l1,l2,v1) =>
br (decide (v1<12)) (
ob (
ob (Jx n l3 x5 x6 x7 x8 x9 v1) fun r0 =>
ob (
br (decide (Int.tmod r0 6=0)) (
some (!decide (Int.tmod v1 3=0))) (
some false)) fun v2 =>
br (v2) (
some l1) (
gd (bV v1 12) (
ob (l2[v1.toNat]?) fun(x3,x4) =>
ob (some (IntKind.wrap .i64 (x3*(IntKind.wrap .i64 (1+(Int.tmod (Int.tmod r0 6) 5)))))) fun y0 =>
gd (bV v1 12) (
ob (some (IntKind.wrap .i64 (x4*(IntKind.wrap .i64 (1+(Int.tmod (Int.tmod r0 6) 5)))))) fun y1 =>
gd (lim (l1++[(y0,y1)]).length) (
some (l1++[(y0,y1)])))))) fun l4 =>
some (.inl (l4,l2,IntKind.wrap .i64 (v1+1)))) (
some (.inr l1))
def qh (_:Nat) (v2:Int) (r0:Int):(List (Int × Int) × Nat × Int)→Option ((List (Int × Int) × Nat × Int) ⊕ (List (Int × Int) × Nat)):=fun(l1,n1,v1) =>
br (decide (v2≤v1)) (
ob (
gd (bV (IntKind.wrap .i64 ((n1:Int)-1)) n1) (
ob (l1[(IntKind.wrap .i64 ((n1:Int)-1)).toNat]?) fun(x3,x4) =>
br (!(decide (x3=v1) && decide (x4=IntKind.wrap .i64 (1+(Int.tmod r0 5))))) (
gd (lim (l1++[(v1,IntKind.wrap .i64 (1+(Int.tmod r0 5)))]).length) (
some ((l1++[(v1,IntKind.wrap .i64 (1+(Int.tmod r0 5)))]),(l1++[(v1,IntKind.wrap .i64 (1+(Int.tmod r0 5)))]).length))) (
some (l1,n1)))) fun(l2,n2) =>
some (.inl (l2,n2,IntKind.wrap .i64 (v1-1)))) (
some (.inr (l1,n1)))
def wH (n:Nat) (l2:List (Nat)) (x5:Int) (x6:Int) (x7:Nat) (x8:Bool) (x9:Bool):(List (Int × Int) × Nat × Int)→Option ((List (Int × Int) × Nat × Int) ⊕ (List (Int × Int) × Nat)):=fun(l1,n1,v1) =>
br (decide (0≤v1)) (
ob (Jx n l2 x5 x6 x7 x8 x9 (IntKind.wrap .i64 (v1+1))) fun r0 =>
ob (
cq (qh n v1 r0) n (l1,n1,IntKind.wrap .i64 (v1+1))) fun(l3,n2) =>
some (.inl (l3,n2,IntKind.wrap .i64 (v1-1)))) (
some (.inr (l1,n1)))
def Ls (n:Nat) (l1:List (Nat)) (x5:Int) (x6:Int) (x7:Nat) (x8:Bool) (x9:Bool):Option (List (Int × Int)) :=
br (!x8) (
ob (
cq (rU n l1 x5 x6 x7 x8 x9) n (([]:List (Int × Int)),([(2,0),(2,1),(1,2),(0,2),(-1,2),(-2,1),(-2,0),(-2,-1),(-1,-2),(0,-2),(1,-2),(2,-1)]:List (Int × Int)),0)) fun l2 =>
some l2) (
ob (Jx n l1 x5 x6 x7 x8 x9 0) fun r0 =>
ob (
cq (wH n l1 x5 x6 x7 x8 x9) n ([(0,0),(IntKind.wrap .i64 (1+(Int.tmod r0 6)),0)],2,IntKind.wrap .i64 ((IntKind.wrap .i64 (1+(Int.tmod r0 6)))-1))) fun(l3,_) =>
some l3)
def J3 (_:Nat) (x1:Int) (x2:Int):Option (Bool) :=
br (decide (x1 < -1000000)) (
some true) (
br (decide (1000000<x1)) (
some true) (
br (decide (x2 < -1000000)) (
some true) (
some (decide (1000000<x2)))))
def BG (_:Nat) (l1:List (Int × Int)) (x5:Int):Option (Int × Int) :=
gd (decide ((l1.length:Int)≠0)) (
gd (bV (Int.tmod x5 (l1.length:Int)) l1.length) (
ob (l1[(Int.tmod x5 (l1.length:Int)).toNat]?) fun(x11,x12) =>
some (x11,x12)))
def BD (_:Nat) (x1:Int) (x2:Int) (x3:Int) (x4:Int) (x5:Int) (x6:Int):Option (Int) :=
ob (some (IntKind.wrap .i64 ((IntKind.wrap .i64 (x3-x1))*(IntKind.wrap .i64 (x6-x2))))) fun y10 =>
ob (some (IntKind.wrap .i64 ((IntKind.wrap .i64 (x4-x2))*(IntKind.wrap .i64 (x5-x1))))) fun y12 =>
some (IntKind.wrap .i64 (y10-y12))
def Ky (_:Nat) (x1:Int) (x2:Int) (x3:Int) (x4:Int) (x5:Int) (x6:Int):Option (Int) :=
ob (some (IntKind.wrap .i64 ((IntKind.wrap .i64 (x3-x1))*(IntKind.wrap .i64 (x5-x3))))) fun y10 =>
ob (some (IntKind.wrap .i64 ((IntKind.wrap .i64 (x4-x2))*(IntKind.wrap .i64 (x6-x4))))) fun y12 =>
some (IntKind.wrap .i64 (y10+y12))
def HT (_:Nat) (x1:Int):Option (Int) :=
br (decide (0<x1)) (
some 1) (
br (decide (x1<0)) (
some (-1)) (
some 0))
def G6 (n:Nat) (x1:Int) (x2:Int) (x3:Int) (x4:Int) (x5:Int) (x6:Int):Option (Bool) :=
ob (BD n x1 x2 x3 x4 x5 x6) fun r11 =>
br (!decide (r11=0)) (
some false) (
br (decide (mi x1 x3≤x5)) (
br (decide (x5≤ma x1 x3)) (
br (decide (mi x2 x4≤x6)) (
some (decide (x6≤ma x2 x4))) (
some false)) (
some false)) (
some false))
def Lr (n:Nat) (x1:Int) (x2:Int) (x3:Int) (x4:Int) (x5:Int) (x6:Int) (x7:Int) (x8:Int):Option (Int) :=
ob (BD n x1 x2 x3 x4 x5 x6) fun r2 =>
ob (HT n r2) fun r0 =>
ob (BD n x1 x2 x3 x4 x7 x8) fun r3 =>
ob (HT n r3) fun r1 =>
ob (BD n x5 x6 x7 x8 x1 x2) fun r4 =>
ob (HT n r4) fun r5 =>
ob (BD n x5 x6 x7 x8 x3 x4) fun r6 =>
ob (HT n r6) fun r7 =>
ob (
br (decide (r0=0)) (
some (decide (r1=0))) (
some false)) fun v2 =>
br (v2) (
ob (some (IntKind.wrap .i64 ((ma (mi x1 x3) (mi x5 x7))-(mi (ma x1 x3) (ma x5 x7))))) fun y0 =>
ob (
br (decide (x1=x3)) (
ob (some (IntKind.wrap .i64 ((ma (mi x2 x4) (mi x6 x8))-(mi (ma x2 x4) (ma x6 x8))))) fun y1 =>
some y1) (
some y0)) fun v1 =>
br (decide (0<v1)) (
some 0) (
br (decide (v1=0)) (
some 1) (
some 3))) (
ob (
br (decide (IntKind.wrap .i64 (r0*r1)<0)) (
some (decide (IntKind.wrap .i64 (r5*r7)<0))) (
some false)) fun v3 =>
br (v3) (
some 2) (
ob (
ob (G6 n x1 x2 x3 x4 x5 x6) fun r8 =>
br (r8) (
some true) (
ob (G6 n x1 x2 x3 x4 x7 x8) fun r9 =>
br (r9) (
some true) (
ob (G6 n x5 x6 x7 x8 x1 x2) fun r10 =>
br (r10) (
some true) (
ob (G6 n x5 x6 x7 x8 x3 x4) fun r11 =>
some r11)))) fun v4 =>
br (v4) (
some 1) (
some 0)))
def vg (n:Nat) (l1:List (Int × Int)):Int→Option ((Int) ⊕ ((Int) ⊕ (Unit))):=fun v18 =>
br (decide (v18<(l1.length:Int))) (
gd (bV v18 l1.length) (
ob (l1[v18.toNat]?) fun(x35,x36) =>
ob (J3 n x35 x36) fun r39 =>
br (r39) (
some (.inr (.inl v18))) (
some (.inl (IntKind.wrap .i64 (v18+1)))))) (
some (.inr (.inr ())))
def wE (n:Nat) (l1:List (Int × Int)):Int→Option ((Int) ⊕ ((Int) ⊕ (Unit))):=fun v44 =>
br (decide (v44<(l1.length:Int))) (
gd (bV v44 l1.length) (
ob (l1[v44.toNat]?) fun(x62,x63) =>
ob (BG n l1 (IntKind.wrap .i64 (v44+1))) fun(r66,r67) =>
br ((decide (x62=r66) && decide (x63=r67))) (
some (.inr (.inl v44))) (
some (.inl (IntKind.wrap .i64 (v44+1)))))) (
some (.inr (.inr ())))
def uU (n:Nat) (l1:List (Int × Int)):Int→Option ((Int) ⊕ ((Int) ⊕ (Unit))):=fun v1 =>
br (decide (v1<(l1.length:Int))) (
ob (BG n l1 (IntKind.wrap .i64 ((IntKind.wrap .i64 (v1+(l1.length:Int)))-1))) fun(r0,r1) =>
gd (bV v1 l1.length) (
ob (l1[v1.toNat]?) fun(x3,x4) =>
ob (BG n l1 (IntKind.wrap .i64 (v1+1))) fun(r2,r3) =>
ob (
ob (BD n r0 r1 x3 x4 r2 r3) fun r4 =>
br (decide (r4=0)) (
ob (Ky n r0 r1 x3 x4 r2 r3) fun r5 =>
some (decide (r5<0))) (
some false)) fun v2 =>
br (v2) (
some (.inr (.inl v1))) (
some (.inl (IntKind.wrap .i64 (v1+1)))))) (
some (.inr (.inr ())))
def wF (n:Nat) (v2:Int) (l1:List (Int × Int)):Int→Option ((Int) ⊕ ((Unit) ⊕ (Unit))):=fun v1 =>
br (decide (IntKind.wrap .i64 (v1+1)<v2)) (
ob (α:=(Unit) ⊕ (Unit)) (
ob (
br (decide (v1=0)) (
some (decide (v2=IntKind.wrap .i64 ((l1.length:Int)-1)))) (
some false)) fun v3 =>
br (v3) (
some (.inl ())) (
gd (bV v1 l1.length) (
ob (l1[v1.toNat]?) fun(x3,x4) =>
gd (bV (IntKind.wrap .i64 (v1+1)) l1.length) (
ob (l1[(IntKind.wrap .i64 (v1+1)).toNat]?) fun(x14,x15) =>
gd (bV v2 l1.length) (
ob (l1[v2.toNat]?) fun(x16,x17) =>
ob (BG n l1 (IntKind.wrap .i64 (v2+1))) fun(r0,r1) =>
ob (Lr n x3 x4 x14 x15 x16 x17 r0 r1) fun r2 =>
br (!decide (r2=0)) (
some (.inr ())) (
some (.inl ()))))))) fun r3=>match r3 with
| .inl _ =>
some (.inl (IntKind.wrap .i64 (v1+1)))
| .inr _ =>
some (.inr (.inl ()))) (
some (.inr (.inr ())))
def vX (n:Nat) (l1:List (Int × Int)):Int→Option ((Int) ⊕ ((Int) ⊕ (Unit))):=fun v1 =>
br (decide (v1<(l1.length:Int))) (
ob (α:=(Unit) ⊕ (Unit)) (
cq (wF n v1 l1) n 0) fun r0=>match r0 with
| .inl _ =>
some (.inr (.inl v1))
| .inr _ =>
some (.inl (IntKind.wrap .i64 (v1+1)))) (
some (.inr (.inr ())))
def KO (n:Nat) (l1:List (Int × Int)):Option (Int × Int) :=
ob (
br (decide ((l1.length:Int)<3)) (
some true) (
some (decide (40<(l1.length:Int))))) fun v1 =>
br (v1) (
some (1,0)) (
ob (α:=(Int) ⊕ (Unit)) (
cq (vg n l1) n 0) fun r0=>match r0 with
| .inl v2 =>
some (2,v2)
| .inr _ =>
ob (α:=(Int) ⊕ (Unit)) (
cq (wE n l1) n 0) fun r1=>match r1 with
| .inl v3 =>
some (3,v3)
| .inr _ =>
ob (α:=(Int) ⊕ (Unit)) (
cq (uU n l1) n 0) fun r2=>match r2 with
| .inl v4 =>
some (4,v4)
| .inr _ =>
ob (α:=(Int) ⊕ (Unit)) (
cq (vX n l1) n 0) fun r3=>match r3 with
| .inl v5 =>
some (5,v5)
| .inr _ =>
some (0,0))
def Hj (n:Nat) (l1:List (Int × Int)):Option (Int) :=
ob (KO n l1) fun(r6,_) =>
br (decide (0<r6)) (
some 140) (
some 0)
def vU (_:Nat) (l1:List (Int × Int)):(List (Int × Int) × Nat × Int)→Option ((List (Int × Int) × Nat × Int) ⊕ (List (Int × Int) × Nat)):=fun(l25,n27,v28) =>
br (decide (0<v28)) (
gd (bV v28 l1.length) (
ob (l1[v28.toNat]?) fun(x46,x47) =>
gd (lim (l25++[(x46,x47)]).length) (
some (.inl ((l25++[(x46,x47)]),(l25++[(x46,x47)]).length,IntKind.wrap .i64 (v28-1)))))) (
some (.inr (l25,n27)))
def JY (n:Nat) (l1:List (Int × Int)):Option (List (Int × Int) × Int) :=
ob (Hj n l1) fun r6 =>
br (!decide (r6=0)) (
some ([],r6)) (
gd (bV 0 l1.length) (
ob (l1[(0:Int).toNat]?) fun(x11,x12) =>
ob (
cq (vU n l1) n ([(x11,x12)],1,IntKind.wrap .i64 ((l1.length:Int)-1))) fun(l41,_) =>
some (l41,0)))
def rS (_:Nat) (l12:List (Int × Int)) (x5:Int) (x6:Int):(List (Int × Int) × Int × Int)→Option ((List (Int × Int) × Int × Int) ⊕ (List (Int × Int))):=fun(l33,v34,v35) =>
br (decide (v35<(l12.length:Int))) (
gd (bV v35 l12.length) (
ob (l33[v35.toNat]?) fun(x60,x61) =>
ob (some (IntKind.wrap .i64 ((IntKind.wrap .i64 (x60*v34))+(IntKind.wrap .i64 x5)))) fun y63 =>
gd (bV v35 l12.length) (
ob (some (IntKind.wrap .i64 ((IntKind.wrap .i64 (x61*v34))+(IntKind.wrap .i64 x6)))) fun y66 =>
gd (bV v35 l12.length) (
some (.inl ((l33.set v35.toNat (y63,y66)),v34,IntKind.wrap .i64 (v35+1))))))) (
some (.inr l33))
def J1 (n:Nat) (l1:List (Nat)) (x5:Int) (x6:Int) (x7:Nat) (x8:Bool) (x9:Bool):Option (List (Int × Int)) :=
ob (Ls n l1 x5 x6 x7 x8 x9) fun l12 =>
ob (
cq (rS n l12 x5 x6) n (l12,IntKind.wrap .i64 (1+(IntKind.wrap .i64 ((x7:Nat):Int))),0)) fun l54 =>
ob (
br (x9) (
ob (JY n l54) fun(l83,_) =>
some (l83,l83.length)) (
some (l54,l12.length))) fun(l78,_) =>
some l78
def K0 (_:Nat) (x3:Nat):(List (Int × Int))→Option ((List (Int × Int)) ⊕ (List (Int × Int))):=fun l1 =>
br (decide ((l1.length:Int)<IntKind.wrap .i64 (39+(IntKind.wrap .i64 ((x3%3:Nat):Int))))) (
gd (lim (l1++[(IntKind.wrap .i64 (3*(l1.length:Int)),IntKind.wrap .i64 ((l1.length:Int)*(l1.length:Int)))]).length) (
some (.inl (l1++[(IntKind.wrap .i64 (3*(l1.length:Int)),IntKind.wrap .i64 ((l1.length:Int)*(l1.length:Int)))])))) (
some (.inr l1))
def My (n:Nat) (x1:Nat) (x2:Nat) (x14:Nat) (x3:Int) (x5:Int) (l6:List (Int × Int)):Option (List (Int × Int)) :=
gd (okB 0 (mi (l6.length:Int) (50:Int)) l6.length) (
gd (lim (([]:List (Int × Int))++((l6.drop (0:Int).toNat).take ((mi (l6.length:Int) (50:Int):Int).toNat-(0:Int).toNat))).length) (
br (decide (((([]:List (Int × Int))++((l6.drop (0:Int).toNat).take ((mi (l6.length:Int) (50:Int):Int).toNat-(0:Int).toNat))).length:Int)=0)) (
some (([]:List (Int × Int))++((l6.drop (0:Int).toNat).take ((mi (l6.length:Int) (50:Int):Int).toNat-(0:Int).toNat)))) (
gd (decide (((([]:List (Int × Int))++((l6.drop (0:Int).toNat).take ((mi (l6.length:Int) (50:Int):Int).toNat-(0:Int).toNat))).length:Int)≠0)) (
ob (some (Int.tmod (IntKind.wrap .i64 ((x2:Nat):Int)) ((([]:List (Int × Int))++((l6.drop (0:Int).toNat).take ((mi (l6.length:Int) (50:Int):Int).toNat-(0:Int).toNat))).length:Int))) fun y0 =>
gd (decide (((([]:List (Int × Int))++((l6.drop (0:Int).toNat).take ((mi (l6.length:Int) (50:Int):Int).toNat-(0:Int).toNat))).length:Int)≠0)) (
ob (some (Int.tmod (IntKind.wrap .i64 ((x14:Nat):Int)) ((([]:List (Int × Int))++((l6.drop (0:Int).toNat).take ((mi (l6.length:Int) (50:Int):Int).toNat-(0:Int).toNat))).length:Int))) fun y1 =>
ob (
br (decide (x1%9=0)) (
gd (bV y0 ((([]:List (Int × Int))++((l6.drop (0:Int).toNat).take ((mi (l6.length:Int) (50:Int):Int).toNat-(0:Int).toNat))).length)) (
ob ((([]:List (Int × Int))++((l6.drop (0:Int).toNat).take ((mi (l6.length:Int) (50:Int):Int).toNat-(0:Int).toNat)))[y0.toNat]?) fun(_,_) =>
some (((([]:List (Int × Int))++((l6.drop (0:Int).toNat).take ((mi (l6.length:Int) (50:Int):Int).toNat-(0:Int).toNat))).set y0.toNat (x3,x5)),(([]:List (Int × Int))++((l6.drop (0:Int).toNat).take ((mi (l6.length:Int) (50:Int):Int).toNat-(0:Int).toNat))).length))) (
br (decide (x1%9=1)) (
gd (bV y1 ((([]:List (Int × Int))++((l6.drop (0:Int).toNat).take ((mi (l6.length:Int) (50:Int):Int).toNat-(0:Int).toNat))).length)) (
ob ((([]:List (Int × Int))++((l6.drop (0:Int).toNat).take ((mi (l6.length:Int) (50:Int):Int).toNat-(0:Int).toNat)))[y1.toNat]?) fun(x17,x18) =>
gd (bV y0 ((([]:List (Int × Int))++((l6.drop (0:Int).toNat).take ((mi (l6.length:Int) (50:Int):Int).toNat-(0:Int).toNat))).length)) (
ob ((([]:List (Int × Int))++((l6.drop (0:Int).toNat).take ((mi (l6.length:Int) (50:Int):Int).toNat-(0:Int).toNat)))[y0.toNat]?) fun(_,_) =>
some (((([]:List (Int × Int))++((l6.drop (0:Int).toNat).take ((mi (l6.length:Int) (50:Int):Int).toNat-(0:Int).toNat))).set y0.toNat (x17,x18)),(([]:List (Int × Int))++((l6.drop (0:Int).toNat).take ((mi (l6.length:Int) (50:Int):Int).toNat-(0:Int).toNat))).length)))) (
br (decide (x1%9=2)) (
gd (bV y1 ((([]:List (Int × Int))++((l6.drop (0:Int).toNat).take ((mi (l6.length:Int) (50:Int):Int).toNat-(0:Int).toNat))).length)) (
ob ((([]:List (Int × Int))++((l6.drop (0:Int).toNat).take ((mi (l6.length:Int) (50:Int):Int).toNat-(0:Int).toNat)))[y1.toNat]?) fun(x15,x16) =>
gd (bV y0 ((([]:List (Int × Int))++((l6.drop (0:Int).toNat).take ((mi (l6.length:Int) (50:Int):Int).toNat-(0:Int).toNat))).length)) (
ob ((([]:List (Int × Int))++((l6.drop (0:Int).toNat).take ((mi (l6.length:Int) (50:Int):Int).toNat-(0:Int).toNat)))[y0.toNat]?) fun(x19,x20) =>
gd (bV y0 ((([]:List (Int × Int))++((l6.drop (0:Int).toNat).take ((mi (l6.length:Int) (50:Int):Int).toNat-(0:Int).toNat))).length)) (
gd (bV y1 ((([]:List (Int × Int))++((l6.drop (0:Int).toNat).take ((mi (l6.length:Int) (50:Int):Int).toNat-(0:Int).toNat))).length)) (
ob (((([]:List (Int × Int))++((l6.drop (0:Int).toNat).take ((mi (l6.length:Int) (50:Int):Int).toNat-(0:Int).toNat))).set y0.toNat (x15,x16))[y1.toNat]?) fun(_,_) =>
some ((((([]:List (Int × Int))++((l6.drop (0:Int).toNat).take ((mi (l6.length:Int) (50:Int):Int).toNat-(0:Int).toNat))).set y0.toNat (x15,x16)).set y1.toNat (x19,x20)),(([]:List (Int × Int))++((l6.drop (0:Int).toNat).take ((mi (l6.length:Int) (50:Int):Int).toNat-(0:Int).toNat))).length)))))) (
br (decide (x1%9=3)) (
gd (okB 0 y0 ((([]:List (Int × Int))++((l6.drop (0:Int).toNat).take ((mi (l6.length:Int) (50:Int):Int).toNat-(0:Int).toNat))).length)) (
some ((((([]:List (Int × Int))++((l6.drop (0:Int).toNat).take ((mi (l6.length:Int) (50:Int):Int).toNat-(0:Int).toNat))).drop (0:Int).toNat).take ((y0:Int).toNat-(0:Int).toNat)),(((([]:List (Int × Int))++((l6.drop (0:Int).toNat).take ((mi (l6.length:Int) (50:Int):Int).toNat-(0:Int).toNat))).drop (0:Int).toNat).take ((y0:Int).toNat-(0:Int).toNat)).length))) (
br (decide (x1%9=4)) (
gd (lim ((([]:List (Int × Int))++((l6.drop (0:Int).toNat).take ((mi (l6.length:Int) (50:Int):Int).toNat-(0:Int).toNat)))++[(x3,x5)]).length) (
some (((([]:List (Int × Int))++((l6.drop (0:Int).toNat).take ((mi (l6.length:Int) (50:Int):Int).toNat-(0:Int).toNat)))++[(x3,x5)]),((([]:List (Int × Int))++((l6.drop (0:Int).toNat).take ((mi (l6.length:Int) (50:Int):Int).toNat-(0:Int).toNat)))++[(x3,x5)]).length))) (
br (decide (x1%9=5)) (
gd (bV y0 ((([]:List (Int × Int))++((l6.drop (0:Int).toNat).take ((mi (l6.length:Int) (50:Int):Int).toNat-(0:Int).toNat))).length)) (
ob ((([]:List (Int × Int))++((l6.drop (0:Int).toNat).take ((mi (l6.length:Int) (50:Int):Int).toNat-(0:Int).toNat)))[y0.toNat]?) fun(x21,x22) =>
gd (decide (((([]:List (Int × Int))++((l6.drop (0:Int).toNat).take ((mi (l6.length:Int) (50:Int):Int).toNat-(0:Int).toNat))).length:Int)≠0)) (
ob (some (Int.tmod (IntKind.wrap .i64 (y0+1)) ((([]:List (Int × Int))++((l6.drop (0:Int).toNat).take ((mi (l6.length:Int) (50:Int):Int).toNat-(0:Int).toNat))).length:Int))) fun y4 =>
gd (bV y4 ((([]:List (Int × Int))++((l6.drop (0:Int).toNat).take ((mi (l6.length:Int) (50:Int):Int).toNat-(0:Int).toNat))).length)) (
ob ((([]:List (Int × Int))++((l6.drop (0:Int).toNat).take ((mi (l6.length:Int) (50:Int):Int).toNat-(0:Int).toNat)))[y4.toNat]?) fun(x23,x24) =>
ob (some (IntKind.wrap .i64 ((IntKind.wrap .i64 (Int.tdiv x21 2))+(IntKind.wrap .i64 (Int.tdiv x23 2))))) fun y2 =>
ob (some (IntKind.wrap .i64 ((IntKind.wrap .i64 (Int.tdiv x22 2))+(IntKind.wrap .i64 (Int.tdiv x24 2))))) fun y3 =>
gd (okB 0 (IntKind.wrap .i64 (y0+1)) ((([]:List (Int × Int))++((l6.drop (0:Int).toNat).take ((mi (l6.length:Int) (50:Int):Int).toNat-(0:Int).toNat))).length)) (
gd (lim (([]:List (Int × Int))++(((([]:List (Int × Int))++((l6.drop (0:Int).toNat).take ((mi (l6.length:Int) (50:Int):Int).toNat-(0:Int).toNat))).drop (0:Int).toNat).take ((IntKind.wrap .i64 (y0+1):Int).toNat-(0:Int).toNat))).length) (
gd (lim ((([]:List (Int × Int))++(((([]:List (Int × Int))++((l6.drop (0:Int).toNat).take ((mi (l6.length:Int) (50:Int):Int).toNat-(0:Int).toNat))).drop (0:Int).toNat).take ((IntKind.wrap .i64 (y0+1):Int).toNat-(0:Int).toNat)))++[(y2,y3)]).length) (
gd (okB (IntKind.wrap .i64 (y0+1)) ((([]:List (Int × Int))++((l6.drop (0:Int).toNat).take ((mi (l6.length:Int) (50:Int):Int).toNat-(0:Int).toNat))).length:Int) ((([]:List (Int × Int))++((l6.drop (0:Int).toNat).take ((mi (l6.length:Int) (50:Int):Int).toNat-(0:Int).toNat))).length)) (
gd (lim (((([]:List (Int × Int))++(((([]:List (Int × Int))++((l6.drop (0:Int).toNat).take ((mi (l6.length:Int) (50:Int):Int).toNat-(0:Int).toNat))).drop (0:Int).toNat).take ((IntKind.wrap .i64 (y0+1):Int).toNat-(0:Int).toNat)))++[(y2,y3)])++(((([]:List (Int × Int))++((l6.drop (0:Int).toNat).take ((mi (l6.length:Int) (50:Int):Int).toNat-(0:Int).toNat))).drop (IntKind.wrap .i64 (y0+1):Int).toNat).take ((((([]:List (Int × Int))++((l6.drop (0:Int).toNat).take ((mi (l6.length:Int) (50:Int):Int).toNat-(0:Int).toNat))).length:Int):Int).toNat-(IntKind.wrap .i64 (y0+1):Int).toNat))).length) (
some ((((([]:List (Int × Int))++(((([]:List (Int × Int))++((l6.drop (0:Int).toNat).take ((mi (l6.length:Int) (50:Int):Int).toNat-(0:Int).toNat))).drop (0:Int).toNat).take ((IntKind.wrap .i64 (y0+1):Int).toNat-(0:Int).toNat)))++[(y2,y3)])++(((([]:List (Int × Int))++((l6.drop (0:Int).toNat).take ((mi (l6.length:Int) (50:Int):Int).toNat-(0:Int).toNat))).drop (IntKind.wrap .i64 (y0+1):Int).toNat).take ((((([]:List (Int × Int))++((l6.drop (0:Int).toNat).take ((mi (l6.length:Int) (50:Int):Int).toNat-(0:Int).toNat))).length:Int):Int).toNat-(IntKind.wrap .i64 (y0+1):Int).toNat))),(((([]:List (Int × Int))++(((([]:List (Int × Int))++((l6.drop (0:Int).toNat).take ((mi (l6.length:Int) (50:Int):Int).toNat-(0:Int).toNat))).drop (0:Int).toNat).take ((IntKind.wrap .i64 (y0+1):Int).toNat-(0:Int).toNat)))++[(y2,y3)])++(((([]:List (Int × Int))++((l6.drop (0:Int).toNat).take ((mi (l6.length:Int) (50:Int):Int).toNat-(0:Int).toNat))).drop (IntKind.wrap .i64 (y0+1):Int).toNat).take ((((([]:List (Int × Int))++((l6.drop (0:Int).toNat).take ((mi (l6.length:Int) (50:Int):Int).toNat-(0:Int).toNat))).length:Int):Int).toNat-(IntKind.wrap .i64 (y0+1):Int).toNat))).length)))))))))) (
br (decide (x1%9=6)) (
ob (
cq (K0 n x14) n (([]:List (Int × Int))++((l6.drop (0:Int).toNat).take ((mi (l6.length:Int) (50:Int):Int).toNat-(0:Int).toNat)))) fun l1 =>
some (l1,l1.length)) (
br (decide (x1%9=7)) (
gd (bV y0 ((([]:List (Int × Int))++((l6.drop (0:Int).toNat).take ((mi (l6.length:Int) (50:Int):Int).toNat-(0:Int).toNat))).length)) (
ob ((([]:List (Int × Int))++((l6.drop (0:Int).toNat).take ((mi (l6.length:Int) (50:Int):Int).toNat-(0:Int).toNat)))[y0.toNat]?) fun(x25,x4) =>
gd (bV y0 ((([]:List (Int × Int))++((l6.drop (0:Int).toNat).take ((mi (l6.length:Int) (50:Int):Int).toNat-(0:Int).toNat))).length)) (
gd (bV y0 ((([]:List (Int × Int))++((l6.drop (0:Int).toNat).take ((mi (l6.length:Int) (50:Int):Int).toNat-(0:Int).toNat))).length)) (
gd (bV y0 ((([]:List (Int × Int))++((l6.drop (0:Int).toNat).take ((mi (l6.length:Int) (50:Int):Int).toNat-(0:Int).toNat))).length)) (
ob (((([]:List (Int × Int))++((l6.drop (0:Int).toNat).take ((mi (l6.length:Int) (50:Int):Int).toNat-(0:Int).toNat))).set y0.toNat (x4,x4))[y0.toNat]?) fun(x26,_) =>
some ((((([]:List (Int × Int))++((l6.drop (0:Int).toNat).take ((mi (l6.length:Int) (50:Int):Int).toNat-(0:Int).toNat))).set y0.toNat (x4,x4)).set y0.toNat (x26,x25)),(([]:List (Int × Int))++((l6.drop (0:Int).toNat).take ((mi (l6.length:Int) (50:Int):Int).toNat-(0:Int).toNat))).length)))))) (
some ((([]:List (Int × Int))++((l6.drop (0:Int).toNat).take ((mi (l6.length:Int) (50:Int):Int).toNat-(0:Int).toNat))),(([]:List (Int × Int))++((l6.drop (0:Int).toNat).take ((mi (l6.length:Int) (50:Int):Int).toNat-(0:Int).toNat))).length)))))))))) fun(l2,_) =>
some l2)))))
def MP (_:Nat) (l1:List (Int × Int)):Option (List (Int × Int)) :=
gd (okB 0 (mi (l1.length:Int) (50:Int)) l1.length) (
some ((l1.drop (0:Int).toNat).take ((mi (l1.length:Int) (50:Int):Int).toNat-(0:Int).toNat)))
def MX (n:Nat) (l1:List (Int × Int)) (l6:List (Nat)) (x11:Int) (x12:Int) (x13:Nat) (x14:Bool) (x15:Bool) (x16:Nat) (x17:Nat) (x18:Nat) (x19:Int) (x20:Int) (x21:Nat) (x22:Nat) (x23:Nat) (x24:Int) (x25:Int):Option (List (Int × Int) × List (Int × Int) × List (Int × Int) × List (Int × Int)) :=
ob (J1 n l6 x11 x12 x13 x14 x15) fun l30 =>
ob (My n x16 x17 x18 x19 x20 l30) fun l34 =>
ob (My n x21 x22 x23 x24 x25 l34) fun l39 =>
ob (MP n l1) fun l44 =>
some (l30,l34,l39,l44)
def vF (n:Nat) (l1:List (Int × Int)):Int→Option ((Int) ⊕ ((Int) ⊕ (Unit))):=fun v49 =>
br (decide (v49<(l1.length:Int))) (
gd (bV v49 l1.length) (
ob (l1[v49.toNat]?) fun(x66,x67) =>
ob (JZ n x66 x67) fun r70 =>
br (r70) (
some (.inr (.inl v49))) (
some (.inl (IntKind.wrap .i64 (v49+1)))))) (
some (.inr (.inr ())))
def wZ (_:Nat) (l1:List (Int × Int)):Int→Option ((Int) ⊕ ((Int) ⊕ (Unit))):=fun v1 =>
br (decide (v1<(l1.length:Int))) (
gd (bV v1 l1.length) (
ob (l1[v1.toNat]?) fun(x3,x4) =>
gd (decide ((l1.length:Int)≠0)) (
gd (bV (Int.tmod (IntKind.wrap .i64 (v1+1)) (l1.length:Int)) l1.length) (
ob (l1[(Int.tmod (IntKind.wrap .i64 (v1+1)) (l1.length:Int)).toNat]?) fun(x14,x15) =>
ob (α:=(Unit) ⊕ (Unit)) (
br ((decide (x3=x14) && decide (x4=x15))) (
some (.inl ())) (
some (.inr ()))) fun r0=>match r0 with
| .inl _ =>
some (.inr (.inl v1))
| .inr _ =>
some (.inl (IntKind.wrap .i64 (v1+1))))))) (
some (.inr (.inr ())))
def xp (n:Nat) (l1:List (Int × Int)):Int→Option ((Int) ⊕ ((Int) ⊕ (Unit))):=fun v1 =>
br (decide (v1<(l1.length:Int))) (
gd (bV v1 l1.length) (
ob (l1[v1.toNat]?) fun(x3,x4) =>
gd (decide ((l1.length:Int)≠0)) (
gd (bV (Int.tmod (IntKind.wrap .i64 (v1+1)) (l1.length:Int)) l1.length) (
ob (l1[(Int.tmod (IntKind.wrap .i64 (v1+1)) (l1.length:Int)).toNat]?) fun(x14,x15) =>
ob (α:=(Unit) ⊕ (Unit)) (
gd (decide ((l1.length:Int)≠0)) (
ob (some (Int.tmod (IntKind.wrap .i64 ((IntKind.wrap .i64 (v1+(l1.length:Int)))-1)) (l1.length:Int))) fun y0 =>
gd (bV y0 l1.length) (
ob (l1[y0.toNat]?) fun(x16,x17) =>
ob (
ob (BE n x16 x17 x3 x4 x14 x15) fun r0 =>
br (decide (r0=0)) (
ob (some (IntKind.wrap .i64 ((IntKind.wrap .i64 (x3-x16))*(IntKind.wrap .i64 (x14-x3))))) fun y1 =>
ob (some (IntKind.wrap .i64 ((IntKind.wrap .i64 (x4-x17))*(IntKind.wrap .i64 (x15-x4))))) fun y2 =>
some (decide (IntKind.wrap .i64 (y1+y2)<0))) (
some false)) fun v2 =>
br (v2) (
some (.inl ())) (
some (.inr ()))))) fun r1=>match r1 with
| .inl _ =>
some (.inr (.inl v1))
| .inr _ =>
some (.inl (IntKind.wrap .i64 (v1+1))))))) (
some (.inr (.inr ())))
def wC (n:Nat) (l1:List (Int × Int)) (v2:Int) (x3:Int) (x4:Int) (x14:Int) (x15:Int):Int→Option ((Int) ⊕ ((Unit) ⊕ ((Unit) ⊕ (Unit)))):=fun v1 =>
br (decide (v1<(l1.length:Int))) (
gd (bV v1 l1.length) (
ob (l1[v1.toNat]?) fun(x16,x17) =>
gd (decide ((l1.length:Int)≠0)) (
gd (bV (Int.tmod (IntKind.wrap .i64 (v1+1)) (l1.length:Int)) l1.length) (
ob (l1[(Int.tmod (IntKind.wrap .i64 (v1+1)) (l1.length:Int)).toNat]?) fun(x18,x19) =>
ob (α:=(Unit) ⊕ ((Unit) ⊕ (Unit))) (
br (decide (IntKind.wrap .i64 (v2-1)≤v1)) (
some (.inl ())) (
ob (
br (decide (v1=0)) (
some (decide (v2=IntKind.wrap .i64 ((l1.length:Int)-1)))) (
some false)) fun v3 =>
br (v3) (
some (.inr (.inl ()))) (
ob (Lp n v2 x3 x4 x14 x15 v1 x16 x17 x18 x19) fun r0 =>
br (!decide (r0=0)) (
some (.inr (.inr ()))) (
some (.inr (.inl ())))))) fun r1=>match r1 with
| .inl _ =>
some (.inr (.inl ()))
| .inr (.inl _) =>
some (.inl (IntKind.wrap .i64 (v1+1)))
| .inr (.inr _) =>
some (.inr (.inr (.inl ()))))))) (
some (.inr (.inr (.inr ()))))
def wD (n:Nat) (l1:List (Int × Int)):Int→Option ((Int) ⊕ ((Int) ⊕ (Unit))):=fun v1 =>
br (decide (v1<(l1.length:Int))) (
gd (bV v1 l1.length) (
ob (l1[v1.toNat]?) fun(x3,x4) =>
gd (decide ((l1.length:Int)≠0)) (
gd (bV (Int.tmod (IntKind.wrap .i64 (v1+1)) (l1.length:Int)) l1.length) (
ob (l1[(Int.tmod (IntKind.wrap .i64 (v1+1)) (l1.length:Int)).toNat]?) fun(x14,x15) =>
ob (α:=(Unit) ⊕ (Unit)) (
ob (
some ()) fun _ =>
ob (α:=(Unit) ⊕ ((Unit) ⊕ (Unit))) (
ob (α:=(Unit) ⊕ ((Unit) ⊕ (Unit))) (
cq (wC n l1 v1 x3 x4 x14 x15) n 0) fun r0=>match r0 with
| .inl _ =>
some (.inl ())
| .inr (.inl _) =>
some (.inr (.inl ()))
| .inr (.inr _) =>
some (.inr (.inr ()))) fun r1=>match r1 with
| .inl _ =>
some (.inl ())
| .inr (.inl _) =>
some (.inr ())
| .inr (.inr _) =>
some (.inl ())) fun r2=>match r2 with
| .inl _ =>
some (.inl (IntKind.wrap .i64 (v1+1)))
| .inr _ =>
some (.inr (.inl v1)))))) (
some (.inr (.inr ())))
def Ld (n:Nat) (l1:List (Int × Int)):Option (Int × Int) :=
ob (
br (decide ((l1.length:Int)<3)) (
some true) (
some (decide (40<(l1.length:Int))))) fun v2 =>
br (v2) (
some (1,0)) (
ob (
ob (α:=(Int) ⊕ (Unit)) (
cq (vF n l1) n 0) fun r0=>match r0 with
| .inl v3 =>
some v3
| .inr _ =>
some (-1)) fun v1 =>
br (decide (0≤v1)) (
some (2,v1)) (
ob (
some ()) fun _ =>
ob (α:=(Int) ⊕ (Unit)) (
ob (α:=(Int) ⊕ (Unit)) (
cq (wZ n l1) n 0) fun r1=>match r1 with
| .inl v4 =>
some (.inl v4)
| .inr _ =>
some (.inr ())) fun r2=>match r2 with
| .inl v5 =>
some (3,v5)
| .inr _ =>
ob (
some ()) fun _ =>
ob (α:=(Int) ⊕ (Unit)) (
ob (α:=(Int) ⊕ (Unit)) (
cq (xp n l1) n 0) fun r3=>match r3 with
| .inl v6 =>
some (.inl v6)
| .inr _ =>
some (.inr ())) fun r4=>match r4 with
| .inl v7 =>
some (4,v7)
| .inr _ =>
ob (
some ()) fun _ =>
ob (α:=(Int) ⊕ (Unit)) (
ob (α:=(Int) ⊕ (Unit)) (
cq (wD n l1) n 0) fun r5=>match r5 with
| .inl v8 =>
some (.inl v8)
| .inr _ =>
some (.inr ())) fun r6=>match r6 with
| .inl v9 =>
some (5,v9)
| .inr _ =>
some (0,0)))
def FK (n:Nat) (l1:List (Int × Int)):Option (Int) :=
ob (Ld n l1) fun(r6,_) =>
br (decide (0<r6)) (
some 140) (
some 0)
def wu (_:Nat) (l1:List (Int × Int)) (l5:List (Int × Int)):Int→Option ((Int) ⊕ ((Unit) ⊕ (Unit))):=fun v11 =>
br (decide (v11<(l1.length:Int))) (
gd (bV v11 l1.length) (
ob (l1[v11.toNat]?) fun(x31,x32) =>
gd (bV v11 l5.length) (
ob (l5[v11.toNat]?) fun(x37,x38) =>
br (!(decide (x31=x37) && decide (x32=x38))) (
some (.inr (.inl ()))) (
some (.inl (IntKind.wrap .i64 (v11+1))))))) (
some (.inr (.inr ())))
def H3 (n:Nat) (l1:List (Int × Int)) (l5:List (Int × Int)):Option (Bool) :=
br (!decide ((l1.length:Int)=(l5.length:Int))) (
some false) (
ob (α:=(Unit) ⊕ (Unit)) (
cq (wu n l1 l5) n 0) fun r42=>match r42 with
| .inl _ =>
some false
| .inr _ =>
some true)
end Go.Proofs.YthmekkhpddehjaaGreat
end

section
namespace Go.Proofs.YthmekkhpddehjaaGreat
open Go Go.Ab Go.Ab.W
set_option maxRecDepth 10000
set_option maxHeartbeats 4000000
attribute [local irreducible] Tm.at Trie.set Trie.get AMem.get AMem.set AMem.alloc AMem.ww AMem.kill
def LC (_:Nat) (l:List (Int × Int)):Option (List (Int × Int)):=gd (lim l.length) (some l)
theorem KP {P:Program} {ty e l c l' c':Nat} (hu:P.underlying ty=some (.slice e)):bM .eql ty P (.slice none l c) (.slice none l' c')=some (.bool true):=by
 simp only[bM,Op.maxDepth,ik,hu,Option.map_some,Option.isNone_none]
theorem Kk {P:Program} {ty e l c l' c':Nat} {A:Addr} (hu:P.underlying ty=some (.slice e)):bM .eql ty P (.slice (some A) l c) (.slice none l' c')=some (.bool false):=by
 simp only[bM,Op.maxDepth,ik,hu,Option.map_some]
theorem Ia:aE.P.underlying 34=some (.slice 33):=by kernel_rfl
theorem IQ:SlT aE.P 34 33 2:=SlT.of (by kernel_rfl)
theorem Mg:bA aE.P 33=some (.agg #[.int .i64 0,.int .i64 0]):=by kernel_rfl
theorem Rd.FE {m:AMem} {cap w n:Nat} {es:List (List Value)} (h:Rd m none cap w n es):n=0:=by
 rcases h.2.2 with⟨_,h⟩|⟨_,_,h,_⟩|⟨_,_,h,_⟩
 ·exact h
 ·cases h
 ·cases h
theorem IH (n:Nat) (l:List (Int × Int)) (a:Option Addr) (c:Nat) (r:List (Int × Int)) (hF:LC n l=some r) (m:AMem) (h:Rd m a c 2 l.length (l.map (eP (eI .i64) (eI .i64)))):aG aE 71 [.slice a l.length c] m (fun v m'=>∃x:Option Addr × Nat,v = .slice x.1 x.2 x.2∧Hp m m' [.sl x.1 2 x.2 (r.map (eP (eI .i64) (eI .i64)))]):=by
 unfold LC at hF;obtain⟨hl,hF⟩:=an hF;cases hF;cases a with
 | none =>
  have h0:=Rd.FE h;have:l = []:=List.length_eq_zero_iff.1 h0;subst this;refine aB (m0:=m) (ps:=[]) (N:=8) (rs:=[.tmp 2]) rfl Tryz.func71 rfl rfl rfl (Hp.start m) ?_;refine Wk.seq ?_;refine Wk.region ?_;refine Wo.od (ai rfl) rfl ?_;refine Wo.nil ?_;refine At.tn ?_;refine Wk.seq ?_;refine Wk.seq ?_;refine Wk.region ?_;refine Wo.od (aa rfl) rfl ?_;refine Wo.od (aj rfl rfl (KP Ia)) rfl ?_;refine Wo.nil ?_;refine At.tn ?_;refine Wk.au rfl rfl ?_;refine Wk.seq ?_;refine Wk.region ?_;refine Wo.od (ai rfl) rfl ?_;refine Wo.nil ?_;refine At.tn ?_;refine Wk.ret ?_;refine At.tr ?_;exact At.ret (.tmp rfl .nil) fun m' hm=>⟨(none,0),rfl,(ae.nil 2 rfl) m' hm⟩
 | some A =>
  refine aB (m0:=m) (ps:=[.rd (some A) c 2 l.length (l.map (eP (eI .i64) (eI .i64)))]) (N:=8) (rs:=[.tmp 2]) rfl Tryz.func71 rfl rfl rfl ((Hp.start m).jj rfl h) ?_;refine Wk.seq ?_;refine Wk.region ?_;refine Wo.od (ai rfl) rfl ?_;refine Wo.nil ?_;refine At.tn ?_;refine Wk.seq ?_;refine Wk.seq ?_;refine Wk.region ?_;refine Wo.od (aa rfl) rfl ?_;refine Wo.od (aj rfl rfl (Kk Ia)) rfl ?_;refine Wo.nil ?_;refine At.tn ?_;refine Wk.aw rfl rfl ?_;refine Wk.skip ?_;refine At.tn ?_;refine Wk.seq ?_;refine Wk.region ?_;refine Wo.x (kY (es:=([]:List (Int × Int)).map (eP (eI .i64) (eI .i64))) IQ rfl (k6 IQ Mg rfl rfl) rfl rfl) gn rfl fun b=>?_;refine Wo.od (aa rfl) rfl ?_;refine Wo.ic (ae.close (k:=0) rfl) ?_;refine Wo.x (p7 (k:=0) (k2:=1) (xs:=([]:List (Int × Int))) (ys:=l) (EL (rB .i64) (rB .i64)) IQ ⟨_,Ia⟩ rfl rfl rfl (.rd _ _ _ _ _) hl) gn rfl fun a2=>?_;refine Wo.od (ai rfl) rfl ?_;refine Wo.nil ?_;refine At.tn ?_;refine Wk.ret ?_;exact At.ret (.tmp rfl .nil) fun m' hm=>⟨(a2,l.length),rfl,(ae.ab [0] rfl rfl) m' hm⟩
end Go.Proofs.YthmekkhpddehjaaGreat
end

section
namespace Go.Ab.W
open Go Go.Ab
attribute [local irreducible] Tm.at Trie.set Trie.get AMem.get AMem.set AMem.alloc AMem.ww AMem.kill
section
variable {E : Env} {n : Nat} {m0 m : AMem} {fs : Fs} {ps : List Pc} {x y : Operand} {ty : TypeId}
theorem J5 {elem b w l k L o:Nat} {es:List (List Value)} {tg:Tag} {lx:Option Operand} {kd:IntKind} (ht:SlT E.P ty elem w) (hx:ev E fs x=some (.slice (some ⟨b,0,none⟩) l l)) (e1:ri E fs lx=some (some (.int kd (L:Int)))) (hp:pk ps k=some (.arr b w l es tg)) (h:L<l) (ho:L*w=o) :
  Od E m0 fs ps (.slice ty x lx none none) (.slice (some ⟨b,o,none⟩) (l-L) (l-L)) ps :=
 fun t m hf hm=>⟨fun b' hb'=>by
  have:dG (.slice (some ⟨b,0,none⟩) l l)=some b:=rfl;simp only[aK,hf.ev hx,Option.bind_some,this] at hb';cases hb'; exact(hm.get hp).2.1,fun K hK=>by
  obtain⟨_,_,hg,_,_,htg,_⟩:=hm.get hp;have hb:dA l l (some (.int kd (L:Int))) none none=some (L,l,l):=gw (by omega) (Nat.le_refl _) (.inr ⟨kd,rfl⟩) (.inl ⟨rfl,rfl⟩)
  have hs:bO E.P ty (.slice (some ⟨b,0,none⟩) l l) (some (.int kd (L:Int))) none none m=some (.slice (some ⟨b,o,none⟩) (l-L) (l-L)):=by
   subst ho;rcases htg with rfl|rfl
   ·simp only[bO,ht.und,ht.known,if_true,hg,hb,ht.size,Nat.zero_add];rw[if_neg (by omega)]
   ·simp only[bO,ht.und,ht.known,if_true,hg,hb,ht.size,Nat.zero_add];rw[if_neg (by simp),if_neg (by omega)]
  rw[Go.Ab.lA (hf.ev hx) (hf.ri e1) (hf.ri rfl) (hf.ri rfl) hs]; exact hK m hm⟩
theorem zB {elem:TypeId} {b w l cap L o:Nat} {i:Int} {kd:IntKind} (ht:SlT E.P ty elem w) (ho:L*w=o) (hx:ev E fs x=some (.slice (some ⟨b,o,none⟩) l cap)) (hy:ev E fs y=some (.int kd i)) (hi:0≤i∧i.toNat<l):Od E m0 fs ps (.indexAddr ty x y) (ptr b ((L+i.toNat)*w+0)) ps:=by
 have:=bC (m0:=m0) (ps:=ps) ht hx hy hi;subst ho;rwa[←Nat.add_mul] at this
def rY (a:Option Addr) (cap w l:Nat) (es:List (List Value)):GPc where
 ow b:=kf a=some b
 rd _:=False
 P m:=es.length=l∧(∀e ∈ es,e.length=w)∧0<w∧l≤cap∧((a=none∧cap=0)∨∃b jk tg,a=some ⟨b,0,none⟩∧b<m.next∧m.get b=some (.cells (es.flatten++jk) tg)∧(tg = .own∨tg = .more w)∧(es.flatten++jk).length=cap*w)
 st m m' h hn hg:=by
  obtain⟨h1,h2,h3,h4,h5⟩:=h;refine⟨h1,h2,h3,h4,?_⟩;rcases h5 with h5|⟨b,jk,tg,rfl,h6,h7,h8⟩
  ·exact .inl h5
  ·exact .inr ⟨b,jk,tg,rfl,by omega,by rw[hg b (.inl rfl) h6]; exact h7,h8⟩
 lt m b h hb:=by
  obtain⟨_,_,_,_,h5⟩:=h;rcases hb with hb|hb
  ·rcases h5 with⟨rfl,_⟩|⟨b',_,_,rfl,h6,_⟩
   ·cases hb
   ·cases hb; exact h6
  ·exact hb.elim
variable {α : Type} {f : α → List Value} {elem : TypeId} {k cap w l : Nat} {a : Option Addr} {es : List (List Value)} {xs : List α}
theorem ae.MB (hp:pk ps k=some (.sl a w l es)):ae m0 ps (cu ps k (.gen (rY a l w l es))):=fun m h=>by
 have h0:=h.get hp;refine h.CG hp (fun b hb=>.inl (.inl ⟨rfl,?_⟩)) (fun b hb=>.inl (.inl ?_)) (Nat.le_refl _) h.ext ⟨?_,fun _ b hb=>?_⟩ fun _ _ _=>rfl
 ·rcases hb with hb|hb
  ·cases hb.1
  ·exact hb
 ·rcases hb with hb|hb
  ·cases hb
  ·rcases hb with hb|hb
   ·exact hb
   ·exact hb.elim
 ·rcases h0 with⟨rfl,rfl,rfl,h1⟩|⟨b,tg,rfl,h1⟩
  ·exact⟨rfl,fun e he=>(by cases he),h1,Nat.le_refl _,.inl ⟨rfl,rfl⟩⟩
  ·exact⟨h1.2.2.2.1,h1.2.2.2.2.1,h1.2.2.2.2.2.2,Nat.le_refl _,.inr ⟨b,[],tg,rfl,h1.2.1,by rw[List.append_nil]; exact h1.2.2.1,h1.2.2.2.2.2.1,by rw[List.append_nil,dq h1.2.2.2.2.1,h1.2.2.2.1]⟩⟩
 ·have hb:kf a=some b:=hb;rcases h0 with⟨_,_,rfl,_⟩|⟨b',tg,rfl,h1⟩
  ·cases hb
  ·cases hb; exact h1.1
theorem JV {a:Option Addr} {cap w l:Nat} {es:List (List Value)} (h:(rY a cap w l es).P m):Rd m a cap w l es:=by
 obtain⟨h1,h2,h3,h4,h5⟩:=h;refine⟨h1,h4,?_⟩;rcases h5 with⟨rfl,rfl⟩|⟨b,jk,tg,rfl,h6,h7,h8,h9⟩
 ·exact .inl ⟨rfl,by omega⟩
 ·refine .inr (.inr ⟨b,0,rfl,h6,_,tg,h7,fun sz e=>by rcases h8 with h|h<;>rw[h] at e<;>cases e; rfl,fun i e he=>?_⟩)
  have hi:i<es.length:=(List.getElem?_eq_some_iff.1 he).1;have hl:=h2 e (List.mem_of_getElem? he);refine⟨?_,hl⟩;have:=s6 h2 he;rw[Nat.zero_add,List.drop_append_of_le_length (by rw[dq h2]; exact Nat.mul_le_mul_right w (by omega)),List.take_append_of_le_length,this]
  rw[List.length_drop,dq h2];have:(i+1)*w≤es.length*w:=Nat.mul_le_mul_right w hi;rw[Nat.succ_mul] at this; omega
theorem ae.LP (hp:pk ps k=some (.gen (rY a cap w l es))):ae m0 ps (cu ps k (.rd a cap w l es)):=fun m h =>
 h.CG hp (fun b hb=>.inl (.inr (by rcases hb with hb|hb; cases hb.1; exact hb.elim))) (fun b hb=>.inl (.inr (.inl (by rcases hb with hb|hb; exact hb; exact hb.elim)))) (Nat.le_refl _) h.ext (JV (h.get hp).1) fun _ _ _=>rfl
theorem ae.MD {i:Nat} (hp:pk ps k=some (.gen (rY a cap w l es))) (hi:i≤l):ae m0 ps (cu ps k (.gen (rY a cap w i (es.take i)))):=fun m h=>by
 refine h.CG hp (fun b hb=>.inl (.inr (by rcases hb with hb|hb; cases hb.1; exact hb))) (fun b hb=>.inl (.inr (by rcases hb with hb|hb; cases hb; exact hb))) (Nat.le_refl _) h.ext ⟨?_,fun _ b hb=>(h.get hp).2 rfl b hb⟩ fun _ _ _=>rfl
 obtain⟨h1,h2,h3,h4,h5⟩:=(h.get hp).1;refine⟨by rw[List.length_take]; omega,fun e he=>h2 e (List.mem_of_mem_take he),h3,by omega,?_⟩
 rcases h5 with h5|⟨b,jk,tg,rfl,h6,h7,h8,h9⟩
 ·exact .inl h5
 ·have e:es.flatten++jk=(es.take i).flatten++((es.drop i).flatten++jk):=by rw[←List.append_assoc,←List.flatten_append,List.take_append_drop]
  exact .inr ⟨b,(es.drop i).flatten++jk,tg,rfl,h6,by rw[←e]; exact h7,h8,by rw[←e]; exact h9⟩
theorem Kt {ys:List α} {hi:Int} {hx:Option Operand} {kd:IntKind} (ht:SlT E.P ty elem w) (hv:ev E fs x=some (.slice a l cap)) (e2:ri E fs hx=some (some (.int kd hi))) (hp:pk ps k=some (.gen (rY a cap w l (xs.map f)))) (hb:okB 0 hi l=true) (h0:0<l) (hys:xs.take hi.toNat=ys) :
  Od E m0 fs ps (.slice ty x none hx none) (.slice a ys.length cap) (cu ps k (.gen (rY a cap w ys.length (ys.map f)))) :=
 fun t m hf hm=>by
  subst hys;have hP:=(hm.get hp).1;obtain⟨h1,h2,h3,h4,h5⟩:=hP;obtain⟨_,b2,b3⟩:=wV hb;have hlen:(xs.take hi.toNat).length=hi.toNat:=by rw[List.length_take]; rw[List.length_map] at h1; omega
  rcases h5 with⟨_,h⟩|⟨b,jk,tg,rfl,h6,h7,h8,h9⟩
  ·omega
  ·refine⟨fun b' hb'=>?_,fun K hK=>?_⟩
   ·have:dG (.slice (some ⟨b,0,none⟩) l cap)=some b:=rfl;simp only[aK,hf.ev hv,Option.bind_some,this] at hb';cases hb'; exact h6
   ·have hbd:dA l cap none (some (.int kd hi)) none=some (0,hi.toNat,cap):=gw (Nat.zero_le _) (by omega) (.inl ⟨rfl,rfl⟩) (.inr ⟨kd,by rw[Int.toNat_of_nonneg b2]⟩)
    have hs:bO E.P ty (.slice (some ⟨b,0,none⟩) l cap) none (some (.int kd hi)) none m=some (.slice (some ⟨b,0,none⟩) hi.toNat cap):=by
     rcases h8 with rfl|rfl
     ·simp only[bO,ht.und,ht.known,if_true,h7,hbd,ht.size,Nat.zero_mul,Nat.add_zero,Nat.sub_zero,ite_self]
     ·simp only[bO,ht.und,ht.known,if_true,h7,hbd,ht.size,Nat.zero_mul,Nat.add_zero,Nat.sub_zero];rw[if_neg (by simp),if_neg (by omega)]
    rw[Go.Ab.lA (hf.ev hv) (hf.ri rfl) (hf.ri e2) (hf.ri rfl) hs,←hlen];refine hK m ?_;have:=ae.MD (m0:=m0) (i:=(xs.take hi.toNat).length) hp (by rw[hlen]; omega) m hm
    rwa[←List.map_take,show xs.take (xs.take hi.toNat).length=xs.take hi.toNat by rw[hlen]] at this
theorem yC {P:Program} {ty2 n1 c0:Nat} {a0:Option Addr} {e0:List (List Value)} (ht:SlT P ty elem w) (h10:∃e1,P.underlying ty2=some (.slice e1)) (h:Hp m0 m ps) (hp:pk ps k=some (.gen (rY a cap w l es))) (hr:Rd m a0 c0 w n1 e0) (h7:∀e ∈ e0,e.length=w) (ho:gB e0) (hl:lim (l+n1)=true) :
  ∃a' cap' m',bS P ty (some ty2) (.slice a l cap) (.slice a0 n1 c0) m=some (.slice a' (l+n1) cap',m')∧Hp m0 m' (cu ps k (.gen (rY a' cap' w (l+n1) (es++e0)))):=by
 obtain⟨e1,h11⟩:=h10;obtain⟨inf,h12,h13,h14⟩:=ht.bytes;have hln:l+n1≤1073741824:=Nat.le_of_ble_eq_true hl;have hc:=hr.cells;have hlen2:e0.flatten.length=n1*w:=by rw[dq h7,hr.1]
 have hnew:dR P elem (some ty2) (.slice a0 n1 c0) m=some (n1,e0.flatten):=by
  simp only[dR,Option.bind_some,h11,ht.size];have:cG w (.slice a0 n1 c0) n1 m=some e0.flatten:=hc;rw[this]; rfl
 have hfit:(P.info? elem).any (fun i=>dy i.bytes (l+n1) && i.bytes != 0)=true:=by
  rw[h12];have hmul:(2*(l+n1)+2000)*inf.bytes≤(2*1073741824+2000)*1024:=Nat.mul_le_mul (by omega) h14
  simp only[Option.any_some,dy,Bool.and_eq_true,decide_eq_true_eq,bne_iff_ne,ne_eq];exact⟨by omega,h13⟩
 have hzero:(bA P elem).any (fun z=>z.cells.size == w && z.cells.toList.all aM)=true:=ht.zero;have hpos:=ht.pos;have h15:(w == 0)=false:=by simp; omega
 have hguard:(!(known P elem) || aA P elem == 0 || !aU e0.flatten || !(P.info? elem).any (fun i=>dy i.bytes (l+n1) && i.bytes != 0) || e0.flatten.length != n1*aA P elem || !(bA P elem).any (fun z=>z.cells.size == aA P elem && z.cells.toList.all aM))=false:=by
  rw[ht.size,ht.known,hfit,hzero,ov ho,h15,hlen2]; simp
 have hpc:=h.get hp;have hext:=h.ext;have hnew':∀{mm:AMem} {q:List (List Value)},q.length=l+n1→(∀e ∈ q,e.length=w)→(rY (some ⟨mm.next,0,none⟩) (l+n1) w (l+n1) q).P (mm.alloc (.cells q.flatten (.more w))):=fun {mm q} h0 h2 =>
  ⟨h0,h2,hpos,Nat.le_refl _,.inr ⟨mm.next,[],.more w,rfl,by rw[AMem.next_alloc]; omega,by rw[AMem.bf,if_pos rfl,List.append_nil],.inr rfl,by rw[List.append_nil,dq h2,h0]⟩⟩
 obtain⟨h0,h2,h18,h19,h16⟩:=hpc.1;have h3:(es++e0).length=l+n1:=by rw[List.length_append,h0,hr.1]
 have h4:∀e ∈ es++e0,e.length=w:=fun e he=>(List.mem_append.1 he).elim (h2 e) (h7 e);have hfl:es.flatten.length=l*w:=by rw[dq h2,h0]
 have o1:∀b,(Pc.gen (rY a cap w l es)).ow b↔kf a=some b:=fun b=>⟨fun hb=>by rcases hb with hb|hb; cases hb.1; exact hb,fun hb=>.inr hb⟩
 have fresh:∀{mm:AMem} {c':Nat},m.next≤mm.next→Ext m0 mm→(∀b,kf a≠some b→b<m.next→mm.get b=m.get b)→∀{o:AObj},(rY (some ⟨mm.next,0,none⟩) c' w (l+n1) (es++e0)).P (mm.alloc o)→Hp m0 (mm.alloc o) (cu ps k (.gen (rY (some ⟨mm.next,0,none⟩) c' w (l+n1) (es++e0)))):=fun {mm c'} hn he hg {o} hP =>
  h.CG hp (fun b hb=>.inr (by rcases hb with hb|hb; cases hb.1; cases hb; exact hn)) (fun b hb=>.inr (by rcases hb with hb|hb; cases hb; rcases hb with hb|hb; cases hb; exact hn; exact hb.elim)) (by rw[AMem.next_alloc]; omega) (he.alloc _) ⟨hP,fun _ b hb=>by cases hb; exact Nat.le_trans hext.next hn⟩ fun b hb hlt=>by
   rw[AMem.bf,if_neg (by omega)]; exact hg b (fun e=>hb ((o1 b).2 e)) hlt
 rcases h16 with⟨rfl,rfl⟩|⟨b,jk,tg,rfl,h17,h1,h6,h8⟩
 ·obtain rfl:l=0:=by omega
  obtain rfl:es = []:=List.length_eq_zero_iff.1 h0
  by_cases h5:n1=0
  ·subst h5;obtain rfl:e0 = []:=List.length_eq_zero_iff.1 hr.1;refine⟨none,0,m,?_,?_⟩
   ·unfold bS;simp only[ht.und,hnew];rw[if_neg (by rw[hguard]; exact Bool.false_ne_true)]
    rfl
   ·refine h.CG hp (fun b hb=>.inl (.inr (by rcases hb with hb|hb; cases hb.1; exact hb))) (fun b hb=>.inl (.inr (by rcases hb with hb|hb; cases hb; exact hb))) (Nat.le_refl _) h.ext ⟨⟨rfl,fun e he=>(by cases he),hpos,Nat.le_refl _,.inl ⟨rfl,rfl⟩⟩,fun _ b hb=>(by cases hb)⟩ fun _ _ _=>rfl
  ·refine⟨some ⟨m.next,0,none⟩,n1,m.alloc (.cells e0.flatten (.more w)),?_,?_⟩
   ·unfold bS;simp only[ht.und,hnew];rw[if_neg (by rw[hguard]; exact Bool.false_ne_true)]
    simp only[ht.size];rw[if_neg (by simp),if_neg h5,Nat.zero_add]
   ·have:=hnew' (mm:=m) (q:=[]++e0) h3 h4;rw[Nat.zero_add] at this ⊢;exact(by simpa using fresh (mm:=m) (c':=n1) (Nat.le_refl _) hext (fun _ _ _=>rfl) (by simpa using this))
 ·have hlo:=hpc.2 rfl b rfl
  by_cases hcap:l+n1≤cap
  ·have hjk:n1*w≤jk.length:=by
    rw[List.length_append,hfl] at h8;have:=Nat.mul_le_mul_right w hcap;rw[Nat.add_mul] at this;omega
   have hsp:aJ (es.flatten++jk) (l*w) e0.flatten=(es++e0).flatten++jk.drop (n1*w):=by
    have e2:=nQ es.flatten jk e0.flatten 0;rw[Nat.add_zero,hfl] at e2;rw[e2,List.flatten_append,List.append_assoc]
    congr 1
    refine List.ext_getElem? fun i=>?_;rw[bX,Nat.zero_add,Nat.sub_zero,List.getElem?_append,hlen2]
    by_cases hi:i<n1*w
    ·rw[if_pos ⟨Nat.zero_le _,hi,by omega⟩,if_pos hi]
    ·rw[if_neg (by omega),if_neg hi,List.getElem?_drop]
     congr 1; omega
   have hlenS:((es++e0).flatten++jk.drop (n1*w)).length=cap*w:=by
    rw[←hsp,cy,h8]
   by_cases hz:e0.flatten = []
   ·
    have h5:n1=0:=by
     rw[hz,List.length_nil] at hlen2;rcases Nat.mul_eq_zero.1 hlen2.symm with e|e
     ·exact e
     ·omega
    subst h5;obtain rfl:e0 = []:=List.length_eq_zero_iff.1 hr.1;refine⟨some ⟨b,0,none⟩,cap,m,?_,?_⟩
    ·unfold bS;simp only[ht.und,hnew];rw[if_neg (by rw[hguard]; exact Bool.false_ne_true)]
     simp only[h1];rw[if_pos hcap];simp[AMem.cH]
    ·rw[List.append_nil,Nat.add_zero];refine h.CG hp (fun b hb=>.inl hb) (fun b hb=>.inl hb) (Nat.le_refl _) h.ext hpc fun _ _ _=>rfl
   ·refine⟨some ⟨b,0,none⟩,cap,m.set b (.cells ((es++e0).flatten++jk.drop (n1*w)) tg),?_,?_⟩
    ·have hst:m.cH b (0+l*w) e0.flatten=some (m.set b (.cells ((es++e0).flatten++jk.drop (n1*w)) tg)):=by
      rw[Nat.zero_add,←hsp];have hfit':l*w+e0.flatten.length≤(es.flatten++jk).length:=by rw[hlen2,List.length_append,hfl]; omega
      cases h9:e0.flatten with
      | nil=>exact absurd h9 hz
      | cons v vs =>
       rw[h9] at hfit';rcases h6 with rfl|rfl<;>simp only[AMem.cH,h1]<;>rw[if_pos hfit']
     unfold bS;simp only[ht.und,hnew];rw[if_neg (by rw[hguard]; exact Bool.false_ne_true)]
     simp only[h1,ht.size];rw[if_pos hcap,hst]; rfl
    ·refine h.CG hp (fun b' hb=>.inl (by rcases hb with hb|hb; cases hb.1; exact .inr hb)) (fun b' hb=>.inl (by rcases hb with hb|hb; cases hb; exact .inr hb)) (by rw[AMem.next_set]; exact Nat.le_refl _) (hext.set hlo _) ⟨⟨h3,h4,hpos,hcap,.inr ⟨b,jk.drop (n1*w),tg,rfl,by rw[AMem.next_set]; exact h17,by rw[AMem.bD,if_pos rfl],h6,hlenS⟩⟩,fun _ b' hb=>by cases hb; exact hlo⟩ fun b' hb hlt=>?_
     rw[AMem.bD,if_neg (fun e=>hb ((o1 b').2 (by rw[e]; rfl)))]
  ·have htake:(es.flatten++jk).take (l*w)=es.flatten:=by rw[List.take_append_of_le_length (by omega),List.take_of_length_le (by omega)]
   rcases h6 with rfl|rfl
   ·refine⟨some ⟨m.next,0,none⟩,l+n1,m.alloc (.cells (es.flatten++e0.flatten) (.more w)),?_,?_⟩
    ·unfold bS;simp only[ht.und,hnew];rw[if_neg (by rw[hguard]; exact Bool.false_ne_true)]
     simp only[ht.size,h1];rw[if_neg hcap];have hld:m.dm b 0 (l*w)=some es.flatten:=by
      simp only[AMem.dm,h1,List.drop_zero,htake];rw[if_pos hfl]
     simp only[hld]
    ·have:=hnew' (mm:=m) h3 h4;rw[List.flatten_append] at this;exact fresh (Nat.le_refl _) hext (fun _ _ _=>rfl) this
   ·refine⟨some ⟨(m.kill b).next,0,none⟩,l+n1,(m.kill b).alloc (.cells (es.flatten++e0.flatten) (.more w)),?_,?_⟩
    ·unfold bS;simp only[ht.und,hnew];rw[if_neg (by rw[hguard]; exact Bool.false_ne_true)]
     simp only[ht.size,h1];rw[if_neg hcap];simp only[and_self,if_true,htake,hfl,AMem.next_kill]
    ·have hk:Ext m0 (m.kill b):=⟨by rw[AMem.next_kill]; exact hext.next,fun x hx=>by rw[AMem.eo,if_neg (by omega)]; exact hext.same x hx,by
      rw[AMem.wl_kill];have:=hext.wl; omega⟩
     have:=hnew' (mm:=m.kill b) h3 h4;rw[List.flatten_append] at this;exact fresh (by rw[AMem.next_kill]; exact Nat.le_refl _) hk (fun b' hb' hlt=>by rw[AMem.eo,if_neg (fun e=>hb' (by rw[e]; rfl))]) this
theorem Ho {ty2 c0 l1:Nat} {a0:Option Addr} {ys:List α} {ars:Array Operand} (he:Enc f w) (ht:SlT E.P ty elem w) (h2:∃e0,E.P.underlying ty2=some (.slice e0)) (ha:gQ E fs ars.toList=some [.slice a l cap,.slice a0 l1 c0]) (hp:pk ps k=some (.gen (rY a cap w l (xs.map f)))) (hr:∀m,Hp m0 m ps→Rd m a0 c0 w l1 (ys.map f)) (hl:lim (xs++ys).length=true) :
  Ox E m0 fs ps (.call ⟨.builtin .append,ars,#[ty,ty2]⟩) (fun r:Option Addr × Nat=>.slice r.1 (xs++ys).length r.2) (fun r=>cu ps k (.gen (rY r.1 r.2 w (xs++ys).length ((xs++ys).map f)))):=by
 intro t m hf hm;have h0:l=xs.length:=by have:=(hm.get hp).1.1; rw[List.length_map] at this; exact this.symm
 have h1:l1=ys.length:=by have:=(hr m hm).1; rw[List.length_map] at this; exact this.symm
 refine⟨fun b hb=>(by simp[aK] at hb),fun K hK=>?_⟩
 obtain⟨a',cap',m',g0,g1⟩:=yC ht h2 hm hp (hr m hm) (he.oZ ys) (he.gB ys) (by rw[h0,h1,←List.length_append]; exact hl)
 have e1:xs.map f++ys.map f=(xs++ys).map f:=List.map_append.symm;have e0:l+l1=(xs++ys).length:=by rw[h0,h1,List.length_append]
 rw[e1,e0] at g1;rw[e0] at g0;have:aY E.P .append #[ty,ty2] [.slice a l cap,.slice a0 l1 c0] m=some (.slice a' (xs++ys).length cap',m'):=g0;rw[Go.Ab.dM (hf.gQ ha) this];exact hK (a',cap') m' g1
end
section
variable {E : Env} {n : Nat} {m0 : AMem} {fs : Fs} {ps : List Pc} {ops : Array Oper} {os : List Oper} {K : Tm → AMem → Prop} {dr : Bool}
end
end Go.Ab.W
end

section
namespace Go.Proofs.YthmekkhpddehjaaGreat
open Go Go.Ab Go.Ab.W
set_option maxRecDepth 10000
def rR (_:Nat) (l1:List (Int × Int)):(Int × Int)→Option ((Int × Int) ⊕ (Int)):=fun(v1,v2) =>
br (decide (v1<(l1.length:Int))) (
gd (bV v1 l1.length) (
ob (l1[v1.toNat]?) fun(x14,x15) =>
gd (decide ((l1.length:Int)≠0)) (
gd (bV (Int.tmod (IntKind.wrap .i64 (v1+1)) (l1.length:Int)) l1.length) (
ob (l1[(Int.tmod (IntKind.wrap .i64 (v1+1)) (l1.length:Int)).toNat]?) fun(x16,x17) =>
ob (
gd (bV 0 l1.length) (
ob (l1[(0:Int).toNat]?) fun(x3,x4) =>
gd (bV 0 l1.length) (
ob (some (IntKind.wrap .i64 ((IntKind.wrap .i64 (x14-x3))*(IntKind.wrap .i64 (x17-x4))))) fun y0 =>
gd (bV 0 l1.length) (
gd (bV 0 l1.length) (
ob (some (IntKind.wrap .i64 ((IntKind.wrap .i64 (x15-x4))*(IntKind.wrap .i64 (x16-x3))))) fun y1 =>
some (IntKind.wrap .i64 ((IntKind.wrap .i64 (v2+y0))-y1))))))) fun v3 =>
some (.inl (IntKind.wrap .i64 (v1+1),v3)))))) (
some (.inr v2))
def I5 (n:Nat) (l1:List (Int × Int)):Option (Int × Int) :=
ob (FK n l1) fun r0 =>
br (!decide (r0=0)) (
some (0,r0)) (
ob (
some ()) fun _ =>
ob (
ob (
cq (rR n l1) n (0,0)) fun v1 =>
some v1) fun v2 =>
some (v2,0))
def Lv (n:Nat) (l1:List (Int × Int)):(Int × Int)→Option ((Int × Int) ⊕ (Int)):=fun(v7,v8) =>
br (decide (v8<(l1.length:Int))) (
gd (bV v8 l1.length) (
ob (l1[v8.toNat]?) fun(x30,x31) =>
ob (BG n l1 (IntKind.wrap .i64 (v8+1))) fun(r34,r35) =>
ob (some (IntKind.wrap .i64 ((IntKind.wrap .i64 (v7+(IntKind.wrap .i64 (x30*r35))))-(IntKind.wrap .i64 (x31*r34))))) fun y38 =>
some (.inl (y38,IntKind.wrap .i64 (v8+1))))) (
some (.inr v7))
def MG (n:Nat) (l1:List (Int × Int)):Option (Int) :=
ob (
cq (Lv n l1) n (0,0)) fun v25 =>
some v25
def ME (n:Nat) (l1:List (Int × Int)):Option (Int × Int) :=
ob (Hj n l1) fun r6 =>
br (!decide (r6=0)) (
some (0,r6)) (
ob (MG n l1) fun r9 =>
some (r9,0))
def se (n:Nat) (l1:List (Int × Int)):(Int × List (Bool))→Option ((Int × List (Bool)) ⊕ (List (Bool))):=fun(v1,l2) =>
br (decide (v1<(l1.length:Int))) (
gd (bV v1 l1.length) (
ob (l1[v1.toNat]?) fun(x3,x4) =>
gd (decide ((l1.length:Int)≠0)) (
gd (bV (Int.tmod (IntKind.wrap .i64 (v1+1)) (l1.length:Int)) l1.length) (
ob (l1[(Int.tmod (IntKind.wrap .i64 (v1+1)) (l1.length:Int)).toNat]?) fun(x14,x15) =>
ob (
gd (decide ((l1.length:Int)≠0)) (
gd (bV (Int.tmod (IntKind.wrap .i64 (v1+2)) (l1.length:Int)) l1.length) (
ob (l1[(Int.tmod (IntKind.wrap .i64 (v1+2)) (l1.length:Int)).toNat]?) fun(x16,x17) =>
ob (BE n x3 x4 x14 x15 x16 x17) fun r0 =>
gd (bV (IntKind.wrap .i64 (1+r0)) 3) (
ob (l2[(IntKind.wrap .i64 (1+r0)).toNat]?) fun _ =>
some (l2.set ((IntKind.wrap .i64 (1+r0)).toNat) true))))) fun l3 =>
some (.inl (IntKind.wrap .i64 (v1+1),l3)))))) (
some (.inr l2))
def JW (n:Nat) (l1:List (Int × Int)):Option (Bool × Int) :=
ob (FK n l1) fun r0 =>
br (!decide (r0=0)) (
some (false,r0)) (
ob (
some ()) fun _ =>
ob (
ob (
cq (se n l1) n (0,([false,false,false]:List (Bool)))) fun l2 =>
some l2) fun l3 =>
ob (LX l3) fun(x3,_,x4) =>
some (!(x3 == x4),0))
def KH (n:Nat) (l1:List (Int × Int)):(Bool × Bool × Int)→Option ((Bool × Bool × Int) ⊕ (Bool × Bool)):=fun(v2,v3,v1) =>
br (decide (v1<(l1.length:Int))) (
ob (
gd (bV v1 l1.length) (
ob (l1[v1.toNat]?) fun(x3,x4) =>
ob (BG n l1 (IntKind.wrap .i64 (v1+1))) fun(r1,r2) =>
ob (BG n l1 (IntKind.wrap .i64 (v1+2))) fun(r3,r4) =>
ob (BD n x3 x4 r1 r2 r3 r4) fun r0 =>
ob (
br (v2) (
some true) (
some (decide (0<r0)))) fun v4 =>
br (v3) (
some (v4,true)) (
some (v4,decide (r0<0))))) fun(v5,v6) =>
some (.inl (v5,v6,IntKind.wrap .i64 (v1+1)))) (
some (.inr (v2,v3)))
def MM (n:Nat) (l1:List (Int × Int)):Option (Bool × Int) :=
ob (Hj n l1) fun r6 =>
br (!decide (r6=0)) (
some (false,r6)) (
ob (
cq (KH n l1) n (false,false,0)) fun(v62,v63) =>
some (!(v62 == v63),0))
def rL (_:Nat) (l2:List (Int × Int)):(List (Int × Int) × Int × Int)→Option ((List (Int × Int) × Int × Int) ⊕ (List (Int × Int))):=fun(l1,v1,v2) =>
br (decide (v1<v2)) (
gd (bV v2 (l2.length-1:Nat)) (
ob (l1[(1+v2.toNat)]?) fun(x3,x4) =>
gd (bV v1 (l2.length-1:Nat)) (
ob (l1[(1+v1.toNat)]?) fun(x14,x15) =>
gd (bV v1 (l2.length-1:Nat)) (
gd (bV v2 (l2.length-1:Nat)) (
ob ((l1.set (1+v1.toNat) (x3,x4))[(1+v2.toNat)]?) fun(_,_) =>
some (.inl (((l1.set (1+v1.toNat) (x3,x4)).set (1+v2.toNat) (x14,x15)),IntKind.wrap .i64 (v1+1),IntKind.wrap .i64 (v2-1)))))))) (
some (.inr l1))
def I9 (n:Nat) (l2:List (Int × Int)):Option (List (Int × Int) × Int) :=
ob (FK n l2) fun r0 =>
br (!decide (r0=0)) (
some ([],r0)) (
ob (LC n l2) fun l1 =>
gd (decide (1<l1.length)) (
ob (
ob (
cq (rL n l1) n (l1,0,IntKind.wrap .i64 (((l1.length-1:Nat):Int)-1))) fun l3 =>
some l3) fun l4 =>
some (l4,0)))
def pD (n:Nat) (l1:List (Int × Int)) (x5:Int) (x6:Int):(Int × Int)→Option ((Int × Int) ⊕ ((Int) ⊕ (Int))):=fun(v1,v2) =>
br (decide (v1<(l1.length:Int))) (
gd (bV v1 l1.length) (
ob (l1[v1.toNat]?) fun(x14,x3) =>
gd (decide ((l1.length:Int)≠0)) (
gd (bV (Int.tmod (IntKind.wrap .i64 (v1+1)) (l1.length:Int)) l1.length) (
ob (l1[(Int.tmod (IntKind.wrap .i64 (v1+1)) (l1.length:Int)).toNat]?) fun(x15,x4) =>
ob (α:=(Unit) ⊕ (Int)) (
ob (z6 n v1 x14 x3 x15 x4 x5 x6) fun r1 =>
br (r1) (
some (.inl ())) (
ob (BE n x14 x3 x15 x4 x5 x6) fun r0 =>
ob (
br (decide (x3≤x6)) (
br (decide (x6<x4)) (
some (decide (0<r0))) (
some false)) (
some false)) fun v3 =>
br (v3) (
some (.inr (IntKind.wrap .i64 (v2+1)))) (
ob (
br (decide (x6<x3)) (
br (decide (x4≤x6)) (
some (decide (r0<0))) (
some false)) (
some false)) fun v4 =>
br (v4) (
some (.inr (IntKind.wrap .i64 (v2-1)))) (
some (.inr v2))))) fun r2=>match r2 with
| .inl _ =>
some (.inr (.inl v2))
| .inr v5 =>
some (.inl (IntKind.wrap .i64 (v1+1),v5)))))) (
some (.inr (.inr v2)))
def EN (n:Nat) (l1:List (Int × Int)) (x5:Int) (x6:Int):Option (Int × Int) :=
ob (FK n l1) fun r0 =>
br (!decide (r0=0)) (
some (0,r0)) (
ob (JZ n x5 x6) fun r1 =>
br (r1) (
some (0,2)) (
ob (
some ()) fun _ =>
ob (α:=(Int) ⊕ (Int)) (
ob (α:=(Int) ⊕ (Int)) (
cq (pD n l1 x5 x6) n (0,0)) fun r2=>match r2 with
| .inl v1 =>
some (.inl v1)
| .inr v2 =>
some (.inr v2)) fun r3=>match r3 with
| .inl _ =>
some (1,0)
| .inr v3 =>
br (!decide (v3=0)) (
some (2,0)) (
some (0,0))))
def K4 (n:Nat) (l1:List (Int × Int)) (x5:Int) (x6:Int):(Bool × Int)→Option ((Bool × Int) ⊕ ((Unit) ⊕ (Bool))):=fun(v2,v1) =>
br (decide (v1<(l1.length:Int))) (
ob (α:=(Unit) ⊕ (Bool)) (
gd (bV v1 l1.length) (
ob (l1[v1.toNat]?) fun(x4,x3) =>
ob (BG n l1 (IntKind.wrap .i64 (v1+1))) fun(r1,r0) =>
ob (G6 n x4 x3 r1 r0 x5 x6) fun r2 =>
br (r2) (
some (.inl ())) (
ob (
br (!((decide (x6<x3)) == (decide (x6<r0)))) (
ob (BD n x4 x3 r1 r0 x5 x6) fun r3 =>
some ((decide (0<r3)) == (decide (x3<r0)))) (
some false)) fun v3 =>
br (v3) (
some (.inr (!v2))) (
some (.inr v2))))) fun r4=>match r4 with
| .inl _ =>
some (.inr (.inl ()))
| .inr v4 =>
some (.inl (v4,IntKind.wrap .i64 (v1+1)))) (
some (.inr (.inr v2)))
def MH (n:Nat) (l1:List (Int × Int)) (x5:Int) (x6:Int):Option (Int) :=
ob (α:=(Unit) ⊕ (Bool)) (
cq (K4 n l1 x5 x6) n (false,0)) fun r0=>match r0 with
| .inl _ =>
some 1
| .inr v1 =>
br (v1) (
some 2) (
some 0)
def MJ (n:Nat) (l1:List (Int × Int)) (x5:Int) (x6:Int):Option (Int × Int) :=
ob (Hj n l1) fun r9 =>
br (!decide (r9=0)) (
some (0,r9)) (
ob (J3 n x5 x6) fun r12 =>
br (r12) (
some (0,2)) (
ob (MH n l1 x5 x6) fun r15 =>
some (r15,0)))
def Mr (n:Nat) (x14:Int) (x15:Int) (x9:Int) (x16:Int) (x10:Int) (x17:Int) (v2:Int) (v3:Int) (l1:List (Int × Int)):Int→Option ((Int) ⊕ ((Unit) ⊕ (Unit))):=fun v1 =>
br (decide (v1<3)) (
gd (bV v1 3) (
ob ([(x14,x15),(IntKind.wrap .i64 ((IntKind.wrap .i64 x9)+(IntKind.wrap .i64 x16)),IntKind.wrap .i64 ((IntKind.wrap .i64 x10)+(IntKind.wrap .i64 x17))),(v2,v3)][v1.toNat]?) fun(x3,x4) =>
ob (EN n l1 x3 x4) fun(r0,r1) =>
ob (MJ n l1 x3 x4) fun(r2,r3) =>
ob (
br (!decide (r0=r2)) (
some true) (
some (!decide (r1=r3)))) fun v4 =>
br (v4) (
some (.inr (.inl ()))) (
some (.inl (IntKind.wrap .i64 (v1+1)))))) (
some (.inr (.inr ())))
def Mp (n:Nat) (l2:List (Int × Int)) (l3:List (Int × Int)) (l4:List (Int × Int)) (l5:List (Int × Int)) (x3:Nat) (x4:Int) (x14:Int) (x9:Int) (x15:Int) (x10:Int) (x16:Int):Int→Option ((Int) ⊕ ((Unit) ⊕ (Unit))):=fun v1 =>
br (decide (v1<4)) (
gd (bV v1 4) (
ob ([l2,l3,l4,l5][v1.toNat]?) fun l1 =>
ob (I5 n l1) fun(r0,r1) =>
ob (ME n l1) fun(r2,r3) =>
ob (JW n l1) fun(r4,r5) =>
ob (MM n l1) fun(r6,r7) =>
ob (I9 n l1) fun(l7,r8) =>
ob (JY n l1) fun(l8,r9) =>
ob (
br (!decide (r0=r2)) (
some true) (
br (!decide (r1=r3)) (
some true) (
br (!(r4 == r6)) (
some true) (
br (!decide (r5=r7)) (
some true) (
br (!decide (r8=r9)) (
some true) (
ob (H3 n l7 l8) fun r10 =>
some (!r10))))))) fun v2 =>
br (v2) (
some (.inr (.inl ()))) (
ob (
br (decide (1<(l1.length:Int))) (
gd (decide ((l1.length:Int)≠0)) (
gd (bV (Int.tmod (IntKind.wrap .i64 ((x3:Nat):Int)) (l1.length:Int)) l1.length) (
ob (l1[(Int.tmod (IntKind.wrap .i64 ((x3:Nat):Int)) (l1.length:Int)).toNat]?) fun(x17,x18) =>
gd (bV 0 l1.length) (
ob (l1[(0:Int).toNat]?) fun(x19,x20) =>
ob (some (IntKind.wrap .i64 ((IntKind.wrap .i64 (Int.tdiv x17 2))+(IntKind.wrap .i64 (Int.tdiv x19 2))))) fun y0 =>
gd (bV 0 l1.length) (
ob (some (IntKind.wrap .i64 ((IntKind.wrap .i64 (Int.tdiv x18 2))+(IntKind.wrap .i64 (Int.tdiv x20 2))))) fun y1 =>
some (y0,y1)))))) (
some (0,0))) fun(v3,v4) =>
ob (α:=(Unit) ⊕ (Unit)) (
cq (Mr n x4 x14 x9 x15 x10 x16 v3 v4 l1) n 0) fun r11=>match r11 with
| .inl _ =>
some (.inr (.inl ()))
| .inr _ =>
some (.inl (IntKind.wrap .i64 (v1+1)))))) (
some (.inr (.inr ())))
def F8 (n:Nat) (l1:List (Int × Int)) (l2:List (Nat)) (x9:Int) (x10:Int) (x11:Nat) (x12:Bool) (x13:Bool) (x4:Nat) (x3:Nat) (x14:Nat) (x15:Int) (x16:Int) (x17:Nat) (x18:Nat) (x19:Nat) (x20:Int) (x21:Int) (x22:Int) (x23:Int) (x24:Int) (x25:Int):Option (Bool) :=
ob (MX n l1 l2 x9 x10 x11 x12 x13 x4 x3 x14 x15 x16 x17 x18 x19 x20 x21) fun(l3,l4,l5,l7) =>
ob (α:=(Unit) ⊕ (Unit)) (
cq (Mp n l3 l4 l5 l7 x3 x22 x23 x9 x24 x10 x25) n 0) fun r0=>match r0 with
| .inl _ =>
some false
| .inr _ =>
ob (LG n) fun r1 =>
some r1
end Go.Proofs.YthmekkhpddehjaaGreat
end

section
namespace Go.Proofs.YthmekkhpddehjaaGreat
open Go Go.Ab Go.Ab.W
def Hk (n:Nat) (l1:List (Int × Int)) (x5:Int):Option (Bool) :=
ob (I5 n l1) fun(r7,r8) =>
br (decide (r7=x5)) (
some (decide (r8=0))) (
some false)
end Go.Proofs.YthmekkhpddehjaaGreat
end

section
namespace Go.Ab.W
open Go Go.Ab
attribute [local irreducible] Tm.at Trie.set Trie.get AMem.get AMem.set AMem.alloc AMem.ww AMem.kill
section
variable {E : Env} {n : Nat} {m0 m : AMem} {fs : Fs} {ps : List Pc} {x y : Operand} {ty : TypeId} {v : Value}
end
end Go.Ab.W
end

section
namespace Go.Proofs.YthmekkhpddehjaaGreat
open Go Go.Ab Go.Ab.W
set_option maxRecDepth 10000
end Go.Proofs.YthmekkhpddehjaaGreat
end

section
namespace Go.Proofs.YthmekkhpddehjaaGreat
open Go Go.Ab Go.Ab.W
def BI (n:Nat) (l1:List (Int × Int)):Option (Bool) :=
ob (JW n l1) fun(r6,r7) =>
br (r6) (
some (decide (r7=0))) (
some false)
end Go.Proofs.YthmekkhpddehjaaGreat
end

section
namespace Go.Ab.W
open Go Go.Ab
attribute [local irreducible] Tm.at Trie.set Trie.get AMem.get AMem.set AMem.alloc AMem.ww AMem.kill
section
variable {α γ : Type} [DecidableEq α]
theorem ez {β δ:Type} (k:α):∀(xs:List (α × β)) (ys:List (α × δ)) (i:Nat),xs.map (·.1)=ys.map (·.1)→(dB k xs i).map (·.1)=(dB k ys i).map (·.1)
 | [],[],_,_=>rfl
 | [],_::_,_,h=>by cases h
 | _::_,[],_,h=>by cases h
 | x::xs,y::ys,i,h=>by
  simp only[List.map_cons,List.cons.injEq] at h;unfold dB;rw[h.1]
  split
  ·rfl
  ·exact ez k xs ys (i+1) h.2
def oD (m:AMem) (R:Nat→Prop) (w:Nat) (f:γ→List Value) (es:List (α × Value)) (L:List (α × Bool × List γ)):Prop :=
 es.map (·.1)=L.map (·.1)∧∀(i:Nat) (k:α) (v:Bool × List γ),L[i]? = some (k,v)→∃a c,es[i]? = some (k,.agg #[.bool v.1,.slice a v.2.length c])∧Rd m a c w v.2.length (v.2.map f)∧∀b,kf a=some b→R b
omit [DecidableEq α] in
theorem oD.gI {m m':AMem} {R:Nat→Prop} {w:Nat} {f:γ→List Value} {es:List (α × Value)} {L:List (α × Bool × List γ)} (h:oD m R w f es L) (hn:m.next≤m'.next) (hg:∀b,R b→b<m.next→m'.get b=m.get b):oD m' R w f es L :=
 ⟨h.1,fun i k v hi=>by
  obtain⟨a,c,h1,h2,h3⟩:=h.2 i k v hi;exact⟨a,c,h1,h2.gI hn fun b hb hlt=>hg b (h3 b hb) hlt,h3⟩⟩
theorem oD.yes {m:AMem} {R:Nat→Prop} {w:Nat} {f:γ→List Value} {es:List (α × Value)} {L:List (α × Bool × List γ)} (h:oD m R w f es L) {k:α} {v:Bool × List γ} (hv:iu L k=some v) :
  ∃a c,iu es k=some (.agg #[.bool v.1,.slice a v.2.length c])∧Rd m a c w v.2.length (v.2.map f)∧∀b,kf a=some b→R b:=by
 unfold iu at hv ⊢;have hk:=ez k es L 0 h.1;cases h1:dB k L 0 with
 | none=>rw[h1] at hv; cases hv
 | some p =>
  rw[h1] at hv hk;cases hv;cases h2:dB k es 0 with
  | none=>rw[h2] at hk; cases hk
  | some q =>
   rw[h2] at hk;have hpq:q.1=p.1:=by simpa using hk
   have a1:=(fx k L 0 p h1).2.2;have a2:=(fx k es 0 q h2).2.2;obtain⟨a,c,e1,e2,e3⟩:=h.2 _ _ _ a1;rw[hpq] at a2;rw[a2] at e1;have e4:q.2 = .agg #[.bool p.2.1,.slice a p.2.2.length c]:=congrArg Prod.snd (Option.some.inj e1);exact⟨a,c,by rw[Option.map_some,e4],e2,e3⟩
theorem oD.no {m:AMem} {R:Nat→Prop} {w:Nat} {f:γ→List Value} {es:List (α × Value)} {L:List (α × Bool × List γ)} (h:oD m R w f es L) {k:α} (hv:iu L k=none):iu es k=none:=by
 unfold iu at hv ⊢;have hk:=ez k es L 0 h.1;cases h1:dB k L 0 with
 | none =>
  rw[h1] at hk;cases h2:dB k es 0 with
  | none=>rfl
  | some q=>rw[h2] at hk; cases hk
 | some p=>rw[h1] at hv; cases hv
theorem oD.put {m:AMem} {R:Nat→Prop} {w:Nat} {f:γ→List Value} {es:List (α × Value)} {L:List (α × Bool × List γ)} (h:oD m R w f es L) (k:α) (v:Bool × List γ) {a:Option Addr} {c:Nat} (hr:Rd m a c w v.2.length (v.2.map f)) (hR:∀b,kf a=some b→R b) :
  oD m R w f (gV es k (.agg #[.bool v.1,.slice a v.2.length c])) (gV L k v):=by
 have hk:=ez k es L 0 h.1;have hlen:es.length=L.length:=by have:=congrArg List.length h.1; simpa using this
 unfold gV;cases h1:dB k L 0 with
 | none =>
  rw[h1] at hk;cases h2:dB k es 0 with
  | some q=>rw[h2] at hk; cases hk
  | none =>
   refine⟨by simp[h.1],fun i k' v' hi=>?_⟩
   by_cases hlt:i<L.length
   ·dsimp only at hi ⊢
    rw[List.getElem?_append_left hlt] at hi;rw[List.getElem?_append_left (by omega)]
    exact h.2 i k' v' hi
   ·dsimp only at hi ⊢
    rw[List.getElem?_append_right (by omega)] at hi
    rw[List.getElem?_append_right (by omega),hlen]
    cases hz:i-L.length with
    | zero =>
     rw[hz] at hi;have e:=Option.some.inj hi;cases e;exact⟨a,c,rfl,hr,hR⟩
    | succ z=>rw[hz] at hi; simp at hi
 | some p =>
  rw[h1] at hk;cases h2:dB k es 0 with
  | none=>rw[h2] at hk; cases hk
  | some q =>
   rw[h2] at hk;have hpq:q.1=p.1:=by simpa using hk
   have a1:=fx k L 0 p h1
   dsimp only
   rw[hpq];refine⟨by rw[List.map_set,List.map_set,h.1],fun i k' v' hi=>?_⟩
   by_cases e:p.1=i
   ·subst e;rw[List.getElem?_set_self (by omega)] at hi
    rw[List.getElem?_set_self (by omega)]
    cases Option.some.inj hi;exact⟨a,c,rfl,hr,hR⟩
   ·rw[List.getElem?_set_ne e] at hi;rw[List.getElem?_set_ne e];exact h.2 i k' v' hi
def pK (b:Nat) (R:Nat→Prop) (w:Nat) (f:γ→List Value) (kE:α→Value) (L:List (α × Bool × List γ)):GPc where
 ow x:=x=b
 rd x:=R x
 P m:=(∃es:List (α × Value),m.get b=some (.map (es.map (eM kE fun v=>v)))∧oD m R w f es L)∧b<m.next∧∀x,R x→x<m.next∧x≠b
 st m m' h hn hg:=by
  obtain⟨⟨es,h1,h2⟩,h3,h4⟩:=h;exact⟨⟨es,by rw[hg b (.inl rfl) h3]; exact h1,h2.gI hn fun x hx hlt=>hg x (.inr hx) hlt⟩,Nat.lt_of_lt_of_le h3 hn,fun x hx=>⟨Nat.lt_of_lt_of_le (h4 x hx).1 hn,(h4 x hx).2⟩⟩
 lt m x h hx:=by
  rcases hx with hx|hx
  ·cases hx; exact h.2.1
  ·exact(h.2.2 x hx).1
end
section
variable {α γ : Type} [DecidableEq α] {E : Env} {m0 m : AMem} {fs : Fs} {ps : List Pc} {f : γ → List Value} {w : Nat} {kE : α → Value}
theorem Hp.HG (h:Hp m0 m ps) {k:Nat} {p q:Pc} (hp:pk ps k=some p) (hq:q.ok m0.next m) (hqo:∀b,¬q.ow b) (hb:∀b,q.any b→p.any b∧¬p.ow b):Hp m0 m (q::ps) where
 ext:=h.ext
 ok:=fun r hr=>by
  rcases List.mem_cons.1 hr with rfl|hr
  ·exact hq
  ·exact h.ok r hr
 apart:=List.pairwise_cons.2 ⟨fun r hr=>⟨fun b h1 _=>hqo b h1,fun b h1 h2=>by
  obtain⟨k',hk'⟩:=nq hr
  by_cases hne:k=k'
  ·rw[←hne,hp] at hk';exact(hb b h2).2 (by rw[Option.some.inj hk']; exact h1)
  ·exact(fG h.apart hp hk' hne).2 b h1 (hb b h2).1⟩,h.apart⟩
omit [DecidableEq α] in
theorem s7 {b:Nat} {R:Nat→Prop} {L:List (α × Bool × List γ)} {x:Nat} (h:Pc.ow (.gen (pK b R w f kE L)) x):x=b:=h.elim (fun h=>by cases h.1) id
omit [DecidableEq α] in
theorem tJ {b:Nat} {R:Nat→Prop} {L:List (α × Bool × List γ)} {x:Nat} (h:Pc.any (.gen (pK b R w f kE L)) x):x=b∨R x:=h.elim (fun h=>by cases h) id
omit [DecidableEq α] in
theorem ae.Mm {k b:Nat} (hp:pk ps k=some (.obj b (.map []))):ae m0 ps (cu ps k (.gen (pK b (fun _=>False) w f kE ([]:List (α × Bool × List γ))))):=fun m h=>by
 have hP:=h.get hp;refine h.CG hp (fun x hx=>.inl ?_) (fun x hx=>.inl ?_) (Nat.le_refl _) h.ext ⟨⟨⟨[],hP.2.2,rfl,fun i k v hi=>by simp at hi⟩,hP.2.1,fun _ h=>h.elim⟩,fun _ x hx=>?_⟩ (fun _ _ _=>rfl)
 ·rw[s7 hx]; exact .inl ⟨rfl,rfl⟩
 ·rcases tJ hx with rfl|hx
  ·exact .inl rfl
  ·exact hx.elim
 ·cases hx; exact hP.1
variable {x y z : Operand} {ty : TypeId}
theorem Kh {kt et b q:Nat} {R:Nat→Prop} {L:List (α × Bool × List γ)} {k:α} (hu:E.P.underlying ty=some (.map kt et)) (hk:KeyE E.P kt kE) (hz:bA E.P et=some (.agg #[.bool false,.slice none 0 0])) (_:0<w) (hx:ev E fs x=some (.map (some b))) (hy:ev E fs y=some (kE k)) (hp:pk ps q=some (.gen (pK b R w f kE L))) :
  Ox E m0 fs ps (.lookup ty x y false) (fun r:Option Addr × Nat=>.agg #[.bool ((iu L k).getD (false,[])).1,.slice r.1 ((iu L k).getD (false,[])).2.length r.2]) (fun r=>.rd r.1 r.2 w ((iu L k).getD (false,[])).2.length (((iu L k).getD (false,[])).2.map f)::ps):=by
 intro t m hf hm;have hP:=hm.get hp;obtain⟨⟨⟨es,h1,h2⟩,h3,h4⟩,_⟩:=hP;refine⟨fun b' hb'=>?_,fun K hK=>?_⟩
 ·simp only[aK,hf.ev hx] at hb';cases hb'; exact h3
 ·have hl:=Cr (c:=false) (k:=k) (vE:=fun v:Value=>v) hu hk hz (by decide) h1
  unfold bt;simp only[k9,cO,hf.ev hx,hf.ev hy,hl,Option.map_some];cases hv:iu L k with
  | none =>
   rw[hv] at hK;rw[h2.no hv];exact hK (none,0) m (hm.HG hp (Rd.nil _ _) (fun b hb=>hb.elim (fun h=>by cases h.1) fun h=>h.elim) fun b hb=>hb.elim (fun h=>by cases h) fun h=>h.elim)
  | some v =>
   rw[hv] at hK;obtain⟨a,c,e1,e2,e3⟩:=h2.yes hv;rw[e1];refine hK (a,c) m (hm.HG hp e2 (fun b hb=>hb.elim (fun h=>by cases h.1) fun h=>h.elim) fun b hb=>?_)
   rcases hb with hb|hb
   ·have:=e3 b hb;exact⟨.inr (.inr this),fun ho=>(h4 b this).2 (s7 ho)⟩
   ·exact hb.elim
theorem EF {kt et b q:Nat} {R:Nat→Prop} {L:List (α × Bool × List γ)} {k:α} {s:Bool} {l:List γ} (hu:E.P.underlying ty=some (.map kt et)) (hk:KeyE E.P kt kE) (hz:bA E.P et=some (.agg #[.bool false,.slice none 0 0])) (hw:0<w) (hx:ev E fs x=some (.map (some b))) (hy:ev E fs y=some (kE k)) (hp:pk ps q=some (.gen (pK b R w f kE L))) (hv:some ((iu L k).getD (false,[]))=some (s,l)) :
  Ox E m0 fs ps (.lookup ty x y false) (fun r:Option Addr × Nat=>.agg #[.bool s,.slice r.1 l.length r.2]) (fun r=>.rd r.1 r.2 w l.length (l.map f)::ps):=by
 have:=Kh (m0:=m0) hu hk hz hw hx hy hp;rw[Option.some.inj hv] at this;exact this
def Ly (m:AMem) (b w:Nat) (f:γ→List Value) (kE:α→Value) (L:List (α × Bool × List γ)):Prop:=∃(R:Nat→Prop) (es:List (α × Value)),m.get b=some (.map (es.map (eM kE fun v=>v)))∧b<m.next∧oD m R w f es L
omit [DecidableEq α] in
theorem Hp.MY {k b:Nat} {R:Nat→Prop} {L:List (α × Bool × List γ)} (h:Hp m0 m ps) (hp:pk ps k=some (.gen (pK b R w f kE L))):Ly m b w f kE L:=by
 obtain⟨⟨⟨es,h1,h2⟩,h3,_⟩,_⟩:=h.get hp;exact⟨R,es,h1,h3,h2⟩
omit [DecidableEq α] in
theorem ae.H7 {b k q cap n:Nat} {R:Nat→Prop} {L:List (α × Bool × List γ)} {a:Option Addr} {es:List (List Value)} (hp:pk ps k=some (.gen (pK b R w f kE L))) (hq:pk ps q=some (.rd a cap w n es)):ae m0 ps (cu ps k (.gen (pK b (fun x=>R x∨kf a=some x) w f kE L))):=fun m h=>by
 have hP:=h.get hp;obtain⟨⟨⟨es',h1,h2⟩,h3,h4⟩,h5⟩:=hP;have hrd:Pc.ok m0.next m (.rd a cap w n es):=h.get hq
 have hkq:k≠q:=fun e=>by rw[e,hq] at hp; cases hp
 have hap:=fG h.apart hp hq hkq;refine⟨h.ext,fun r hr=>?_,gN hp (fun r hr ha=>⟨fun x h1 h2=>ha.1 x (.inr (s7 h1)) h2,fun x hx hy=>?_⟩) h.apart⟩
 ·rcases rT hr with hr|rfl
  ·exact h.ok r hr
  ·refine⟨⟨⟨es',h1,h2.1,fun i k v hi=>?_⟩,h3,fun x hx=>?_⟩,fun _ x hx=>h5 rfl x hx⟩
   ·obtain⟨a,c,e1,e2,e3⟩:=h2.2 i k v hi;exact⟨a,c,e1,e2,fun b hb=>.inl (e3 b hb)⟩
   ·rcases hx with hx|hx
    ·exact h4 x hx
    ·exact⟨Pc.dQ hrd (.inl hx),fun e=>hap.1 x (by rw[e]; exact .inr rfl) (.inl hx)⟩
 ·rcases tJ hy with rfl|hy|hy
  ·exact ha.2 x hx (.inr (.inl rfl))
  ·exact ha.2 x hx (.inr (.inr hy))
  ·obtain⟨k',hk'⟩:=nq hr
   by_cases hne:k'=q
   ·rw[hne,hq] at hk';rw[←Option.some.inj hk'] at hx;exact hx.elim (fun h=>by cases h.1) fun h=>h.elim
   ·exact(fG h.apart hk' hq hne).1 x hx (.inl hy)
theorem Ka {kt et b k2 q cap:Nat} {R:Nat→Prop} {L:List (α × Bool × List γ)} {k:α} {s:Bool} {l:List γ} {a:Option Addr} (hu:E.P.underlying ty=some (.map kt et)) (hk:KeyE E.P kt kE) (hx:ev E fs x=some (.map (some b))) (hy:ev E fs y=some (kE k)) (hz:ev E fs z=some (.agg #[.bool s,.slice a l.length cap])) (hp:pk ps k2=some (.gen (pK b R w f kE L))) (hq:pk ps q=some (.rd a cap w l.length (l.map f))) :
  Od E m0 fs ps (.mapUpdate ty x y z) undef (cu ps k2 (.gen (pK b (fun x=>R x∨kf a=some x) w f kE (gV L k (s,l))))) :=
 fun t m hf h=>⟨fun b' hb'=>by simp[aK] at hb',fun K hK=>by
  have h1:=ae.H7 (m0:=m0) hp hq m h;have hp1:pk (cu ps k2 (.gen (pK b (fun x=>R x∨kf a=some x) w f kE L))) k2=some (.gen (pK b (fun x=>R x∨kf a=some x) w f kE L)):=Ff _ hp;have hrd:Rd m a cap w l.length (l.map f):=h.get hq;obtain⟨⟨⟨es,g1,g2⟩,g3,g4⟩,g5⟩:=h1.get hp1;have hup:cD E.P ty (.map (some b)) (kE k) (.agg #[.bool s,.slice a l.length cap]) m=some (m.set b (.map ((gV es k (.agg #[.bool s,.slice a l.length cap])).map (eM kE fun v=>v)))):=by
   simp only[cD,hu,g1,hk.ok,if_true,j6 hk,gV];cases hfd:dB k es 0 with
   | none=>simp only[Option.map_none,List.map_append,List.map_cons,List.map_nil]; rfl
   | some p =>
    obtain⟨e1,e2,e3⟩:=fx k es 0 p hfd;simp only[Nat.sub_zero] at e3;have hst:gp (es.map (eM kE fun v=>v)) p.1 (kE k)=true:=by
     simp only[gp,List.getElem?_map,e3,Option.map_some,eM,hk.plain,hk.same,Bool.and_self]
    simp only[Option.map_some,hst,if_true];rw[kN (vE:=fun v:Value=>v) k _ es p.1 (by omega)]
  unfold bt;simp only[k9,cO,hf.ev hx,hf.ev hy,hf.ev hz,hup,Option.map_some];have g2':=g2.put k (s,l) hrd fun b hb=>.inr hb;have hset:∀x,x≠b→(m.set b (.map ((gV es k (.agg #[.bool s,.slice a l.length cap])).map (eM kE fun v=>v)))).get x=m.get x:=fun x hx=>by rw[AMem.bD,if_neg hx]
  have key:=h1.CG (m':=m.set b (.map ((gV es k (.agg #[.bool s,.slice a l.length cap])).map (eM kE fun v=>v)))) (p':=.gen (pK b (fun x=>R x∨kf a=some x) w f kE (gV L k (s,l)))) hp1 (fun x hx=>.inl (by rw[s7 hx]; exact .inr rfl)) (fun x hx=>.inl ((tJ hx).elim (fun e=>by rw[e]; exact .inr (.inl rfl)) fun e=>.inr (.inr e)))
   (by rw[AMem.next_set]; exact Nat.le_refl _) (h1.ext.set (g5 rfl b rfl) _)
   ⟨⟨⟨_,by rw[AMem.bD,if_pos rfl],g2'.gI (by rw[AMem.next_set]; exact Nat.le_refl _) fun x hx _=>hset x (g4 x hx).2⟩,by rw[AMem.next_set]; exact g3,fun x hx=>by rw[AMem.next_set]; exact g4 x hx⟩,fun _ x hx=>by cases hx; exact g5 rfl b rfl⟩
   fun x hx _=>hset x fun e=>hx (by rw[e]; exact .inr rfl)
  rw[AA] at key;exact hK _ key⟩
omit [DecidableEq α] in
theorem HE {ars:Array Operand} {elem l cap:Nat} (hu:E.P.underlying ty=some (.slice elem)) (ha:gQ E fs ars.toList=some [.slice none l cap]):Od E m0 fs ps (.call ⟨.builtin .cap,ars,#[ty]⟩) (.int .i64 (cap:Int)) ps :=
 fun t m hf h=>⟨fun b hb'=>by
  simp only[aK,hf.gQ ha] at hb';have:dG (.slice none l cap)=none:=rfl;rw[this] at hb'; exact(Option.some_ne_none _ hb'.symm).elim,fun K hK=>by
  have:aY E.P .cap #[ty] [.slice none l cap] m=some (.int .i64 (cap:Int),m):=by
   have ht:(#[ty]:Array TypeId)[0]? = some ty:=rfl;simp only[aY,ht,Option.bind_some,hu]
  rw[Go.Ab.dM (hf.gQ ha) this]; exact hK m h⟩
theorem KV {elem:TypeId} {hx:Option Operand} {hv:Option Value} (ht:SlT E.P ty elem w) (hv':ev E fs x=some (.slice none 0 0)) (e2:ri E fs hx=some hv) (hh:hv=none∨∃k,hv=some (.int k 0)) :
  Od E m0 fs ps (.slice ty x none hx none) (.slice none 0 0) ps :=
 fun t m hf h=>⟨fun b hb'=>by
  simp only[aK,hf.ev hv',Option.bind_some] at hb';have e:dG (.slice none 0 0)=none:=rfl;rw[e] at hb';exact(Option.some_ne_none _ hb'.symm).elim,fun K hK=>by
  have hb:dA 0 0 none hv none=some (0,0,0):=by
   have:=gw (n:=0) (cap:=0) (lo:=0) (hi:=0) (Nat.le_refl _) (Nat.le_refl _) (l:=none) (h:=hv) (.inl ⟨rfl,rfl⟩) (hh.imp (fun e=>⟨e,rfl⟩) fun e=>e);exact this
  have hs:bO E.P ty (.slice none 0 0) none hv none m=some (.slice none 0 0):=by
   simp only[bO,ht.und,ht.known,if_true,hb]
  rw[Go.Ab.lA (hf.ev hv') (hf.ri (x:=none) rfl) (hf.ri e2) rfl hs];exact hK m h⟩
theorem rm {l:List Value} (h:l.all aM=true):aU l=true:=by
 unfold aU;rw[List.all_eq_true] at h ⊢;intro v hv;have:=h v hv;cases v<;>first|rfl|cases this
theorem JC {β:Type} {g:β→List Value} {z0:β} {elem ty2:TypeId} {kd:IntKind} {i:Int} {z:Value} {ars:Array Operand} (ht:SlT E.P ty elem w) (ht2:E.P.underlying ty2=some (.int kd)) (ha:gQ E fs ars.toList=some [.slice none 0 0,.int .i64 i]) (hi:decide (0<i)=true) (hl:lim i.toNat=true) (hz:bA E.P elem=some z) (hp:z.cells.toList.all aM=true) (hzf:z.cells.toList=g z0) :
  Ox E m0 fs ps (.call ⟨.builtin .append,ars,#[ty,ty2]⟩) (fun b=>.slice (some ⟨b,0,none⟩) i.toNat i.toNat) (fun b=>.arr b w i.toNat ((List.replicate i.toNat z0).map g) (.more w)::ps):=by
 obtain⟨n,rfl⟩:∃n:Nat,i=n:=⟨i.toNat,by have:=of_decide_eq_true hi; omega⟩
 have hn:0<n:=by have:=of_decide_eq_true hi; omega
 rw[Int.toNat_natCast] at hl ⊢;rw[←zp,←hzf];have hzs:z.cells.size=w:=by have:=ht.zero; rw[hz] at this; simp only[Option.any_some,Bool.and_eq_true,beq_iff_eq] at this; exact this.1
 refine .made (ob:=fun _=>.cells (List.replicate n z.cells.toList).flatten (.more w)) (p:=fun b=>.arr b w n (List.replicate n z.cells.toList) (.more w)) (fun t=>by simp[aK]) (fun t m hfr K=>?_) (fun _=>rfl) fun _ _ _ h1 h2 h3=>⟨h1,h2,h3,by simp,fun e he=>by rw[List.eq_of_mem_replicate he]; simpa using hzs,.inr rfl,ht.pos⟩
 have hln:n≤1073741824:=Nat.le_of_ble_eq_true hl;obtain⟨inf,hi1,hi2,hi3⟩:=ht.bytes;have hzz:ef E.P elem n=some (List.replicate n z.cells.toList).flatten:=by
  simp only[ef,hz,ht.size];rw[if_pos hzs,jP]
 have hall:(List.replicate n z.cells.toList).flatten.all aM=true:=by
  rw[List.all_eq_true];intro v hv;obtain⟨l,h1,h2⟩:=List.mem_flatten.1 hv;rw[List.eq_of_mem_replicate h1] at h2;exact List.all_eq_true.1 hp v h2
 have hnew:dR E.P elem (some ty2) (.int .i64 (n:Int)) m=some (n,(List.replicate n z.cells.toList).flatten):=by
  simp only[dR,Option.bind_some,ht2];rw[if_pos (by omega),Int.toNat_natCast,hzz,Option.bind_some,if_pos hall]
 have hfit:(E.P.info? elem).any (fun i=>dy i.bytes (0+n) && i.bytes != 0)=true:=by
  rw[hi1];have hmul:(2*(0+n)+2000)*inf.bytes≤(2*1073741824+2000)*1024:=Nat.mul_le_mul (by omega) hi3
  simp only[Option.any_some,dy,Bool.and_eq_true,decide_eq_true_eq,bne_iff_ne,ne_eq];exact⟨by omega,hi2⟩
 have hzero:(bA E.P elem).any (fun z=>z.cells.size == w && z.cells.toList.all aM)=true:=ht.zero;have hpos:=ht.pos;have hw0:(w == 0)=false:=by simp; omega
 have hlen:(List.replicate n z.cells.toList).flatten.length=n*w:=by rw[dq (w:=w) (fun e he=>by rw[List.eq_of_mem_replicate he]; simpa using hzs),List.length_replicate]
 have hone:aU (List.replicate n z.cells.toList).flatten=true:=rm hall;have hguard:(!(known E.P elem) || aA E.P elem == 0 || !aU (List.replicate n z.cells.toList).flatten || !(E.P.info? elem).any (fun i=>dy i.bytes (0+n) && i.bytes != 0) || (List.replicate n z.cells.toList).flatten.length != n*aA E.P elem || !(bA E.P elem).any (fun z=>z.cells.size == aA E.P elem && z.cells.toList.all aM))=false:=by
  rw[ht.size,ht.known,hfit,hzero,hone,hw0,hlen]; simp
 have this:aY E.P .append #[ty,ty2] [.slice none 0 0,.int .i64 (n:Int)] m=some (.slice (some ⟨m.next,0,none⟩) n n,m.alloc (.cells (List.replicate n z.cells.toList).flatten (.more w))):=by
  show bS E.P ty (some ty2) (.slice none 0 0) (.int .i64 (n:Int)) m=_
  unfold bS;simp only[ht.und,hnew];rw[if_neg (by rw[hguard]; exact Bool.false_ne_true)]
  simp only[ne_eq,not_true_eq_false,or_self,if_false,ht.size];rw[if_neg (by omega)]
 rw[Go.Ab.dM (hfr.gQ ha) this]
end
end Go.Ab.W
end

section
namespace Go.Proofs.YthmekkhpddehjaaGreat
open Go Go.Ab Go.Ab.W
def EY (_:Nat) (L:List (Int × Bool × List Nat)):Option (List Int):=gd (J2 (L.map (·.1))) (some (eH (L.map (·.1))))
theorem vh {kE:Int→Value} (hk:kE=fun n=>.int .i64 n):∀es:List (Int × Value),pN (es.map (eM kE fun v=>v))=some (es.map (·.1))
 | []=>rfl
 | e::es=>by
  subst hk;rw[List.map_cons,List.map_cons]
  show(pN (es.map (eM (fun n:Int=>Value.int .i64 n) fun v=>v))).map (e.1::·)=_
  rw[vh rfl es]; rfl
theorem wJ (a:Int):∀l:List Int,(wR a l).length=l.length+1
 | []=>rfl
 | b::l=>by
  unfold wR
  split
  ·rfl
  ·rw[List.length_cons,wJ a l,List.length_cons]
theorem sd:∀l:List Int,(eH l).length=l.length
 | []=>rfl
 | a::l=>by unfold eH; rw[wJ,sd l,List.length_cons]
theorem zr:∀l:List Int,(l.map (eI .i64)).flatten=l.map (Value.int .i64)
 | []=>rfl
 | a::l=>by rw[List.map_cons,List.flatten_cons,zr l]; rfl
theorem G0 (n:Nat) (L:List (Int × Bool × List Nat)) (b:Nat) (r:List Int) (hF:EY n L=some r) (m:AMem) (h:Ly m b 1 (eN .u64) (fun n:Int=>.int .i64 n) L) :
  aG aE 111 [.map (some b)] m (fun v m'=>∃x:Option Addr × Nat,v = .slice x.1 x.2 x.2∧Hp m m' [.sl x.1 1 x.2 (r.map (eI .i64))]):=by
 obtain⟨hok,hF⟩:=an hF;have hr:=Option.some.inj hF;obtain⟨R,es,h1,h2,h3⟩:=h;have hk:=vh rfl es;rw[h3.1] at hk;cases hks:L.map (·.1) with
 | nil =>
  rw[hks] at hk hok hr;subst hr;refine aG.cE (p:=⟨dW⟩) rfl (v:=.slice none 0 0) (m':=m) ?_ ⟨(none,0),rfl,(ae.nil 1 rfl) m (Hp.start m)⟩
  show dW [.map (some b)] m=_
  simp only[dW,h1,hk,hok,if_true]
 | cons k ks =>
  rw[hks] at hk hok hr;have hlen:(eH (k::ks)).length=ks.length+1:=by rw[sd]; rfl
  refine aG.cE (p:=⟨dW⟩) rfl (v:=.slice (some ⟨m.next,0,none⟩) (ks.length+1) (ks.length+1)) (m':=m.alloc (.cells ((eH (k::ks)).map (.int .i64)) (.more 1))) ?_ ⟨(some ⟨m.next,0,none⟩,ks.length+1),rfl,?_⟩
  ·show dW [.map (some b)] m=_
   simp only[dW,h1,hk,hok,if_true]
  ·subst hr;have hm:=Hp.start m;refine hm.cons (Nat.le_succ _) (hm.ext.alloc _) (fun b hlt=>by rw[AMem.bf,if_neg (by omega)]) ?_ (fun b' h'=>?_) (fun _ h=>h)
   ·refine .inr ⟨m.next,.more 1,rfl,Nat.le_refl _,Nat.lt_succ_self _,?_,by rw[List.length_map,hlen],fun e he=>?_,.inr rfl,by decide⟩
    ·rw[AMem.bf,if_pos rfl,zr]
    ·obtain⟨x,_,rfl⟩:=List.mem_map.1 he; rfl
   ·cases h'; exact Nat.le_refl _
end Go.Proofs.YthmekkhpddehjaaGreat
end

section
namespace Go.Proofs.YthmekkhpddehjaaGreat
open Go Go.Ab Go.Ab.W
set_option maxRecDepth 10000
def rl (_:Nat) (x1:Int):Option (Bool) :=
br (decide (-1000000000000000≤x1)) (
some (decide (x1≤1000000000000000))) (
some false)
def DW (n:Nat) (x1:Int) (x2:Int):Option (Bool) :=
br (decide (x2<0)) (
some true) (
br (decide (10000000000000<x2)) (
some true) (
ob (rl n x1) fun r7 =>
some (!r7)))
def nF (_:Nat) (x1:Int):(Int × Int)→Option ((Int × Int) ⊕ (Int)):=fun(v4,v5) =>
br (decide (1<IntKind.wrap .i64 (v5-v4))) (
ob (some (IntKind.wrap .i64 ((IntKind.wrap .i64 (Int.tdiv (IntKind.wrap .i64 (v4+v5)) 2))*(IntKind.wrap .i64 (Int.tdiv (IntKind.wrap .i64 (v4+v5)) 2))))) fun y14 =>
br (decide (y14≤x1)) (
some (.inl (IntKind.wrap .i64 (Int.tdiv (IntKind.wrap .i64 (v4+v5)) 2),v5))) (
some (.inl (v4,IntKind.wrap .i64 (Int.tdiv (IntKind.wrap .i64 (v4+v5)) 2))))) (
some (.inr v4))
def Dl (n:Nat) (x1:Int):Option (Int) :=
ob (
cq (nF n x1) n (0,4000000)) fun v12 =>
some v12
def k8 (_:Nat) (v1:Int):(Int × Int × Bool)→Option ((Int × Int × Bool) ⊕ (Int × Int × Bool)):=fun(v2,v3,v4) =>
gd (decide (v1≠0)) (
br (decide (Int.tmod v2 v1=0)) (
gd (decide (v1≠0)) (
ob (
br (v4) (
some (IntKind.wrap .i64 (v3*v1))) (
some v3)) fun v5 =>
some (.inl (IntKind.wrap .i64 (Int.tdiv v2 v1),v5,!v4)))) (
some (.inr (v2,v3,v4))))
def k7 (n:Nat):(Int × Int × Int × Int)→Option ((Int × Int × Int × Int) ⊕ (Int × Int × Int)):=fun(v2,v4,v3,v1) =>
br (decide (v1≤21545)) (
ob (α:=(Unit) ⊕ (Int × Int × Int)) (
br (decide (v2<IntKind.wrap .i64 (v1*v1))) (
some (.inl ())) (
ob (
cq (k8 n v1) n (v2,v4,false)) fun(v5,v6,v7) =>
br (v7) (
some (.inr (v5,v6,IntKind.wrap .i64 (v3*v1)))) (
some (.inr (v5,v6,v3))))) fun r0=>match r0 with
| .inl _ =>
some (.inr (v2,v4,v3))
| .inr (v8,v9,v10) =>
some (.inl (v8,v9,v10,IntKind.wrap .i64 (v1+1)))) (
some (.inr (v2,v4,v3)))
def xB (n:Nat) (x1:Int):Option (Int × Int) :=
ob (
cq (k7 n) n (x1,1,1,2)) fun(v1,v2,v3) =>
ob (Dl n v1) fun r0 =>
br (decide (IntKind.wrap .i64 (r0*r0)=v1)) (
some (IntKind.wrap .i64 (v2*r0),v3)) (
some (v2,IntKind.wrap .i64 (v3*v1)))
def Em (_:Nat):(List (Nat) × Int)→Option ((List (Nat) × Int) ⊕ (List (Nat))):=fun(l40,v41) =>
br (decide (v41<8)) (
gd (bV v41 8) (
ob (l40[v41.toNat]?) fun _ =>
some (.inl ((l40.set v41.toNat 18446744073709551615),IntKind.wrap .i64 (v41+1))))) (
some (.inr l40))
def xy (n:Nat) (x1:Int):Option (Nat × Nat × Nat × Nat × Nat × Nat × Nat × Nat) :=
ob (
br (decide (x1<0)) (
ob (
cq (Em n) n (([ui .u64 x1,0,0,0,0,0,0,0]:List (Nat)),1)) fun l49 =>
some l49) (
some ([ui .u64 x1,0,0,0,0,0,0,0]:List (Nat)))) fun l30 =>
ob (KR l30) fun(x59,x60,x61,x62,x63,x64,x65,x66) =>
some (x59,x60,x61,x62,x63,x64,x65,x66)
def Cp (n:Nat):(List (Nat) × List (Nat) × Nat × Int)→Option ((List (Nat) × List (Nat) × Nat × Int) ⊕ (List (Nat) × Nat)):=fun(l36,l37,v38,v39) =>
br (decide (v39<8)) (
gd (bV v39 8) (
ob (l36[v39.toNat]?) fun x60 =>
gd (bV v39 8) (
ob (l37[v39.toNat]?) fun x63 =>
ob (E4 n x60 x63 v38) fun(r66,r67) =>
gd (bV v39 8) (
some (.inl ((l36.set v39.toNat r66),l37,r67,IntKind.wrap .i64 (v39+1))))))) (
some (.inr (l36,v38)))
def Fb (n:Nat) (x1:Nat) (x2:Nat) (x3:Nat) (x4:Nat) (x5:Nat) (x6:Nat) (x7:Nat) (x8:Nat) (x9:Nat) (x10:Nat) (x11:Nat) (x12:Nat) (x13:Nat) (x14:Nat) (x15:Nat) (x16:Nat):Option (Nat × Nat × Nat × Nat × Nat × Nat × Nat × Nat × Nat) :=
ob (
cq (Cp n) n (([x1,x2,x3,x4,x5,x6,x7,x8]:List (Nat)),([x9,x10,x11,x12,x13,x14,x15,x16]:List (Nat)),0,0)) fun(l56,v57) =>
ob (KR l56) fun(x72,x73,x74,x75,x76,x77,x78,x79) =>
some (x72,x73,x74,x75,x76,x77,x78,x79,v57)
def Da (n:Nat) (x1:Nat) (x2:Nat) (x3:Nat) (x4:Nat) (x5:Nat) (x6:Nat) (x7:Nat) (x8:Nat):Option (Bool × Nat × Nat × Nat × Nat × Nat × Nat × Nat × Nat) :=
ob (
br (decide (lF .u64 x8 63=1)) (
ob (Fb n 0 0 0 0 0 0 0 0 x1 x2 x3 x4 x5 x6 x7 x8) fun(r34,r35,r36,r37,r38,r39,r40,r41,_) =>
some (decide (lF .u64 x8 63=1),r34,r35,r36,r37,r38,r39,r40,r41)) (
some (decide (lF .u64 x8 63=1),x1,x2,x3,x4,x5,x6,x7,x8))) fun(v23,v24,v25,v26,v27,v28,v29,v30,v31) =>
some (v23,v24,v25,v26,v27,v28,v29,v30,v31)
def lg (_:Nat) (l2:List (Nat)):Int→Option ((Int) ⊕ (Int)):=fun v9 =>
ob (
br (decide (0<v9)) (
gd (bV (IntKind.wrap .i64 (v9-1)) l2.length) (
ob (l2[(IntKind.wrap .i64 (v9-1)).toNat]?) fun x71 =>
some (decide (x71=0)))) (
some false)) fun v66 =>
br (v66) (
some (.inl (IntKind.wrap .i64 (v9-1)))) (
some (.inr v9))
def wI (n:Nat) (x1:Bool) (l2:List (Nat)):Option (Bool × List Nat) :=
ob (
cq (lg n l2) n (l2.length:Int)) fun v43 =>
br (x1) (
gd (okB 0 v43 l2.length) (
some (decide (0<v43),((l2.drop (0:Int).toNat).take ((v43:Int).toNat-(0:Int).toNat))))) (
gd (okB 0 v43 l2.length) (
some (false,((l2.drop (0:Int).toNat).take ((v43:Int).toNat-(0:Int).toNat)))))
def GN (n:Nat) (x1:Nat) (x2:Nat) (x3:Nat) (x4:Nat) (x5:Nat) (x6:Nat) (x7:Nat) (x8:Nat):Option (Bool × List Nat) :=
ob (Da n x1 x2 x3 x4 x5 x6 x7 x8) fun(r12,r13,r14,r15,r16,r17,r18,r19,r20) =>
gd (lim (([]:List (Nat))++[r13,r14,r15,r16,r17,r18,r19,r20]).length) (
ob (wI n r12 (([]:List (Nat))++[r13,r14,r15,r16,r17,r18,r19,r20])) fun(r26,l27) =>
some (r26,l27))
def Bh (n:Nat) (x1:Int):Option (Bool × List Nat) :=
ob (xy n x1) fun(r4,r5,r6,r7,r8,r9,r10,r11) =>
ob (GN n r4 r5 r6 r7 r8 r9 r10 r11) fun(r13,l14) =>
some (r13,l14)
def DZ (_:Nat) (x1:Nat) (x2:Nat):Option (Nat × Nat) :=
ob (some (uw .u64 ((uw .u64 (uw .u64 x1 &&& uw .u64 4294967295))*(uw .u64 (uw .u64 x2 &&& uw .u64 4294967295))))) fun y3 =>
ob (some (uw .u64 ((lF .u64 x1 32)*(uw .u64 (uw .u64 x2 &&& uw .u64 4294967295))))) fun y5 =>
ob (some (uw .u64 (uw .u64 (uw .u64 (y5+(lF .u64 y3 32))) &&& uw .u64 4294967295))) fun y7 =>
ob (some (uw .u64 ((uw .u64 (uw .u64 x1 &&& uw .u64 4294967295))*(lF .u64 x2 32)))) fun y9 =>
ob (some (uw .u64 ((uw .u64 ((lF .u64 x1 32)*(lF .u64 x2 32)))+(lF .u64 (uw .u64 (y5+(lF .u64 y3 32))) 32)))) fun y11 =>
some (uw .u64 (y11+(lF .u64 (uw .u64 (y7+y9)) 32)),uw .u64 (x1*x2))
def mI (n:Nat) (l1:List (Nat)) (x3:Nat) (v2:Int) (n1:Nat):(List (Nat) × Nat × Int)→Option ((List (Nat) × Nat × Int) ⊕ (List (Nat) × Nat)):=fun(l2,v3,v1) =>
br (decide (v1<(l1.length:Int))) (
gd (bV v1 l1.length) (
ob (l1[v1.toNat]?) fun x4 =>
ob (DZ n x3 x4) fun(r0,r1) =>
gd (bV (IntKind.wrap .i64 (v2+v1)) n1) (
ob (l2[(IntKind.wrap .i64 (v2+v1)).toNat]?) fun x14 =>
ob (A6 n x14 r1 0) fun(r2,r3) =>
ob (A6 n r2 v3 0) fun(r4,r5) =>
gd (bV (IntKind.wrap .i64 (v2+v1)) n1) (
some (.inl ((l2.set ((IntKind.wrap .i64 (v2+v1)).toNat) r4),uw .u64 ((uw .u64 (r0+r3))+r5),IntKind.wrap .i64 (v1+1))))))) (
some (.inr (l2,v3)))
def mG (n:Nat) (l2:List (Nat)) (l1:List (Nat)):(List (Nat) × Nat × Int)→Option ((List (Nat) × Nat × Int) ⊕ (List (Nat) × Nat)):=fun(l3,n1,v1) =>
br (decide (v1<(l2.length:Int))) (
gd (bV v1 l2.length) (
ob (l2[v1.toNat]?) fun x3 =>
ob (
cq (mI n l1 x3 v1 n1) n (l3,0,0)) fun(l4,v2) =>
gd (bV (IntKind.wrap .i64 (v1+(l1.length:Int))) n1) (
ob (l4[(IntKind.wrap .i64 (v1+(l1.length:Int))).toNat]?) fun _ =>
some (.inl ((l4.set ((IntKind.wrap .i64 (v1+(l1.length:Int))).toNat) v2),n1,IntKind.wrap .i64 (v1+1)))))) (
some (.inr (l3,n1)))
def D3 (n:Nat) (l1:List (Nat)) (l2:List (Nat)):Option (List Nat) :=
gd (decide (0≤IntKind.wrap .i64 ((l1.length:Int)+(l2.length:Int)))) (gd (lim ((IntKind.wrap .i64 ((l1.length:Int)+(l2.length:Int))).toNat)) (
ob (
cq (mG n l1 l2) n ((List.replicate (IntKind.wrap .i64 ((l1.length:Int)+(l2.length:Int))).toNat (0:Nat)),(IntKind.wrap .i64 ((l1.length:Int)+(l2.length:Int))).toNat,0)) fun(l3,_) =>
some l3))
def AO (n:Nat) (x1:Bool) (l2:List (Nat)) (x7:Bool) (l8:List (Nat)):Option (Bool × List Nat) :=
ob (D3 n l2 l8) fun l17 =>
ob (wI n (!(x1 == x7)) l17) fun(r21,l22) =>
some (r21,l22)
def kK (n:Nat) (l1:List (Nat)) (l2:List (Nat)):(List (Nat) × Nat × Nat × Int)→Option ((List (Nat) × Nat × Nat × Int) ⊕ (List (Nat) × Nat × Nat)):=fun(l3,n1,v2,v1) =>
br (decide (v1<(l1.length:Int))) (
gd (bV v1 l1.length) (
ob (l1[v1.toNat]?) fun x3 =>
ob (
br (decide (v1<(l2.length:Int))) (
gd (bV v1 l2.length) (
ob (l2[v1.toNat]?) fun x4 =>
some x4)) (
some 0)) fun v3 =>
ob (A6 n x3 v3 v2) fun(r0,r1) =>
gd (bV v1 n1) (
ob (l3[v1.toNat]?) fun _ =>
some (.inl ((l3.set v1.toNat r0),n1,r1,IntKind.wrap .i64 (v1+1)))))) (
some (.inr (l3,n1,v2)))
def B6 (n:Nat) (l2:List (Nat)) (l3:List (Nat)):Option (List Nat) :=
ob (
br (decide ((l2.length:Int)<(l3.length:Int))) (
some (l3,l2)) (
some (l2,l3))) fun(l1,l5) =>
gd (decide (0≤IntKind.wrap .i64 ((l1.length:Int)+1))) (gd (lim ((IntKind.wrap .i64 ((l1.length:Int)+1)).toNat)) (
ob (
cq (kK n l1 l5) n ((List.replicate (IntKind.wrap .i64 ((l1.length:Int)+1)).toNat (0:Nat)),(IntKind.wrap .i64 ((l1.length:Int)+1)).toNat,0,0)) fun(l4,n1,v1) =>
gd (bV (l1.length:Int) n1) (
ob (l4[(l1.length:Int).toNat]?) fun _ =>
some (l4.set ((l1.length:Int).toNat) v1))))
def jy (_:Nat) (l1:List (Nat)) (l5:List (Nat)):Int→Option ((Int) ⊕ ((Int) ⊕ (Unit))):=fun v11 =>
br (decide (0≤v11)) (
gd (bV v11 l1.length) (
ob (l1[v11.toNat]?) fun x33 =>
gd (bV v11 l5.length) (
ob (l5[v11.toNat]?) fun x38 =>
br (decide (x33<x38)) (
some (.inr (.inl (-1)))) (
gd (bV v11 l1.length) (
gd (bV v11 l5.length) (
br (decide (x38<x33)) (
some (.inr (.inl 1))) (
some (.inl (IntKind.wrap .i64 (v11-1)))))))))) (
some (.inr (.inr ())))
def Et (n:Nat) (l1:List (Nat)) (l5:List (Nat)):Option (Int) :=
br (!decide ((l1.length:Int)=(l5.length:Int))) (
some (IntKind.wrap .i64 ((l1.length:Int)-(l5.length:Int)))) (
ob (α:=(Int) ⊕ (Unit)) (
cq (jy n l1 l5) n (IntKind.wrap .i64 ((l1.length:Int)-1))) fun r45=>match r45 with
| .inl v28 =>
some v28
| .inr _ =>
some 0)
def mM (n:Nat) (l1:List (Nat)) (l2:List (Nat)):(List (Nat) × Nat × Int)→Option ((List (Nat) × Nat × Int) ⊕ (List (Nat))):=fun(l3,v2,v1) =>
br (decide (v1<(l1.length:Int))) (
gd (bV v1 l1.length) (
ob (l1[v1.toNat]?) fun x3 =>
ob (
br (decide (v1<(l2.length:Int))) (
gd (bV v1 l2.length) (
ob (l2[v1.toNat]?) fun x4 =>
some x4)) (
some 0)) fun v3 =>
ob (E4 n x3 v3 v2) fun(r0,r1) =>
gd (bV v1 ((l1.length:Int).toNat)) (
ob (l3[v1.toNat]?) fun _ =>
some (.inl ((l3.set v1.toNat r0),r1,IntKind.wrap .i64 (v1+1)))))) (
some (.inr l3))
def CR (n:Nat) (l1:List (Nat)) (l2:List (Nat)):Option (List Nat) :=
gd (decide (0≤(l1.length:Int))) (gd (lim ((l1.length:Int).toNat)) (
ob (
cq (mM n l1 l2) n ((List.replicate (l1.length:Int).toNat (0:Nat)),0,0)) fun l3 =>
some l3))
def Ba (n:Nat) (x1:Bool) (l2:List (Nat)) (x7:Bool) (l8:List (Nat)):Option (Bool × List Nat) :=
br ((x1 == x7)) (
ob (B6 n l2 l8) fun l18 =>
ob (wI n x1 l18) fun(r22,l23) =>
some (r22,l23)) (
ob (
ob (Et n l2 l8) fun r39 =>
br (decide (r39<0)) (
some (x7,l8,x1,l2)) (
some (x1,l2,x7,l8))) fun(v30,l31,_,l35) =>
ob (CR n l31 l35) fun l44 =>
ob (wI n v30 l44) fun(r48,l49) =>
some (r48,l49))
def CP (_:Nat):(List (Nat) × List (Nat) × Int)→Option ((List (Nat) × List (Nat) × Int) ⊕ ((Int) ⊕ (Unit))):=fun(l32,l33,v34) =>
br (decide (0≤v34)) (
gd (bV v34 8) (
ob (l32[v34.toNat]?) fun x52 =>
gd (bV v34 8) (
ob (l33[v34.toNat]?) fun x55 =>
br (!decide (x52=x55)) (
gd (bV v34 8) (
gd (bV v34 8) (
br (decide (x52<x55)) (
some (.inr (.inl (-1)))) (
some (.inr (.inl 1)))))) (
some (.inl (l32,l33,IntKind.wrap .i64 (v34-1))))))) (
some (.inr (.inr ())))
def CZ (n:Nat) (x1:Nat) (x2:Nat) (x3:Nat) (x4:Nat) (x5:Nat) (x6:Nat) (x7:Nat) (x8:Nat) (x9:Nat) (x10:Nat) (x11:Nat) (x12:Nat) (x13:Nat) (x14:Nat) (x15:Nat) (x16:Nat):Option (Int) :=
ob (α:=(Int) ⊕ (Unit)) (
cq (CP n) n (([x1,x2,x3,x4,x5,x6,x7,x8]:List (Nat)),([x9,x10,x11,x12,x13,x14,x15,x16]:List (Nat)),7)) fun r62=>match r62 with
| .inl v49 =>
some v49
| .inr _ =>
some 0
def F6 (n:Nat) (x1:Bool) (x2:Nat) (x3:Nat) (x4:Nat) (x5:Nat) (x6:Nat) (x7:Nat) (x8:Nat) (x9:Nat):Option (Nat × Nat × Nat × Nat × Nat × Nat × Nat × Nat × Int) :=
ob (CZ n x2 x3 x4 x5 x6 x7 x8 x9 0 0 0 0 0 0 0 9223372036854775808) fun r24 =>
ob (
br (decide (0<r24)) (
some true) (
br (decide (r24=0)) (
some (!x1)) (
some false))) fun v27 =>
br (v27) (
some (0,0,0,0,0,0,0,0,6)) (
ob (
br (x1) (
ob (Fb n 0 0 0 0 0 0 0 0 x2 x3 x4 x5 x6 x7 x8 x9) fun(r54,r55,r56,r57,r58,r59,r60,r61,_) =>
some (r54,r55,r56,r57,r58,r59,r60,r61)) (
some (x2,x3,x4,x5,x6,x7,x8,x9))) fun(v44,v45,v46,v47,v48,v49,v50,v51) =>
some (v44,v45,v46,v47,v48,v49,v50,v51,0))
def CL (n:Nat) (x1:Bool) (l2:List (Nat)):Option (Nat × Nat × Nat × Nat × Nat × Nat × Nat × Nat × Int) :=
br (decide (8<(l2.length:Int))) (
some (0,0,0,0,0,0,0,0,6)) (
gd (decide ((l2:List (Nat)).length≤8)) (
ob (KR ((l2:List (Nat))++([0,0,0,0,0,0,0,0]:List (Nat)).drop (l2:List (Nat)).length)) fun(x12,x13,x14,x15,x16,x17,x18,x19) =>
ob (F6 n x1 x12 x13 x14 x15 x16 x17 x18 x19) fun(r21,r22,r23,r24,r25,r26,r27,r28,r29) =>
some (r21,r22,r23,r24,r25,r26,r27,r28,r29)))
def Cc (n:Nat) (x1:Nat) (x2:Nat) (x3:Nat) (x4:Nat) (x5:Nat) (x6:Nat) (x7:Nat) (x8:Nat):Option (Int × Int) :=
ob (xy n (IntKind.wrap .i64 ((x1:Nat):Int))) fun(r11,r12,r13,r14,r15,r16,r17,r18) =>
br (!(decide (r11=x1) && decide (r12=x2) && decide (r13=x3) && decide (r14=x4) && decide (r15=x5) && decide (r16=x6) && decide (r17=x7) && decide (r18=x8))) (
some (0,6)) (
some (IntKind.wrap .i64 ((x1:Nat):Int),0))
def wA (n:Nat) (l1:List (Int × Int)):Int→Option ((Int) ⊕ ((Int) ⊕ (Unit))):=fun v1 =>
br (decide (v1<(l1.length:Int))) (
gd (bV v1 l1.length) (
ob (l1[v1.toNat]?) fun(x3,x4) =>
ob (DW n x3 x4) fun r0 =>
br (r0) (
some (.inr (.inl v1))) (
some (.inl (IntKind.wrap .i64 (v1+1)))))) (
some (.inr (.inr ())))
def sy (n:Nat) (l2:List (Int × Int)):(List (Int × Bool × List Nat) × Int)→Option ((List (Int × Bool × List Nat) × Int) ⊕ (List (Int × Bool × List Nat))):=fun(l1,v1) =>
br (decide (v1<(l2.length:Int))) (
ob (
gd (bV v1 l2.length) (
ob (l2[v1.toNat]?) fun(x3,x4) =>
ob (
br (decide (x4=0)) (
some true) (
some (decide (x3=0)))) fun v2 =>
br (v2) (
some l1) (
ob (xB n x4) fun(r1,r0) =>
ob (some ((iu l1 r0).getD (false,[]))) fun(y0,l3) =>
ob (Bh n x3) fun(r2,l4) =>
ob (Bh n r1) fun(r3,l5) =>
ob (AO n r2 l4 r3 l5) fun(r4,l7) =>
ob (Ba n y0 l3 r4 l7) fun(r5,l8) =>
some (gV l1 r0 (r5,l8))))) fun l9 =>
some (.inl (l9,IntKind.wrap .i64 (v1+1)))) (
some (.inr l1))
def sA (n:Nat) (l2:List Int) (l3:List (Int × Bool × List Nat)):(List (Int × Int) × Int)→Option ((List (Int × Int) × Int) ⊕ ((Unit) ⊕ (List (Int × Int)))):=fun(l1,v1) =>
br (decide (v1<(l2.length:Int))) (
ob (α:=(Unit) ⊕ (List (Int × Int))) (
gd (bV v1 l2.length) (
ob (l2[v1.toNat]?) fun x3 =>
ob (some ((iu l3 x3).getD (false,[]))) fun(y0,l4) =>
ob (CL n y0 l4) fun(r1,r2,r3,r4,r5,r6,r7,r8,r9) =>
ob (Cc n r1 r2 r3 r4 r5 r6 r7 r8) fun(r0,r10) =>
ob (
br (!decide (r9=0)) (
some true) (
br (!decide (r10=0)) (
some true) (
ob (rl n r0) fun r11 =>
some (!r11)))) fun v2 =>
br (v2) (
some (.inl ())) (
br (!decide (r0=0)) (
gd (lim (l1++[(r0,x3)]).length) (
some (.inr (l1++[(r0,x3)])))) (
some (.inr l1))))) fun r12=>match r12 with
| .inl _ =>
some (.inr (.inl ()))
| .inr l5 =>
some (.inl (l5,IntKind.wrap .i64 (v1+1)))) (
some (.inr (.inr l1)))
def J0 (n:Nat) (l1:List (Int × Int)):Option (List (Int × Int) × Int) :=
br (decide (400<(l1.length:Int))) (
some ([],3)) (
ob (
ob (
ob (α:=(Int) ⊕ (Unit)) (
cq (wA n l1) n 0) fun r0=>match r0 with
| .inl v1 =>
some v1
| .inr _ =>
some (-1)) fun v2 =>
some (decide (0≤v2))) fun v3 =>
br (v3) (
some ([],2)) (
ob (
cq (sy n l1) n (([]:List (Int × Bool × List Nat)),0)) fun l2 =>
ob (EY n l2) fun l4 =>
ob (α:=(Unit) ⊕ (List (Int × Int))) (
cq (sA n l4 l2) n (([]:List (Int × Int)),0)) fun r1=>match r1 with
| .inl _ =>
some ([],6)
| .inr l3 =>
br (decide (200<(l3.length:Int))) (
some ([],3)) (
some (l3,0))))
def w9 (_:Nat) (x1:Int) (x2:Int) (x3:Int) (x4:Int):Int→Option ((Int) ⊕ ((Unit) ⊕ (Unit))):=fun v8 =>
br (decide (v8<4)) (
gd (bV v8 4) (
ob ([x1,x2,x3,x4][v8.toNat]?) fun x39 =>
ob (
br (decide (x39 < -1000000)) (
some true) (
some (decide (1000000<x39)))) fun v43 =>
br (v43) (
some (.inr (.inl ()))) (
some (.inl (IntKind.wrap .i64 (v8+1)))))) (
some (.inr (.inr ())))
def Ll (n:Nat) (x1:Int) (x2:Int) (x3:Int) (x4:Int):Option (List (Int × Int) × Int) :=
ob (α:=(Unit) ⊕ (Unit)) (
cq (w9 n x1 x2 x3 x4) n 0) fun r49=>match r49 with
| .inl _ =>
some ([],2)
| .inr _ =>
ob (some (IntKind.wrap .i64 ((IntKind.wrap .i64 (x1-x3))*(IntKind.wrap .i64 (x1-x3))))) fun y50 =>
ob (some (IntKind.wrap .i64 ((IntKind.wrap .i64 (x2-x4))*(IntKind.wrap .i64 (x2-x4))))) fun y52 =>
ob (J0 n ([(1,IntKind.wrap .i64 (y50+y52))])) fun(l56,r59) =>
some (l56,r59)
def si (n:Nat) (l1:List (Int × Int)):(Int × Int)→Option ((Int × Int) ⊕ ((Unit) ⊕ (Unit))):=fun(v2,v1) =>
br (decide (v1<(l1.length:Int))) (
gd (bV v1 l1.length) (
ob (l1[v1.toNat]?) fun(x4,x3) =>
ob (
br (decide (x3≤v2)) (
some true) (
br (decide (10000000000000<x3)) (
some true) (
br (decide (x4=0)) (
some true) (
ob (rl n x4) fun r0 =>
some (!r0))))) fun v3 =>
br (v3) (
some (.inr (.inl ()))) (
ob (xB n x3) fun(r1,_) =>
br (decide (1<r1)) (
some (.inr (.inl ()))) (
some (.inl (x3,IntKind.wrap .i64 (v1+1))))))) (
some (.inr (.inr ())))
def JX (n:Nat) (l1:List (Int × Int)):Option (Int) :=
br (decide (200<(l1.length:Int))) (
some 30) (
ob (α:=(Unit) ⊕ (Unit)) (
cq (si n l1) n (0,0)) fun r0=>match r0 with
| .inl _ =>
some 30
| .inr _ =>
some 0)
def Lz (n:Nat) (l1:List (Int × Int)) (l2:List (Int × Int)):Option (List (Int × Int) × Int) :=
ob (
ob (JX n l1) fun r0 =>
br (!decide (r0=0)) (
some true) (
ob (JX n l2) fun r1 =>
some (!decide (r1=0)))) fun v1 =>
br (v1) (
some ([],30)) (
ob (
gd (bV 0 2) (
ob (([l1,l2]:List (List (Int × Int)))[(0:Int).toNat]?) fun l5 =>
br (decide (IntKind.wrap .i64 (0+(l5.length:Int))<0)) (
none) (
gd (bV 1 2) (
ob (([l1,l2]:List (List (Int × Int)))[(1:Int).toNat]?) fun l8 =>
ob (some (IntKind.wrap .i64 ((IntKind.wrap .i64 (0+(l5.length:Int)))+(l8.length:Int)))) fun y0 =>
br (decide (y0<0)) (
none) (
ob (
ob (
br (decide (0<IntKind.wrap .i64 (y0-0))) (
gd (decide ((0:Int)<IntKind.wrap .i64 (y0-0))) (gd (lim ((IntKind.wrap .i64 (y0-0)).toNat)) (
gd (okB 0 0 ((IntKind.wrap .i64 (y0-0)).toNat)) (
gd (decide (0<((IntKind.wrap .i64 (y0-0)).toNat))) (
ob (some ((List.replicate (IntKind.wrap .i64 (y0-0)).toNat ((0,0):Int × Int)).take (0:Int).toNat)) fun l9 =>
some l9))))) (
some ([]:List (Int × Int)))) fun l10 =>
some l10) fun l3 =>
gd (bV 0 2) (
ob (([l1,l2]:List (List (Int × Int)))[(0:Int).toNat]?) fun l4 =>
gd (lim (l3++l4).length) (
gd (bV 1 2) (
ob (([l1,l2]:List (List (Int × Int)))[(1:Int).toNat]?) fun l7 =>
gd (lim ((l3++l4)++l7).length) (
some ((l3++l4)++l7)))))))))) fun l11 =>
ob (J0 n l11) fun(l12,r2) =>
some (l12,r2))
def rH (n:Nat) (l1:List (Int × Int)):(Int × List (Int × Int))→Option ((Int × List (Int × Int)) ⊕ ((Int) ⊕ (List (Int × Int)))):=fun(v1,l2) =>
br (decide (v1<(l1.length:Int))) (
gd (bV v1 l1.length) (
ob (l1[v1.toNat]?) fun(x3,x4) =>
gd (decide ((l1.length:Int)≠0)) (
gd (bV (Int.tmod (IntKind.wrap .i64 (v1+1)) (l1.length:Int)) l1.length) (
ob (l1[(Int.tmod (IntKind.wrap .i64 (v1+1)) (l1.length:Int)).toNat]?) fun(x14,x15) =>
ob (α:=(Int) ⊕ (List (Int × Int))) (
ob (Ll n x3 x4 x14 x15) fun(l3,r0) =>
br (!decide (r0=0)) (
some (.inl r0)) (
ob (Lz n l2 l3) fun(l4,r1) =>
br (!decide (r1=0)) (
some (.inl r1)) (
some (.inr l4)))) fun r2=>match r2 with
| .inl v2 =>
some (.inr (.inl v2))
| .inr l5 =>
some (.inl (IntKind.wrap .i64 (v1+1),l5)))))) (
some (.inr (.inr l2)))
def GH (n:Nat) (l1:List (Int × Int)):Option (List (Int × Int) × Int) :=
ob (FK n l1) fun r0 =>
br (!decide (r0=0)) (
some ([],r0)) (
ob (
some ()) fun _ =>
ob (α:=(Int) ⊕ (List (Int × Int))) (
ob (α:=(Int) ⊕ (List (Int × Int))) (
cq (rH n l1) n (0,([]:List (Int × Int)))) fun r1=>match r1 with
| .inl v1 =>
some (.inl v1)
| .inr l2 =>
some (.inr l2)) fun r2=>match r2 with
| .inl v2 =>
some ([],v2)
| .inr l3 =>
some (l3,0))
def vB (_:Nat) (l1:List (Int × Int)) (l5:List (Int × Int)):Int→Option ((Int) ⊕ ((Unit) ⊕ (Unit))):=fun v11 =>
br (decide (v11<(l1.length:Int))) (
gd (bV v11 l1.length) (
ob (l1[v11.toNat]?) fun(x31,x32) =>
gd (bV v11 l5.length) (
ob (l5[v11.toNat]?) fun(x37,x38) =>
br (!(decide (x31=x37) && decide (x32=x38))) (
some (.inr (.inl ()))) (
some (.inl (IntKind.wrap .i64 (v11+1))))))) (
some (.inr (.inr ())))
def HH (n:Nat) (l1:List (Int × Int)) (l5:List (Int × Int)):Option (Bool) :=
br (!decide ((l1.length:Int)=(l5.length:Int))) (
some false) (
ob (α:=(Unit) ⊕ (Unit)) (
cq (vB n l1 l5) n 0) fun r42=>match r42 with
| .inl _ =>
some false
| .inr _ =>
some true)
def rQ (_:Nat) (l1:List (Int × Int)) (x10:Int) (x11:Int):(List (Int × Int) × List (Int × Int) × Int)→Option ((List (Int × Int) × List (Int × Int) × Int) ⊕ (List (Int × Int) × List (Int × Int))):=fun(l2,l3,v1) =>
br (decide (v1<(l1.length:Int))) (
gd (bV v1 l1.length) (
ob (l1[v1.toNat]?) fun(x3,x4) =>
gd (lim (l2++[(IntKind.wrap .i64 (x3+(IntKind.wrap .i64 x10)),IntKind.wrap .i64 (x4+(IntKind.wrap .i64 x11)))]).length) (
gd (lim (l3++[(x4,x3)]).length) (
some (.inl ((l2++[(IntKind.wrap .i64 (x3+(IntKind.wrap .i64 x10)),IntKind.wrap .i64 (x4+(IntKind.wrap .i64 x11)))]),(l3++[(x4,x3)]),IntKind.wrap .i64 (v1+1))))))) (
some (.inr (l2,l3)))
def LM (n:Nat) (l10:List (Nat)) (x5:Int) (x6:Int) (x7:Nat) (x8:Bool) (x9:Bool) (x10:Int) (x11:Int) (x12:Int) (x13:Int):Option (Bool) :=
ob (LG n) fun r2 =>
br (!r2) (
some false) (
ob (J1 n l10 x5 x6 x7 x8 x9) fun l1 =>
ob (some (IntKind.wrap .i64 ((IntKind.wrap .i64 x5)+(Int.tmod (IntKind.wrap .i64 x12) 3000)))) fun y0 =>
ob (some (IntKind.wrap .i64 ((IntKind.wrap .i64 x6)+(Int.tmod (IntKind.wrap .i64 x13) 3000)))) fun y1 =>
ob (EN n l1 y0 y1) fun(r1,r3) =>
ob (I5 n l1) fun(r0,r4) =>
ob (GH n l1) fun(l7,r5) =>
ob (I9 n l1) fun(l2,r6) =>
ob (I9 n l2) fun(l11,r7) =>
ob (
br (!decide (r3=0)) (
some true) (
br (!decide (r4=0)) (
some true) (
br (!decide (r5=0)) (
some true) (
br (!decide (r6=0)) (
some true) (
br (!decide (r7=0)) (
some true) (
ob (H3 n l11 l1) fun r8 =>
br (!r8) (
some true) (
br (!((decide (r0<0)) == x9)) (
some true) (
some (decide (r0=0)))))))))) fun v1 =>
br (v1) (
some false) (
ob (
cq (rQ n l1 x10 x11) n (([]:List (Int × Int)),([]:List (Int × Int)),0)) fun(l8,l9) =>
gd (bV 0 3) (
ob (([(l8,IntKind.wrap .i64 (y0+(IntKind.wrap .i64 x10)),IntKind.wrap .i64 (y1+(IntKind.wrap .i64 x11)),1),(l9,y1,y0,-1),(l2,y0,y1,-1)]:List (List (Int × Int) × Int × Int × Int))[(0:Int).toNat]?) fun(l3,x3,x4,x14) =>
ob (EN n l3 x3 x4) fun(r9,r10) =>
ob (GH n l3) fun(l12,r11) =>
ob (
br (!decide (r9=r1)) (
some true) (
br (!decide (r10=0)) (
some true) (
br (!decide (r11=0)) (
some true) (
ob (HH n l7 l12) fun r12 =>
br (!r12) (
some true) (
ob (Hk n l3 (IntKind.wrap .i64 (x14*r0))) fun r13 =>
br (!r13) (
some true) (
ob (BI n l3) fun r14 =>
ob (BI n l1) fun r15 =>
some (!(r14 == r15)))))))) fun v2 =>
br (v2) (
some false) (
gd (bV 1 3) (
ob (([(l8,IntKind.wrap .i64 (y0+(IntKind.wrap .i64 x10)),IntKind.wrap .i64 (y1+(IntKind.wrap .i64 x11)),1),(l9,y1,y0,-1),(l2,y0,y1,-1)]:List (List (Int × Int) × Int × Int × Int))[(1:Int).toNat]?) fun(l4,x15,x16,x17) =>
ob (EN n l4 x15 x16) fun(r16,r17) =>
ob (GH n l4) fun(l13,r18) =>
ob (
br (!decide (r16=r1)) (
some true) (
br (!decide (r17=0)) (
some true) (
br (!decide (r18=0)) (
some true) (
ob (HH n l7 l13) fun r19 =>
br (!r19) (
some true) (
ob (Hk n l4 (IntKind.wrap .i64 (x17*r0))) fun r20 =>
br (!r20) (
some true) (
ob (BI n l4) fun r21 =>
ob (BI n l1) fun r22 =>
some (!(r21 == r22)))))))) fun v3 =>
br (v3) (
some false) (
gd (bV 2 3) (
ob (([(l8,IntKind.wrap .i64 (y0+(IntKind.wrap .i64 x10)),IntKind.wrap .i64 (y1+(IntKind.wrap .i64 x11)),1),(l9,y1,y0,-1),(l2,y0,y1,-1)]:List (List (Int × Int) × Int × Int × Int))[(2:Int).toNat]?) fun(l5,x18,x19,x20) =>
ob (EN n l5 x18 x19) fun(r23,r24) =>
ob (GH n l5) fun(l14,r25) =>
ob (
br (!decide (r23=r1)) (
some true) (
br (!decide (r24=0)) (
some true) (
br (!decide (r25=0)) (
some true) (
ob (HH n l7 l14) fun r26 =>
br (!r26) (
some true) (
ob (Hk n l5 (IntKind.wrap .i64 (x20*r0))) fun r27 =>
br (!r27) (
some true) (
ob (BI n l5) fun r28 =>
ob (BI n l1) fun r29 =>
some (!(r28 == r29)))))))) fun v4 =>
br (v4) (
some false) (
some true))))))))
end Go.Proofs.YthmekkhpddehjaaGreat
end
