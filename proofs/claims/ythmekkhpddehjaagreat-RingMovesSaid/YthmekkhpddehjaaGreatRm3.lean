/- A part of the proof. -/
import Derived.Test.YthmekkhpddehjaaGreatRm2
import Derived.ChangeStays
import Derived.ChangeShapes
import Derived.OpenShut
import Derived.RowKit
import Derived.Shelf.Spec.BitsCarry
import Derived.Test.YthmekkhpddehjaaGreatRows
import Derived.ProofKit
import Derived.Stop.Joined
import Derived.Shelf.SlIterI.Nil
import Derived.Shelf.SortM.Plain
import Derived.Shelf.SortM.SortNone
import Derived.Ground.GgzProg
import Derived.Ground.SlgmProg
import Derived.Test.YthmekkhpddehjaaGreatProg
section
namespace Go.Ab
open Go
structure Sem where
 run:Hand→Option Nat→Tm→AMem→(AExit→Tm→AMem→Bool)→Bool
noncomputable def ie (e:AExit) (a:Bool) (b:Nat→Bool) (c:Bool):Bool:=AExit.rec (motive:=fun _=>Bool) a b c e
noncomputable def Dw (S:Sem):Nat→Hand→Option Nat→Tm→AMem→(AExit→Tm→AMem→Bool)→Bool :=
 Nat.rec (fun _ _ _ _ _=>false) fun _ ih H ro t m K=>S.run H ro t m fun e t m=>ie e (ih H ro t m K) (fun id=>K (.exit id) t m) (K .ret t m)
noncomputable def oW (s:LoopState) (ready busy other:Bool):Bool:=LoopState.rec (motive:=fun _=>Bool) ready busy other other s
noncomputable def pY (ro:Option Nat) (m:AMem) (x:Bool):Bool:=Option.rec (motive:=fun _=>Bool) x (fun l=>qB m l fun _=>x) ro
noncomputable def Fq {α:Type} (o:Option α):Bool:=Option.rec (motive:=fun _=>Bool) true (fun _=>false) o
noncomputable def Jh (E:Env) (H:Hand) (f:Fn) (first captured:Array Value) (l:Nat) (m:AMem) (K:Value→AMem→Bool):Bool :=
 Fn.rec (motive:=fun _=>Bool) (fun g=>dU (Fq (E.cE g)) (jt first.toList [.func (.yield l) #[] #[]] fun ars=>jt ars captured.toList fun ars=>H.call g ars m K) false) (fun _=>false) (fun _ _=>false) (fun _ _ _ _=>false) (fun _=>false) f
noncomputable def jf (E:Env) (n:Nat) (fn:FuncId):Code→Sem
 | .skip=>⟨fun _ _ t m K=>K .normal t m⟩
 | .label _=>⟨fun _ _ t m K=>K .normal t m⟩
 | .exit id=>⟨fun _ _ t m K=>K (.exit id) t m⟩
 | .ret=>⟨fun _ _ t m K=>K .ret t m⟩
 | .seq a b=>⟨fun H ro t m K=>(jf E n fn a).run H ro t m fun e t m=>ie e ((jf E n fn b).run H ro t m K) (fun id=>K (.exit id) t m) (K .ret t m)⟩
 | .cond x a b=>⟨fun H ro t m K=>(dx E x).run t fun v=>pf v (fun c=>dU c ((jf E n fn a).run H ro t m K) ((jf E n fn b).run H ro t m K)) false⟩
 | .block id a=>⟨fun H ro t m K=>(jf E n fn a).run H ro t m fun e t m=>ie e (K .normal t m) (fun id'=>dU (Nat.beq id' id) (K .normal t m) (K (.exit id') t m)) (K .ret t m)⟩
 | .scope a=>⟨fun H ro t m K=>(jf E n fn a).run H ro t m K⟩
 | .loop a=>⟨fun H ro t m K=>Dw (jf E n fn a) 1000000 H ro t m K⟩
 | .region _ ops draw=>⟨fun H _ t m K=>(Jg E n ops draw).run H t m fun t m=>K .normal t m⟩
 | .rangeFunc f params assign body=>⟨fun H ro t m K=>pY ro m ((dx E f).run t fun fv=>DE fv fun g first captured =>
   db m (.loop { state:=.ready,pending:=none,fn:=fn,tmps:=t,n:=n,params:=params,assign:=assign,body:=body}) fun l m1=>Jh E H g first captured l m1 fun _ m2 =>
    qB m2 l fun r=>ALoop.rec (motive:=fun _=>Bool) (fun state pending fn' tmps' n' params' assign' body'=>oW state
     (cW m2 l (.loop ⟨.exhausted,pending,fn',tmps',n',params',assign',body'⟩) fun m3=>Option.rec (motive:=fun _=>Bool) (K .normal t m3) (fun c=>Code.rec (motive:=fun _=>Bool) false (fun _ _ _=>false) (fun _ _ _ _=>false) (fun _ _ _ _ _=>false) (fun _ _ _=>false) (fun _ _=>false) (fun _ _ _ _ _ _=>false) (fun id=>K (.exit id) t m3) (fun _ _=>false) (fun _=>false) (fun _=>false) (K .ret t m3) (fun _=>false) c) pending)
     false
     (cW m2 l (.loop ⟨.exhausted,pending,fn',tmps',n',params',assign',body'⟩) fun m3=>Option.rec (motive:=fun _=>Bool) (K .normal t m3) (fun c=>Code.rec (motive:=fun _=>Bool) false (fun _ _ _=>false) (fun _ _ _ _=>false) (fun _ _ _ _ _=>false) (fun _ _ _=>false) (fun _ _=>false) (fun _ _ _ _ _ _=>false) (fun id=>K (.exit id) t m3) (fun _ _=>false) (fun _=>false) (fun _=>false) (K .ret t m3) (fun _=>false) c) pending)) r)⟩
 | .goto _=>⟨fun _ _ _ _ _=>false⟩
 | .refuse _=>⟨fun _ _ _ _ _=>false⟩
section
variable {E : Env} {n : Nat} {fn : FuncId} {ro : Option Nat} {Q : AExit → Tm → AMem → Prop} {t : Tm} {m : AMem}
def H0 (E:Env) (n:Nat) (fn:FuncId) (ro:Option Nat) (t:Tm) (l:Nat) (Q:AExit→Tm→AMem→Prop) (m2:AMem):Prop :=
 ∃r,m2.get l=some (.loop r)∧r.state≠.busy∧((r.pending=none∧Q .normal t (m2.set l (.loop { r with state:=.exhausted})))∨(∃c,r.pending=some c∧bE E n fn ro c Q t (m2.set l (.loop { r with state:=.exhausted}))))
theorem bE.rangeFunc {f:Operand} {params:Array Tmp} {assign body:Code} {g:FuncId} {first captured:Array Value} (hf:ay E t f=some (.func (.func g) first captured)) (ha:eZ E ⟨t,n,fn,ro⟩ m f=true)
  (h:aG E g (first.toList++[.func (.yield m.next) #[] #[]]++captured.toList) (m.alloc (.loop { state:=.ready,pending:=none,fn:=fn,tmps:=t,n:=n,params:=params,assign:=assign,body:=body})) (fun _ m2=>H0 E n fn ro t m.next Q m2)) :
  bE E n fn ro (.rangeFunc f params assign body) Q t m:=by
 obtain⟨v,m2,⟨k1,h1⟩,r,hr,hb,hq⟩:=h;rcases hq with⟨hp,hq⟩|⟨c,hp,e,t',m',⟨k2,h2⟩,hq⟩
 ·refine⟨_,_,_,aX (k:=k1) ?_,hq⟩;cases hs:r.state with
  | busy=>exact absurd hs hb
  | _=>simp only[step,hf,ha,h1,hr,hs,hp]
 ·refine⟨_,_,_,aX (k:=max k1 k2) ?_,hq⟩;obtain⟨state,pending,fn',tmps',n',params',assign',body'⟩:=r;have hp':pending=some c:=hp;subst hp';have h2':=ff (Nat.le_max_right k1 k2) h2;cases state with
  | busy=>exact absurd rfl hb
  | _=>simp only[step,hf,ha,ff (Nat.le_max_left k1 k2) h1,hr,h2']
def MA (ro:Option Nat) (m:AMem):Bool :=
 match ro with
 | none=>true
 | some l=>match m.get l with
  | some (.loop _)=>true
  | _=>false
theorem oB {x:Bool} (h:pY ro m x=true):x=true∧MA ro m=true:=by
 cases ro with
 | none=>exact⟨h,rfl⟩
 | some l =>
  obtain⟨r,h1,h2⟩:=gG h;exact⟨h2,by simp only[MA,h1]⟩
theorem eE {e:AExit} {a:Bool} {b:Nat→Bool} {c:Bool} (h:ie e a b c=true):(e = .normal∧a=true)∨(∃id,e = .exit id∧b id=true)∨(e = .ret∧c=true):=by
 cases e with
 | normal=>exact .inl ⟨rfl,h⟩
 | exit id=>exact .inr (.inl ⟨id,rfl,h⟩)
 | ret=>exact .inr (.inr ⟨rfl,h⟩)
theorem wg {H:Hand} {a:Code} {S:Sem} (hS:∀{t:Tm} {m:AMem} {K:AExit→Tm→AMem→Bool},S.run H ro t m K=true→bE E n fn ro a (fun e t m=>K e t m=true) t m) {K:AExit→Tm→AMem→Bool} :
  ∀(k:Nat) {t:Tm} {m:AMem},Dw S k H ro t m K=true→oc E n fn ro a (fun e t m=>K e t m=true) t m
 | 0,t,m,h=>by cases h
 | k+1,t,m,h=>by
  have h':(S.run H ro t m fun e t m=>ie e (Dw S k H ro t m K) (fun id=>K (.exit id) t m) (K .ret t m))=true:=h;refine .round ((hS h').mono fun e t m h=>?_);rcases eE h with⟨rfl,h⟩|⟨id,rfl,h⟩|⟨rfl,h⟩
  ·exact wg hS k h
  ·exact h
  ·exact h
theorem yQ {c:Code} {a:Nat→Bool} {b:Bool} (h:Code.rec (motive:=fun _=>Bool) false (fun _ _ _=>false) (fun _ _ _ _=>false) (fun _ _ _ _ _=>false) (fun _ _ _=>false) (fun _ _=>false) (fun _ _ _ _ _ _=>false) a (fun _ _=>false) (fun _=>false) (fun _=>false) b (fun _=>false) c=true) :
  (∃id,c = .exit id∧a id=true)∨(c = .ret∧b=true):=by
 cases c<;>first|exact .inl ⟨_,rfl,h⟩|exact .inr ⟨rfl,h⟩|cases h
theorem qo {H:Hand} (hH:EO E H):∀(c:Code) {ro:Option Nat} {t:Tm} {m:AMem} {K:AExit→Tm→AMem→Bool},(jf E n fn c).run H ro t m K=true→bE E n fn ro c (fun e t m=>K e t m=true) t m:=by
 intro c
 induction c with
 | skip=>intro ro t m K h; exact .skip h
 | label l=>intro ro t m K h; exact .label h
 | exit id=>intro ro t m K h; exact .exit h
 | ret=>intro ro t m K h; exact .ret h
 | seq a b iha ihb =>
  intro ro t m K h;refine .seq ((iha (K:=fun e t m=>ie e ((jf E n fn b).run H ro t m K) (fun id=>K (.exit id) t m) (K .ret t m)) h).mono fun e t m h=>?_);rcases eE h with⟨rfl,h⟩|⟨id,rfl,h⟩|⟨rfl,h⟩
  ·exact ihb h
  ·exact h
  ·exact h
 | cond x a b iha ihb =>
  intro ro t m K h;obtain⟨v,h1,h⟩:=aZ (x:=x) h;obtain⟨c,rfl,h⟩:=iQ h;refine .cond h1 (fun hc=>?_) (fun hc=>?_)
  ·subst hc; exact iha h
  ·subst hc; exact ihb h
 | block id a ih =>
  intro ro t m K h;refine .block ((ih (K:=fun e t m=>ie e (K .normal t m) (fun id'=>dU (Nat.beq id' id) (K .normal t m) (K (.exit id') t m)) (K .ret t m)) h).mono fun e t m h=>?_);rcases eE h with⟨rfl,h⟩|⟨id',rfl,h⟩|⟨rfl,h⟩
  ·exact h
  ·simp only[e7];rcases cF h with⟨h1,h⟩|⟨h1,h⟩
   ·rw[if_pos (Nat.eq_of_beq_eq_true h1)]; exact h
   ·rw[if_neg (Nat.ne_of_beq_eq_false h1)]; exact h
  ·exact h
 | scope a ih=>intro ro t m K h; exact .scope (ih h)
 | loop a ih=>intro ro t m K h; exact .loop (wg (fun h=>ih h) 1000000 h)
 | region id ops draw=>intro ro t m K h; exact GF hH (fun t m h=>h) h
 | rangeFunc f params assign body iha ihb =>
  intro ro t m K h;obtain⟨h,hro⟩:=oB h;obtain⟨fv,h1,h⟩:=aZ (x:=f) h;have g:=pH h; clear h; obtain⟨g,first,captured,rfl,h⟩:=g
  rw[cj] at h;cases g with
  | func g =>
   have g':=bo h; clear h; obtain⟨hp,h⟩:=g';rw[eR,eR] at h;have hp':(E.cE g).isNone=true:=by cases hg:E.cE g with
    | none=>rfl
    | some p=>rw[hg] at hp; cases hp
   have hro':eZ E ⟨t,n,fn,ro⟩ m f=true:=by
    unfold eZ;simp only[h1,hp',Bool.true_and];exact hro
   refine .rangeFunc h1 hro' ((hH.1 h).mono fun v m2 h=>?_);obtain⟨r,hr,h⟩:=gG h;refine⟨r,hr,?_⟩;obtain⟨state,pending,fn',tmps',n',params',assign',body'⟩:=r;have key:∀{x:Bool},(x=cW m2 m.next (.loop ⟨.exhausted,pending,fn',tmps',n',params',assign',body'⟩) fun m3=>Option.rec (motive:=fun _=>Bool) (K .normal t m3) (fun c=>Code.rec (motive:=fun _=>Bool) false (fun _ _ _=>false) (fun _ _ _ _=>false) (fun _ _ _ _ _=>false) (fun _ _ _=>false) (fun _ _=>false) (fun _ _ _ _ _ _=>false) (fun id=>K (.exit id) t m3) (fun _ _=>false) (fun _=>false) (fun _=>false) (K .ret t m3) (fun _=>false) c) pending)→x=true →
     ((pending=none∧K .normal t (m2.set m.next (.loop ⟨.exhausted,pending,fn',tmps',n',params',assign',body'⟩))=true)∨(∃c,pending=some c∧bE E n fn ro c (fun e t m=>K e t m=true) t (m2.set m.next (.loop ⟨.exhausted,pending,fn',tmps',n',params',assign',body'⟩)))):=by
    intro x hx hx';rw[hx,cQ] at hx';cases pending with
    | none=>exact .inl ⟨rfl,hx'⟩
    | some c =>
     rcases yQ hx' with⟨id,rfl,h⟩|⟨rfl,h⟩
     ·exact .inr ⟨_,rfl,.exit h⟩
     ·exact .inr ⟨_,rfl,.ret h⟩
   cases state with
   | busy=>cases h
   | ready=>exact⟨(by intro e; cases e),key rfl h⟩
   | done=>exact⟨(by intro e; cases e),key rfl h⟩
   | exhausted=>exact⟨(by intro e; cases e),key rfl h⟩
  | _=>cases h
 | goto l=>intro ro t m K h; cases h
 | refuse w=>intro ro t m K h; cases h
end
structure ResSem where
 run:Tm→AMem→(List Value→Bool)→Bool
noncomputable def Cz (E:Env):List ResultVar→ResSem
 | []=>⟨fun _ _ k=>k []⟩
 | .tmp i::rs=>⟨fun t m k=>(wK i).run t fun v=>(Cz E rs).run t m fun vs=>k (v::vs)⟩
 | .cell a ty::rs=>⟨fun t m k=>(wK a).run t fun p=>(zJ E.P ty).run p m fun v=>(Cz E rs).run t m fun vs=>k (v::vs)⟩
theorem oX {E:Env} {t:Tm} {m:AMem}:∀{rs:List ResultVar} {k:List Value→Bool},(Cz E rs).run t m k=true→∃vs,bY E t m rs=some vs∧k vs=true
 | [],k,h=>⟨[],rfl,h⟩
 | .tmp i::rs,k,h=>by
  have h':=qv (d:=i) h;obtain⟨vs,h1,h2⟩:=oX h';exact⟨_,by simp only[bY,h1,Option.map_some],h2⟩
 | .cell a ty::rs,k,h=>by
  have h':=qv (d:=a) h;obtain⟨v,h1,h'⟩:=wq h';obtain⟨vs,h2,h3⟩:=oX h';exact⟨_,by simp only[bY,h1,h2],h3⟩
noncomputable def Ix (vs:List Value) (k:Value→Bool):Bool :=
 List.rec (motive:=fun _=>Bool) (k (.tuple #[])) (fun v rest _=>List.rec (motive:=fun _=>Bool) (k v) (fun w rest' _=>k (.tuple ⟨v::w::rest'⟩)) rest) vs
theorem zH (vs:List Value) (k:Value→Bool):Ix vs k=k (gE vs):=by
 match vs with
 | []=>rfl
 | [v]=>rfl
 | v::w::rest=>rfl
noncomputable def yi (args:List Value):Nat→Tm→(Tm→Bool)→Bool :=
 List.rec (motive:=fun _=>Nat→Tm→(Tm→Bool)→Bool) (fun _ t k=>k t) (fun v _ ih i t k=>(zz i).run t v fun t=>fN (Nat.succ i) fun i=>ih i t k) args
theorem sb:∀(args:List Value) (i:Nat) (t:Tm) (k:Tm→Bool),i+args.length≤512→yi args i t k=k (Trie.ofList args i t)
 | [],i,t,k,_=>rfl
 | v::vs,i,t,k,h=>by
  have hi:i<512:=by simp at h; omega
  show(zz i).run t v (fun t=>fN (Nat.succ i) fun i=>yi vs i t k)=_
  rw[uT i hi,dn,sb vs (i+1) _ k (by simp at h; omega)]
  rfl
structure FunSem where
 run:Hand→List Value→AMem→(Value→AMem→Bool)→Bool
structure PSem where
 run:List Value→AMem→(Value→AMem→Bool)→Bool
def KK (E:Env) (F:FuncId→Option PSem):Prop:=∀{f:FuncId} {S:PSem},F f=some S→∃p,E.cE f=some p∧∀{args:List Value} {m:AMem} {K:Value→AMem→Bool},S.run args m K=true→∃v m',p.run args m=some (v,m')∧K v m'=true
noncomputable def zq (E:Env) (f:FuncId):FunSem :=
 match E.P.funcs[f]? with
 | some fn=>match fn.body,Nat.ble fn.ntmps 512 with
  | some c,true=>⟨fun H args m K=>dU (Nat.ble args.length fn.ntmps) (yi args 0 .nil fun t=>(jf E fn.ntmps f c).run H none t m fun e t m=>ie e ((Cz E fn.results.toList).run t m fun vs=>Ix vs fun v=>K v m) (fun _=>false) ((Cz E fn.results.toList).run t m fun vs=>Ix vs fun v=>K v m)) false⟩
  | _,_=>⟨fun _ _ _ _=>false⟩
 | none=>⟨fun _ _ _ _=>false⟩
noncomputable def Ik (E:Env) (F:FuncId→Option PSem) (f:FuncId):FunSem :=
 match F f with
 | some S=>⟨fun _ args m K=>S.run args m K⟩
 | none=>match E.cE f with
  | some p=>⟨fun H args m K=>Option.rec (motive:=fun _=>Bool) ((zq E f).run H args m K) (fun r=>Prod.rec (motive:=fun _=>Bool) (fun v m'=>fV v fun v=>fM m' fun m'=>K v m') r) (p.run args m)⟩
  | none=>zq E f
theorem aG.cE {E:Env} {f:FuncId} {p:Prim} {args:List Value} {m m':AMem} {v:Value} {R:Value→AMem→Prop} (hp:E.cE f=some p) (h:p.run args m=some (v,m')) (hR:R v m'):aG E f args m R:=by
 have hpa:kz E f args m=some (v,m'):=by
  unfold kz;rw[hp];exact h
 exact⟨v,m',aX (k:=0) (by simp only[step,hpa]),hR⟩
theorem vK {E:Env} {H:Hand} (hH:EO E H) {f:FuncId} {args:List Value} {m:AMem} (hpa:kz E f args m=none) {K:Value→AMem→Bool} (h:(zq E f).run H args m K=true):aG E f args m fun v m'=>K v m'=true:=by
 unfold zq at h
 split at h
 ·rename_i F hf
  split at h
  ·rename_i c hb hn;have g:=bo h; clear h; obtain⟨h1,h⟩:=g;have hle:=Nat.le_of_ble_eq_true h1;have hn':=Nat.le_of_ble_eq_true hn;rw[sb args 0 _ _ (by omega)] at h
   have hmax:max args.length F.ntmps=F.ntmps:=Nat.max_eq_right hle;refine .IN hpa hf hb ?_;rw[hmax];refine(qo hH c h).mono fun e t m h=>?_;rcases eE h with⟨rfl,h⟩|⟨id,rfl,h⟩|⟨rfl,h⟩
   ·obtain⟨vs,h2,h⟩:=oX h;rw[zH] at h;exact⟨fun id e=>(by cases e),vs,h2,h⟩
   ·cases h
   ·obtain⟨vs,h2,h⟩:=oX h;rw[zH] at h;exact⟨fun id e=>(by cases e),vs,h2,h⟩
  ·cases h
 ·cases h
theorem GR {E:Env} {F:FuncId→Option PSem} (hF:KK E F) {H:Hand} (hH:EO E H) {f:FuncId} {args:List Value} {m:AMem} {K:Value→AMem→Bool} (h:(Ik E F f).run H args m K=true):aG E f args m fun v m'=>K v m'=true:=by
 unfold Ik at h
 split at h
 ·rename_i S hS;obtain⟨p,hp,hS'⟩:=hF hS;obtain⟨v,m',h1,h2⟩:=hS' h;exact .cE hp h1 h2
 split at h
 ·rename_i p hp;simp only at h;cases he:p.run args m with
  | none =>
   rw[he] at h;exact vK hH (by unfold kz; rw[hp]; exact he) h
  | some r =>
   obtain⟨v,m'⟩:=r;rw[he] at h;simp only[zw,CC] at h;exact .cE hp he h
 ·rename_i hp;exact vK hH (by unfold kz; rw[hp]; rfl) h
noncomputable def iF (n:Nat):List Tmp→List Value→Tm→(Tm→Bool)→Bool
 | p::ps,v::vs,t,k=>(kU n (some p)).run t v fun t=>iF n ps vs t k
 | _,_,t,k=>k t
theorem lC {n:Nat}:∀{ps:List Tmp} {vs:List Value} {t:Tm} {k:Tm→Bool},iF n ps vs t k=true→∃t',dN n t ps vs=some t'∧k t'=true
 | p::ps,v::vs,t,k,h=>by
  have h':((kU n (some p)).run t v fun t=>iF n ps vs t k)=true:=by rw[iF] at h; exact h
  obtain⟨t',hp,h2⟩:=gY h';obtain⟨t'',h3,h4⟩:=lC h2;refine⟨t'',?_,h4⟩;unfold dN;unfold gA at hp;simp only at hp
  split at hp
  ·rename_i hb; cases hp; exact h3
  ·cases hp
 | [],vs,t,k,h=>⟨t,by unfold dN; rfl,by rw[iF] at h; exact h; intros; simp_all⟩
 | p::ps,[],t,k,h=>⟨t,by unfold dN; rfl,by rw[iF] at h; exact h; intros; simp_all⟩
noncomputable def BQ (E:Env) (H:Hand) (l:Nat) (args:List Value) (m:AMem) (K:Value→AMem→Bool):Bool :=
 qB m l fun r=>ALoop.rec (motive:=fun _=>Bool) (fun state _ fn tmps n params assign body=>oW state
  (dU (Nat.beq args.length params.size) (iF n params.toList args tmps fun t0=>(jf E n fn assign).run H (some l) t0 m fun e t1 m1=>ie e
   (qB m1 l fun r1=>ALoop.rec (motive:=fun _=>Bool) (fun state1 pending1 fn1 tmps1 n1 params1 assign1 body1=>oW state1
    (cW m1 l (.loop ⟨.busy,pending1,fn1,tmps1,n1,params1,assign1,body1⟩) fun m1'=>(jf E n fn body).run H (some l) t1 m1' fun e _ m2=>qB m2 l fun r2=>ALoop.rec (motive:=fun _=>Bool) (fun _ _ fn2 tmps2 n2 params2 assign2 body2 =>
     ie e (cW m2 l (.loop ⟨.ready,none,fn2,tmps2,n2,params2,assign2,body2⟩) fun m3=>K (.bool true) m3)
      (fun id=>cW m2 l (.loop ⟨.done,some (.exit id),fn2,tmps2,n2,params2,assign2,body2⟩) fun m3=>K (.bool false) m3)
      (cW m2 l (.loop ⟨.done,some .ret,fn2,tmps2,n2,params2,assign2,body2⟩) fun m3=>K (.bool false) m3)) r2)
    false false) r1)
   (fun _=>false) false) false)
  false false) r
theorem ku {s:LoopState} {a:Bool} (h:oW s a false false=true):s = .ready∧a=true:=by
 cases s<;>first|exact⟨rfl,h⟩|cases h
theorem AZ {E:Env} {H:Hand} (hH:EO E H) {l:Nat} {args:List Value} {m:AMem} {K:Value→AMem→Bool} (h:BQ E H l args m K=true):ql E l args m fun v m'=>K v m'=true:=by
 obtain⟨r,hr,h⟩:=gG h;obtain⟨state,pending,fn,tmps,n,params,assign,body⟩:=r;have g:=ku h; clear h; obtain⟨rfl,h⟩:=g;obtain⟨h1,h⟩:=bo h;obtain⟨t0,h2,h⟩:=lC h;obtain⟨e,t1,m1,⟨k1,h3⟩,h⟩:=qo hH assign h;rcases eE h with⟨rfl,h⟩|⟨id,rfl,h⟩|⟨rfl,h⟩
 ·obtain⟨r1,hr1,h⟩:=gG h;obtain⟨state1,pending1,fn1,tmps1,n1,params1,assign1,body1⟩:=r1;have g:=ku h; clear h; obtain⟨rfl,h⟩:=g;rw[cQ] at h;obtain⟨e,t2,m2,⟨k2,h4⟩,h⟩:=qo hH body h;obtain⟨r2,hr2,h⟩:=gG h;obtain⟨state2,pending2,fn2,tmps2,n2,params2,assign2,body2⟩:=r2;have hlen:¬args.length≠params.size:=by have:=Nat.eq_of_beq_eq_true h1; omega
  have hb:step E (run E (max k1 k2)) (.round l args m)=some (.val (.bool (eS e).isNone) (m2.set l (.loop ⟨if (eS e).isNone then .ready else .done,eS e,fn2,tmps2,n2,params2,assign2,body2⟩))):=by
   simp only[step,hr,if_neg hlen,h2,ff (Nat.le_max_left k1 k2) h3,hr1,ff (Nat.le_max_right k1 k2) h4,hr2]
  rcases eE h with⟨rfl,hz⟩|⟨id,rfl,hz⟩|⟨rfl,hz⟩
  ·rw[cQ] at hz;exact⟨_,_,aX (k:=max k1 k2) hb,hz⟩
  ·rw[cQ] at hz;exact⟨_,_,aX (k:=max k1 k2) hb,hz⟩
  ·rw[cQ] at hz;exact⟨_,_,aX (k:=max k1 k2) hb,hz⟩
 ·cases h
 ·cases h
noncomputable def hand (E:Env) (F:FuncId→Option PSem):Nat→Hand :=
 Nat.rec ⟨fun _ _ _ _=>false,fun _ _ _ _=>false⟩ fun _ ih=>⟨fun f args m K=>(Ik E F f).run ih args m K,fun l args m K=>BQ E ih l args m K⟩
theorem uo {E:Env} {F:FuncId→Option PSem} (hF:KK E F):∀n,EO E (hand E F n)
 | 0=>⟨fun h=>(by cases h),fun h=>(by cases h)⟩
 | n+1=>⟨fun h=>GR hF (uo hF n) h,fun h=>AZ (uo hF n) h⟩
theorem uJ {E:Env} {F:FuncId→Option PSem} (hF:KK E F) {n:Nat} {f:FuncId} {args:List Value} {m:AMem} {K:Value→AMem→Bool} (h:(hand E F n).call f args m K=true):∃fuel v m',run E fuel (.call f args m)=some (.val v m')∧K v m'=true:=by
 obtain⟨v,m',⟨k,h1⟩,h2⟩:=(uo hF n).1 h;exact⟨k,v,m',h1,h2⟩
noncomputable def KE (n:Nat) (v:Value) (m:AMem):Bool:=pf v (fun b=>dU b (Nat.ble n m.wl) false) false
theorem xa {E:Env} {F:FuncId→Option PSem} (hF:KK E F) {n g:Nat} {f:FuncId} {args:List Value} {m:AMem} (h:(hand E F n).call f args m (KE g)=true):∃fuel m',run E fuel (.call f args m)=some (.val (.bool true) m')∧g≤m'.wl:=by
 obtain⟨k,v,m',h1,h2⟩:=uJ hF h;obtain⟨b,rfl,h2⟩:=iQ h2;obtain⟨rfl,h2⟩:=bo h2;exact⟨k,m',h1,Nat.le_of_ble_eq_true h2⟩
section
variable {E : Env} {n : Nat} {t : Tm} {m : AMem} {K : Tm → AMem → Prop} {ops : Array Oper} {os : List Oper} {ty : TypeId} {p : String} {af : Array Edge} {d : Nat}
variable {L : Tm → AMem → List Note → Prop} {ns : List Note}
variable {a b r v : Value} {x y : Operand} {e e' : TypeId}
theorem Jc (h:ay E t x=some v) (K':Value→AMem→Prop):bt E t m (.move x) K'=K' v m:=by rw[FN,h]; rfl
theorem EC (h:ay E t x=some v) (K':Value→AMem→Prop):bt E t m (.assign x) K'=K' v m:=by rw[Bw,h]; rfl
theorem FW {c:Operand} (hc:ay E t c=some (.bool true)) (h:ay E t x=some v) (K':Value→AMem→Prop):bt E t m (.pick c x y) K'=K' v m:=by rw[zC,hc,xN,h]; rfl
theorem Gs {c:Operand} (hc:ay E t c=some (.bool false)) (h:ay E t y=some v) (K':Value→AMem→Prop):bt E t m (.pick c x y) K'=K' v m:=by rw[zC,hc,uX,h]; rfl
theorem Lq (h:ay E t x=some v) (K':Value→AMem→Prop):bt E t m (.box e x) K'=K' (ptr m.next 0) (m.alloc (.cells v.cells.toList .own)):=by rw[Iu,h]; rfl
theorem KN {op:BinOp} (h:ay E t x=some a) (h':ay E t y=some b) (hr:bM op e E.P a b=some r) (K':Value→AMem→Prop):bt E t m (.binOp op e x y e') K'=K' r m:=by rw[B3,h,dI,h',dI,hr]; rfl
theorem eg {op:UnOp} (h:ay E t x=some a) (hr:zD op a=some r) (K':Value→AMem→Prop):bt E t m (.unOp op e x) K'=K' r m:=by rw[Fv,h,dI,hr]; rfl
theorem IL (h:ay E t x=some a) (hr:fb E.P e e' a=some r) (K':Value→AMem→Prop):bt E t m (.convert e e' x) K'=K' r m:=by rw[yl,h,dI,hr]; rfl
theorem Ca (h:ay E t x=some a) (hr:dg E.P e a m=some r) (K':Value→AMem→Prop):bt E t m (.load e x) K'=K' r m:=by rw[Gb,h,dI,hr]; rfl
theorem FJ {m':AMem} (h:ay E t x=some a) (h':ay E t y=some b) (hr:eC E.P e a b m=some m') (K':Value→AMem→Prop):bt E t m (.store e x y) K'=K' undef m':=by rw[DH,h,dI,h',dI,hr]; rfl
theorem uR {f:Nat} (h:ay E t x=some a) (hr:aL E.P e a f=some r) (K':Value→AMem→Prop):bt E t m (.fieldAddr e x f) K'=K' r m:=by rw[tF,h,dI,hr]; rfl
theorem xw (h:ay E t x=some a) (h':ay E t y=some b) (hr:bI E.P e a b=some r) (K':Value→AMem→Prop):bt E t m (.indexAddr e x y) K'=K' r m:=by rw[uD,h,dI,h',dI,hr]; rfl
theorem FM (h:ay E t x=some a) (h':ay E t y=some b) (hr:eQ E.P e a b=some r) (K':Value→AMem→Prop):bt E t m (.index e x y) K'=K' r m:=by rw[CE,h,dI,h',dI,hr]; rfl
theorem AI {i:Nat} {vs:Array Value} (h:ay E t x=some (.tuple vs)) (hr:vs[i]? = some r) (K':Value→AMem→Prop):bt E t m (.extract x i) K'=K' r m:=by rw[yN h,hr]; rfl
theorem lA {l h k:Option Operand} {l' h' k':Option Value} (h1:ay E t x=some a) (h2:du E t l=some l') (h3:du E t h=some h') (h4:du E t k=some k') (hr:bO E.P e a l' h' k' m=some r) (K':Value→AMem→Prop):bt E t m (.slice e x l h k) K'=K' r m:=by rw[DN h1 h2 h3 h4,hr]; rfl
theorem G5 {z:Value} (hz:bA E.P e=some z) (hp:bq z=true) (K':Value→AMem→Prop):bt E t m (.alloc e) K'=K' (ptr m.next 0) (m.alloc (.cells z.cells.toList .own)):=by
 rw[CT]; simp only[cO,hz,hp,if_true]; rfl
theorem dM {bi:Builtin} {ars:Array Operand} {ts:Array TypeId} {vs:List Value} {m':AMem} (h:bm E t ars.toList=some vs) (hr:aY E.P bi ts vs m=some (r,m')) (K':Value→AMem→Prop):bt E t m (.call ⟨.builtin bi,ars,ts⟩) K'=K' r m':=by rw[yo,h,dI,hr]; rfl
theorem Dt {op:Op} {m':AMem} (hc:k9 op=none) (hr:cO E t m op=some (r,m')) (K':Value→AMem→Prop):bt E t m op K'=K' r m':=by
 unfold bt; rw[hc]; simp only[hr]; rfl
theorem LN {ops:Array Oper} {t:Tm} {dst:Option Tmp} {o:Op} {ty:TypeId} {p:String} {a:Array Edge} {j d:Nat} {b c:Bool} (hd:(ops[j]?).bind (·.dst)=some d) (h:t.at d = .bool c):bl ops ⟨dst,o,ty,p,a,some (j,b)⟩ t=(c == b):=by
 rw[EE]; unfold cP; rw[hd]; simp only[zy h]
end
section
variable {E : Env} {n : Nat} {fn : FuncId} {ro : Option Nat} {Q : AExit → Tm → AMem → Prop} {t : Tm} {m : AMem} {w : Nat}
def iy (E:Env) (n:Nat) (ops:Array Oper) (K:Tm→AMem→Prop):List Oper→Tm→AMem→Nat→Prop
 | [],t,m,w=>K t (m.ww w)
 | o::os,t,m,w =>
  if bl ops o t then(∀b,aK E t o.op=some b→b<m.next)∧bt E t (m.ww m.next) o.op fun v m'=>Ci (gA n t o.dst v) fun t'=>iy E n ops K os t' m' (min w m'.wl)
  else Ci (gA n t o.dst undef) fun t'=>iy E n ops K os t' m w
theorem rW {r:Option Nat} {x y:Nat} {z:Option Nat} {u:Nat→Bool} (h:∀b,r=some b→b<y):cZ { read:=r,wl:=x,next:=y,wrote:=z,kept:=u}=true:=by
 cases r with
 | none=>rfl
 | some b =>
  have:=h b rfl
  show Nat.blt b y=true
  rw[Nat.blt_eq]; exact this
theorem lr {ops:Array Oper} {K:Tm→AMem→Prop}:∀{os:List Oper} {t:Tm} {m:AMem} {w:Nat} {ns:List Note},iy E n ops K os t m w→ns.all cZ=true→dO E n ops (fun t m ns=>ns.all cZ=true∧K t m) os t (m.ww w) ns
 | [],t,m,w,ns,h,hn=>⟨by simpa using hn,h⟩
 | o::os,t,m,w,ns,h,hn=>by
  simp only[iy] at h;simp only[dO]
  split at h
  ·rename_i hw;rw[if_pos hw];obtain⟨h1,h2⟩:=h;refine h2.A.mono fun v m' hv=>?_;obtain⟨t',hp,h3⟩:=hv.A;refine⟨t',hp,?_⟩;have:=lr (ns:={ read:=aK E t o.op,wl:=m'.wl,next:=m.next,wrote:=dK E t o.op,kept:=fQ m m'}::ns) h3 (by rw[List.all_cons,hn,Bool.and_true]; exact rW h1)
   exact this
  ·rename_i hw;rw[if_neg hw];obtain⟨t',hp,h2⟩:=h.A;exact⟨t',hp,lr h2 (by rw[List.all_cons,hn]; rfl)⟩
theorem bE.Kl {id:Nat} {ops:Array Oper} (hp:df ops=some []) (h:∀K:Tm→AMem→Prop,(∀t m,Q .normal t m→K t m)→iy E n ops K ops.toList t m m.wl):bE E n fn ro (.region id ops true) Q t m:=by
 refine .draw hp ?_;have h1:=lr (ns:=[]) (h (fun t m=>Q .normal t m) fun _ _ h=>h) rfl;have mono:∀{os:List Oper} {t:Tm} {m:AMem} {ns:List Note},dO E n ops (fun t m ns=>ns.all cZ=true∧Q .normal t m) os t m ns→dO E n ops (fun t m ns=>(([]:List (Nat × Nat)).all (dw ns ops) && ns.all cZ)=true∧Q .normal t m) os t m ns:=by
  intro os t m ns h
  simpa using h
 exact mono h1
variable {K : Tm → AMem → Prop} {ops : Array Oper} {os : List Oper} {ty : TypeId} {p : String} {af : Array Edge} {d : Nat} {g : Option (Nat × Bool)} {v a b r : Value} {x y : Operand} {e : TypeId}
theorem E0 {xs:List Operand} {vs:List Value} (h:ay E t x=some v) (hs:bm E t xs=some vs):bm E t (x::xs)=some (v::vs):=by simp only[bm,h,hs]
end
end Go.Ab
end

section
namespace Go.Ab.W
open Go Go.Ab
abbrev Fs:=List (Nat × Value)
def lk:Fs→Nat→Option Value
 | [],_=>none
 | p::l,i=>match Nat.beq p.1 i with
  | true=>some p.2
  | false=>lk l i
def Fr (t:Tm) (fs:Fs):Prop:=∀i v,lk fs i=some v→t.at i=v
theorem Fr.nil (t:Tm):Fr t []:=fun i v h=>by cases h
theorem Fr.set {t:Tm} {fs:Fs} {d:Nat} {v:Value} (h:Fr t fs):Fr (Trie.set t d v) ((d,v)::fs):=by
 intro i x hx;unfold lk at hx;rw[at_set]
 split at hx
 ·rename_i e;have:d=i:=Nat.eq_of_beq_eq_true e;rw[if_pos this.symm]; exact Option.some.inj hx
 ·rename_i e;have:d≠i:=Nat.ne_of_beq_eq_false e;rw[if_neg (Ne.symm this)]; exact h i x hx
def sub (fs:Fs):Fs→Prop
 | []=>True
 | p::l=>lk fs p.1=some p.2∧sub fs l
theorem Fr.sub {t:Tm} {fs:Fs}:∀{fs':Fs},Fr t fs→sub fs fs'→Fr t fs'
 | [],_,_=>Fr.nil t
 | p::l,h,hs=>by
  intro i v hv;unfold lk at hv
  split at hv
  ·rename_i e;have:p.1=i:=Nat.eq_of_beq_eq_true e;subst this;cases hv;exact h _ _ hs.1
  ·exact Fr.sub h hs.2 i v hv
def ev (E:Env) (fs:Fs):Operand→Option Value
 | .tmp i=>lk fs i
 | .const v=>match bq v with
  | true=>some v
  | false=>none
 | .global g=>match Nat.blt g E.glob with
  | true=>some (ptr g 0)
  | false=>none
 | .func f=>some (.func (.func f) #[] #[])
def gQ (E:Env) (fs:Fs):List Operand→Option (List Value)
 | []=>some []
 | x::xs=>match ev E fs x with
  | some v=>match gQ E fs xs with
   | some vs=>some (v::vs)
   | none=>none
  | none=>none
def ri (E:Env) (fs:Fs):Option Operand→Option (Option Value)
 | none=>some none
 | some x=>match ev E fs x with
  | some v=>some (some v)
  | none=>none
def CO (E:Env) (fs:Fs):List (Nat × Operand)→Option (List (Nat × Value))
 | []=>some []
 | x::xs=>match ev E fs x.2 with
  | some v=>match CO E fs xs with
   | some vs=>some ((x.1,v)::vs)
   | none=>none
  | none=>none
section
variable {E : Env} {t : Tm} {fs : Fs}
theorem Fr.ev (h:Fr t fs):∀{x:Operand} {v:Value},ev E fs x=some v→ay E t x=some v
 | .tmp i,v,e=>by show some (t.at i)=some v; rw[h i v e]
 | .const c,v,e=>by
  simp only[Go.Ab.W.ev] at e
  split at e
  ·rename_i hp; cases e; simp only[ay]; rw[if_pos hp]
  ·cases e
 | .global g,v,e=>by
  simp only[Go.Ab.W.ev] at e
  split at e
  ·rename_i hp; cases e; simp only[ay]; rw[if_pos (by rwa[Nat.blt_eq] at hp)]
  ·cases e
 | .func f,v,e=>by simp only[Go.Ab.W.ev] at e; exact e
theorem Fr.gQ (h:Fr t fs):∀{xs:List Operand} {vs:List Value},gQ E fs xs=some vs→bm E t xs=some vs
 | [],vs,e=>by simp only[Go.Ab.W.gQ] at e; exact e
 | x::xs,vs,e=>by
  simp only[Go.Ab.W.gQ] at e
  split at e
  ·rename_i v hv
   split at e
   ·rename_i ws hw;cases e;exact E0 (h.ev hv) (Fr.gQ h hw)
   ·cases e
  ·cases e
theorem Fr.ri (h:Fr t fs):∀{x:Option Operand} {v:Option Value},ri E fs x=some v→du E t x=some v
 | none,v,e=>by simp only[Go.Ab.W.ri] at e; exact e
 | some x,v,e=>by
  simp only[Go.Ab.W.ri] at e
  split at e
  ·rename_i w hw; cases e; simp only[du]; rw[h.ev hw]; rfl
  ·cases e
theorem Fr.CO (h:Fr t fs):∀{xs:List (Nat × Operand)} {vs:List (Nat × Value)},CO E fs xs=some vs→dc E t xs=some vs
 | [],vs,e=>by simp only[Go.Ab.W.CO] at e; exact e
 | x::xs,vs,e=>by
  simp only[Go.Ab.W.CO] at e
  split at e
  ·rename_i v hv
   split at e
   ·rename_i ws hw;cases e;obtain⟨i,y⟩:=x;unfold dc;rw[h.ev hv,Fr.CO h hw]
   ·cases e
  ·cases e
end
def rf (m:AMem) (b o w:Nat) (es:List (List Value)):Prop :=
 b<m.next∧∃all tg,m.get b=some (.cells all tg)∧(∀sz,tg = .more sz→sz=w)∧∀i e,es[i]? = some e→(all.drop (o+i*w)).take w=e∧e.length=w
def kf:Option Addr→Option Nat
 | some a=>some a.block
 | none=>none
def Rd (m:AMem) (a:Option Addr) (cap w n:Nat) (es:List (List Value)):Prop :=
 es.length=n∧n≤cap∧((a=none∧n=0)∨(∃b sp,a=some ⟨b,0,some sp⟩∧n=0∧cap=0∧b<m.next)∨∃b o,a=some ⟨b,o,none⟩∧rf m b o w es)
theorem Rd.lt {m:AMem} {a:Option Addr} {cap w n:Nat} {es:List (List Value)} (h:Rd m a cap w n es) {b:Nat} (hb:kf a=some b):b<m.next:=by
 rcases h.2.2 with⟨rfl,_⟩|⟨b',sp,rfl,_,_,h4⟩|⟨b',o,rfl,h4⟩
 ·cases hb
 ·cases hb; exact h4
 ·cases hb; exact h4.1
def Own (lo:Nat) (m:AMem) (b w n:Nat) (es:List (List Value)) (tg:Tag):Prop :=
 lo≤b∧b<m.next∧m.get b=some (.cells es.flatten tg)∧es.length=n∧(∀e ∈ es,e.length=w)∧(tg = .own∨tg = .more w)∧0<w
structure GPc where
 ow:Nat→Prop
 rd:Nat→Prop
 P:AMem→Prop
 st:∀m m':AMem,P m→m.next≤m'.next→(∀b,ow b∨rd b→b<m.next→m'.get b=m.get b)→P m'
 lt:∀(m:AMem) b,P m→ow b∨rd b→b<m.next
 fr:Bool:=false
inductive Pc
 | obj (b:Nat) (o:AObj)
 | arr (b w n:Nat) (es:List (List Value)) (tg:Tag)
 | sl (a:Option Addr) (w n:Nat) (es:List (List Value))
 | rd (a:Option Addr) (cap w n:Nat) (es:List (List Value))
 | ro (b o w n:Nat) (es:List (List Value))
 | gen (g:GPc)
def Pc.oh:Pc→Option Nat
 | .obj b _=>some b
 | .arr b _ _ _ _=>some b
 | .sl a _ _ _=>kf a
 | .rd a _ _ _ _=>kf a
 | .ro b _ _ _ _=>some b
 | .gen _=>none
def Pc.own:Pc→Bool
 | .obj _ _ | .arr _ _ _ _ _ | .sl _ _ _ _=>true
 | _=>false
def Pc.Mz:Pc→Nat→Prop
 | .gen g=>g.ow
 | _=>fun _=>False
def Pc.A7:Pc→Nat→Prop
 | .gen g=>fun b=>g.ow b∨g.rd b
 | _=>fun _=>False
def Pc.ow (p:Pc) (b:Nat):Prop:=(p.own=true∧p.oh=some b)∨p.Mz b
def Pc.any (p:Pc) (b:Nat):Prop:=p.oh=some b∨p.A7 b
theorem Pc.kQ {p:Pc} {b:Nat} (h:p.ow b):p.any b:=by
 rcases h with h|h
 ·exact .inl h.2
 ·cases p with
  | gen g=>exact .inr (.inl h)
  | _=>exact h.elim
theorem Pc.KW {p:Pc} {b:Nat} (ho:p.own=true) (hb:p.oh=some b):p.ow b:=.inl ⟨ho,hb⟩
theorem Pc.yv {p:Pc} {b:Nat} (ho:p.own=true) (h:p.any b):p.oh=some b:=by
 rcases h with h|h
 ·exact h
 ·cases p with
  | gen g=>cases ho
  | _=>exact h.elim
def Pc.ok (lo:Nat) (m:AMem):Pc→Prop
 | .obj b o=>lo≤b∧b<m.next∧m.get b=some o
 | .arr b w n es tg=>Own lo m b w n es tg
 | .sl a w n es=>(n=0∧es = []∧a=none∧0<w)∨∃b tg,a=some ⟨b,0,none⟩∧Own lo m b w n es tg
 | .rd a cap w n es=>Rd m a cap w n es
 | .ro b o w n es=>es.length=n∧rf m b o w es
 | .gen g=>g.P m∧(g.fr=false→∀b,g.ow b→lo≤b)
def Pc.bound:Pc→Bool
 | .gen g=>!g.fr
 | _=>true
def Pc.apart (p q:Pc):Prop:=(∀b,p.ow b→q.any b→False)∧∀b,q.ow b→p.any b→False
structure Hp (m0 m:AMem) (ps:List Pc):Prop where
 ext:Ext m0 m
 ok:∀p ∈ ps,p.ok m0.next m
 apart:ps.Pairwise Pc.apart
def pk:List Pc→Nat→Option Pc
 | [],_=>none
 | p::_,0=>some p
 | _::l,k+1=>pk l k
def cu:List Pc→Nat→Pc→List Pc
 | [],_,_=>[]
 | _::l,0,p=>p::l
 | q::l,k+1,p=>q::cu l k p
theorem iK (p:Pc) (l:List Pc):pk (p::l) 0=some p:=rfl
theorem fu (p:Pc) (l:List Pc) (k:Nat):pk (p::l) (k+1)=pk l k:=rfl
theorem mN:∀{ps:List Pc} {k:Nat} {p:Pc},pk ps k=some p→p ∈ ps:=by
 intro ps
 induction ps with
 | nil=>intro k p h; simp[pk] at h
 | cons q l ih =>
  intro k p h;cases k with
  | zero=>rw[iK] at h; have:=Option.some.inj h; simp[this]
  | succ k=>rw[fu] at h; have:=ih h; simp[this]
theorem gv (q:Pc) (l:List Pc) (p:Pc):cu (q::l) 0 p=p::l:=rfl
theorem dY (q:Pc) (l:List Pc) (k:Nat) (p:Pc):cu (q::l) (k+1) p=q::cu l k p:=rfl
theorem rT:∀{l:List Pc} {k:Nat} {p r:Pc},r ∈ cu l k p→r ∈ l∨r=p:=by
 intro l
 induction l with
 | nil=>intro k p r h; simp[cu] at h
 | cons a l ih =>
  intro k p r h;cases k with
  | zero =>
   rw[gv,List.mem_cons] at h;rcases h with h|h
   ·exact .inr h
   ·exact .inl (by simp[h])
  | succ k =>
   rw[dY,List.mem_cons] at h;rcases h with h|h
   ·exact .inl (by simp[h])
   ·rcases ih h with h1|h1
    ·exact .inl (by simp[h1])
    ·exact .inr h1
theorem rf.gI {m m':AMem} {b o w:Nat} {es:List (List Value)} (h:rf m b o w es) (hn:m.next≤m'.next) (hg:m'.get b=m.get b):rf m' b o w es:=by
 obtain⟨h1,all,tg,h2,h3⟩:=h;exact⟨by omega,all,tg,by rw[hg]; exact h2,h3⟩
theorem Own.gI {lo:Nat} {m m':AMem} {b w n:Nat} {es:List (List Value)} {tg:Tag} (h:Own lo m b w n es tg) (hn:m.next≤m'.next) (hg:m'.get b=m.get b):Own lo m' b w n es tg:=by
 obtain⟨h1,h2,h3,h4⟩:=h;exact⟨h1,by omega,by rw[hg]; exact h3,h4⟩
theorem Rd.gI {m m':AMem} {a:Option Addr} {cap w n:Nat} {es:List (List Value)} (h:Rd m a cap w n es) (hn:m.next≤m'.next) (hg:∀b,kf a=some b→b<m.next→m'.get b=m.get b):Rd m' a cap w n es:=by
 obtain⟨h1,h2,h4⟩:=h;refine⟨h1,h2,?_⟩;rcases h4 with h4|⟨b,sp,rfl,a1,a2,a3⟩|⟨b,o,rfl,h⟩
 ·exact .inl h4
 ·exact .inr (.inl ⟨b,sp,rfl,a1,a2,Nat.lt_of_lt_of_le a3 hn⟩)
 ·exact .inr (.inr ⟨b,o,rfl,h.gI hn (hg b rfl h.1)⟩)
theorem Pc.il {lo:Nat} {m m':AMem} {p:Pc} (h:p.ok lo m) (hn:m.next≤m'.next) (hg:∀b,p.any b→b<m.next→m'.get b=m.get b):p.ok lo m':=by
 cases p with
 | obj b o=>exact⟨h.1,by have:=h.2.1; omega,by rw[hg b (.inl rfl) h.2.1]; exact h.2.2⟩
 | arr b w n es tg=>exact Own.gI h hn (hg b (.inl rfl) h.2.1)
 | sl a w n es =>
  rcases h with h|⟨b,tg,rfl,h⟩
  ·exact .inl h
  ·exact .inr ⟨b,tg,rfl,h.gI hn (hg b (.inl rfl) h.2.1)⟩
 | rd a cap w n es=>exact Rd.gI h hn fun b hb=>hg b (.inl hb)
 | ro b o w n es=>exact⟨h.1,h.2.gI hn (hg b (.inl rfl) h.2.1)⟩
 | gen g=>exact⟨g.st m m' h.1 hn fun b hb=>hg b (.inr hb),h.2⟩
theorem Pc.dQ {lo:Nat} {m:AMem} {p:Pc} (h:p.ok lo m) {b:Nat} (hb:p.any b):b<m.next:=by
 cases p with
 | obj b' o=>rcases hb with hb|hb; cases hb; exact h.2.1; exact hb.elim
 | arr b' w n es tg=>rcases hb with hb|hb; cases hb; exact h.2.1; exact hb.elim
 | sl a w n es =>
  rcases hb with hb|hb
  ·rcases h with⟨_,_,rfl,_⟩|⟨b',tg,rfl,h⟩
   ·cases hb
   ·cases hb; exact h.2.1
  ·exact hb.elim
 | rd a cap w n es=>rcases hb with hb|hb; exact Rd.lt h hb; exact hb.elim
 | ro b' o w n es=>rcases hb with hb|hb; cases hb; exact h.2.1; exact hb.elim
 | gen g=>rcases hb with hb|hb; cases hb; exact g.lt m b h.1 hb
theorem Pc.JO {lo:Nat} {m:AMem} {p:Pc} (h:p.ok lo m) {b:Nat} (hb:p.oh=some b):b<m.next:=Pc.dQ h (.inl hb)
theorem Pc.Ew {lo:Nat} {m:AMem} {p:Pc} (h:p.ok lo m) (hf:p.bound=true) {b:Nat} (hb:p.ow b):lo≤b:=by
 rcases hb with⟨ho,hb⟩|hb
 ·cases p with
  | obj b' o=>cases hb; exact h.1
  | arr b' w n es tg=>cases hb; exact h.1
  | sl a w n es =>
   rcases h with⟨_,_,rfl,_⟩|⟨b',tg,rfl,h⟩
   ·cases hb
   ·cases hb; exact h.1
  | rd a cap w n es=>cases ho
  | ro b' o w n es=>cases ho
  | gen g=>cases ho
 ·cases p with
  | gen g=>exact h.2 (by simpa [Pc.bound] using hf) b hb
  | _=>exact hb.elim
theorem Pc.DR {lo:Nat} {m:AMem} {p:Pc} (h:p.ok lo m) (ho:p.own=true) {b:Nat} (hb:p.oh=some b):lo≤b:=Pc.Ew h (by cases p<;>first|rfl|cases ho) (.inl ⟨ho,hb⟩)
section
variable {m0 m m' : AMem} {ps : List Pc}
theorem Hp.get (h:Hp m0 m ps) {k:Nat} {p:Pc} (hp:pk ps k=some p):p.ok m0.next m:=h.ok p (mN hp)
theorem Pc.iI {p r:Pc} (h:Pc.apart p r):Pc.apart r p:=⟨h.2,h.1⟩
theorem gN:∀{ps:List Pc} {k:Nat} {p p':Pc},pk ps k=some p→(∀r ∈ ps,Pc.apart p r→Pc.apart p' r)→ps.Pairwise Pc.apart→(cu ps k p').Pairwise Pc.apart:=by
 intro ps
 induction ps with
 | nil=>intro k p p' hk; simp[pk] at hk
 | cons q l ih =>
  intro k p p' hk hr h;rw[List.pairwise_cons] at h;cases k with
  | zero =>
   rw[iK] at hk;have hk:=Option.some.inj hk;subst hk;rw[gv];exact List.pairwise_cons.2 ⟨fun r hm=>hr r (by simp[hm]) (h.1 r hm),h.2⟩
  | succ k =>
   rw[fu] at hk;rw[dY];refine List.pairwise_cons.2 ⟨fun r hm=>?_,ih hk (fun r hm=>hr r (by simp[hm])) h.2⟩
   rcases rT hm with hm|hm
   ·exact h.1 r hm
   ·rw[hm]; exact Pc.iI (hr q (by simp) (Pc.iI (h.1 p (mN hk))))
theorem uV:∀{ps:List Pc} {k:Nat} {p p' r:Pc},pk ps k=some p→ps.Pairwise Pc.apart→r ∈ cu ps k p'→r=p'∨(r ∈ ps∧Pc.apart r p):=by
 intro ps
 induction ps with
 | nil=>intro k p p' r hk; simp[pk] at hk
 | cons q l ih =>
  intro k p p' r hk h hr;rw[List.pairwise_cons] at h;cases k with
  | zero =>
   rw[iK] at hk;have hk:=Option.some.inj hk;subst hk;rw[gv,List.mem_cons] at hr;rcases hr with hr|hr
   ·exact .inl hr
   ·exact .inr ⟨by simp[hr],Pc.iI (h.1 r hr)⟩
  | succ k =>
   rw[fu] at hk;rw[dY,List.mem_cons] at hr;rcases hr with hr|hr
   ·rw[hr]; exact .inr ⟨by simp,h.1 p (mN hk)⟩
   ·rcases ih hk h.2 hr with h1|⟨h1,h2⟩
    ·exact .inl h1
    ·exact .inr ⟨by simp[h1],h2⟩
theorem Hp.CG (h:Hp m0 m ps) {k:Nat} {p p':Pc} (hp:pk ps k=some p) (uN:∀b,p'.ow b→p.ow b∨m.next≤b) (hany:∀b,p'.any b→p.any b∨m.next≤b) (hn:m.next≤m'.next) (hext:Ext m0 m')
  (hok:p'.ok m0.next m') (hg:∀b,¬p.ow b→b<m.next→m'.get b=m.get b):Hp m0 m' (cu ps k p') where
 ext:=hext
 apart:=gN hp (fun r hr ha=>⟨fun b a c=>(uN b a).elim (fun a=>ha.1 b a c) fun a=>by have:=Pc.dQ (h.ok r hr) c; omega,fun b a c=>(hany b c).elim (fun c=>ha.2 b a c) fun c=>by have:=Pc.dQ (h.ok r hr) (Pc.kQ a); omega⟩) h.apart
 ok:=fun r hr=>by
  rcases uV hp h.apart hr with rfl|⟨h1,h2⟩
  ·exact hok
  ·exact Pc.il (h.ok r h1) hn fun b hb' hlt=>hg b (fun e=>h2.2 b e hb') hlt
theorem Hp.put (h:Hp m0 m ps) {k:Nat} {p p':Pc} (hp:pk ps k=some p) (ho:p.own=true) (hb:p'.oh=p.oh) (ho':p'.own=true) (hn:m.next≤m'.next) (hext:Ext m0 m')
  (hok:p'.ok m0.next m') (hg:∀b,p.oh≠some b→b<m.next→m'.get b=m.get b):Hp m0 m' (cu ps k p') :=
 h.CG hp (fun b a=>.inl (.inl ⟨ho,by rw[←hb]; exact Pc.yv ho' (Pc.kQ a)⟩)) (fun b a=>.inl (.inl (by rw[←hb]; exact Pc.yv ho' a))) hn hext hok fun b hb' hlt=>hg b (fun e=>hb' (.inl ⟨ho,e⟩)) hlt
theorem Hp.Lj (h:Hp m0 m ps) {p:Pc} (hn:m.next≤m'.next) (hext:Ext m0 m') (hsame:∀b,b<m.next→m'.get b=m.get b) (hp:p.ok m0.next m') (hb:∀b,p.any b→m.next≤b):Hp m0 m' (p::ps) where
 ext:=hext
 ok:=fun q hq=>by
  rcases List.mem_cons.1 hq with rfl|hq
  ·exact hp
  ·exact Pc.il (h.ok q hq) hn fun b hb' hlt=>hsame b hlt
 apart:=List.pairwise_cons.2 ⟨fun q hq=>⟨fun b h1 h2=>by
  have:=Pc.dQ (h.ok q hq) h2;have:=hb b (Pc.kQ h1);omega,fun b h1 h2=>by
  have:=Pc.dQ (h.ok q hq) (Pc.kQ h1);have:=hb b h2;omega⟩,h.apart⟩
theorem Hp.cons (h:Hp m0 m ps) {p:Pc} (hn:m.next≤m'.next) (hext:Ext m0 m') (hsame:∀b,b<m.next→m'.get b=m.get b) (hp:p.ok m0.next m') (hb:∀b,p.oh=some b→m.next≤b) (hng:∀b,¬p.A7 b:=by exact fun _ h=>h):Hp m0 m' (p::ps) :=
 h.Lj hn hext hsame hp fun b hb'=>hb'.elim (hb b) fun h=>absurd h (hng b)
def ab (ps:List Pc):List Nat→Option (List Pc)
 | []=>some []
 | k::ks=>match pk ps k with
  | some p=>match ab ps ks with
   | some qs=>some (p::qs)
   | none=>none
  | none=>none
def nb:List Nat→Bool
 | []=>true
 | k::ks=>!(ks.any (Nat.beq k)) && nb ks
theorem sG:∀{ks:List Nat} {qs:List Pc},ab ps ks=some qs→∀q ∈ qs,∃k ∈ ks,pk ps k=some q:=by
 intro ks
 induction ks with
 | nil=>intro qs h q hq; simp only[ab,Option.some.injEq] at h; subst h; cases hq
 | cons k ks ih =>
  intro qs h q hq;simp only[ab] at h
  split at h
  ·rename_i p hp
   split at h
   ·rename_i qs' hqs;simp only[Option.some.injEq] at h;subst h;rcases List.mem_cons.1 hq with rfl|hq
    ·exact⟨k,by simp,hp⟩
    ·obtain⟨k',h1,h2⟩:=ih hqs q hq;exact⟨k',by simp[h1],h2⟩
   ·cases h
  ·cases h
theorem fG:∀{ps:List Pc} {i j:Nat} {p q:Pc},ps.Pairwise Pc.apart→pk ps i=some p→pk ps j=some q→i≠j→Pc.apart p q:=by
 intro ps
 induction ps with
 | nil=>intro i j p q _ h; simp[pk] at h
 | cons r l ih =>
  intro i j p q h hi hj hne;rw[List.pairwise_cons] at h;cases i with
  | zero =>
   cases j with
   | zero=>exact absurd rfl hne
   | succ j =>
    rw[iK] at hi;rw[fu] at hj;rw[←Option.some.inj hi];exact h.1 q (mN hj)
  | succ i =>
   cases j with
   | zero =>
    rw[iK] at hj;rw[fu] at hi;rw[←Option.some.inj hj];exact Pc.iI (h.1 p (mN hi))
   | succ j=>rw[fu] at hi hj; exact ih h.2 hi hj (fun e=>hne (by rw[e]))
theorem nq:∀{ps:List Pc} {r:Pc},r ∈ ps→∃k,pk ps k=some r:=by
 intro ps
 induction ps with
 | nil=>intro r h; cases h
 | cons p l ih =>
  intro r h;rcases List.mem_cons.1 h with rfl|h
  ·exact⟨0,rfl⟩
  ·obtain⟨k,hk⟩:=ih h; exact⟨k+1,hk⟩
theorem Hp.Kr (h:Hp m0 m ps) {k:Nat} {p q:Pc} (hp:pk ps k=some p) (hpo:∀b,¬p.ow b) (hq:q.ok m0.next m) (hqo:∀b,¬q.ow b) (hb:∀b,q.any b→p.any b):Hp m0 m (q::ps) where
 ext:=h.ext
 ok:=fun r hr=>by
  rcases List.mem_cons.1 hr with rfl|hr
  ·exact hq
  ·exact h.ok r hr
 apart:=List.pairwise_cons.2 ⟨fun r hr=>⟨fun b h1 _=>hqo b h1,fun b h1 h2=>by
  obtain⟨k',hk'⟩:=nq hr;have hne:k≠k':=fun e=>by
   rw[←e,hp] at hk';exact hpo b (by rw[Option.some.inj hk']; exact h1)
  exact(fG h.apart hp hk' hne).2 b h1 (hb b h2)⟩,h.apart⟩
theorem Hp.more (h:Hp m0 m ps) {k:Nat} {p q:Pc} (hp:pk ps k=some p) (hpo:p.own=false) (hq:q.ok m0.next m) (hqo:q.own=false) (hb:∀b,q.oh=some b→p.oh=some b) (hpg:∀b,¬p.Mz b:=by exact fun _ h=>h) (hqg:∀b,¬q.A7 b:=by exact fun _ h=>h):Hp m0 m (q::ps) :=
 h.Kr hp (fun b h=>h.elim (fun h=>by rw[hpo] at h; cases h.1) (hpg b)) hq (fun b h=>h.elim (fun h=>by rw[hqo] at h; cases h.1) fun h=>hqg b (by cases q with|gen g=>exact .inl h|_=>exact h)) fun b h=>h.elim (fun h=>.inl (hb b h)) fun h=>absurd h (hqg b)
theorem wG (h:ps.Pairwise Pc.apart):∀{ks:List Nat} {qs:List Pc},nb ks=true→ab ps ks=some qs→qs.Pairwise Pc.apart:=by
 intro ks
 induction ks with
 | nil=>intro qs _ e; simp only[ab,Option.some.injEq] at e; subst e; exact .nil
 | cons k ks ih =>
  intro qs hnd e;simp only[nb,Bool.and_eq_true,Bool.not_eq_true',List.any_eq_false] at hnd;simp only[ab] at e
  split at e
  ·rename_i p hp
   split at e
   ·rename_i qs' hqs;simp only[Option.some.injEq] at e;subst e;refine List.pairwise_cons.2 ⟨fun q hq=>?_,ih hnd.2 hqs⟩;obtain⟨k',h1,h2⟩:=sG hqs q hq;exact fG h hp h2 fun e=>hnd.1 k' h1 (by rw[e]; exact Nat.beq_refl _)
   ·cases e
  ·cases e
theorem Hp.ab (h:Hp m0 m ps) (ks:List Nat) {qs:List Pc} (hnd:nb ks=true) (e:W.ab ps ks=some qs):Hp m0 m qs where
 ext:=h.ext
 ok:=fun q hq=>by
  obtain⟨k,_,hk⟩:=sG e q hq;exact h.ok q (mN hk)
 apart:=wG h.apart hnd e
theorem Pc.HI {lo lo':Nat} {m:AMem} {p:Pc} (h:p.ok lo m) (hle:lo'≤lo):p.ok lo' m:=by
 have up:∀{b w n es tg},Own lo m b w n es tg→Own lo' m b w n es tg:=fun ho=>⟨Nat.le_trans hle ho.1,ho.2⟩;cases p with
 | obj b o=>exact⟨Nat.le_trans hle h.1,h.2⟩
 | arr b w n es tg=>exact up h
 | sl a w n es =>
  rcases h with h1|⟨b,tg,e,h1⟩
  ·exact .inl h1
  ·exact .inr ⟨b,tg,e,up h1⟩
 | rd a cap w n es=>exact h
 | ro b o w n es=>exact h
 | gen g=>exact⟨h.1,fun hf b hb=>Nat.le_trans hle (h.2 hf b hb)⟩
theorem Hp.Jr (h:Hp m0 m ps) {new:List Pc} (h':Hp m m' new) (hbd:∀p ∈ new,p.bound=true) (hro:∀p ∈ new,∀b,p.any b→m.next≤b∨(¬p.ow b∧∃q ∈ ps,(∀b,¬q.ow b)∧q.any b)):Hp m0 m' (new++ps) where
 ext:=h.ext.trans h'.ext
 ok:=fun q hq=>by
  rcases List.mem_append.1 hq with hq|hq
  ·exact Pc.HI (h'.ok q hq) h.ext.next
  ·exact Pc.il (h.ok q hq) h'.ext.next fun b _ hlt=>h'.ext.same b hlt
 apart:=List.pairwise_append.2 ⟨h'.apart,h.apart,fun p hp q hq=>⟨fun b h1 h2=>by
  have:=Pc.Ew (h'.ok p hp) (hbd p hp) h1;have:=Pc.dQ (h.ok q hq) h2;omega,fun b h1 h2=>by
  rcases hro p hp b h2 with h3|⟨_,r,hr,hr1,hr2⟩
  ·have:=Pc.dQ (h.ok q hq) (Pc.kQ h1);omega
  ·obtain⟨i,hi⟩:=nq hq;obtain⟨j,hj⟩:=nq hr;have hne:i≠j:=fun e=>by
    rw[e,hj] at hi;exact hr1 b (by rw[Option.some.inj hi]; exact h1)
   exact(fG h.apart hi hj hne).1 b h1 hr2⟩⟩
theorem Hp.after (h:Hp m0 m ps) {new:List Pc} (h':Hp m m' new) (hro:∀p ∈ new,p.own=true):Hp m0 m' (new++ps) :=
 h.Jr h' (fun p hp=>by have:=hro p hp; cases p<;>first|rfl|cases this) fun p hp b hb=>.inl (Pc.DR (h'.ok p hp) (hro p hp) (Pc.yv (hro p hp) hb))
def owns (ps:List Pc) (b:Nat):Prop:=∃p ∈ ps,p.ow b
theorem Hp.ga (h:Hp m0 m ps):∀b,owns ps b→b<m.next:=fun _ ⟨p,hp,hb⟩=>Pc.dQ (h.ok p hp) (Pc.kQ hb)
def gR (H:Nat→Prop):GPc:={ ow:=H,rd:=fun _=>False,P:=fun m=>∀b,H b→b<m.next,fr:=true,st:=fun _ _ h hn _ b hb=>Nat.lt_of_lt_of_le (h b hb) hn,lt:=fun _ b h hb=>hb.elim (h b) fun h=>h.elim}
theorem Hp.qw (m:AMem) {H:Nat→Prop} (hH:∀b,H b→b<m.next):Hp m m [.gen (gR H)]:=⟨.refl m,fun p h=>by rw[List.mem_singleton.1 h]; exact⟨hH,fun h=>by cases h⟩,List.pairwise_singleton ..⟩
theorem Hp.DJ (h:Hp m0 m ps) {new:List Pc} (h':Hp m m' (new++[.gen (gR (owns ps))])) (hbd:∀p ∈ new,p.bound=true):Hp m0 m' (new++ps) where
 ext:=h.ext.trans h'.ext
 ok:=fun q hq=>by
  rcases List.mem_append.1 hq with hq|hq
  ·exact Pc.HI (h'.ok q (List.mem_append_left _ hq)) h.ext.next
  ·exact Pc.il (h.ok q hq) h'.ext.next fun b _ hlt=>h'.ext.same b hlt
 apart:=List.pairwise_append.2 ⟨(List.pairwise_append.1 h'.apart).1,h.apart,fun p hp q hq=>⟨fun b h1 h2=>by
  have:=Pc.Ew (h'.ok p (List.mem_append_left _ hp)) (hbd p hp) h1;have:=Pc.dQ (h.ok q hq) h2;omega,fun b h1 h2=>((List.pairwise_append.1 h'.apart).2.2 p hp _ (List.mem_singleton.2 rfl)).2 b (.inr ⟨q,hq,h1⟩) h2⟩⟩
theorem Hp.nS (h:Hp m0 m ps) {k cap w n:Nat} {a:Option Addr} {es:List (List Value)} (hp:pk ps k=some (.rd a cap w n es)):∀b,kf a=some b→¬owns ps b:=fun b hb ⟨q,hq,h1⟩=>by
 obtain⟨i,hi⟩:=nq hq;have hne:i≠k:=fun e=>by
  rw[e,hp] at hi;cases hi;exact h1.elim (fun h=>by cases h.1) fun h=>h.elim
 exact(fG h.apart hi hp hne).1 b h1 (.inl hb)
end
structure TyI (P:Program) (ty:TypeId) (ag:Bool) (sz:Nat):Prop where
 known:known P ty=true
 agg:dC P ty=ag
 size:aA P ty=sz
structure SlT (P:Program) (ty elem:TypeId) (w:Nat):Prop where
 und:P.underlying ty=some (.slice elem)
 known:known P elem=true
 size:aA P elem=w
 pos:0<w
 zero:(bA P elem).any (fun z=>z.cells.size == w && z.cells.toList.all aM)=true
 bytes:∃i,P.info? elem=some i∧i.bytes≠0∧i.bytes≤1024
structure ArT (P:Program) (ty elem:TypeId) (len w:Nat):Prop where
 und:P.underlying ty=some (.array len elem)
 known:known P elem=true
 size:aA P elem=w
def KS (P:Program) (ty elem:TypeId) (w:Nat):Bool :=
 (match P.underlying ty with|some (.slice e)=>Nat.beq e elem|_=>false) && known P elem && Nat.beq (aA P elem) w && Nat.blt 0 w && (bA P elem).any (fun z=>z.cells.size == w && z.cells.toList.all aM) && (match P.info? elem with|some i=>!(Nat.beq i.bytes 0) && Nat.ble i.bytes 1024|none=>false)
theorem SlT.of {P:Program} {ty elem:TypeId} {w:Nat} (h:KS P ty elem w=true):SlT P ty elem w:=by
 simp only[KS,Bool.and_eq_true] at h;obtain⟨⟨⟨⟨⟨h1,h2⟩,h3⟩,h4⟩,h5⟩,h6⟩:=h;refine⟨?_,h2,Nat.eq_of_beq_eq_true h3,by rwa[Nat.blt_eq] at h4,h5,?_⟩
 ·split at h1
  ·rename_i e he; rw[he,Nat.eq_of_beq_eq_true h1]
  ·cases h1
 ·split at h6
  ·rename_i i hi;simp only[Bool.and_eq_true,Bool.not_eq_true'] at h6;exact⟨i,hi,Nat.ne_of_beq_eq_false h6.1,Nat.le_of_ble_eq_true h6.2⟩
  ·cases h6
section
variable {E : Env} {n : Nat} {m0 : AMem} {fs : Fs} {ps : List Pc}
def Od (E:Env) (m0:AMem) (fs:Fs) (ps:List Pc) (o:Op) (v:Value) (ps':List Pc):Prop :=
 ∀t m,Fr t fs→Hp m0 m ps→(∀b,aK E t o=some b→b<m.next)∧∀K:Value→AMem→Prop,(∀m',Hp m0 m' ps'→K v m')→bt E t m o K
def Ox (E:Env) (m0:AMem) (fs:Fs) (ps:List Pc) (o:Op) {α:Type} (V:α→Value) (N:α→List Pc):Prop :=
 ∀t m,Fr t fs→Hp m0 m ps→(∀b,aK E t o=some b→b<m.next)∧∀K:Value→AMem→Prop,(∀x m',Hp m0 m' (N x)→K (V x) m')→bt E t m o K
theorem Od.pure {o:Op} {v:Value} (hr:∀t,aK E t o=none) (h:∀t m,Fr t fs→∀K,bt E t m o K=K v m):Od E m0 fs ps o v ps :=
 fun t m hf hp=>⟨fun b hb=>(by rw[hr] at hb; cases hb),fun K hK=>by rw[h t m hf]; exact hK m hp⟩
variable {x y z : Operand} {a b r v : Value} {ty ty' : TypeId}
theorem aa (h:ev E fs x=some v):Od E m0 fs ps (.move x) v ps:=.pure (fun _=>rfl) fun _ _ hf=>Go.Ab.Jc (hf.ev h)
theorem ai (h:ev E fs x=some v):Od E m0 fs ps (.assign x) v ps:=.pure (fun _=>rfl) fun _ _ hf=>Go.Ab.EC (hf.ev h)
theorem bU {c:Operand} (hc:ev E fs c=some (.bool true)) (h:ev E fs x=some v):Od E m0 fs ps (.pick c x y) v ps:=.pure (fun _=>rfl) fun _ _ hf=>Go.Ab.FW (hf.ev hc) (hf.ev h)
theorem Bj {c:Operand} (hc:ev E fs c=some (.bool false)) (h:ev E fs y=some v):Od E m0 fs ps (.pick c x y) v ps:=.pure (fun _=>rfl) fun _ _ hf=>Go.Ab.Gs (hf.ev hc) (hf.ev h)
theorem aj {op:BinOp} (h:ev E fs x=some a) (h':ev E fs y=some b) (hr:bM op ty E.P a b=some r):Od E m0 fs ps (.binOp op ty x y ty') r ps:=.pure (fun _=>rfl) fun _ _ hf=>Go.Ab.KN (hf.ev h) (hf.ev h') hr
theorem eg {op:UnOp} (h:ev E fs x=some a) (hr:zD op a=some r):Od E m0 fs ps (.unOp op ty x) r ps:=.pure (fun _=>rfl) fun _ _ hf=>Go.Ab.eg (hf.ev h) hr
theorem lW (h:ev E fs x=some a) (hr:fb E.P ty ty' a=some r):Od E m0 fs ps (.convert ty ty' x) r ps:=.pure (fun _=>rfl) fun _ _ hf=>Go.Ab.IL (hf.ev h) hr
theorem ax {f:Nat} (h:ev E fs x=some a) (hr:aL E.P ty a f=some r):Od E m0 fs ps (.fieldAddr ty x f) r ps:=.pure (fun _=>rfl) fun _ _ hf=>Go.Ab.uR (hf.ev h) hr
theorem kk (h:ev E fs x=some a) (h':ev E fs y=some b) (hr:bI E.P ty a b=some r):Od E m0 fs ps (.indexAddr ty x y) r ps:=.pure (fun _=>rfl) fun _ _ hf=>Go.Ab.xw (hf.ev h) (hf.ev h') hr
theorem bP {i:Nat} {vs:Array Value} (h:ev E fs x=some (.tuple vs)) (hr:vs[i]? = some r):Od E m0 fs ps (.extract x i) r ps:=.pure (fun _=>rfl) fun _ _ hf=>Go.Ab.AI (hf.ev h) hr
theorem uZ {f:FuncId} {xs ys:Array Operand} {vs ws:List Value} (h:gQ E fs xs.toList=some vs) (h':gQ E fs ys.toList=some ws):Od E m0 fs ps (.makeFunc (.func f) xs ys) (.func (.func f) vs.toArray ws.toArray) ps :=
 .pure (fun _=>rfl) fun _ _ hf K=>by rw[Go.Ab.xo,hf.gQ h,Go.Ab.dI,hf.gQ h',Go.Ab.dI]
theorem jm {bi:Builtin} {ars:Array Operand} {ts:Array TypeId} {vs:List Value} (h:gQ E fs ars.toList=some vs) (hn:(match bi with | .len | .cap=>false|_=>true)=true) (hr:∀m,aY E.P bi ts vs m=some (r,m)):Od E m0 fs ps (.call ⟨.builtin bi,ars,ts⟩) r ps :=
 .pure (fun _=>by cases bi<;>first|rfl|cases hn) fun _ _ hf K=>Go.Ab.dM (hf.gQ h) (hr _) K
theorem cJ {parts:Array (Nat × Operand)} {vs:List (Nat × Value)} {z:Value} (h:CO E fs parts.toList=some vs) (hz:bA E.P ty=some z) (hpz:bq z=true) (hr:ja E.P ty vs=some r):Od E m0 fs ps (.build ty parts) r ps :=
 .pure (fun _=>rfl) fun t m hf K=>by
  have:cO E t m (.build ty parts)=some (r,m):=by simp only[cO,hf.CO h,hz,hpz,if_true,hr,Option.map_some]
  exact Go.Ab.Dt rfl this K
def Bp (ag:Bool) (sz:Nat) (cs:List Value) (o:Nat):Option Value :=
 match ag with
 | true=>match Nat.beq ((cs.drop o).take sz).length sz with
  | true=>some (.agg ((cs.drop o).take sz).toArray)
  | false=>none
 | false=>cs[o]?
theorem sP {P:Program} {m:AMem} {ag:Bool} {sz b o:Nat} {cs:List Value} {tg:Tag} (ht:TyI P ty ag sz) (hg:m.get b=some (.cells cs tg)) (h:Bp ag sz cs o=some v):dg P ty (ptr b o) m=some v:=by
 cases ag with
 | false=>exact Fw ht.known ht.agg hg h
 | true =>
  simp only[Bp] at h
  split at h
  ·rename_i e;cases h;exact ES ht.known ht.agg ht.size hg rfl (Nat.eq_of_beq_eq_true e)
  ·cases h
def AD (ag:Bool) (sz c w:Nat):Bool:=(match ag with|true=>true|false=>Nat.beq sz 1) && Nat.ble (c+sz) w
theorem oJ {ag:Bool} {sz c w:Nat} (h:AD ag sz c w=true):(ag=false→sz=1)∧c+sz≤w:=by
 simp only[AD,Bool.and_eq_true] at h;exact⟨fun e=>by subst e; exact Nat.eq_of_beq_eq_true h.1,Nat.le_of_ble_eq_true h.2⟩
theorem Od.load {b o:Nat} (hx:ev E fs x=some (ptr b o)) (h:∀m,Hp m0 m ps→b<m.next∧dg E.P ty (ptr b o) m=some v):Od E m0 fs ps (.load ty x) v ps :=
 fun t m hf hp=>⟨fun b' hb=>by
  simp only[aK,hf.ev hx] at hb;cases hb; exact(h m hp).1,fun K hK=>by
  rw[Go.Ab.Ca (hf.ev hx) (h m hp).2]; exact hK m hp⟩
theorem ak {ag:Bool} {sz b o k:Nat} {cs:List Value} {tg:Tag} (ht:TyI E.P ty ag sz) (hx:ev E fs x=some (ptr b o)) (hp:pk ps k=some (.obj b (.cells cs tg))) (hv:Bp ag sz cs o=some v):Od E m0 fs ps (.load ty x) v ps :=
 .load hx fun _ h=>⟨(h.get hp).2.1,sP ht (h.get hp).2.2 hv⟩
theorem EX {ag:Bool} {sz o w c:Nat} {all e:List Value} (he:(all.drop o).take w=e) (hsz:ag=false→sz=1) (hc:c+sz≤w) (h:Bp ag sz e c=some v):Bp ag sz all (o+c)=some v:=by
 subst he;have key:((List.take w (List.drop o all)).drop c).take sz=(all.drop (o+c)).take sz:=by
  rw[List.drop_take,List.take_take,List.drop_drop,Nat.min_eq_left (by omega)]
 cases ag with
 | true=>simp only[Bp,key] at h ⊢; exact h
 | false =>
  simp only[Bp,List.getElem?_take,List.getElem?_drop] at h ⊢
  split at h
  ·exact h
  ·cases h
theorem jX {P:Program} {m:AMem} {ag:Bool} {sz b o w j c:Nat} {es:List (List Value)} {e:List Value} (ht:TyI P ty ag sz) (hl:rf m b o w es) (he:es[j]? = some e) (hv:Bp ag sz e c=some v) (hsz:ag=false→sz=1) (hc:c+sz≤w):dg P ty (ptr b (o+j*w+c)) m=some v:=by
 obtain⟨_,all,tg,hg,_,h⟩:=hl;exact sP ht hg (EX (h j e he).1 hsz hc hv)
theorem s6 {w:Nat}:∀{es:List (List Value)} {j:Nat} {e:List Value},(∀e ∈ es,e.length=w)→es[j]? = some e→(es.flatten.drop (j*w)).take w=e:=by
 intro es
 induction es with
 | nil=>intro j e _ h; simp at h
 | cons x es ih =>
  intro j e hw h;have hx:=hw x (by simp)
  cases j with
  | zero =>
   simp only[List.getElem?_cons_zero,Option.some.injEq] at h;subst h;rw[List.flatten_cons,Nat.zero_mul,List.drop_zero,List.take_left' hx]
  | succ j =>
   rw[List.getElem?_cons_succ] at h;rw[List.flatten_cons,Nat.succ_mul,Nat.add_comm,←List.drop_drop,List.drop_left' hx];exact ih (fun e he=>hw e (by simp[he])) h
theorem Own.FO {lo:Nat} {m:AMem} {b w n:Nat} {es:List (List Value)} {tg:Tag} (h:Own lo m b w n es tg):rf m b 0 w es :=
 ⟨h.2.1,_,tg,h.2.2.1,fun sz e=>(by rcases h.2.2.2.2.2.1 with h1|h1<;>rw[h1] at e<;>cases e; rfl),fun i e he=>⟨by rw[Nat.zero_add]; exact s6 h.2.2.2.2.1 he,h.2.2.2.2.1 e (List.mem_of_getElem? he)⟩⟩
theorem fR {ag:Bool} {sz b w n j c k:Nat} {es:List (List Value)} {tg:Tag} {e:List Value} (ht:TyI E.P ty ag sz) (hx:ev E fs x=some (ptr b (j*w+c))) (hp:pk ps k=some (.arr b w n es tg)) (he:es[j]? = some e) (hv:Bp ag sz e c=some v) (hs:AD ag sz c w=true):Od E m0 fs ps (.load ty x) v ps:=by
 have hs:=oJ hs;refine .load hx fun m h=>⟨(h.get hp).2.1,?_⟩;have:=jX (P:=E.P) ht (Own.FO (h.get hp)) he hv hs.1 hs.2;rwa[Nat.zero_add] at this
theorem bG {ag:Bool} {sz b o w n j c k:Nat} {es:List (List Value)} {e:List Value} (ht:TyI E.P ty ag sz) (hx:ev E fs x=some (ptr b (o+j*w+c))) (hp:pk ps k=some (.ro b o w n es)) (he:es[j]? = some e) (hv:Bp ag sz e c=some v) (hs:AD ag sz c w=true):Od E m0 fs ps (.load ty x) v ps:=by
 have hs:=oJ hs;exact .load hx fun m h=>⟨(h.get hp).2.1,jX (P:=E.P) ht (h.get hp).2 he hv hs.1 hs.2⟩
theorem bC {elem:TypeId} {b o w n cap:Nat} {i:Int} {kd:IntKind} (ht:SlT E.P ty elem w) (hx:ev E fs x=some (.slice (some ⟨b,o,none⟩) n cap)) (hy:ev E fs y=some (.int kd i)) (hi:0≤i∧i.toNat<n):Od E m0 fs ps (.indexAddr ty x y) (ptr b (o+i.toNat*w+0)) ps:=by
 refine kk hx hy ?_;have hd:decide ((0:Int)≤i∧i<(n:Nat))=true:=by simp; omega
 simp only[bI,ht.und,ht.known,hd,Bool.and_self,if_true,ht.size,Nat.add_zero]
theorem e8 {elem:TypeId} {b w n cap:Nat} {i:Int} {kd:IntKind} (ht:SlT E.P ty elem w) (hx:ev E fs x=some (.slice (some ⟨b,0,none⟩) n cap)) (hy:ev E fs y=some (.int kd i)) (hi:0≤i∧i.toNat<n):Od E m0 fs ps (.indexAddr ty x y) (ptr b (i.toNat*w+0)) ps:=by
 have:=bC (m0:=m0) (ps:=ps) ht hx hy hi;rwa[Nat.zero_add] at this
theorem Hp.write {m:AMem} (h:Hp m0 m ps) {k b:Nat} {p p':Pc} {o':AObj} (hp:pk ps k=some p) (ho:p.own=true) (hb:p.oh=some b) (hb':p'.oh=some b) (ho':p'.own=true) (hok:p'.ok m0.next (m.set b o')):Hp m0 (m.set b o') (cu ps k p') :=
 h.put hp ho (hb'.trans hb.symm) ho' (Nat.le_refl _) (h.ext.set (Pc.DR (h.get hp) ho hb) _) hok fun x hx _=>by
  rw[AMem.bD,if_neg (fun e=>hx (by rw[e]; exact hb))]
def HO (cs:List Value) (o:Nat) (v:Value) (sz:Nat):Option (List Value) :=
 match Nat.beq v.cells.toList.length sz && Nat.blt 0 sz && aU v.cells.toList && Nat.ble (o+sz) cs.length with
 | true=>some (aJ cs o v.cells.toList)
 | false=>none
theorem gO:∀(cs:List Value) (o:Nat) (vs:List Value),o+vs.length≤cs.length→(aJ cs o vs).length=cs.length
 | cs,0,[],_=>by cases cs<;>rfl
 | [],0,v::vs,h=>by simp at h
 | c::cs,0,v::vs,h=>by simp only[aJ,List.length_cons]; rw[gO cs 0 vs (by simpa using h)]
 | [],o+1,vs,h=>by simp at h
 | c::cs,o+1,vs,h=>by simp only[aJ,List.length_cons]; rw[gO cs o vs (by simp at h; omega)]
theorem vG {P:Program} {m:AMem} {ag:Bool} {sz b o:Nat} {cs cs':List Value} {tg:Tag} (ht:TyI P ty ag sz) (hg:m.get b=some (.cells cs tg)) (htg:tg≠.ro) (h:HO cs o v sz=some cs'):eC P ty (ptr b o) v m=some (m.set b (.cells cs' tg)):=by
 simp only[HO] at h
 split at h
 ·rename_i e;cases h;simp only[Bool.and_eq_true] at e;obtain⟨⟨⟨h1,h2⟩,h3⟩,h4⟩:=e;have h1:=Nat.eq_of_beq_eq_true h1;have h2:0<sz:=by rwa[Nat.blt_eq] at h2
  have h4:=Nat.le_of_ble_eq_true h4;have hs:(v.cells.size == aA P ty)=true:=by rw[ht.size,←h1]; simp
  simp only[eC,ptr,ht.known,hs,h3,Bool.and_self,if_true,AMem.cH];cases hc:v.cells.toList with
  | nil=>rw[hc] at h1; simp at h1; omega
  | cons x xs =>
   rw[hc] at h1;simp only[hg];cases tg with
   | ro=>exact absurd rfl htg
   | own=>rw[if_pos (by rw[h1]; exact h4)]
   | more s=>rw[if_pos (by rw[h1]; exact h4)]
 ·cases h
theorem Od.store {bk o:Nat} {p':List Pc} (hx:ev E fs x=some (ptr bk o)) (hy:ev E fs y=some v) (h:∀m,Hp m0 m ps→∃m',eC E.P ty (ptr bk o) v m=some m'∧Hp m0 m' p'):Od E m0 fs ps (.store ty x y) undef p' :=
 fun t m hf hp=>⟨fun b hb=>by simp[aK] at hb,fun K hK=>by
  obtain⟨m',h1,h2⟩:=h m hp;rw[Go.Ab.FJ (hf.ev hx) (hf.ev hy) h1]; exact hK m' h2⟩
def DY:Tag→Bool
 | .ro=>false
 | _=>true
theorem bj {ag:Bool} {sz b o k:Nat} {cs cs':List Value} {tg:Tag} (ht:TyI E.P ty ag sz) (hx:ev E fs x=some (ptr b o)) (hy:ev E fs y=some v) (hp:pk ps k=some (.obj b (.cells cs tg))) (htg:DY tg=true) (hv:HO cs o v sz=some cs'):Od E m0 fs ps (.store ty x y) undef (cu ps k (.obj b (.cells cs' tg))) :=
 .store hx hy fun m h=>⟨_,vG ht (h.get hp).2.2 (fun e=>by rw[e] at htg; cases htg) hv,h.write hp rfl rfl rfl rfl ⟨(h.get hp).1,(h.get hp).2.1,by rw[AMem.bD,if_pos rfl]⟩⟩
theorem yk:∀(l r vs:List Value) (c:Nat),c+vs.length≤l.length→aJ (l++r) c vs=aJ l c vs++r:=by
 intro l r
 induction l with
 | nil =>
  intro vs c h;have h0:c+vs.length≤0:=h;have h1:c=0:=by omega
  have h2:vs = []:=List.length_eq_zero_iff.1 (by omega)
  subst h1 h2;cases r<;>rfl
 | cons a l ihl =>
  intro vs c h;cases c with
  | zero=>cases vs with
   | nil=>rfl
   | cons v vs=>simp only[List.cons_append,aJ]; rw[ihl vs 0 (by simpa using h)]
  | succ c=>simp only[List.cons_append,aJ]; rw[ihl vs c (by simp at h; omega)]
theorem nQ:∀(l r vs:List Value) (o:Nat),aJ (l++r) (l.length+o) vs=l++aJ r o vs:=by
 intro l r vs
 induction l with
 | nil=>intro o; simp
 | cons a l ihl=>intro o; rw[List.cons_append,List.length_cons,show l.length+1+o=(l.length+o)+1 by omega,aJ,ihl o]; rfl
theorem xn {w c:Nat} {vs:List Value}:∀{es:List (List Value)} {j:Nat} {e:List Value},(∀e ∈ es,e.length=w)→es[j]? = some e→c+vs.length≤w→aJ es.flatten (j*w+c) vs=(es.set j (aJ e c vs)).flatten:=by
 intro es
 induction es with
 | nil=>intro j e _ h; simp at h
 | cons x es ih =>
  intro j e hw h hc;have hx:=hw x (by simp)
  cases j with
  | zero =>
   simp only[List.getElem?_cons_zero,Option.some.injEq] at h;subst h;rw[List.flatten_cons,Nat.zero_mul,Nat.zero_add,yk _ _ _ _ (by omega)]
   simp[List.flatten_cons]
  | succ j =>
   rw[List.getElem?_cons_succ] at h;rw[List.flatten_cons,Nat.succ_mul,show j*w+w+c=x.length+(j*w+c) by omega,nQ,ih (fun e he=>hw e (by simp[he])) h hc]
   simp[List.flatten_cons]
theorem KA {ag:Bool} {sz b w n j c k:Nat} {es:List (List Value)} {e e':List Value} {tg:Tag} (ht:TyI E.P ty ag sz) (hx:ev E fs x=some (ptr b (j*w+c))) (hy:ev E fs y=some v) (hp:pk ps k=some (.arr b w n es tg)) (he:es[j]? = some e) (hv:HO e c v sz=some e'):Od E m0 fs ps (.store ty x y) undef (cu ps k (.arr b w n (es.set j e') tg)):=by
 refine .store hx hy fun m h=>?_;obtain⟨g1,g2,g3,g4,g5,g6,g7⟩:=h.get hp;have hew:=g5 e (List.mem_of_getElem? he);simp only[HO] at hv
 split at hv
 ·rename_i e1;cases hv;simp only[Bool.and_eq_true] at e1;obtain⟨⟨⟨h1,h2⟩,h3⟩,h4⟩:=e1;have h1:=Nat.eq_of_beq_eq_true h1;have h2':0<sz:=by rwa[Nat.blt_eq] at h2
  have h4:=Nat.le_of_ble_eq_true h4;have hj:j<es.length:=(List.getElem?_eq_some_iff.1 he).1;have hfl:∀(l:List (List Value)),(∀e ∈ l,e.length=w)→l.flatten.length=l.length*w:=by
   intro l
   induction l with
   | nil=>intro _; simp
   | cons x l ih=>intro hl; rw[List.flatten_cons,List.length_append,ih (fun e he=>hl e (by simp[he])),hl x (by simp),List.length_cons,Nat.succ_mul]; omega
  have hmul:(j+1)*w≤es.length*w:=Nat.mul_le_mul_right w hj;rw[Nat.succ_mul] at hmul;have hst:HO es.flatten (j*w+c) v sz=some (aJ es.flatten (j*w+c) v.cells.toList):=by
   have:(Nat.beq v.cells.toList.length sz && Nat.blt 0 sz && aU v.cells.toList && Nat.ble (j*w+c+sz) es.flatten.length)=true:=by
    simp only[Bool.and_eq_true];exact⟨⟨⟨by rw[h1]; exact Nat.beq_refl _,h2⟩,h3⟩,Nat.ble_eq_true_of_le (by rw[hfl es g5]; omega)⟩
   simp only[HO,this]
  refine⟨_,vG ht g3 (by rcases g6 with rfl|rfl<;>simp) hst,h.write hp rfl rfl rfl rfl ?_⟩
  refine⟨g1,g2,?_,by simpa using g4,fun e'' he''=>?_,g6,g7⟩
  ·rw[AMem.bD,if_pos rfl,xn g5 he (by omega)]
  ·rcases List.mem_or_eq_of_mem_set he'' with h5|h5
   ·exact g5 _ h5
   ·rw[h5,gO _ _ _ (by omega)]; exact hew
 ·cases hv
theorem Ox.made {o:Op} {ob:Nat→AObj} {p:Nat→Pc} {V:Nat→Value} (hr:∀t,aK E t o=none) (h:∀t m,Fr t fs→∀K,bt E t m o K=K (V m.next) (m.alloc (ob m.next)))
  (hb:∀b,(p b).oh=some b) (hp:∀lo m b,lo≤b→b<m.next→m.get b=some (ob b)→(p b).ok lo m) (hpg:∀b x,¬(p b).A7 x:=by exact fun _ _ h=>h):Ox E m0 fs ps o V (fun b=>p b::ps) :=
 fun t m hf hm=>⟨fun b hb=>(by rw[hr] at hb; cases hb),fun K hK=>by
  rw[h t m hf];refine hK m.next _ (hm.cons (Nat.le_succ _) (hm.ext.alloc _) (fun b hlt=>by rw[AMem.bf,if_neg (by omega)]) (hp _ _ _ hm.ext.next (Nat.lt_succ_self _) (by rw[AMem.bf,if_pos rfl])) (fun b' h'=>?_) (hpg _))
  rw[hb] at h'; cases h'; exact Nat.le_refl _⟩
theorem cf {z:Value} (hz:bA E.P ty=some z) (hp:bq z=true):Ox E m0 fs ps (.alloc ty) (fun b=>ptr b 0) (fun b=>.obj b (.cells z.cells.toList .own)::ps) :=
 .made (ob:=fun _=>.cells z.cells.toList .own) (p:=fun b=>.obj b (.cells z.cells.toList .own)) (fun _=>rfl) (fun _ _ _ K=>Go.Ab.G5 hz hp K) (fun _=>rfl) fun _ _ _ h1 h2 h3=>⟨h1,h2,h3⟩
theorem bW (h:ev E fs x=some v):Ox E m0 fs ps (.box ty x) (fun b=>ptr b 0) (fun b=>.obj b (.cells v.cells.toList .own)::ps) :=
 .made (ob:=fun _=>.cells v.cells.toList .own) (p:=fun b=>.obj b (.cells v.cells.toList .own)) (fun _=>rfl) (fun _ _ hf K=>Go.Ab.Lq (hf.ev h) K) (fun _=>rfl) fun _ _ _ h1 h2 h3=>⟨h1,h2,h3⟩
theorem Lu:Ox E m0 fs ps (.makeMap ty none) (fun b=>.map (some b)) (fun b=>.obj b (.map [])::ps) :=
 .made (ob:=fun _=>.map []) (p:=fun b=>.obj b (.map [])) (fun _=>rfl) (fun _ _ _ _=>Go.Ab.zi) (fun _=>rfl) fun _ _ _ h1 h2 h3=>⟨h1,h2,h3⟩
def Kx (P:Program) (elem:TypeId) (w len:Nat) (vs:List (Nat × Value)):Option (List Value) :=
 match ef P elem len with
 | some zs=>match zs.all aM && Nat.ble (len*w) 16777216 with
  | true=>fP (fun i=>some (i*w,w)) zs vs
  | false=>none
 | none=>none
def GI (w:Nat) (es:List (List Value)):Bool:=es.all fun e=>Nat.beq e.length w
theorem Au {w:Nat} {es:List (List Value)} (h:GI w es=true):∀e ∈ es,e.length=w:=fun e he=>Nat.eq_of_beq_eq_true (List.all_eq_true.1 h e he)
theorem kY {elem:TypeId} {w len:Nat} {parts:Array (Nat × Operand)} {vs:List (Nat × Value)} {es:List (List Value)} (ht:SlT E.P ty elem w) (h:CO E fs parts.toList=some vs) (hf:Kx E.P elem w len vs=some es.flatten) (hl:Nat.beq es.length len=true) (hw:GI w es=true) :
  Ox E m0 fs ps (.buildSlice ty len parts) (fun b=>.slice (some ⟨b,0,none⟩) len len) (fun b=>.arr b w len es .own::ps):=by
 refine .made (ob:=fun _=>.cells es.flatten .own) (p:=fun b=>.arr b w len es .own) (fun _=>rfl) (fun t m hfr K=>?_) (fun _=>rfl) fun _ _ _ h1 h2 h3=>⟨h1,h2,h3,Nat.eq_of_beq_eq_true hl,Au hw,.inl rfl,ht.pos⟩;simp only[Kx] at hf
 split at hf
 ·rename_i zs hz
  split at hf
  ·rename_i hc;simp only[Bool.and_eq_true] at hc;have:cO E t m (.buildSlice ty len parts)=some (.slice (some ⟨m.next,0,none⟩) len len,m.alloc (.cells es.flatten .own)):=by
    have h2:¬(len*w>2 ^ 24):=by have:=Nat.le_of_ble_eq_true hc.2; omega
    simp only[cO,ht.und,hfr.CO h,ht.known,ht.size,hz,hc.1,hf,Bool.not_true,Bool.false_or,decide_eq_false h2,if_true,Option.map_some]
    rfl
   exact Go.Ab.Dt rfl this K
  ·cases hf
 ·cases hf
def lim (n:Nat):Bool:=Nat.ble n 1073741824
theorem jP {z:List Value}:∀n,cp z n=(List.replicate n z).flatten
 | 0=>rfl
 | n+1=>by rw[cp,jP n,List.replicate_succ,List.flatten_cons]
theorem LU {elem:TypeId} {w n:Nat} {i:Int} {z:Value} (ht:SlT E.P ty elem w) (hx:ev E fs x=some (.int .i64 i)) (hi:i=(n:Int)) (hl:lim n=true) (hz:bA E.P elem=some z) (hp:z.cells.toList.all aM=true) :
  Ox E m0 fs ps (.makeSlice ty x x) (fun b=>.slice (some ⟨b,0,none⟩) n n) (fun b=>.arr b w n (List.replicate n z.cells.toList) .own::ps):=by
 subst hi;have hzs:z.cells.size=w:=by have:=ht.zero; rw[hz] at this; simp only[Option.any_some,Bool.and_eq_true,beq_iff_eq] at this; exact this.1
 refine .made (ob:=fun _=>.cells (List.replicate n z.cells.toList).flatten .own) (p:=fun b=>.arr b w n (List.replicate n z.cells.toList) .own) (fun _=>rfl) (fun t m hfr K=>?_) (fun _=>rfl) fun _ _ _ h1 h2 h3=>⟨h1,h2,h3,by simp,fun e he=>by rw[List.eq_of_mem_replicate he]; simpa using hzs,.inl rfl,ht.pos⟩
 have hln:n≤1073741824:=Nat.le_of_ble_eq_true hl;obtain⟨inf,hi1,hi2,hi3⟩:=ht.bytes;have hzz:ef E.P elem n=some (List.replicate n z.cells.toList).flatten:=by
  simp only[ef,hz,ht.size];rw[if_pos hzs,jP]
 have ha:(List.replicate n z.cells.toList).flatten.all aM=true:=by
  rw[List.all_eq_true];intro v hv;obtain⟨l,h1,h2⟩:=List.mem_flatten.1 hv;rw[List.eq_of_mem_replicate h1] at h2;exact List.all_eq_true.1 hp v h2
 have hmul:inf.bytes*n≤1024*1073741824:=Nat.mul_le_mul hi3 hln;have:cO E t m (.makeSlice ty x x)=some (.slice (some ⟨m.next,0,none⟩) n n,m.alloc (.cells (List.replicate n z.cells.toList).flatten .own)):=by
  have hc:(0:Int)≤(n:Int)∧(n:Int)≤(n:Int)∧(E.P.info? elem).any (fun i=>i.bytes*(n:Int)≤2 ^ 40 && i.bytes != 0)=true∧known E.P elem=true:=by
   refine⟨by omega,by omega,?_,ht.known⟩
   rw[hi1];have h5:((inf.bytes*n:Nat):Int)≤(1024*1073741824:Nat):=Int.ofNat_le.2 hmul;have h6:((inf.bytes*n:Nat):Int)=(inf.bytes:Int)*(n:Int):=Int.natCast_mul _ _;simp only[Option.any_some,Bool.and_eq_true,decide_eq_true_eq,bne_iff_ne,ne_eq];exact⟨by rw[←h6]; omega,hi2⟩
  simp only[cO,ht.und,hfr.ev hx,Int.toNat_natCast,hzz];rw[if_pos hc,if_pos ha]
 exact Go.Ab.Dt rfl this K
end
end Go.Ab.W
end

section
namespace Go.Ab.W
open Go Go.Ab
attribute [local irreducible] Tm.at Trie.set Trie.get AMem.get AMem.set AMem.alloc AMem.ww AMem.kill
section
variable {E : Env} {n : Nat} {m0 m m' : AMem} {fs : Fs} {ps : List Pc} {x y : Operand} {v : Value} {ty : TypeId}
theorem Own.rd {lo b w n:Nat} {es:List (List Value)} {tg:Tag} (h:Own lo m b w n es tg):Rd m (some ⟨b,0,none⟩) n w n es :=
 ⟨h.2.2.2.1,Nat.le_refl _,.inr (.inr ⟨b,0,rfl,h.FO⟩)⟩
inductive IsRd:Pc→Option Addr→Nat→Nat→Nat→List (List Value)→Prop
 | arr (b w n:Nat) (es:List (List Value)) (tg:Tag):IsRd (.arr b w n es tg) (some ⟨b,0,none⟩) n w n es
 | sl (a:Option Addr) (w n:Nat) (es:List (List Value)):IsRd (.sl a w n es) a n w n es
 | rd (a:Option Addr) (cap w n:Nat) (es:List (List Value)):IsRd (.rd a cap w n es) a cap w n es
 | nil {p:Pc} (w:Nat):IsRd p none 0 w 0 []
theorem Pc.KX {p:Pc} {a:Option Addr} {lo cap w n:Nat} {es:List (List Value)} (h:p.ok lo m) (hi:IsRd p a cap w n es):Rd m a cap w n es:=by
 cases hi with
 | arr b w n es tg=>exact Own.rd h
 | sl a w n es =>
  rcases h with⟨rfl,rfl,rfl,_⟩|⟨b,tg,rfl,h⟩
  ·exact⟨rfl,Nat.le_refl _,.inl ⟨rfl,rfl⟩⟩
  ·exact h.rd
 | rd a cap w n es=>exact h
 | nil w=>exact⟨rfl,Nat.le_refl _,.inl ⟨rfl,rfl⟩⟩
theorem Hp.rd (h:Hp m0 m ps) {k:Nat} {p:Pc} {a:Option Addr} {cap w n:Nat} {es:List (List Value)} (hp:pk ps k=some p) (hi:IsRd p a cap w n es):Rd m a cap w n es:=Pc.KX (h.get hp) hi
theorem Rd.nil (m:AMem) (w:Nat):Rd m none 0 w 0 []:=⟨rfl,Nat.le_refl _,.inl ⟨rfl,rfl⟩⟩
theorem Rd.cells {a:Option Addr} {cap w n:Nat} {es:List (List Value)} (h:Rd m a cap w n es):cG w (.slice a n cap) n m=some es.flatten:=by
 obtain⟨h1,h2,h4⟩:=h
 by_cases hn:n=0
 ·subst hn;have:es = []:=List.length_eq_zero_iff.1 h1;subst this;cases a with
  | none=>rfl
  | some a=>obtain⟨b,o,sp⟩:=a; cases sp<;>rfl
 ·rcases h4 with h4|⟨b,sp,rfl,h4,_⟩|⟨b,o,rfl,_,all,tg,hg,_,hl⟩
  ·exact absurd h4.2 hn
  ·exact absurd h4 hn
  ·simp only[cG,if_neg hn,AMem.dm,hg];have key:∀(es:List (List Value)) (k:Nat),(∀i e,es[i]? = some e→(all.drop (o+(k+i)*w)).take w=e∧e.length=w)→(all.drop (o+k*w)).take (es.length*w)=es.flatten∧es.flatten.length=es.length*w:=by
    intro es
    induction es with
    | nil=>intro k _; simp
    | cons e es ih =>
     intro k hk;obtain⟨a1,a2⟩:=hk 0 e rfl;obtain⟨b1,b2⟩:=ih (k+1) fun i e' he'=>by
      have:=hk (i+1) e' (by simpa using he')
      rwa[show k+(i+1)=k+1+i by omega] at this
     rw[Nat.add_zero] at a1;refine⟨?_,by rw[List.flatten_cons,List.length_append,a2,b2,List.length_cons,Nat.succ_mul]; omega⟩
     rw[List.length_cons,Nat.succ_mul,Nat.add_comm,List.take_add,a1,List.drop_drop,List.flatten_cons,←b1,Nat.succ_mul,Nat.add_assoc]
   have:=key es 0 (fun i e he=>by rw[Nat.zero_add]; exact hl i e he)
   rw[Nat.zero_mul,Nat.add_zero,h1] at this;rw[this.1,if_pos this.2]
theorem Hp.renew (h:Hp m0 m ps) {k:Nat} {p p':Pc} (hp:pk ps k=some p) (hn:m.next≤m'.next) (hext:Ext m0 m') (hok:p'.ok m0.next m') (hb:∀b,p'.oh=some b→m.next≤b) (hpo:p.own=true) (hg:∀b,p.oh≠some b→b<m.next→m'.get b=m.get b) (hng:∀b,¬p'.A7 b:=by exact fun _ h=>h):Hp m0 m' (cu ps k p') :=
 h.CG hp (fun b a=>.inr ((Pc.kQ a).elim (hb b) fun h=>absurd h (hng b))) (fun b a=>.inr (a.elim (hb b) fun h=>absurd h (hng b))) hn hext hok fun b hb' hlt=>hg b (fun e=>hb' (.inl ⟨hpo,e⟩)) hlt
def gB (es:List (List Value)):Prop:=∀e ∈ es,e.all mq=true
theorem yE {α:Type} {f:α→List Value} (h:∀x,(f x).all mq=true) (xs:List α):gB (xs.map f):=fun e he=>by
 obtain⟨x,_,rfl⟩:=List.mem_map.1 he; exact h x
theorem ov {es:List (List Value)} (h:gB es):aU es.flatten=true:=by
 unfold aU;rw[List.all_eq_true];intro v hv;obtain⟨l,h1,h2⟩:=List.mem_flatten.1 hv;exact List.all_eq_true.1 (h l h1) v h2
theorem dq {w:Nat}:∀{l:List (List Value)},(∀e ∈ l,e.length=w)→l.flatten.length=l.length*w:=by
 intro l
 induction l with
 | nil=>intro _; simp
 | cons x l ih=>intro hl; rw[List.flatten_cons,List.length_append,ih (fun e he=>hl e (by simp[he])),hl x (by simp),List.length_cons,Nat.succ_mul]; omega
theorem sD {P:Program} {elem ty2:TypeId} {w k n1 c0:Nat} {a a0:Option Addr} {es e0:List (List Value)} (ht:SlT P ty elem w) (h2:∃e1,P.underlying ty2=some (.slice e1)) (h:Hp m0 m ps) (hp:pk ps k=some (.sl a w n es)) (hr:Rd m a0 c0 w n1 e0) (h1:∀e ∈ e0,e.length=w) (ho:gB e0) (hl:lim (n+n1)=true) :
  ∃a' m',bS P ty (some ty2) (.slice a n n) (.slice a0 n1 c0) m=some (.slice a' (n+n1) (n+n1),m')∧Hp m0 m' (cu ps k (.sl a' w (n+n1) (es++e0))):=by
 obtain⟨e1,h3⟩:=h2;obtain⟨inf,h4,h5,h6⟩:=ht.bytes;have hln:n+n1≤1073741824:=Nat.le_of_ble_eq_true hl;have hc:=hr.cells;have hlen2:e0.flatten.length=n1*w:=by rw[dq h1,hr.1]
 have hnew:dR P elem (some ty2) (.slice a0 n1 c0) m=some (n1,e0.flatten):=by
  simp only[dR,Option.bind_some,h3,ht.size];have:cG w (.slice a0 n1 c0) n1 m=some e0.flatten:=hc;rw[this]; rfl
 have hfit:(P.info? elem).any (fun i=>dy i.bytes (n+n1) && i.bytes != 0)=true:=by
  rw[h4];have hmul:(2*(n+n1)+2000)*inf.bytes≤(2*1073741824+2000)*1024:=Nat.mul_le_mul (by omega) h6
  simp only[Option.any_some,dy,Bool.and_eq_true,decide_eq_true_eq,bne_iff_ne,ne_eq];exact⟨by omega,h5⟩
 have hzero:(bA P elem).any (fun z=>z.cells.size == w && z.cells.toList.all aM)=true:=ht.zero;have hpos:=ht.pos;have h7:(w == 0)=false:=by simp; omega
 have hguard:(!(known P elem) || aA P elem == 0 || !aU e0.flatten || !(P.info? elem).any (fun i=>dy i.bytes (n+n1) && i.bytes != 0) || e0.flatten.length != n1*aA P elem || !(bA P elem).any (fun z=>z.cells.size == aA P elem && z.cells.toList.all aM))=false:=by
  rw[ht.size,ht.known,hfit,hzero,ov ho,h7,hlen2]; simp
 have hres:∀a',(∃m',(.slice a' (n+n1) (n+n1),m')=((.slice a' (n+n1) (n+n1),m'):Value × AMem)):=fun a'=>⟨m,rfl⟩;have hpc:=h.get hp;have hext:=h.ext;rcases hpc with⟨rfl,rfl,rfl,_⟩|⟨b,tg,rfl,hb⟩
 ·
  by_cases h0:n1=0
  ·subst h0;have hes:e0 = []:=List.length_eq_zero_iff.1 hr.1;subst hes;refine⟨none,m,?_,?_⟩
   ·unfold bS;simp only[ht.und,hnew];rw[if_neg (by rw[hguard]; exact Bool.false_ne_true)]
    rfl
   ·have:cu ps k (.sl none w (0+0) ([]++[]))=ps:=by
     have:∀(l:List Pc) (k:Nat) (p:Pc),pk l k=some p→cu l k p=l:=by
      intro l
      induction l with
      | nil=>intro k p h; simp[pk] at h
      | cons q l ih =>
       intro k p h;cases k with
       | zero=>rw[iK] at h; rw[gv,Option.some.inj h]
       | succ k=>rw[fu] at h; rw[dY,ih k p h]
     exact this ps k _ hp
    rw[this]; exact h
  ·refine⟨some ⟨m.next,0,none⟩,m.alloc (.cells e0.flatten (.more w)),?_,?_⟩
   ·unfold bS;simp only[ht.und,hnew];rw[if_neg (by rw[hguard]; exact Bool.false_ne_true)]
    simp only[ht.size];rw[if_neg (by simp),if_neg h0,Nat.zero_add]
   ·refine h.renew hp (by simp only[AMem.next_alloc]; omega) (hext.alloc _) (.inr ⟨m.next,.more w,rfl,hext.next,(by rw[AMem.next_alloc]; omega),?_,?_,?_,.inr rfl,hpos⟩) (fun b' hb'=>?_) rfl fun b' _ hlt=>?_
    ·rw[AMem.bf,if_pos rfl,List.nil_append]
    ·rw[List.nil_append,hr.1,Nat.zero_add]
    ·rw[List.nil_append]; exact h1
    ·cases hb'; exact Nat.le_refl _
    ·rw[AMem.bf,if_neg (by omega)]
 ·obtain⟨g4,g5,g0,g1,g2,g3,g6⟩:=hb;have hlen:es.flatten.length=n*w:=by rw[dq g2,g1]
  by_cases h0:n1=0
  ·subst h0;have hes:e0 = []:=List.length_eq_zero_iff.1 hr.1;subst hes;refine⟨some ⟨b,0,none⟩,m,?_,?_⟩
   ·unfold bS;simp only[ht.und,hnew];rw[if_neg (by rw[hguard]; exact Bool.false_ne_true)]
    simp only[g0];rw[if_pos (Nat.le_of_eq (Nat.add_zero n))];simp[AMem.cH]
   ·rw[List.append_nil,Nat.add_zero];have:cu ps k (.sl (some ⟨b,0,none⟩) w n es)=ps:=by
     have:∀(l:List Pc) (k:Nat) (p:Pc),pk l k=some p→cu l k p=l:=by
      intro l
      induction l with
      | nil=>intro k p h; simp[pk] at h
      | cons q l ih =>
       intro k p h;cases k with
       | zero=>rw[iK] at h; rw[gv,Option.some.inj h]
       | succ k=>rw[fu] at h; rw[dY,ih k p h]
     exact this ps k _ hp
    rw[this]; exact h
  ·have hcap:¬(n+n1≤n):=by omega
   have htake:es.flatten.take (n*w)=es.flatten:=List.take_of_length_le (by omega)
   have hok:∀(mm:AMem),m.next≤mm.next→Pc.ok m0.next (mm.alloc (.cells (es.flatten++e0.flatten) (.more w))) (.sl (some ⟨mm.next,0,none⟩) w (n+n1) (es++e0)):=fun mm hmm =>
    .inr ⟨mm.next,.more w,rfl,Nat.le_trans hext.next hmm,(by rw[AMem.next_alloc]; omega),by rw[AMem.bf,if_pos rfl,List.flatten_append],by rw[List.length_append,g1,hr.1],fun e he=>by
     rcases List.mem_append.1 he with he|he
     ·exact g2 e he
     ·exact h1 e he,.inr rfl,hpos⟩
   rcases g3 with rfl|rfl
   ·refine⟨some ⟨m.next,0,none⟩,m.alloc (.cells (es.flatten++e0.flatten) (.more w)),?_,?_⟩
    ·unfold bS;simp only[ht.und,hnew];rw[if_neg (by rw[hguard]; exact Bool.false_ne_true)]
     simp only[ht.size,g0];rw[if_neg hcap];have hld:m.dm b 0 (n*w)=some es.flatten:=by
      simp only[AMem.dm,g0,List.drop_zero,htake];rw[if_pos hlen]
     simp only[hld]
    ·refine h.renew hp (by simp only[AMem.next_alloc]; omega) (hext.alloc _) (hok m (Nat.le_refl _)) (fun b' hb'=>?_) rfl fun b' _ hlt=>?_
     ·cases hb'; exact Nat.le_refl _
     ·rw[AMem.bf,if_neg (by omega)]
   ·refine⟨some ⟨(m.kill b).next,0,none⟩,(m.kill b).alloc (.cells (es.flatten++e0.flatten) (.more w)),?_,?_⟩
    ·unfold bS;simp only[ht.und,hnew];rw[if_neg (by rw[hguard]; exact Bool.false_ne_true)]
     simp only[ht.size,g0];rw[if_neg hcap];simp only[and_self,if_true,htake,hlen,AMem.next_kill]
    ·have hk:Ext m0 (m.kill b):=⟨by rw[AMem.next_kill]; exact hext.next,fun x hx=>by rw[AMem.eo,if_neg (by omega)]; exact hext.same x hx,by
      rw[AMem.wl_kill];have:=hext.wl; omega⟩
     refine h.renew hp (by simp only[AMem.next_alloc,AMem.next_kill]; omega) (hk.alloc _) (hok (m.kill b) (by rw[AMem.next_kill]; exact Nat.le_refl _)) (fun b' hb'=>?_) rfl fun b' hb' hlt=>?_
     ·cases hb'; rw[AMem.next_kill]; exact Nat.le_refl _
     ·rw[AMem.bf,if_neg (by simp; omega),AMem.eo,if_neg (fun e=>hb' (by rw[e]; rfl))]
theorem Mi {elem ty2:TypeId} {w k k2 n1 c0:Nat} {a a0:Option Addr} {es e0:List (List Value)} {ars:Array Operand} {p0:Pc} (ht:SlT E.P ty elem w) (h0:∃e1,E.P.underlying ty2=some (.slice e1)) (ha:gQ E fs ars.toList=some [.slice a n n,.slice a0 n1 c0]) (hp:pk ps k=some (.sl a w n es)) (h1:pk ps k2=some p0) (hr:IsRd p0 a0 c0 w n1 e0) (h2:∀e ∈ e0,e.length=w) (ho:gB e0) (hl:lim (n+n1)=true) :
  Ox E m0 fs ps (.call ⟨.builtin .append,ars,#[ty,ty2]⟩) (fun a':Option Addr=>.slice a' (n+n1) (n+n1)) (fun a'=>cu ps k (.sl a' w (n+n1) (es++e0))) :=
 fun t m hf h=>⟨fun b hb=>(by simp[aK] at hb),fun K hK=>by
  obtain⟨a',m',h3,h4⟩:=sD (n:=n) ht h0 h hp (h.rd h1 hr) h2 ho hl;have:aY E.P .append #[ty,ty2] [.slice a n n,.slice a0 n1 c0] m=some (.slice a' (n+n1) (n+n1),m'):=h3;rw[Go.Ab.dM (hf.gQ ha) this];exact hK a' m' h4⟩
theorem bL {k cap:Nat} {a:Option Addr} {ars:Array Operand} {p:Pc} {elem:TypeId} (hu:E.P.underlying ty=some (.slice elem)) (ha:gQ E fs ars.toList=some [.slice a n cap]) (hp:pk ps k=some p) (hb:kf a=p.oh∨a=none) :
  Od E m0 fs ps (.call ⟨.builtin .len,ars,#[ty]⟩) (.int .i64 (n:Int)) ps :=
 fun t m hf h=>⟨fun b hb'=>by
  simp only[aK,hf.gQ ha] at hb';have hab:dG (.slice a n cap)=kf a:=by cases a<;>rfl
  rw[hab] at hb';exact hb.elim (fun hb=>Pc.JO (h.get hp) (hb ▸ hb')) (fun hb=>by rw[hb] at hb'; exact nomatch hb'),fun K hK=>by
  have:aY E.P .len #[ty] [.slice a n cap] m=some (.int .i64 (n:Int),m):=by
   have ht:(#[ty]:Array TypeId)[0]? = some ty:=rfl;simp only[aY,ht,Option.bind_some,hu]
  rw[Go.Ab.dM (hf.gQ ha) this]; exact hK m h⟩
theorem gw {n cap lo hi:Nat} (h1:lo≤hi) (h2:hi≤cap) {l h:Option Value} (hl:l=none∧lo=0∨∃k,l=some (.int k (lo:Int))) (hh:h=none∧hi=n∨∃k,h=some (.int k (hi:Int))):dA n cap l h none=some (lo,hi,cap):=by
 have hb:∀(k:IntKind) (x y:Nat),x≤y→iX (.int k (x:Int)) y=some x:=fun k x y hxy=>by
  simp only[iX]; rw[if_pos ⟨by omega,by omega⟩,Int.toNat_natCast]
 rcases hl with⟨rfl,rfl⟩|⟨k1,rfl⟩<;>rcases hh with⟨rfl,rfl⟩|⟨k2,rfl⟩<;>(unfold dA; simp only[hb _ _ _ h1,hb _ _ _ h2])
theorem rf.drop {b o w:Nat} {es:List (List Value)} (h:rf m b o w es) (lo k:Nat):rf m b (o+lo*w) w ((es.drop lo).take k):=by
 obtain⟨h1,all,tg,h2,hs,h3⟩:=h;refine⟨h1,all,tg,h2,hs,fun i e he=>?_⟩;rw[List.getElem?_take] at he
 split at he
 ·rw[List.getElem?_drop] at he;have:=h3 (lo+i) e he;rwa[Nat.add_mul,←Nat.add_assoc] at this
 ·cases he
theorem Dq {P:Program} {elem:TypeId} {cap w lo hi:Nat} {a:Option Addr} {es:List (List Value)} {l h:Option Value} (ht:SlT P ty elem w) (hr:Rd m a cap w n es) (h1:lo≤hi) (h2:hi≤n) (hl:l=none∧lo=0∨∃k,l=some (.int k (lo:Int))) (hh:h=none∧hi=n∨∃k,h=some (.int k (hi:Int))) :
  ∃a' cap',bO P ty (.slice a n cap) l h none m=some (.slice a' (hi-lo) cap')∧Rd m a' cap' w (hi-lo) ((es.drop lo).take (hi-lo))∧(kf a'=kf a):=by
 obtain⟨r1,r2,r4⟩:=hr;have hlen:((es.drop lo).take (hi-lo)).length=hi-lo:=by rw[List.length_take,List.length_drop,r1]; omega
 have hb:=gw (n:=n) (cap:=cap) h1 (Nat.le_trans h2 r2) hl hh;rcases r4 with⟨rfl,rfl⟩|⟨b,sp,rfl,rfl,rfl,hlt⟩|⟨b,o,rfl,hli⟩
 ·refine⟨none,cap-lo,?_,⟨hlen,by omega,.inl ⟨rfl,by omega⟩⟩,rfl⟩
  simp only[bO,ht.und,ht.known,if_true,hb]
 ·have e1:lo=0:=by omega
  have e2:hi=0:=by omega
  subst e1 e2;refine⟨some ⟨b,0,some sp⟩,0,?_,⟨hlen,Nat.le_refl _,.inr (.inl ⟨b,sp,rfl,rfl,rfl,hlt⟩)⟩,rfl⟩;simp only[bO,ht.und,ht.known,if_true,hb,Nat.sub_zero]
 ·have hli':=hli.drop lo (hi-lo);obtain⟨hlt,all,tg,hg,hs,hall⟩:=hli;have plain:(∀sz,tg≠.more sz)→∃a' cap',bO P ty (.slice (some ⟨b,o,none⟩) n cap) l h none m=some (.slice a' (hi-lo) cap')∧Rd m a' cap' w (hi-lo) ((es.drop lo).take (hi-lo))∧(kf a'=kf (some ⟨b,o,none⟩)):=by
   intro hne;have:bO P ty (.slice (some ⟨b,o,none⟩) n cap) l h none m=some (.slice (some (if cap=lo then⟨b,o,none⟩ else⟨b,o+lo*w,none⟩)) (hi-lo) (cap-lo)):=by
    cases tg with
    | more sz=>exact absurd rfl (hne sz)
    | ro=>simp only[bO,ht.und,ht.known,if_true,hg,hb,ht.size]
    | own=>simp only[bO,ht.und,ht.known,if_true,hg,hb,ht.size]
   by_cases hc:cap=lo
   ·rw[if_pos hc] at this;have e0:hi-lo=0:=by omega
    refine⟨_,_,this,⟨hlen,by omega,.inr (.inr ⟨b,o,rfl,hlt,all,tg,hg,hs,fun i e he=>?_⟩)⟩,rfl⟩
    rw[e0,List.take_zero] at he; simp at he
   ·rw[if_neg hc] at this;exact⟨_,_,this,⟨hlen,by omega,.inr (.inr ⟨b,_,rfl,hli'⟩)⟩,rfl⟩
  cases tg with
  | ro=>exact plain fun sz e=>(by cases e)
  | own=>exact plain fun sz e=>(by cases e)
  | more sz =>
   have hsz:=hs sz rfl;subst hsz;have hb':=gw (n:=n) (cap:=cap) h1 (Nat.le_trans h2 r2) hl hh
   by_cases hc:cap=lo
   ·have e0:hi-lo=0:=by omega
    have e1:((es.drop lo).take (hi-lo)) = []:=by rw[e0]; rfl
    refine⟨some ⟨b,0,some 0⟩,0,?_,⟨hlen,by omega,.inr (.inl ⟨b,0,rfl,e0,rfl,hlt⟩)⟩,rfl⟩
    simp only[bO,ht.und,ht.known,if_true,hg,hb',ht.size,ne_eq,not_true_eq_false,if_false,e0,fT];rw[if_pos hc]
   ·refine⟨some ⟨b,o+lo*sz,none⟩,cap-lo,?_,⟨hlen,by omega,.inr (.inr ⟨b,_,rfl,hli'⟩)⟩,rfl⟩
    simp only[bO,ht.und,ht.known,if_true,hg,hb',ht.size,hc,ne_eq,not_true_eq_false,if_false]
theorem LW {elem:TypeId} {k cap w lo hi:Nat} {a:Option Addr} {es:List (List Value)} {x:Operand} {lx hx:Option Operand} {l h:Option Value} (ht:SlT E.P ty elem w) (hv:ev E fs x=some (.slice a n cap)) (e1:ri E fs lx=some l) (e2:ri E fs hx=some h) (hp:pk ps k=some (.rd a cap w n es)) (h1:lo≤hi) (h2:hi≤n) (hl:l=none∧lo=0∨∃k,l=some (.int k (lo:Int))) (hh:h=none∧hi=n∨∃k,h=some (.int k (hi:Int))) :
  Ox E m0 fs ps (.slice ty x lx hx none) (fun r:Option Addr × Nat=>.slice r.1 (hi-lo) r.2) (fun r=>.rd r.1 r.2 w (hi-lo) ((es.drop lo).take (hi-lo))::ps) :=
 fun t m hf hm=>by
  obtain⟨a',cap',s1,s2,s3⟩:=Dq ht (hm.get hp) h1 h2 hl hh;refine⟨fun b hb=>?_,fun K hK=>?_⟩
  ·have hab:dG (.slice a n cap)=kf a:=by cases a<;>rfl
   simp only[aK,hf.ev hv,Option.bind_some,hab] at hb;exact Rd.lt (hm.get hp) hb
  ·rw[Go.Ab.lA (hf.ev hv) (hf.ri e1) (hf.ri e2) rfl s1];exact hK (a',cap') m (hm.more hp rfl s2 rfl fun b hb=>by
    have:kf a'=some b:=hb;rw[s3] at this; exact this)
def uc (ps:List Pc):Bool:=ps.all Pc.own
theorem kg {α:Type} {V:α→Value} {N:α→List Pc} {f:Operand} {g:FuncId} {first cap:Array Value} {ars:Array Operand} {ts:Array TypeId} {args:List Value} (hf:ev E fs f=some (.func (.func g) first cap)) (ha:gQ E fs ars.toList=some args) (hc:∀m,Hp m0 m ps→aG E g (first.toList++args++cap.toList) m (fun v m'=>∃x,v=V x∧Hp m0 m' (N x))):Ox E m0 fs ps (.call ⟨.value f,ars,ts⟩) V N :=
 fun t m hfr hm=>⟨fun b hb=>(by simp[aK] at hb),fun K hK=>by
  have hev:ay E t f=some (.func (.func g) first cap):=by
   cases f with
   | tmp i=>exact hfr.ev hf
   | const c=>exact hfr.ev hf
   | global g=>exact hfr.ev hf
   | func g=>exact hfr.ev hf
  show jh E (ay E t f) (bm E t ars.toList) m _
  rw[hev,hfr.gQ ha]
  show aG E g (first.toList++args++cap.toList) m K
  exact(hc m hm).mono fun v m' ⟨x,e,h⟩=>by rw[e]; exact hK x m' h⟩
theorem bh {α:Type} {V:α→Value} {N:α→List Pc} {f:Operand} {g:FuncId} {ars:Array Operand} {ts:Array TypeId} {args:List Value} (hf:ev E fs f=some (.func (.func g) #[] #[])) (ha:gQ E fs ars.toList=some args) (hc:∀m,Hp m0 m ps→aG E g args m (fun v m'=>∃x,v=V x∧Hp m m' (N x))) (ho:∀x,uc (N x)=true):Ox E m0 fs ps (.call ⟨.value f,ars,ts⟩) V (fun x=>N x++ps) :=
 kg hf ha fun m hm=>by
  simp only[List.nil_append,List.append_nil];exact(hc m hm).mono fun v m' ⟨x,e,h⟩=>⟨x,e,hm.after h fun p hp=>List.all_eq_true.1 (ho x) p hp⟩
end
theorem Ext.MI {m0 m:AMem} (h:Ext m0 m) {w:Nat} (hw:min m0.wl m0.next≤w):Ext m0 (m.ww w):=⟨by rw[AMem.next_ww]; exact h.next,fun b hb=>by rw[AMem.get_ww]; exact h.same b hb,by rw[AMem.wl_ww]; exact hw⟩
theorem Hp.ww {m0 m:AMem} {ps:List Pc} (h:Hp m0 m ps) {w:Nat} (hw:min m0.wl m0.next≤w):Hp m0 (m.ww w) ps :=
 ⟨Ext.MI h.ext hw,fun p hp=>Pc.il (h.ok p hp) (by rw[AMem.next_ww]; exact Nat.le_refl _) (fun b _ _=>by rw[AMem.get_ww]),h.apart⟩
section
variable {E : Env} {n : Nat} {m0 : AMem} {fs : Fs} {ps ps' : List Pc} {ops : Array Oper} {os : List Oper} {K : Tm → AMem → Prop} {dr : Bool}
def Wo (dr:Bool) (E:Env) (n:Nat) (ops:Array Oper) (K:Tm→AMem→Prop) (os:List Oper) (m0:AMem) (fs:Fs) (ps:List Pc):Prop :=
 match dr with
 | false=>∀t m,Fr t fs→Hp m0 m ps→pT E n ops K os t m
 | true=>∀t m w,Fr t fs→Hp m0 m ps→min m0.wl m0.next≤w→iy E n ops K os t m w
variable {ty : TypeId} {p : String} {af : Array Edge} {d : Nat} {o : Op} {g : Option (Nat × Bool)} {v : Value}
def uY (ops:Array Oper) (fs:Fs) (g:Option (Nat × Bool)) (b:Bool):Prop:=∀t d o ty p af,Fr t fs→bl ops ⟨d,o,ty,p,af,g⟩ t=b
theorem gn:uY ops fs none true:=fun _ _ _ _ _ _ _=>rfl
theorem gg {j d:Nat} {b c r:Bool} (hd:(ops[j]?).bind (·.dst)=some d) (h:lk fs d=some (.bool c)) (hr:(c == b)=r):uY ops fs (some (j,b)) r:=fun t d' o ty p af hf=>by
 rw[←hr]; exact LN hd (hf d _ h)
theorem Wo.x {α:Type} {V:α→Value} {N:α→List Pc} (h:Ox E m0 fs ps o V N) (hg:uY ops fs g true) (hd:Nat.blt d n=true) (k:∀x,Wo dr E n ops K os m0 ((d,V x)::fs) (N x)):Wo dr E n ops K (⟨some d,o,ty,p,af,g⟩::os) m0 fs ps:=by
 have hd':d<n:=by rwa[Nat.blt_eq] at hd
 cases dr with
 | false =>
  intro t m hf hm;simp only[pT,hg t _ _ _ _ _ hf,if_true];refine(h t m hf hm).2 _ fun x m' hm'=>?_;rw[iD,if_pos hd'];exact k x _ m' hf.set hm'
 | true =>
  intro t m w hf hm hw;simp only[iy,hg t _ _ _ _ _ hf,if_true];have hx:=hm.ext.next
  have hm':Hp m0 (m.ww m.next) ps:=hm.ww (by omega)
  refine⟨fun b hb=>?_,?_⟩
  ·have:=(h t _ hf hm').1 b hb;rwa[AMem.next_ww] at this
  ·refine(h t _ hf hm').2 _ fun x m' hm''=>?_;rw[iD,if_pos hd'];have:=hm''.ext.wl;exact k x _ m' _ hf.set hm'' (by omega)
theorem Wo.x0 {α:Type} {V:α→Value} {N:α→List Pc} (h:Ox E m0 fs ps o V N) (hg:uY ops fs g true) (k:∀x,Wo dr E n ops K os m0 fs (N x)):Wo dr E n ops K (⟨none,o,ty,p,af,g⟩::os) m0 fs ps:=by
 cases dr with
 | false =>
  intro t m hf hm;simp only[pT,hg t _ _ _ _ _ hf,if_true];refine(h t m hf hm).2 _ fun x m' hm'=>?_;exact k x _ m' hf hm'
 | true =>
  intro t m w hf hm hw;simp only[iy,hg t _ _ _ _ _ hf,if_true];have hx:=hm.ext.next
  have hm':Hp m0 (m.ww m.next) ps:=hm.ww (by omega)
  refine⟨fun b hb=>?_,?_⟩
  ·have:=(h t _ hf hm').1 b hb;rwa[AMem.next_ww] at this
  ·refine(h t _ hf hm').2 _ fun x m' hm''=>?_;have:=hm''.ext.wl;exact k x _ m' _ hf hm'' (by omega)
theorem Od.x (h:Od E m0 fs ps o v ps'):Ox E m0 fs ps o (fun _:Unit=>v) (fun _=>ps'):=fun t m hf hm=>⟨(h t m hf hm).1,fun K hK=>(h t m hf hm).2 K fun m' hm'=>hK () m' hm'⟩
theorem Wo.od (h:Od E m0 fs ps o v ps') (hd:Nat.blt d n=true) (k:Wo dr E n ops K os m0 ((d,v)::fs) ps'):Wo dr E n ops K (⟨some d,o,ty,p,af,none⟩::os) m0 fs ps:=Wo.x h.x gn hd fun _=>k
theorem Wo.o0 (h:Od E m0 fs ps o v ps') (k:Wo dr E n ops K os m0 fs ps'):Wo dr E n ops K (⟨none,o,ty,p,af,none⟩::os) m0 fs ps:=Wo.x0 h.x gn fun _=>k
theorem Wo.og (h:Od E m0 fs ps o v ps') (hg:uY ops fs g true) (hd:Nat.blt d n=true) (k:Wo dr E n ops K os m0 ((d,v)::fs) ps'):Wo dr E n ops K (⟨some d,o,ty,p,af,g⟩::os) m0 fs ps:=Wo.x h.x hg hd fun _=>k
theorem Wo.s (hg:uY ops fs g false) (hd:Nat.blt d n=true) (k:Wo dr E n ops K os m0 ((d,undef)::fs) ps):Wo dr E n ops K (⟨some d,o,ty,p,af,g⟩::os) m0 fs ps:=by
 have hd':d<n:=by rwa[Nat.blt_eq] at hd
 cases dr with
 | false =>
  intro t m hf hm;simp only[pT,hg t _ _ _ _ _ hf,Bool.false_eq_true,if_false];rw[iD,if_pos hd'];exact k _ m hf.set hm
 | true =>
  intro t m w hf hm hw;simp only[iy,hg t _ _ _ _ _ hf,Bool.false_eq_true,if_false];rw[iD,if_pos hd'];exact k _ m w hf.set hm hw
def ae (m0:AMem) (ps:List Pc) (qs:List Pc):Prop:=∀m,Hp m0 m ps→Hp m0 m qs
theorem Wo.ic (h:ae m0 ps ps') (k:Wo dr E n ops K os m0 fs ps'):Wo dr E n ops K os m0 fs ps:=by
 cases dr with
 | false=>exact fun t m hf hm=>k t m hf (h m hm)
 | true=>exact fun t m w hf hm hw=>k t m w hf (h m hm) hw
theorem Wo.open {k w l:Nat} {a:Option Addr} {es:List (List Value)} (hp:pk ps k=some (.sl a w l es)) (hl:0<l) (h:∀b tg,a=some ⟨b,0,none⟩→DY tg=true→Wo dr E n ops K os m0 fs (cu ps k (.arr b w l es tg))):Wo dr E n ops K os m0 fs ps:=by
 have key:∀m,Hp m0 m ps→∃b tg,a=some ⟨b,0,none⟩∧DY tg=true∧Hp m0 m (cu ps k (.arr b w l es tg)):=by
  intro m hm;have h0:=hm.get hp;rcases h0 with⟨h1,_⟩|⟨b,tg,rfl,h1⟩
  ·omega
  ·refine⟨b,tg,rfl,by rcases h1.2.2.2.2.2.1 with rfl|rfl<;>rfl,hm.put hp rfl rfl rfl (Nat.le_refl _) hm.ext h1 fun _ _ _=>rfl⟩
 cases dr with
 | false=>intro t m hf hm; obtain⟨b,tg,h1,h2,h3⟩:=key m hm; exact h b tg h1 h2 t m hf h3
 | true=>intro t m w' hf hm hw; obtain⟨b,tg,h1,h2,h3⟩:=key m hm; exact h b tg h1 h2 t m w' hf h3 hw
theorem Wo.cB {k w l cap:Nat} {a:Option Addr} {es:List (List Value)} (hp:pk ps k=some (.rd a cap w l es)) (hl:0<l) (h:∀b o,a=some ⟨b,o,none⟩→Wo dr E n ops K os m0 fs (.ro b o w l es::ps)):Wo dr E n ops K os m0 fs ps:=by
 have key:∀m,Hp m0 m ps→∃b o,a=some ⟨b,o,none⟩∧Hp m0 m (.ro b o w l es::ps):=by
  intro m hm;obtain⟨h1,h2,h3⟩:=hm.get hp;rcases h3 with⟨_,h3⟩|⟨_,_,_,h3,_⟩|⟨b,o,rfl,h3⟩
  ·omega
  ·omega
  ·exact⟨b,o,rfl,hm.more hp rfl ⟨h1,h3⟩ rfl fun b' hb=>hb⟩
 cases dr with
 | false=>intro t m hf hm; obtain⟨b,o,h1,h3⟩:=key m hm; exact h b o h1 t m hf h3
 | true=>intro t m w' hf hm hw; obtain⟨b,o,h1,h3⟩:=key m hm; exact h b o h1 t m w' hf h3 hw
theorem ae.trans {ps'':List Pc} (h:ae m0 ps ps') (h':ae m0 ps' ps''):ae m0 ps ps'':=fun m hm=>h' m (h m hm)
theorem ae.ab (ks:List Nat) (hnd:nb ks=true) (e:W.ab ps ks=some ps'):ae m0 ps ps':=fun _ h=>h.ab ks hnd e
theorem ae.close {k b w l:Nat} {es:List (List Value)} {tg:Tag} (hp:pk ps k=some (.arr b w l es tg)):ae m0 ps (cu ps k (.sl (some ⟨b,0,none⟩) w l es)):=fun _ h =>
 h.put hp rfl rfl rfl (Nat.le_refl _) h.ext (.inr ⟨b,tg,rfl,h.get hp⟩) fun _ _ _=>rfl
theorem ae.nil (w:Nat) (hw:Nat.blt 0 w=true):ae m0 ps (.sl none w 0 []::ps):=fun m h =>
 h.cons (Nat.le_refl _) h.ext (fun _ _=>rfl) (.inl ⟨rfl,rfl,rfl,by rwa[Nat.blt_eq] at hw⟩) fun b hb=>(by cases hb)
theorem qR {ps:List Pc} {k:Nat} {p p':Pc} (hk:pk ps k=some p) (ho:p'.own=false) (hb:∀b,p'.oh=some b→p.oh=some b∧p.own=true) (h:ps.Pairwise Pc.apart) (hng:∀b,¬p'.A7 b:=by exact fun _ h=>h):(cu ps k p').Pairwise Pc.apart :=
 gN hk (fun r _ ha=>⟨fun b a c=>a.elim (fun a=>by rw[ho] at a; cases a.1) fun a=>hng b (by cases p' with|gen g=>exact .inl a|_=>exact a),fun b a c=>ha.2 b a (c.elim (fun c=>.inl (hb b c).1) fun c=>absurd c (hng b))⟩) h
theorem ae.freeze {k w l:Nat} {a:Option Addr} {es:List (List Value)} (hp:pk ps k=some (.sl a w l es)):ae m0 ps (cu ps k (.rd a l w l es)):=fun m h =>
 ⟨h.ext,fun q hq=>by
  rcases uV hp h.apart hq with rfl|⟨h1,_⟩
  ·exact Pc.KX (h.get hp) (.sl a w l es)
  ·exact h.ok q h1,qR hp rfl (fun b hb=>⟨hb,rfl⟩) h.apart⟩
variable {fn : FuncId} {ro : Option Nat} {Q : AExit → Tm → AMem → Prop}
def Wk (E:Env) (n:Nat) (fn:FuncId) (ro:Option Nat) (c:Code) (Q:AExit→Tm→AMem→Prop) (m0:AMem) (fs:Fs) (ps:List Pc):Prop:=∀t m,Fr t fs→Hp m0 m ps→bE E n fn ro c Q t m
def At (Q:AExit→Tm→AMem→Prop) (e:AExit) (m0:AMem) (fs:Fs) (ps:List Pc):Prop:=∀t m,Fr t fs→Hp m0 m ps→Q e t m
variable {a b c : Code} {id id' : Nat}
theorem Wk.seq (h:Wk E n fn ro a (om (bE E n fn ro b Q) Q) m0 fs ps):Wk E n fn ro (.seq a b) Q m0 fs ps:=fun t m hf hm=>.seq (h t m hf hm)
theorem Wk.skip (h:At Q .normal m0 fs ps):Wk E n fn ro .skip Q m0 fs ps:=fun t m hf hm=>.skip (h t m hf hm)
theorem Wk.exit (h:At Q (.exit id) m0 fs ps):Wk E n fn ro (.exit id) Q m0 fs ps:=fun t m hf hm=>.exit (h t m hf hm)
theorem Wk.ret (h:At Q .ret m0 fs ps):Wk E n fn ro .ret Q m0 fs ps:=fun t m hf hm=>.ret (h t m hf hm)
theorem Wk.cond {x:Operand} {r:Bool} (hx:ev E fs x=some (.bool r)) (ht:r=true→Wk E n fn ro a Q m0 fs ps) (hf:r=false→Wk E n fn ro b Q m0 fs ps):Wk E n fn ro (.cond x a b) Q m0 fs ps:=fun t m hfr hm=>.cond (hfr.ev hx) (fun h=>ht h t m hfr hm) (fun h=>hf h t m hfr hm)
theorem Wk.au {x:Operand} {r:Bool} (hx:ev E fs x=some (.bool r)) (hr:r=true) (ht:Wk E n fn ro a Q m0 fs ps):Wk E n fn ro (.cond x a b) Q m0 fs ps:=.cond hx (fun _=>ht) (fun h=>by rw[hr] at h; cases h)
theorem Wk.aw {x:Operand} {r:Bool} (hx:ev E fs x=some (.bool r)) (hr:r=false) (ht:Wk E n fn ro b Q m0 fs ps):Wk E n fn ro (.cond x a b) Q m0 fs ps:=.cond hx (fun h=>by rw[hr] at h; cases h) (fun _=>ht)
theorem Wk.block (h:Wk E n fn ro a (e7 id Q) m0 fs ps):Wk E n fn ro (.block id a) Q m0 fs ps:=fun t m hf hm=>.block (h t m hf hm)
theorem Wk.scope (h:Wk E n fn ro a Q m0 fs ps):Wk E n fn ro (.scope a) Q m0 fs ps:=fun t m hf hm=>.scope (h t m hf hm)
theorem Wk.region (h:Wo false E n ops (Q .normal) ops.toList m0 fs ps):Wk E n fn ro (.region id ops false) Q m0 fs ps:=fun t m hf hm=>.He (h t m hf hm)
theorem ym {t:Tm} {m:AMem} {o:Op} {K K':Value→AMem→Prop} (h:bt E t m o K) (hk:∀v m',K v m'→K' v m'):bt E t m o K':=by
 unfold bt at h ⊢;cases hc:k9 o with
 | some p =>
  obtain⟨f,ars⟩:=p;rw[hc] at h;simp only at h ⊢;cases hf:ay E t f with
  | none=>rw[hf] at h; exact h.elim
  | some v =>
   cases ha:bm E t ars with
   | none=>rw[hf,ha] at h; unfold jh at h; split at h<;>first | (rename_i h1 h2; cases h2) | exact h.elim
   | some vs =>
    rw[hf,ha] at h;unfold jh at h ⊢
    split at h
    ·rename_i h1 h2;cases h1; cases h2;exact h.mono hk
    ·rename_i h1 h2;cases h1; cases h2;obtain⟨v,m',h5,hv⟩:=h;exact⟨v,m',h5,hk v m' hv⟩
    ·exact h.elim
 | none =>
  rw[hc] at h;simp only at h ⊢;cases he:cO E t m o with
  | none=>rw[he] at h; exact h.elim
  | some r=>rw[he] at h; exact hk r.1 r.2 h
theorem zb {K K':Tm→AMem→Prop} (hK:∀t m,K t m→K' t m):∀(os:List Oper) (t:Tm) (m:AMem) (w:Nat),iy E n ops K os t m w→iy E n ops K' os t m w:=by
 intro os
 induction os with
 | nil=>intro t m w hk; exact hK _ _ hk
 | cons o os ih =>
  intro t m w hk;simp only[iy] at hk ⊢
  split at hk
  ·rename_i hw;rw[if_pos hw];refine⟨hk.1,ym hk.2 fun v m' hv=>?_⟩;obtain⟨t',e,h4⟩:=hv.A
   show Ci (gA n t o.dst v) fun t'=>iy E n ops K' os t' m' (min w m'.wl)
   rw[e]; exact ih _ _ _ h4
  ·rename_i hw;rw[if_neg hw];obtain⟨t',e,h4⟩:=hk.A;rw[e]; exact ih _ _ _ h4
theorem Wk.draw (hp:df ops=some []) (h:Wo true E n ops (Q .normal) ops.toList m0 fs ps):Wk E n fn ro (.region id ops true) Q m0 fs ps:=fun t m hf hm=>.Kl hp fun K hK=>by
 exact zb hK _ _ _ _ (h t m m.wl hf hm hm.ext.wl)
theorem Wo.nil (h:At Q .normal m0 fs ps):Wo dr E n ops (Q .normal) [] m0 fs ps:=by
 cases dr with
 | false=>exact fun t m hf hm=>h t m hf hm
 | true=>exact fun t m w hf hm hw=>h t _ hf (hm.ww hw)
theorem At.tn (h:Wk E n fn ro b Q m0 fs ps):At (om (bE E n fn ro b Q) Q) .normal m0 fs ps:=h
theorem At.te {K:Tm→AMem→Prop} (h:At Q (.exit id) m0 fs ps):At (om K Q) (.exit id) m0 fs ps:=h
theorem At.tr {K:Tm→AMem→Prop} (h:At Q .ret m0 fs ps):At (om K Q) .ret m0 fs ps:=h
theorem At.bn (h:At Q .normal m0 fs ps):At (e7 id Q) .normal m0 fs ps:=h
theorem At.be (h:At Q .normal m0 fs ps):At (e7 id Q) (.exit id) m0 fs ps:=fun t m hf hm=>by rw[Aa,if_pos rfl]; exact h t m hf hm
theorem At.bx (hne:Nat.beq id' id=false) (h:At Q (.exit id') m0 fs ps):At (e7 id Q) (.exit id') m0 fs ps:=fun t m hf hm=>by rw[Aa,if_neg (Nat.ne_of_beq_eq_false hne)]; exact h t m hf hm
theorem At.br (h:At Q .ret m0 fs ps):At (e7 id Q) .ret m0 fs ps:=h
theorem Wk.de {fs':Fs} (hs:sub fs fs') (h:ae m0 ps ps') (k:Wk E n fn ro c Q m0 fs' ps'):Wk E n fn ro c Q m0 fs ps:=fun t m hf hm=>k t m (hf.sub hs) (h m hm)
structure En where
 e:AExit
 fs:Fs
 ps:List Pc
def pO (m0:AMem) {γ:Type} (G:γ→En) (e:AExit) (t:Tm) (m:AMem):Prop:=∃g,e=(G g).e∧Fr t (G g).fs∧Hp m0 m (G g).ps
theorem At.en {γ:Type} {G:γ→En} {e:AExit} (g:γ) (he:e=(G g).e) (hs:sub fs (G g).fs) (ht:ae m0 ps (G g).ps):At (pO m0 G) e m0 fs ps:=fun _ m hf hm=>⟨g,he,hf.sub hs,ht m hm⟩
theorem Wk.cut {γ:Type} {G:γ→En} (h:Wk E n fn ro c (pO m0 G) m0 fs ps) (k:∀g,At Q (G g).e m0 (G g).fs (G g).ps):Wk E n fn ro c Q m0 fs ps:=fun t m hf hm =>
 (h t m hf hm).mono fun e t' m' ⟨g,h1,h2,h3⟩=>by rw[h1]; exact k g t' m' h2 h3
def cq {σ ρ:Type} (body:σ→Option (σ ⊕ ρ)):Nat→σ→Option ρ
 | 0,_=>none
 | k+1,s=>match body s with
  | some (.inl s')=>cq body k s'
  | some (.inr r)=>some r
  | none=>none
theorem Wk.loop {σ ρ γ:Type} {δ:ρ→Type} (body:σ→Option (σ ⊕ ρ)) (I:σ→γ→En) (X:(r:ρ)→δ r→En)
  (hb:∀s g r,body s=some r→Wk E n fn ro c (match r with | .inl s'=>pO m0 (I s') | .inr r=>pO m0 (X r)) m0 (I s g).fs (I s g).ps)
  (hn:∀s g,(I s g).e = .normal) (hx:∀r g,(X r g).e≠.normal) :
  ∀(N:Nat) (s:σ) (r:ρ),cq body N s=some r→∀g,Wk E n fn ro (.loop c) (pO m0 (X r)) m0 (I s g).fs (I s g).ps:=by
 intro N
 induction N with
 | zero=>intro s r h; cases h
 | succ N ih =>
  intro s r h g t m hf hm;refine .loop (.round ?_);simp only[cq] at h
  split at h
  ·rename_i s' hs;refine(hb s g _ hs t m hf hm).mono fun e t' m' ⟨g',h1,h2,h3⟩=>?_;rw[h1,hn];have:=ih s' r h g' t' m' h2 h3;obtain⟨e2,t2,m2,⟨k2,hk2⟩,q2⟩:=this;cases k2 with
   | zero=>cases hk2
   | succ k2=>exact⟨e2,t2,m2,⟨k2,hk2⟩,q2⟩
  ·rename_i r' hs;simp only[Option.some.injEq] at h;subst h;refine(hb s g _ hs t m hf hm).mono fun e t' m' ⟨g',h1,h2,h3⟩=>?_;have hq:pO m0 (X r') e t' m':=⟨g',h1,h2,h3⟩;cases he:e with
   | normal=>rw[h1] at he; exact absurd he (hx _ _)
   | exit id=>rw[he] at hq; exact hq
   | ret=>rw[he] at hq; exact hq
  ·cases h
def sq:List Value→Nat→Fs→Fs
 | [],_,fs=>fs
 | v::vs,i,fs=>sq vs (i+1) ((i,v)::fs)
theorem Fr.args:∀(vs:List Value) (i:Nat) (fs:Fs) (t:Tm),Fr t fs→Fr (Trie.ofList vs i t) (sq vs i fs)
 | [],_,_,_,h=>h
 | _::vs,i,_,_,h=>Fr.args vs (i+1) _ _ h.set
theorem aB {f:FuncId} {F:Func} {c:Code} {args:List Value} {rs:List ResultVar} {N:Nat} {R:Value→AMem→Prop} (hp:E.cE f=none) (hf:E.P.funcs[f]? = some F) (hb:F.body=some c) (hrs:F.results.toList=rs) (hN:max args.length F.ntmps=N)
  {m:AMem} (hm:Hp m0 m ps) (h:Wk E N f none c (pz E rs R) m0 (sq args 0 []) ps):aG E f args m R :=
 aG.ID hp hf hb hrs hN (h _ m (Fr.args args 0 [] _ (Fr.nil _)) hm)
theorem Hp.start (m:AMem):Hp m m []:=⟨.refl m,fun p h=>(by cases h),.nil⟩
theorem Hp.in {m0 m:AMem} {ps:List Pc} {a:Option Addr} {cap w l:Nat} {es:List (List Value)} (h:Hp m0 m ps) (ho:∀p ∈ ps,∀b,¬p.ow b) (hr:Rd m a cap w l es):Hp m0 m (.rd a cap w l es::ps) :=
 ⟨h.ext,fun p hp=>by
  rcases List.mem_cons.1 hp with rfl|hp
  ·exact hr
  ·exact h.ok p hp,List.pairwise_cons.2 ⟨fun q hq=>⟨fun b a=>a.elim (fun a=>by cases a.1) fun a=>a.elim,fun b a=>absurd a (ho q hq b)⟩,h.apart⟩⟩
def Pc.JN:Pc→Bool
 | .gen _=>false
 | p=>!p.own
theorem Pc.zI {p:Pc} (h:p.JN=true) (b:Nat):¬p.ow b:=by
 cases p with
 | gen g=>cases h
 | obj b o=>cases h
 | arr b w n es tg=>cases h
 | sl a w n es=>cases h
 | rd a cap w n es=>exact fun a=>a.elim (fun a=>by cases a.1) fun a=>a.elim
 | ro b o w n es=>exact fun a=>a.elim (fun a=>by cases a.1) fun a=>a.elim
inductive Res1 (E:Env) (fs:Fs) (ps:List Pc):List ResultVar→List Value→Prop
 | nil:Res1 E fs ps [] []
 | tmp {i:Nat} {v:Value} {rs:List ResultVar} {vs:List Value} (h:lk fs i=some v) (k:Res1 E fs ps rs vs):Res1 E fs ps (.tmp i::rs) (v::vs)
 | cell {i k b o sz:Nat} {ty:TypeId} {v:Value} {rs:List ResultVar} {vs:List Value} {cs:List Value} {tg:Tag} {ag:Bool} (ht:TyI E.P ty ag sz) (h:lk fs i=some (ptr b o)) (hp:pk ps k=some (.obj b (.cells cs tg))) (hv:Bp ag sz cs o=some v) (k:Res1 E fs ps rs vs):Res1 E fs ps (.cell i ty::rs) (v::vs)
theorem Res1.ok {fs:Fs} {ps:List Pc} {t:Tm} {m:AMem} (hf:Fr t fs) (hm:Hp m0 m ps):∀{rs:List ResultVar} {vs:List Value},Res1 E fs ps rs vs→bY E t m rs=some vs:=by
 intro rs vs h
 induction h with
 | nil=>rfl
 | tmp h _ ih=>simp only[bY,ih,hf _ _ h,Option.map_some]
 | cell ht h hp hv _ ih=>simp only[bY,hf _ _ h,sP ht (hm.get hp).2.2 hv,ih]
theorem At.ret {rs:List ResultVar} {vs:List Value} {R:Value→AMem→Prop} (h:Res1 E fs ps rs vs) (k:∀m,Hp m0 m ps→R (gE vs) m):At (pz E rs R) .ret m0 fs ps:=fun t m hf hm=>by
 rw[IT,h.ok hf hm]; exact k m hm
theorem At.fin {rs:List ResultVar} {vs:List Value} {R:Value→AMem→Prop} (h:Res1 E fs ps rs vs) (k:∀m,Hp m0 m ps→R (gE vs) m):At (pz E rs R) .normal m0 fs ps:=fun t m hf hm=>by
 rw[Bf,h.ok hf hm]; exact k m hm
end
end Go.Ab.W
end

section
namespace Go.Ab.W
open Go Go.Ab
def ob {α β:Type} (o:Option α) (f:α→Option β):Option β :=
 match o with
 | some x=>f x
 | none=>none
def gd {β:Type} (b:Bool) (k:Option β):Option β :=
 match b with
 | true=>k
 | false=>none
def br {β:Type} (b:Bool) (k l:Option β):Option β :=
 match b with
 | true=>k
 | false=>l
section
variable {α β : Type}
theorem J {o:Option α} {f:α→Option β} {r:β} (h:ob o f=some r):∃x,o=some x∧f x=some r:=by
 cases o with
 | none=>cases h
 | some x=>exact⟨x,rfl,h⟩
theorem an {b:Bool} {k:Option β} {r:β} (h:gd b k=some r):b=true∧k=some r:=by
 cases b with
 | false=>cases h
 | true=>exact⟨rfl,h⟩
theorem ah {b:Bool} {k l:Option β} {r:β} (h:br b k l=some r):(b=true∧k=some r)∨(b=false∧l=some r):=by
 cases b with
 | false=>exact .inr ⟨rfl,h⟩
 | true=>exact .inl ⟨rfl,h⟩
def bV (i:Int) (n:Nat):Bool:=decide (0≤i∧i.toNat<n)
theorem ar {i:Int} {n:Nat} (h:bV i n=true):0≤i∧i.toNat<n:=of_decide_eq_true h
theorem aN {f:α→β} {xs:List α} {i:Nat} {x:α} (h:xs[i]? = some x):(xs.map f)[i]? = some (f x):=by
 rw[List.getElem?_map,h]; rfl
theorem bw {i:Int} {n:Nat} (h:0≤i∧i.toNat<n):0<n:=by omega
def okB (lo hi:Int) (n:Nat):Bool:=decide (0≤lo∧lo≤hi∧hi≤(n:Int))
theorem wV {lo hi:Int} {n:Nat} (h:okB lo hi n=true):0≤lo∧lo≤hi∧hi≤(n:Int):=of_decide_eq_true h
end
def eI (k:IntKind) (x:Int):List Value:=[.int k x]
def eN (k:IntKind) (x:Nat):List Value:=[.int k (x:Int)]
def eB (b:Bool):List Value:=[.bool b]
def eP {α β:Type} (f:α→List Value) (g:β→List Value) (p:α × β):List Value:=f p.1++g p.2
structure Enc {α:Type} (f:α→List Value) (w:Nat):Prop where
 len:∀x,(f x).length=w
 one:∀x,(f x).all mq=true
theorem rB (k:IntKind):Enc (eI k) 1:=⟨fun _=>rfl,fun _=>rfl⟩
theorem FZ (k:IntKind):Enc (eN k) 1:=⟨fun _=>rfl,fun _=>rfl⟩
theorem MF:Enc eB 1:=⟨fun _=>rfl,fun _=>rfl⟩
theorem EL {α β:Type} {f:α→List Value} {g:β→List Value} {w v:Nat} (h:Enc f w) (h':Enc g v):Enc (eP f g) (w+v) :=
 ⟨fun x=>by simp[eP,h.len,h'.len],fun x=>by simp only[eP,List.all_append,h.one,h'.one,Bool.and_self]⟩
theorem Enc.oZ {α:Type} {f:α→List Value} {w:Nat} (h:Enc f w) (xs:List α):∀e ∈ xs.map f,e.length=w:=fun e he=>by
 obtain⟨x,_,rfl⟩:=List.mem_map.1 he; exact h.len x
theorem Enc.gB {α:Type} {f:α→List Value} {w:Nat} (h:Enc f w) (xs:List α):W.gB (xs.map f):=yE h.one xs
theorem Gj {α:Type} {f:α→List Value} {xs:List α} {i:Nat} {x:α}:(xs.map f).set i (f x)=(xs.set i x).map f:=(List.map_set).symm
theorem FF {α:Type} {f:α→List Value} {xs:List α} {i k:Nat}:((xs.map f).drop i).take k=((xs.drop i).take k).map f:=by rw[←List.map_drop,←List.map_take]
theorem zp {α:Type} {f:α→List Value} {n:Nat} {x:α}:List.replicate n (f x)=(List.replicate n x).map f:=by simp
def uM (k:IntKind):Nat:=2 ^ k.bits
def uw (k:IntKind) (n:Nat):Nat:=n%uM k
def ui (k:IntKind) (i:Int):Nat:=(i%(uM k:Int)).toNat
def lF (k:IntKind) (a b:Nat):Nat:=a/2 ^ (min b k.bits)
def La (k:IntKind) (a b:Nat):Nat:=uw k (uw k a ^^^ (uw k a &&& uw k b))
def mi {α:Type} [LT α] [DecidableRel (α:=α) (· < ·)] (a b:α):α:=if b<a then b else a
def ma {α:Type} [LT α] [DecidableRel (α:=α) (· < ·)] (a b:α):α:=if a<b then b else a
theorem I1 (k:IntKind):0<uM k:=Nat.two_pow_pos _
theorem ve {k:IntKind} (h:k.signed=false) (n:Int):k.wrap n=((ui k n:Nat):Int):=by
 have h0:(0:Int)≤n%(uM k:Int):=Int.emod_nonneg _ (by have:=I1 k; omega)
 simp only[IntKind.wrap,h,Bool.false_and,Bool.false_eq_true,if_false,ui];rw[Int.toNat_of_nonneg h0];simp[uM]
theorem IP (k:IntKind) (n:Nat):ui k (n:Int)=uw k n:=by
 unfold ui uw;rw[←Int.natCast_emod,Int.toNat_natCast]
theorem qE {k:IntKind} (h:k.signed=false) (n:Nat):k.wrap (n:Int)=((uw k n:Nat):Int):=by rw[ve h,IP]
section
variable {k kd : IntKind} {ty : TypeId} {P : Program}
theorem nB (h:k.signed=false) (a b:Nat):bM .add ty P (.int k (a:Int)) (.int k (b:Int))=some (.int k ((uw k (a+b):Nat):Int)):=by
 rw[az,←Int.natCast_add,qE h]
theorem pV (h:k.signed=false) (a b:Nat):bM .mul ty P (.int k (a:Int)) (.int k (b:Int))=some (.int k ((uw k (a*b):Nat):Int)):=by
 rw[bH,←Int.natCast_mul,qE h]
theorem wQ (k:IntKind) (a:Nat):(BitVec.ofInt k.bits (a:Int)).toNat=uw k a:=by simp[uw,uM]
theorem yG (h:k.signed=false) (a b:Nat):bM .and ty P (.int k (a:Int)) (.int k (b:Int))=some (.int k ((uw k (uw k a &&& uw k b):Nat):Int)):=by
 simp only[bM,if_true]; rw[BitVec.toNat_and,wQ,wQ,qE h]
theorem BN (a b:Nat):bM .lss ty P (.int k (a:Int)) (.int k (b:Int))=some (.bool (decide (a<b))):=by rw[aD]; congr 2; exact decide_eq_decide.2 Int.ofNat_lt
theorem JR (a b:Nat):bM .gtr ty P (.int k (a:Int)) (.int k (b:Int))=some (.bool (decide (b<a))):=by rw[bB]; congr 2; exact decide_eq_decide.2 Int.ofNat_lt
theorem B9 (a b:Nat):bM .eql ty P (.int k (a:Int)) (.int k (b:Int))=some (.bool (decide (a=b))):=by rw[ca]; congr 2; exact decide_eq_decide.2 Int.ofNat_inj
theorem I8 (a b:Nat):bM .neq ty P (.int k (a:Int)) (.int k (b:Int))=some (.bool (!decide (a=b))):=by
 rw[Af]; congr 2
 by_cases h:a=b
 ·simp[h]
 ·have:¬((a:Int)=(b:Int)):=by omega
  simp[h,this]
theorem bF (a b:Int):bM .neq ty P (.int k a) (.int k b)=some (.bool (!decide (a=b))):=by
 rw[Af]; congr 2; by_cases h:a=b<;>simp[h]
theorem nD (a:Nat) (b:Int) (hb:decide (0≤b)=true):bM .shr ty P (.int k (a:Int)) (.int kd b)=some (.int k ((lF k a b.toNat:Nat):Int)):=by
 have h0:¬(b<0):=by have:=of_decide_eq_true hb; omega
 simp only[bM,if_neg h0,lF]
 congr 2
 have h2:((2:Int) ^ (min b.toNat k.bits))=((2 ^ (min b.toNat k.bits):Nat):Int):=by simp
 rw[h2,Int.fdiv_eq_ediv_of_nonneg _ (Int.natCast_nonneg _)];exact(Int.natCast_ediv a _).symm
theorem DD (a b:Int) (h:decide (b≠0)=true):bM .quo ty P (.int k a) (.int k b)=some (.int k (k.wrap (a.tdiv b))):=GX k a b (of_decide_eq_true h)
theorem da (a b:Int) (h:decide (b≠0)=true):bM .rem ty P (.int k a) (.int k b)=some (.int k (a.tmod b)):=Fe k a b (of_decide_eq_true h)
theorem Hu (a:Int):zD .neg (.int k a)=some (.int k (k.wrap (0-a))):=rfl
theorem me {s d:TypeId} {x:Int} (hs:(P.underlying s).isSome=true) (hd:P.underlying d=some (.int k)):fb P s d (.int kd x)=some (.int k (k.wrap x)):=by
 cases h:P.underlying s with
 | none=>rw[h] at hs; cases hs
 | some u=>simp only[fb,h,hd]
theorem Mj {s d:TypeId} {x:Int} (hs:(P.underlying s).isSome=true) (hd:P.underlying d=some (.int k)) (hk:k.signed=false):fb P s d (.int kd x)=some (.int k ((ui k x:Nat):Int)):=by
 rw[me hs hd,ve hk]
theorem lS (a b:Int) {ts:Array TypeId} (m:AMem):aY P .min ts [.int k a,.int k b] m=some (.int k (mi a b),m):=rfl
theorem oa (a b:Int) {ts:Array TypeId} (m:AMem):aY P .max ts [.int k a,.int k b] m=some (.int k (ma a b),m):=rfl
theorem Lb {a b:Bool} (hu:P.underlying ty=some .bool):bM .eql ty P (.bool a) (.bool b)=some (.bool (a == b)):=by
 simp only[bM,Op.maxDepth,ik,hu,Option.map_some]
theorem rC {a b:Bool} (hu:P.underlying ty=some .bool):bM .neq ty P (.bool a) (.bool b)=some (.bool (!(a == b))):=by
 simp only[bM,Op.maxDepth,ik,hu,Option.map_some]
end
theorem cc {c:Bool} (h:c=true):(c == true)=true:=by rw[h]; rfl
theorem bJ {c:Bool} (h:c=false):(c == false)=true:=by rw[h]; rfl
theorem bK {c:Bool} (h:c=true):(c == false)=false:=by rw[h]; rfl
theorem cd {c:Bool} (h:c=false):(c == true)=false:=by rw[h]; rfl
section
variable {E : Env} {n : Nat} {m0 : AMem} {fs : Fs} {ps : List Pc} {x y : Operand} {v : Value} {ty : TypeId}
theorem bR {c:Operand} {b:Bool} (hc:ev E fs c=some (.bool b)) (hb:b=true) (h:ev E fs x=some v):Od E m0 fs ps (.pick c x y) v ps:=bU (by rw[hc,hb]) h
theorem bQ {c:Operand} {b:Bool} (hc:ev E fs c=some (.bool b)) (hb:b=false) (h:ev E fs y=some v):Od E m0 fs ps (.pick c x y) v ps:=Bj (by rw[hc,hb]) h
theorem p7 {α:Type} {f:α→List Value} {elem ty2:TypeId} {w k k2 c0 l l1:Nat} {a a0:Option Addr} {xs ys:List α} {ars:Array Operand} {p0:Pc} (he:Enc f w) (ht:SlT E.P ty elem w) (h3:∃e0,E.P.underlying ty2=some (.slice e0)) (ha:gQ E fs ars.toList=some [.slice a l l,.slice a0 l1 c0]) (hp:pk ps k=some (.sl a w l (xs.map f))) (h1:pk ps k2=some p0) (hr:IsRd p0 a0 c0 w l1 (ys.map f)) (hl:lim (xs++ys).length=true) :
  Ox E m0 fs ps (.call ⟨.builtin .append,ars,#[ty,ty2]⟩) (fun a':Option Addr=>.slice a' (xs++ys).length (xs++ys).length) (fun a'=>cu ps k (.sl a' w (xs++ys).length ((xs++ys).map f))):=by
 intro t m hf hm;have h0:l=xs.length:=by
  have:=hm.get hp;rcases this with⟨h4,h0,_⟩|⟨b,tg,_,h0⟩
  ·rw[h4,List.map_eq_nil_iff.1 h0]; rfl
  ·have:=h0.2.2.2.1; rw[List.length_map] at this; exact this.symm
 have h2:l1=ys.length:=by
  have:=(hm.rd h1 hr).1; rw[List.length_map] at this; exact this.symm
 have:=Mi (m0:=m0) ht h3 ha hp h1 hr (he.oZ ys) (he.gB ys) (by rw[h0,h2,←List.length_append]; exact hl) t m hf hm
 have e1:xs.map f++ys.map f=(xs++ys).map f:=List.map_append.symm;have e0:l+l1=(xs++ys).length:=by rw[h0,h2,List.length_append]
 rw[e1,e0] at this;exact this
theorem HU {α:Type} {f:α→List Value} {elem:TypeId} {k cap w l:Nat} {lo hi:Int} {a:Option Addr} {xs:List α} {lx hx:Option Operand} {lv hv:Option Value} (ht:SlT E.P ty elem w) (hv':ev E fs x=some (.slice a l cap)) (e1:ri E fs lx=some lv) (e2:ri E fs hx=some hv) (hp:pk ps k=some (.rd a cap w l (xs.map f))) (hb:okB lo hi l=true) (hl:lv=none∧lo=0∨∃k,lv=some (.int k lo)) (hh:hv=none∧hi=(l:Int)∨∃k,hv=some (.int k hi)) :
  Ox E m0 fs ps (.slice ty x lx hx none) (fun r:Option Addr × Nat=>.slice r.1 ((xs.drop lo.toNat).take (hi.toNat-lo.toNat)).length r.2) (fun r=>.rd r.1 r.2 w ((xs.drop lo.toNat).take (hi.toNat-lo.toNat)).length (((xs.drop lo.toNat).take (hi.toNat-lo.toNat)).map f)::ps):=by
 intro t m hf hm;obtain⟨b1,b2,b3⟩:=wV hb;have h1:xs.length=l:=by have:=(hm.get hp).1; rw[List.length_map] at this; exact this
 have elo:((lo.toNat:Nat):Int)=lo:=Int.toNat_of_nonneg b1;have ehi:((hi.toNat:Nat):Int)=hi:=Int.toNat_of_nonneg (by omega)
 have hlen:((xs.drop lo.toNat).take (hi.toNat-lo.toNat)).length=hi.toNat-lo.toNat:=by rw[List.length_take,List.length_drop,h1]; omega
 have:=LW (m0:=m0) (lo:=lo.toNat) (hi:=hi.toNat) ht hv' e1 e2 hp (by omega) (by omega) (by
  rcases hl with⟨h,h'⟩|⟨k,h⟩
  ·exact .inl ⟨h,by omega⟩
  ·exact .inr ⟨k,by rw[elo]; exact h⟩) (by
  rcases hh with⟨h,h'⟩|⟨k,h⟩
  ·exact .inl ⟨h,by omega⟩
  ·exact .inr ⟨k,by rw[ehi]; exact h⟩) t m hf hm
 rw[FF] at this;rw[hlen];exact this
theorem Dv {α:Type} {f:α→List Value} {z0:α} {elem:TypeId} {w:Nat} {i:Int} {z:Value} (ht:SlT E.P ty elem w) (hx:ev E fs x=some (.int .i64 i)) (hi:decide (0≤i)=true) (hl:lim i.toNat=true) (hz:bA E.P elem=some z) (hp:z.cells.toList.all aM=true) (hzf:z.cells.toList=f z0) :
  Ox E m0 fs ps (.makeSlice ty x x) (fun b=>.slice (some ⟨b,0,none⟩) i.toNat i.toNat) (fun b=>.arr b w i.toNat ((List.replicate i.toNat z0).map f) .own::ps):=by
 have:=LU (m0:=m0) (ps:=ps) ht hx (Int.toNat_of_nonneg (of_decide_eq_true hi)).symm hl hz hp;rw[hzf,zp] at this;exact this
theorem jL {α:Type} {f:α→List Value} {ag:Bool} {sz b w l j c k:Nat} {xs:List α} {x1 x2:α} {tg:Tag} (ht:TyI E.P ty ag sz) (hx:ev E fs x=some (ptr b (j*w+c))) (hy:ev E fs y=some v) (hp:pk ps k=some (.arr b w l (xs.map f) tg)) (he:xs[j]? = some x1) (hv:HO (f x1) c v sz=some (f x2)):Od E m0 fs ps (.store ty x y) undef (cu ps k (.arr b w l ((xs.set j x2).map f) tg)):=by
 have:=KA (m0:=m0) ht hx hy hp (aN he) hv;rwa[Gj] at this
end
def Fg:Tag→Bool
 | .more _=>false
 | _=>true
def JP:Tag→Bool
 | .own=>true
 | _=>false
theorem sn {fs:Fs}:sub fs []:=trivial
theorem sc {fs l:Fs} {i:Nat} {v:Value} (h:lk fs i=some v) (k:sub fs l):sub fs ((i,v)::l):=⟨h,k⟩
theorem cI {k:IntKind} {e y:Int} (h:some e=some y):some (Value.int k e)=some (.int k y):=by rw[Option.some.inj h]
theorem cN {k:IntKind} {e y:Nat} (h:some e=some y):some (Value.int k (e:Int))=some (.int k (y:Int)):=by rw[Option.some.inj h]
theorem MK {k:IntKind} {e y:Int} {m:AMem} (h:some e=some y):some (Value.int k e,m)=some (.int k y,m):=by rw[Option.some.inj h]
section
variable {P : Program} {ty el : TypeId} {w len : Nat}
theorem kP (h:ArT P ty el len w) {b o i:Nat} {kd:IntKind} (hi:i<len):bI P ty (ptr b o) (.int kd (i:Int))=some (ptr b (o+i*w)):=I0 h.und h.known h.size hi
theorem uh {cs:Array Value} {off sz:Nat} {v:Value} (h:TyI P ty true sz) (hv:(Value.agg (cs.extract off (off+sz)))=v):ep P ty cs off=some v:=by
 simp only[ep,h.known,h.agg,h.size,Bool.not_true,Bool.false_eq_true,if_false,if_true,hv]
theorem uu {cs:Array Value} {off sz:Nat} {v:Value} (h:TyI P ty false sz) (hv:cs[off]? = some v):ep P ty cs off=some v:=by
 simp only[ep,h.known,h.agg,Bool.not_true,Bool.false_eq_true,if_false,hv]
theorem vj (h:ArT P ty el len w) {cs:Array Value} {i:Nat} {kd:IntKind} {v:Value} (hi:i<len) (hp:ep P el cs (i*w)=some v):eQ P ty (.agg cs) (.int kd (i:Int))=some v:=by
 simp only[eQ,h.und,h.size,Int.toNat_natCast];rw[if_pos ⟨by omega,by omega⟩]; exact hp
structure BdT (P:Program) (ty:TypeId) (z:Value) (offs:List (Nat × Nat)):Prop where
 bd:∀parts,(parts.all fun p=>Nat.blt p.1 offs.length)=true→ja P ty parts=(fP (fun i=>offs[i]?) z.cells.toList parts).map fun cs=>.agg cs.toArray
def MV (P:Program) (ty:TypeId) (z:Value) (offs:List (Nat × Nat)):Prop :=
 bA P ty=some z∧match P.underlying ty with
  | some (.struct fields)=>fields.toList.all (fun f=>known P f.type)=true∧fields.toList.map (fun f=>(f.offset,aA P f.type))=offs
  | some (.array n elem)=>known P elem=true∧(List.range n).map (fun i=>(i*aA P elem,aA P elem))=offs
  | _=>False
theorem jw {p q:Nat→Option (Nat × Nat)} {n:Nat} (h:∀i,i<n→p i=q i):∀(parts:List (Nat × Value)) (cs:List Value),(parts.all fun p=>Nat.blt p.1 n)=true→fP p cs parts=fP q cs parts
 | [],_,_=>rfl
 | (i,v)::rest,cs,hp=>by
  rw[List.all_cons,Bool.and_eq_true] at hp;have hi:i<n:=by have:=hp.1; rwa[Nat.blt_eq] at this
  simp only[fP,h i hi];cases q i with
  | none=>rfl
  | some r=>simp only[]; split; rfl; exact jw h rest _ hp.2
theorem BdT.of {z:Value} {offs:List (Nat × Nat)} (h:MV P ty z offs):BdT P ty z offs:=⟨fun parts hp=>by
 obtain⟨hz,h⟩:=h;unfold ja;rw[hz];cases hu:P.underlying ty with
 | none=>rw[hu] at h; exact h.elim
 | some u =>
  rw[hu] at h;cases u with
  | struct fields =>
   simp only at h ⊢;rw[if_pos h.1]
   congr 1
   refine jw (n:=offs.length) (fun i hi=>?_) parts _ hp;rw[←h.2,List.getElem?_map]; simp
  | array n elem =>
   simp only at h ⊢;rw[if_pos h.1]
   congr 1
   refine jw (n:=offs.length) (fun i hi=>?_) parts _ hp;have hl:offs.length=n:=by rw[←h.2]; simp
   rw[←h.2,List.getElem?_map,List.getElem?_range (by omega)]; rfl
  | _=>exact h.elim⟩
def MC (P:Program) (ty:TypeId) (offs:List (Nat × Nat)):Bool :=
 match P.underlying ty with
 | some (.struct fields)=>fields.toList.all (fun f=>known P f.type) && decide (fields.toList.map (fun f=>(f.offset,aA P f.type))=offs)
 | some (.array n elem)=>known P elem && decide ((List.range n).map (fun i=>(i*aA P elem,aA P elem))=offs)
 | _=>false
theorem BdT.mk' {z:Value} {offs:List (Nat × Nat)} (hz:bA P ty=some z) (h:MC P ty offs=true):BdT P ty z offs:=by
 refine .of ⟨hz,?_⟩;unfold MC at h;cases hu:P.underlying ty with
 | none=>rw[hu] at h; cases h
 | some u =>
  rw[hu] at h;cases u with
  | struct fields=>simp only[Bool.and_eq_true,decide_eq_true_eq] at h ⊢; exact h
  | array n elem=>simp only[Bool.and_eq_true,decide_eq_true_eq] at h ⊢; exact h
  | _=>cases h
theorem cM {z r:Value} {offs:List (Nat × Nat)} {parts:List (Nat × Value)} {cs:List Value} (h:BdT P ty z offs) (hp:(parts.all fun p=>Nat.blt p.1 offs.length)=true) (hr:fP (fun i=>offs[i]?) z.cells.toList parts=some cs) (e:Value.agg cs.toArray=r):ja P ty parts=some r:=by
 rw[h.bd parts hp,hr]; exact congrArg some e
theorem k6 {n:Nat} {vs:List (Nat × Value)} {z:Value} {cs:List Value} (ht:SlT P ty el w) (hz:bA P el=some z) (h1:((cp z.cells.toList n).all aM && Nat.ble (n*w) 16777216)=true) (hr:fP (fun i=>some (i*w,w)) (cp z.cells.toList n) vs=some cs):Kx P el w n vs=some cs:=by
 have hzs:z.cells.size=w:=by have:=ht.zero; rw[hz] at this; simp only[Option.any_some,Bool.and_eq_true,beq_iff_eq] at this; exact this.1
 have:ef P el n=some (cp z.cells.toList n):=by simp only[ef,hz,ht.size]; rw[if_pos hzs]
 simp only[Kx,this,h1]; exact hr
theorem HS {xs ys:Array Value} {b:Bool} (h:P.eqGuardType P.depth ty=false) (hb:ik P Op.maxDepth ty (.agg xs) (.agg ys)=some b):bM .eql ty P (.agg xs) (.agg ys)=some (.bool b):=by
 simp only[bM,h,Bool.false_eq_true,if_false,hb,Option.map_some]
theorem Av {xs ys:Array Value} {b:Bool} (h:P.eqGuardType P.depth ty=false) (hb:ik P Op.maxDepth ty (.agg xs) (.agg ys)=some b):bM .neq ty P (.agg xs) (.agg ys)=some (.bool (!b)):=by
 simp only[bM,h,Bool.false_eq_true,if_false,hb,Option.map_some]
end
section
variable {E : Env} {n : Nat} {m0 : AMem} {fs : Fs} {ps : List Pc} {x y : Operand} {v : Value} {ty : TypeId}
theorem Lh {el:TypeId} {len w b o k:Nat} {cs:List Value} {tg:Tag} (ht:ArT E.P ty el len w) (hx:ev E fs x=some (ptr b o)) (hp:pk ps k=some (.obj b (.cells cs tg))) (htg:Fg tg=true) (hlen:Nat.blt 0 len=true):Od E m0 fs ps (.slice ty x none none none) (.slice (some ⟨b,o,none⟩) len len) ps :=
 fun t m hf h=>⟨fun b' hb=>by
  have:dG (ptr b o)=some b:=rfl;simp only[aK,hf.ev hx,Option.bind_some,this] at hb;cases hb; exact(h.get hp).2.1,fun K hK=>by
  have hg:=(h.get hp).2.2;have hb:dA len len none none none=some (0,len,len):=gw (Nat.zero_le _) (Nat.le_refl _) (.inl ⟨rfl,rfl⟩) (.inl ⟨rfl,rfl⟩);have hl:len≠0:=by rw[Nat.blt_eq] at hlen; omega
  have:bO E.P ty (ptr b o) none none none m=some (.slice (some ⟨b,o,none⟩) len len):=by
   cases tg with
   | more s=>cases htg
   | ro=>simp only[bO,ptr,ht.und,ht.known,if_true,hg,hb,Nat.sub_zero,if_neg hl,Nat.zero_mul,Nat.add_zero]
   | own=>simp only[bO,ptr,ht.und,ht.known,if_true,hg,hb,Nat.sub_zero,if_neg hl,Nat.zero_mul,Nat.add_zero]
  rw[Go.Ab.lA (hf.ev hx) rfl rfl rfl this]; exact hK m h⟩
variable {ops : Array Oper} {os : List Oper} {K : Tm → AMem → Prop} {dr : Bool}
theorem Wo.len {α:Type} {f:α→List Value} {k w l:Nat} {a:Option Addr} {xs:List α} (hp:pk ps k=some (.sl a w l (xs.map f))) (h:l=xs.length→Wo dr E n ops K os m0 fs ps):Wo dr E n ops K os m0 fs ps:=by
 have key:∀m,Hp m0 m ps→l=xs.length:=fun m hm=>by
  rcases hm.get hp with⟨h0,h1,_⟩|⟨b,tg,_,h1⟩
  ·rw[h0,List.map_eq_nil_iff.1 h1]; rfl
  ·have:=h1.2.2.2.1; rw[List.length_map] at this; exact this.symm
 cases dr with
 | false=>exact fun t m hf hm=>h (key m hm) t m hf hm
 | true=>exact fun t m w hf hm hw=>h (key m hm) t m w hf hm hw
end
theorem Hp.jj {m0 m:AMem} {ps:List Pc} {a:Option Addr} {cap w l:Nat} {es:List (List Value)} (h:Hp m0 m ps) (ho:(ps.all Pc.JN)=true) (hr:Rd m a cap w l es):Hp m0 m (.rd a cap w l es::ps) :=
 h.in (fun p hp b=>Pc.zI (List.all_eq_true.1 ho p hp) b) hr
theorem Hp.MT {m0 m:AMem} {ps:List Pc} {α:Type} {xs:List α} {f:α→List Value} {k b o w l:Nat} {cs:List Value} {tg:Tag} (h:Hp m0 m ps) (hp:pk ps k=some (.obj b (.cells cs tg))) (htg:JP tg=true) (hl:Nat.beq xs.length l=true) (hc:(cs.drop o).take (l*w)=(xs.map f).flatten) (he:Enc f w):Rd m (some ⟨b,o,none⟩) l w l (xs.map f):=by
 have hl:=Nat.eq_of_beq_eq_true hl;have hnm:∀sz,tg = .more sz→sz=w:=fun sz e=>by rw[e] at htg; cases htg
 have hg:=(h.get hp).2.2;refine⟨by rw[List.length_map]; exact hl,Nat.le_refl _,.inr (.inr ⟨b,o,rfl,(h.get hp).2.1,cs,tg,hg,hnm,fun i e hi=>?_⟩)⟩
 have hw:=he.oZ xs;have h1:=s6 hw hi;have hlt:i<l:=by have:=(List.getElem?_eq_some_iff.1 hi).1; rw[List.length_map,hl] at this; exact this
 refine⟨?_,hw e (List.mem_of_getElem? hi)⟩;rw[←hc] at h1;rw[←h1,List.drop_take,List.take_take,List.drop_drop];have:w≤l*w-i*w:=by
  have:(i+1)*w≤l*w:=Nat.mul_le_mul_right w hlt;rw[Nat.succ_mul] at this; omega
 rw[Nat.min_eq_left this]
theorem gu {ops:Array Oper} {fs:Fs} {j d:Nat} {b:Bool} (hd:(ops[j]?).bind (·.dst)=some d) (h:lk fs d=some undef):uY ops fs (some (j,b)) false:=fun t d' o ty p af hf=>by
 rw[EE];have hat:=hf d _ h;unfold cP;rw[hd];unfold Tm.at at hat;cases hg:Trie.get t d with
 | none=>simp only[hg]
 | some v=>rw[hg] at hat; have hv:v=undef:=hat; subst hv; simp only[hg]; rfl
section
variable {P : Program} {ty : TypeId} {k : IntKind}
end
section
variable {E : Env} {n : Nat} {m0 : AMem} {fs : Fs} {ps : List Pc} {x y : Operand} {v : Value} {ty : TypeId}
theorem Hl {α:Type} {V:α→Value} {N:α→List Pc} {a b:Value} (hx:ev E fs x=some a) (hy:ev E fs y=some b) (h:∀m,Hp m0 m ps→∃z,eQ E.P ty a b=some (V z)∧Hp m0 m (N z)):Ox E m0 fs ps (.index ty x y) V N :=
 fun t m hf hm=>⟨fun b hb=>(by simp[aK] at hb),fun K hK=>by
  obtain⟨z,h1,h2⟩:=h m hm;rw[Go.Ab.FM (hf.ev hx) (hf.ev hy) h1]; exact hK z m h2⟩
end
theorem Hp.dup {m0 m:AMem} {ps:List Pc} {a:Option Addr} {k cap w l:Nat} {es:List (List Value)} (h:Hp m0 m ps) (hp:pk ps k=some (.rd a cap w l es)):Hp m0 m (.rd a cap w l es::ps):=h.more hp rfl (h.get hp) rfl fun _ h=>h
end Go.Ab.W
end

section
namespace Go.Ab
open Go Go.Ab.W
theorem LI (j:aT) (u:Value):∃v,VR j v u:=by
 match h:u with
 | .agg cs =>
  have:∀i (hi:i<cs.size),∃v,VR j v cs[i]:=fun i hi=>LI j cs[i];refine⟨.agg (Array.ofFn fun i:Fin cs.size=>Classical.choose (this i.1 i.2)),.agg (by simp) fun i a b=>?_⟩
  have hi:i<cs.size:=b;have:=Classical.choose_spec (this i hi)
  simpa using this
 | .tuple cs =>
  have:∀i (hi:i<cs.size),∃v,VR j v cs[i]:=fun i hi=>LI j cs[i];refine⟨.tuple (Array.ofFn fun i:Fin cs.size=>Classical.choose (this i.1 i.2)),.tuple (by simp) fun i a b=>?_⟩
  have hi:i<cs.size:=b;have:=Classical.choose_spec (this i hi)
  simpa using this
 | .bool b=>exact⟨_,.bool b⟩
 | .int k n=>exact⟨_,.int k n⟩
 | .float k b=>exact⟨_,.junk rfl⟩
 | .complex k a b=>exact⟨_,.junk rfl⟩
 | .string s=>exact⟨_,.string s⟩
 | .pointer none=>exact⟨_,.pnil⟩
 | .pointer (some a)=>exact⟨_,.junk rfl⟩
 | .slice none l c=>exact⟨_,.snil l c⟩
 | .slice (some a) l c=>exact⟨_,.junk rfl⟩
 | .map none=>exact⟨_,.mnil⟩
 | .map (some r)=>exact⟨_,.junk rfl⟩
 | .chan r=>exact⟨_,.junk rfl⟩
 | .func f a b=>exact⟨_,.junk rfl⟩
 | .nilFunc=>exact⟨_,.nilFunc⟩
 | .iface t v=>exact⟨_,.junk rfl⟩
 | .nilIface=>exact⟨_,.nilIface⟩
termination_by SizeOf.sizeOf u
decreasing_by
 all_goals
  subst h;have:=Array.sizeOf_getElem cs i hi;simp only[Value.agg.sizeOf_spec,Value.tuple.sizeOf_spec];omega
noncomputable def seen (j:aT) (v':Value):Value:=if aM v' then v' else Classical.choose (LI j v')
theorem GZ (j:aT) (v':Value):VR j (seen j v') v':=by
 unfold seen
 split
 ·rename_i h; exact .aM h
 ·exact Classical.choose_spec (LI j v')
theorem yI {j:aT} {v':Value} (h:aM v'=true):seen j v'=v':=by unfold seen; rw[if_pos h]
def fo (W:World):aT:=fun b=>if b<W.heap.size then some ⟨b,none⟩ else none
noncomputable def eO (W:World):AMem:={ next:=W.heap.size,wl:=W.heap.size,objs:=.nil,base:=fun b=>match W.heap[b]? with
 | some (.cells c _ _)=>some (.cells (c.toList.map (seen (fo W))) .ro)
 | _=>none}
theorem qc (W:World) (b:Nat):(eO W).get b=match W.heap[b]? with
 | some (.cells c _ _)=>some (.cells (c.toList.map (seen (fo W))) .ro)
 | _=>none:=by
 simp[AMem.get,eO,Heap.get_nil]
theorem tt {W:World} {b:Nat} {c:Array Value} {t:TypeId} {fz:Nat × Nat} (h:W.heap[b]? = some (.cells c t fz)):(eO W).get b=some (.cells (c.toList.map (seen (fo W))) .ro):=by
 rw[qc,h]
theorem H4 {E:Env} {W:World} (hg:E.glob≤W.heap.size):MR E (fo W) (eO W) W:=by
 have hj:∀b k,fo W b=some k→b<W.heap.size∧k=⟨b,none⟩:=by
  intro b k h;unfold fo at h
  split at h
  ·rename_i hb; cases h; exact⟨hb,rfl⟩
  ·cases h
 refine⟨fun b k h=>?_,fun b o k ho h=>?_,fun b b' k k' h h' _ _ hc=>?_,fun g hgl=>?_⟩
 ·obtain⟨h1,rfl⟩:=hj b k h;exact⟨h1,h1⟩
 ·obtain⟨h1,rfl⟩:=hj b k h;rw[qc] at ho
  split at ho
  ·rename_i c t fz hc;cases ho;refine⟨_,hc,⟨rfl,by simp⟩,fun i v hi=>?_⟩
   rw[List.getElem?_map] at hi;obtain⟨x,hx,rfl⟩:=Option.map_eq_some_iff.1 hi;exact⟨x,by simpa using hx,GZ _ _⟩
  ·cases ho
 ·obtain⟨_,rfl⟩:=hj b k h;obtain⟨_,rfl⟩:=hj b' k' h';exact hc
 ·unfold fo;rw[if_pos (by omega)]
inductive Lf where
 | int (k:IntKind)
 | bool
 | sl (e:TypeId)
 deriving DecidableEq
def z7 (BF:TypeId→Option (List Lf)) (P:Program):List Field→Nat→Option (List Lf)
 | [],_=>some []
 | f::fs,off=>match BF f.type,z7 BF P fs (off+P.cellsOf f.type) with
  | some l,some r=>if f.offset=off∧l.length=P.cellsOf f.type then some (l++r) else none
  | _,_=>none
def BF (P:Program):Nat→TypeId→Option (List Lf)
 | 0,_=>none
 | d+1,t=>match P.underlying t with
  | some (.int k)=>some [.int k]
  | some .bool=>some [.bool]
  | some (.slice e)=>some [.sl e]
  | some (.array n e)=>match BF P d e with
   | some l=>if l.length=P.cellsOf e∧P.cellsOf t=n*P.cellsOf e then some (List.replicate n l).flatten else none
   | none=>none
  | some (.struct fs)=>match z7 (BF P d) P fs.toList 0 with
   | some l=>if l.length=P.cellsOf t then some l else none
   | none=>none
  | _=>none
def qe {H:Type} (enc:TypeId × Value→H) (P:Program) (W:World) (base:Nat) (sp:Nat→Bool) (held:Bool):Lf→Value→Prop
 | .int k,v=>∃n,v = .int k n∧(Lit.int k n).wf=true
 | .bool,v=>∃b,v = .bool b
 | .sl e,v=>(v = .slice none 0 0)∨∃(a:Addr) (len cap:Nat) (n:Nat),v = .slice (some a) len cap∧len≤cap∧cap≤maxLen∧base≤a.block ∧
   ∀i,i<len→∃cs x,W.cells? base (a.add (i*P.cellsOf e)) (P.cellsOf e)=some cs∧DataW.trod enc P W base sp held n e cs=some x
inductive All2 {α β:Type} (R:α→β→Prop):List α→List β→Prop
 | nil:All2 R [] []
 | cons {a:α} {b:β} {l:List α} {r:List β} (h:R a b) (t:All2 R l r):All2 R (a::l) (b::r)
theorem All2.append {α β:Type} {R:α→β→Prop} {l l':List α} {r r':List β} (h:All2 R l r) (h':All2 R l' r'):All2 R (l++l') (r++r'):=by
 induction h with
 | nil=>exact h'
 | cons h _ ih=>exact .cons h ih
section
variable {H : Type} {enc : TypeId × Value → H} {P : Program} {W : World} {base : Nat} {sp : Nat → Bool} {held : Bool}
theorem sh {R:Lf→Value→Prop} {l:List Lf}:∀(n w:Nat) (cs:List Value),cs.length=n*w→(∀i,i<n→All2 R l ((cs.drop (i*w)).take w))→All2 R (List.replicate n l).flatten cs
 | 0,w,cs,hl,_=>by
  have:cs = []:=List.length_eq_zero_iff.1 (by simpa using hl)
  subst this; exact .nil
 | n+1,w,cs,hl,h=>by
  rw[List.replicate_succ,List.flatten_cons];have h0:=h 0 (by omega)
  simp only[Nat.zero_mul,List.drop_zero] at h0;have hw:w≤cs.length:=by rw[hl,Nat.add_mul]; omega
  rw[←List.take_append_drop w cs];refine All2.append h0 (sh n w _ (by rw[List.length_drop,hl,Nat.add_mul]; omega) fun i hi=>?_)
  have:=h (i+1) (by omega)
  rw[List.drop_drop];have e:w+i*w=(i+1)*w:=by rw[Nat.add_mul]; omega
  rw[e]; exact this
theorem xd:∀(d:Nat) (t:TypeId) (L:List Lf),BF P d t=some L→∀(n:Nat) (cs:List Value) (x:DataW H × List MemPlace),DataW.trod enc P W base sp held n t cs=some x→All2 (qe enc P W base sp held) L cs:=by
 intro d
 induction d with
 | zero=>intro t L h; cases h
 | succ d ih =>
  intro t L hL n cs x hx;unfold BF at hL
  split at hL
  ·rename_i k hu;cases hL;obtain⟨m,rfl,_,hwf⟩:=DataW.trod_int hu hx;exact .cons ⟨m,rfl,hwf⟩ .nil
  ·rename_i hu;cases hL;obtain⟨b,rfl,_⟩:=DataW.trod_bool hu hx;exact .cons ⟨b,rfl⟩ .nil
  ·rename_i e hu;cases hL;rcases DataW.trod_slice hu hx with⟨rfl,_⟩|⟨a,len,cap,elems,rest,m,rfl,rfl,_,hb,h1,h2,h3,h4,_⟩
   ·exact .cons (.inl rfl) .nil
   ·refine .cons (.inr ⟨a,len,cap,m,rfl,h1,h2,hb,fun i hi=>?_⟩) .nil;have:=h4 i hi;have hi':i<elems.length:=by omega
    rw[List.getElem?_eq_getElem hi'] at this;obtain⟨cs,h5,h6⟩:=Option.bind_eq_some_iff.1 this;exact⟨cs,_,h5,h6⟩
  ·rename_i m e hu
   split at hL
   ·rename_i l hl
    split at hL
    ·rename_i hc;cases hL;obtain⟨xs,m',rfl,_,hcl,hxl,hel⟩:=DataW.trod_array hu hx;refine sh m (P.cellsOf e) cs (hcl.trans hc.2) fun i hi=>?_;have:=hel i hi;rw[List.getElem?_eq_getElem (by omega)] at this
     exact ih e l hl m' _ _ this
    ·cases hL
   ·cases hL
  ·rename_i fs hu
   split at hL
   ·rename_i l hl
    split at hL
    ·rename_i hc;cases hL;obtain⟨xs,m',rfl,_,hcl,hxl,hel⟩:=DataW.trod_struct hu hx;have hfield:∀f ∈ fs.toList,∃y,DataW.trod enc P W base sp held m' f.type ((cs.drop f.offset).take (P.cellsOf f.type))=some y:=by
      intro f hf;obtain⟨i,hi,hif⟩:=List.getElem_of_mem hf;have hi':i<fs.size:=by simpa using hi
      have:=hel i f (by rw[←hif]; simp[hi'])
      rw[List.getElem?_eq_getElem (by omega)] at this
      exact⟨_,this⟩
     have key:∀(l1:List Field) (off:Nat) (r:List Lf),z7 (BF P d) P l1 off=some r→(∀f ∈ l1,∃y,DataW.trod enc P W base sp held m' f.type ((cs.drop f.offset).take (P.cellsOf f.type))=some y)→All2 (qe enc P W base sp held) r ((cs.drop off).take r.length):=by
      intro l1
      induction l1 with
      | nil=>intro off r hr _; cases hr; simp only[List.length_nil,List.take_zero]; exact .nil
      | cons f l1 ih1 =>
       intro off r hr hf;unfold z7 at hr
       split at hr
       ·rename_i l2 r2 hl2 hr2
        split at hr
        ·rename_i ho;cases hr;obtain⟨y,hy⟩:=hf f (by simp)
         have h1:=ih f.type l2 hl2 m' _ _ hy;have h2:=ih1 _ _ hr2 fun g hg=>hf g (by simp[hg])
         rw[ho.1,←ho.2] at h1;rw[←ho.2] at h2;have:=All2.append h1 h2;rw[List.length_append,List.take_add,List.drop_drop];exact this
        ·cases hr
       ·cases hr
     have:=key fs.toList 0 _ hl hfield;rw[List.drop_zero,hc,←hcl,List.take_length] at this;exact this
    ·cases hL
   ·cases hL
  ·cases hL
end
end Go.Ab
end

section
namespace Go.Ab
open Go Go.Ab.W Go.ChangeShapes Go.WideShapes Go.RowKit
section
variable {H : Type} {enc : TypeId × Value → H} {P : Program} {W : World} {sp : Nat → Bool} {held : Bool}
theorem vI {a:Addr} (h:a.spot=none) (n:Nat):a.add n=⟨a.block,a.off+n,none⟩:=by
 unfold Addr.add
 split
 ·rename_i e; subst e; cases a; cases h; rfl
 ·rfl
theorem nH {W:World} {a:Addr} {v:Value} (h:W.cell? a=some v):a.spot=none∧∃c t fz,W.heap[a.block]? = some (.cells c t fz)∧c[a.off]? = some v:=by
 unfold World.cell? at h
 split at h
 ·rename_i c t fz hc
  split at h
  ·cases h
  ·rename_i hs;refine⟨by simpa using hs,c,t,fz,hc,h⟩
 ·cases h
theorem I3 {α:Type} {f:α→List Value} {R:α→Prop} {e w:Nat} (hw:P.cellsOf e=w) (hw0:0<w) (hsz:0<W.heap.size) (hf:∀p,(f p).all aM=true)
  (hdec:∀n cs x,DataW.trod enc P W 0 sp held n e cs=some x→∃p,cs=f p∧R p) {v:Value} (h:qe enc P W 0 sp held (.sl e) v) :
  ∃(a:Option Addr) (cap:Nat) (l:List α),VR (fo W) (.slice a l.length cap) v∧Rd (eO W) a cap w l.length (l.map f)∧(∀p ∈ l,R p)∧l.length≤maxLen:=by
 rcases h with rfl|⟨a,len,cap,n,rfl,h1,h2,_,h3⟩
 ·exact⟨none,0,[],.snil 0 0,Rd.nil _ _,fun p hp=>(by cases hp),Nat.zero_le _⟩
 ·by_cases h0:len=0
  ·subst h0;exact⟨some ⟨0,0,some 0⟩,0,[],.fT,⟨rfl,Nat.le_refl _,.inr (.inl ⟨0,0,rfl,rfl,rfl,hsz⟩)⟩,fun p hp=>(by cases hp),Nat.zero_le _⟩
  ·rw[hw] at h3;have hg:∀i:Fin len,∃p,W.cells? 0 (a.add (i.1*w)) w=some (f p)∧R p:=by
    intro i;obtain⟨cs,x,h4,h5⟩:=h3 i.1 i.2;obtain⟨p,rfl,hR⟩:=hdec _ _ _ h5;exact⟨p,h4,hR⟩
   obtain⟨g,hg⟩:∃g:Fin len→α,∀i,W.cells? 0 (a.add (i.1*w)) w=some (f (g i))∧R (g i):=⟨fun i=>Classical.choose (hg i),fun i=>Classical.choose_spec (hg i)⟩;have hat:∀(i:Fin len) (k:Nat),k<w→W.cell? ((a.add (i.1*w)).add k)=(f (g i))[k]?:=fun i k hk=>(World.cells?_some (hg i).1).2.2 k hk;have hfl:∀i,(f (g i)).length=w:=fun i=>(World.cells?_some (hg i).1).2.1;have hsm:∀(i:Fin len) (k:Nat),k<w→∃x,(f (g i))[k]? = some x:=fun i k hk=>⟨_,List.getElem?_eq_getElem (by rw[hfl]; exact hk)⟩
   have hspot:a.spot=none:=by
    obtain⟨x,hx⟩:=hsm ⟨0,by omega⟩ 0 hw0
    have:=hat ⟨0,by omega⟩ 0 hw0
    rw[hx] at this;have:=(nH this).1
    simpa [Addr.add] using this
   obtain⟨c,t,fz,hc⟩:∃c t fz,W.heap[a.block]? = some (.cells c t fz):=by
    obtain⟨x,hx⟩:=hsm ⟨0,by omega⟩ 0 hw0
    have:=hat ⟨0,by omega⟩ 0 hw0
    rw[hx] at this;obtain⟨_,c,t,fz,hc,_⟩:=nH this;refine⟨c,t,fz,?_⟩
    simpa [Addr.add] using hc
   have hcell:∀(i:Fin len) (k:Nat),k<w→c[a.off+i.1*w+k]? = (f (g i))[k]?:=by
    intro i k hk;obtain⟨x,hx⟩:=hsm i k hk;have:=hat i k hk;rw[hx] at this;rw[hx];rw[vI hspot,vI rfl] at this;obtain⟨_,c',t',fz',hc',h6⟩:=nH this;rw[hc] at hc';cases hc';exact h6
   have hb:a.block<W.heap.size:=by
    rcases Nat.lt_or_ge a.block W.heap.size with h|h
    ·exact h
    ·rw[Array.getElem?_eq_none h] at hc; cases hc
   have ha:a=⟨a.block,a.off,none⟩:=by cases a; cases hspot; rfl
   refine⟨some a,cap,List.ofFn g,?_,?_,fun p hp=>?_,?_⟩
   ·rw[List.length_ofFn,ha];exact .slice (k:=⟨a.block,none⟩) (by unfold fo; rw[if_pos hb]) rfl
   ·refine⟨by simp,by simpa using h1,.inr (.inr ⟨a.block,a.off,by rw[←ha],hb,_,_,tt hc,fun sz e=>(by cases e),fun i e he=>?_⟩)⟩
    rw[List.getElem?_map] at he;obtain⟨p,hp,rfl⟩:=Option.map_eq_some_iff.1 he;have hi:i<len:=by
     have:=(List.getElem?_eq_some_iff.1 hp).1
     simpa using this
    have hpg:p=g ⟨i,hi⟩:=by
     rw[List.getElem?_ofFn] at hp;simp[hi] at hp;exact hp.symm
    subst hpg;refine⟨?_,hfl _⟩;apply List.ext_getElem?;intro k
    by_cases hk:k<w
    ·rw[List.getElem?_take_of_lt hk,List.getElem?_drop,List.getElem?_map];have h7:=hcell ⟨i,hi⟩ k hk;obtain⟨x,hx⟩:=hsm ⟨i,hi⟩ k hk;rw[hx] at h7 ⊢;have h8:c.toList[a.off+i*w+k]? = some x:=by simpa using h7
     rw[h8];simp only[Option.map_some];rw[yI (List.all_eq_true.1 (hf _) x (List.mem_of_getElem? hx))]
    ·rw[List.getElem?_eq_none (by rw[List.length_take]; omega),List.getElem?_eq_none (by rw[hfl]; omega)]
   ·obtain⟨i,hi,rfl⟩:=List.getElem_of_mem hp;simp only[List.getElem_ofFn];exact(hg _).2
   ·rw[List.length_ofFn]; omega
theorem CX {base:Nat} {v:Value} (h:qe enc P W base sp held (.int .u8) v):∃n:Nat,v = .int .u8 (n:Int)∧n<256:=by
 obtain⟨n,rfl,hw⟩:=h;have:=bounds_u8 hw;exact⟨n.toNat,by rw[Int.toNat_of_nonneg this.1],by omega⟩
theorem dX {α β:Type} {R:α→β→Prop} {a:α} {l:List α} {r:List β} (h:All2 R (a::l) r):∃b r',r=b::r'∧R a b∧All2 R l r':=by
 cases h with
 | cons h t=>exact⟨_,_,rfl,h,t⟩
theorem pA {α β:Type} {R:α→β→Prop} {r:List β} (h:All2 R [] r):r = []:=by cases h; rfl
theorem uG {P:Program} {w:World} {r:Reach} {base t n e:Nat} {v:Value} (ht:P.underlying t=some (.array n e)) (h:Value.okWide P w r base t v):∃cs,v = .agg cs∧cs.size=P.cellsOf t:=by
 simp only[Value.okWide,ht] at h;obtain⟨cs,h1,h2,_⟩:=h;exact⟨cs,h1,h2⟩
theorem pw {base d t n:Nat} {cs:Array Value} {L:List Lf} {x:DataW H × List MemPlace} (hl:BF P d t=some L) (h:DataW.trod enc P W base sp held n t (Value.agg cs).cells.toList=some x):All2 (qe enc P W base sp held) L cs.toList:=xd d t L hl n _ x h
theorem Cx {j:aT} {l:List Value} {cs:Array Value} (h:LR j l cs.toList):VR j (.agg l.toArray) (.agg cs):=.A0 (by simpa using h)
theorem kn {T:TypeId→Prop} (K:Kids P T) (hsz:∀{t e:TypeId},T t→P.underlying t=some (.slice e)→0<P.cellsOf e) {W':World} {sp':Nat→Bool}:∀{ts:List TypeId} {vs:List Value} {ds:List (DataW H)} {ps:List MemPlace},
  (∀t ∈ ts,T t)→DataW.TrodAll enc P W 0 (fun _=>true) true ts vs ds ps→(∀p ∈ ps,W.sameAt W' p)→(∀p ∈ ps,sp' p.block=true)→DataW.TrodAll enc P W' 0 sp' true ts vs ds ps
 | [],[],[],_,_,h,_,_=>h
 | t::ts,v::vs,d::ds,_,hT,⟨p,q,⟨n,hn⟩,hs,e⟩,h1,h2=>by
  subst e;refine⟨p,q,⟨n,DataW.trod_stays K hsz (fun h=>(by cases h)) (hT t (by simp)) hn (fun x hx=>h1 x (by simp[hx])) fun x hx=>h2 x (by simp[hx])⟩,kn K hsz (fun t' ht'=>hT t' (by simp[ht'])) hs (fun x hx=>h1 x (by simp[hx])) (fun x hx=>h2 x (by simp[hx])),rfl⟩
theorem AH {w w':World} {p:MemPlace} (h:w'.heap[p.block]? = w.heap[p.block]?):w.sameAt w' p:=by
 cases p with
 | cell b o=>simp only[World.sameAt,World.cell?]; rw[show w'.heap[b]? = w.heap[b]? from h]
 | map b=>simp only[World.sameAt]; rw[show w'.heap[b]? = w.heap[b]? from h]
def sizedB (P:Program):Bool:=(List.range P.types.size).all fun t=>match P.underlying t with
 | some (.slice e)=>decide (0<P.cellsOf e)
 | _=>true
theorem A2 (h:sizedB P=true) {t e:TypeId} (ht:t<P.types.size) (hu:P.underlying t=some (.slice e)):0<P.cellsOf e:=by
 have:=List.all_eq_true.1 h t (by simpa using ht)
 rw[hu] at this
 simpa using this
theorem BX {f:Func} {s:ChangeSpec} {W':World} {args:Array Value} {ds:List (DataW H)} {before:List MemPlace} {tb:TypeId} {fresh handsOn:Bool} (hlo:laidOutB P=true) (hm:mapsRowed P=true) (hsz:sizedB P=true)
  (hvars:s.vars = []) (hres:f.resultTypes.toList = [tb]) (hrs:f.resultTypes.size=1) (htb:P.underlying tb=some .bool) (hpt:∀t ∈ f.params.toList,t<P.types.size) (hfn:s.fn H ds = { results:=[.lit (.bool true)],args:=ds,vars:=[]})
  (hW:DataW.Whole enc P f.params.toList s.vars false W args.toList ds [] before) {E:Env} (hcalm:fS E W W') (hg:∀c,c<W.heap.size→W'.heap[c]? = W.heap[c]?) :
  s.post enc P f false fresh handsOn false W args (.bool true) W':=by
 have hW':=hW;obtain⟨p,q,hA,hV,rfl,_,_⟩:=hW;rw[hvars] at hV;obtain⟨_,rfl⟩:=trodVars_none hV;have hlt:=hW'.lt;refine⟨ds,[],_,[],p,[],hW',?_,?_,?_,oC hcalm hg _,fun h=>by cases h⟩
 ·rw[List.append_nil,hfn,hres]
  show DataW.TrodAll enc P W' _ _ handsOn [tb] ((Value.bool true).resultList f.resultTypes.size) [.lit (.bool true)] []
  rw[hrs];exact trodAll_mk1 (shut_bool htb true)
 ·rw[List.append_nil,hfn];refine kn (kids_rows hlo hm) (fun ht hu=>A2 hsz ht hu) hpt hA (fun x hx=>AH (hg _ (hlt x (by simp[hx])))) fun x hx=>by
   have:=hlt x (by simp[hx])
   simpa using this
 ·rw[List.append_nil,hfn,hvars];exact rfl
end
end Go.Ab
end

section
namespace Go.Ab
open Go
def vw (x y c:Nat):Value:=.tuple #[.int .u64 (.ofNat ((x+y+c)%18446744073709551616)),.int .u64 (.ofNat ((x+y+c)/18446744073709551616))]
def sR (x y c:Nat):Value:=.tuple #[.int .u64 (.ofNat ((x+18446744073709551616-y-c)%18446744073709551616)),.int .u64 (.ofNat (if x<y+c then 1 else 0))]
def dV (V:Nat→Nat→Nat→Value) (args:List Value) (m:AMem):Option (Value × AMem) :=
 match args with
 | [.int .u64 (.ofNat x),.int .u64 (.ofNat y),.int .u64 (.ofNat c)]=>if Nat.ble c 1 then some (V x y c,m) else none
 | _=>none
theorem qY {V:Nat→Nat→Nat→Value} {args:List Value} {m m':AMem} {v:Value} (h:dV V args m=some (v,m')) :
  ∃x y c:Nat,args = [.int .u64 x,.int .u64 y,.int .u64 c]∧c≤1∧v=V x y c∧m'=m:=by
 unfold dV at h
 split at h
 ·rename_i x y c
  split at h
  ·rename_i hc;cases h;exact⟨x,y,c,rfl,Nat.le_of_ble_eq_true hc,rfl,rfl⟩
  ·cases h
 ·cases h
section
variable {E : Env} {j : aT} {m : AMem} {w : World}
theorem LR.E3:∀{l l':List Value},l.all Ab.aM=true→LR j l l'→l'=l:=by
 intro l
 induction l with
 | nil=>intro l' _ h; exact h.cV
 | cons v l ih =>
  intro l' hp h;obtain⟨v1,vs,rfl,h1,h2⟩:=h.cons_inv;rw[List.all_cons,Bool.and_eq_true] at hp;rw[ec hp.1 h1,ih hp.2 h2]
theorem lH {V:Nat→Nat→Nat→Value} {f:FuncId} (hV:∀x y c,bq (V x y c)=true) (hrun:∀(x y c:Nat) (w:World),c≤1→(callFunc f #[.int .u64 x,.int .u64 y,.int .u64 c]).run E.P w = .ok (.value (V x y c)) w) (hpr:(E.cE f).isSome=true)
  {args args':List Value} {v:Value} {m':AMem} (he:dV V args m=some (v,m')) (h:MR E j m w) (hl:LR j args args') :
  gL E.P (E.cE f).isSome f args'.toArray w (jn E j m w v m'):=by
 obtain⟨x,y,c,rfl,hc,rfl,rfl⟩:=qY he;rw[LR.E3 rfl hl];exact .inr ⟨hpr,V x y c,w,hrun x y c w hc,j,.refl h,.bq (hV x y c)⟩
end
theorem yO (x y c:Nat):bq (vw x y c)=true:=rfl
theorem zj (x y c:Nat):bq (sR x y c)=true:=rfl
section
variable {P : Program} {f : FuncId} {fn : Func}
theorem E9 (hf : P.funcs[f]? = some fn) (hname : (fn.name == "runtime.NumGoroutine") = false) (hb : fn.body.isNone = true) (hn : Extern.findNext fn = none) (he : Extern.find fn = some add64Entry) (x y c : Nat) (w : World) (hc : c ≤ 1) :
  (callFunc f #[.int .u64 x,.int .u64 y,.int .u64 c]).run P w = .ok (.value (vw x y c)) w:=by
 rw[run_callFunc_extern hf hname hb hn he,run_add64 x y c (by omega) (by omega) (by omega) (by omega)]
 simp only[Result.andThen,vw]
 congr 5
theorem Ha (hf : P.funcs[f]? = some fn) (hname : (fn.name == "runtime.NumGoroutine") = false) (hb : fn.body.isNone = true) (hn : Extern.findNext fn = none) (he : Extern.find fn = some Go.Proofs.sub64Entry) (x y c : Nat) (w : World) (hc : c ≤ 1) :
  (callFunc f #[.int .u64 x,.int .u64 y,.int .u64 c]).run P w = .ok (.value (sR x y c)) w:=by
 rw[run_callFunc_extern hf hname hb hn he,Go.Proofs.run_sub64 x y c hc]
 rfl
end
noncomputable def GU (v:Value) (k:Nat→Bool):Bool:=kj v fun kd z=>dU (iN kd .u64) (Bq z k false) false
theorem nj {v:Value} {k:Nat→Bool} (h:GU v k=true):∃x:Nat,v = .int .u64 x∧k x=true:=by
 obtain⟨kd,z,rfl,h⟩:=cA h;obtain⟨h1,h⟩:=bo h;cases dP h1;rcases gH h with⟨x,rfl,h⟩|h
 ·exact⟨x,rfl,h⟩
 ·cases h
noncomputable def tH (W:Nat→Nat→Nat→(Value→Bool)→Bool) (args:List Value) (m:AMem) (K:Value→AMem→Bool):Bool :=
 dU (B8 args 3) (vY 0 args fun a=>vY 1 args fun b=>vY 2 args fun d=>GU a fun x=>GU b fun y=>GU d fun c=>dU (Nat.ble c 1) (W x y c fun v=>K v m) false) false
noncomputable def IC (x y c:Nat) (k:Value→Bool):Bool:=fN ((x+y+c)%18446744073709551616) fun s=>fN ((x+y+c)/18446744073709551616) fun d=>k (.tuple #[.int .u64 (.ofNat s),.int .u64 (.ofNat d)])
noncomputable def IU (x y c:Nat) (k:Value→Bool):Bool:=fN ((x+18446744073709551616-y-c)%18446744073709551616) fun s=>dU (Nat.blt x (y+c)) (k (.tuple #[.int .u64 (.ofNat s),.int .u64 (.ofNat 1)])) (k (.tuple #[.int .u64 (.ofNat s),.int .u64 (.ofNat 0)]))
theorem GD (x y c:Nat) (k:Value→Bool):IC x y c k=k (vw x y c):=by unfold IC vw; rw[dn,dn]
theorem G2 (x y c:Nat) (k:Value→Bool):IU x y c k=k (sR x y c):=by
 unfold IU sR;rw[dn]
 by_cases h:x<y+c
 ·have:Nat.blt x (y+c)=true:=by rw[Nat.blt_eq]; exact h
  rw[this,if_pos h]; rfl
 ·have:Nat.blt x (y+c)=false:=by
   cases hb:Nat.blt x (y+c) with
   | false=>rfl
   | true=>rw[Nat.blt_eq] at hb; exact absurd hb h
  rw[this,if_neg h]; rfl
theorem rV {V:Nat→Nat→Nat→Value} {W:Nat→Nat→Nat→(Value→Bool)→Bool} (hW:∀x y c k,W x y c k=k (V x y c)) {args:List Value} {m:AMem} {K:Value→AMem→Bool} (h:tH W args m K=true):∃v m',dV V args m=some (v,m')∧K v m'=true:=by
 unfold tH at h;obtain⟨hl,h⟩:=bo h;obtain⟨a,ha,h⟩:=fm h;obtain⟨b,hb,h⟩:=fm h;obtain⟨d,hd,h⟩:=fm h;obtain⟨x,ea,h⟩:=nj h;obtain⟨y,eb,h⟩:=nj h;obtain⟨c,ed,h⟩:=nj h;rw[ea] at ha; rw[eb] at hb; rw[ed] at hd;obtain⟨hc,h⟩:=bo h;rw[hW] at h;have hargs:args = [.int .u64 x,.int .u64 y,.int .u64 c]:=by
  have:=ke hl
  match args,this,ha,hb,hd with
  | [p,q,r],_,ha,hb,hd=>cases ha; cases hb; cases hd; rfl
 refine⟨_,_,?_,h⟩;rw[hargs]
 show(if Nat.ble c 1 then some (V x y c,m) else none)=_
 rw[hc]; rfl
end Go.Ab
end

section
namespace Go.Proofs.YthmekkhpddehjaaGreat
open Go Go.Ab
def pN:List (Value × Value)→Option (List Int)
 | []=>some []
 | (.int .i64 k,_)::r=>(pN r).map (k::·)
 | _=>none
def wR (a:Int):List Int→List Int
 | []=>[a]
 | b::l=>if a≤b then a::b::l else b::wR a l
def eH:List Int→List Int
 | []=>[]
 | a::l=>wR a (eH l)
def Bo:List Int→Bool
 | []=>true
 | a::l=>!l.contains a && Bo l
def J2 (ks:List Int):Bool:=ks.all (fun k=>decide (-9223372036854775808≤k) && decide (k<9223372036854775808)) && Bo ks && Nat.ble ks.length 1073741824
def dW (args:List Value) (m:AMem):Option (Value × AMem) :=
 match args with
 | [.map (some b)]=>match m.get b with
  | some (.map es)=>match pN es with
   | some ks=>if J2 ks then(match ks with
    | []=>some (.slice none 0 0,m)
    | k::ks=>some (.slice (some ⟨m.next,0,none⟩) (ks.length+1) (ks.length+1),m.alloc (.cells ((eH (k::ks)).map (.int .i64)) (.more 1)))) else none
   | none=>none
  | _=>none
 | _=>none
def Fh (f:FuncId):Option Prim:=if f=111 then some ⟨dW⟩ else if f=144 then some ⟨dV vw⟩ else if f=145 then some ⟨dV sR⟩ else none
noncomputable def qP:Env:={ P:=Tryz.prog,glob:=0,cE:=Fh,mono:=False}
def lE (args:List Value) (m:AMem):Option (Value × AMem) :=
 match args with
 | []=>some (.bool true,m)
 | _=>none
theorem Ku:ownKnob Tryz.prog.godebug=none:=by kernel_rfl
theorem xu:ze Tryz.prog=true:=by kernel_rfl
end Go.Proofs.YthmekkhpddehjaaGreat
end

section
namespace Go.Ab
open Go
section
variable {E : Env} {j j1 : aT} {m m1 : AMem} {w w1 : World}
theorem Sim.nI (h:MR E j m w) (hold:∀c,c<w.heap.size→w1.heap[c]? = w.heap[c]?) (hsize:w.heap.size≤w1.heap.size) (hcalm:fS E w w1) {k1:Blk} (hfresh:w.heap.size≤k1.c) (hlt:k1.c<w1.heap.size) {cs:List Value} {tag:Tag} {o':Obj} (ho:w1.heap[k1.c]? = some o') (hor:OR j1 k1 (.cells cs tag) o') (hp:cs.all aM=true) :
  Sim E j m w (j.set m.next k1) (m.alloc (.cells cs tag)) w1:=by
 have hn:j m.next=none:=h.mL
 have ha:MR E j m w1:=⟨fun b k hb=>⟨(h.lt b k hb).1,Nat.lt_of_lt_of_le (h.lt b k hb).2 hsize⟩,fun b o k ho hb=>by
  obtain⟨o',h1,h2⟩:=h.obj b o k ho hb;exact⟨o',(hold k.c (h.lt b k hb).2).trans h1,h2⟩,h.inj,h.glob⟩
 refine⟨.alloc m _,aT.qL k1 hn,?_,?_,hsize,?_,?_,?_,fun c hc _=>hold c hc,hcalm⟩
 ·intro b k e e'
  by_cases hbm:b=m.next
  ·omega
  ·rw[aT.cw _ _ hbm,e'] at e; cases e
 ·refine⟨fun b k e=>?_,fun b o k ho' e=>?_,fun b b' k k' e e' hl hl' hc=>?_,fun gl hgl=>?_⟩
  ·by_cases hbm:b=m.next
   ·subst hbm; rw[aT.cx] at e; cases e;exact⟨Nat.lt_succ_self _,hlt⟩
   ·rw[aT.cw _ _ hbm] at e;exact⟨Nat.lt_succ_of_lt (h.lt b k e).1,(ha.lt b k e).2⟩
  ·rw[AMem.bf] at ho'
   by_cases hbm:b=m.next
   ·subst hbm; rw[aT.cx] at e; cases e;rw[if_pos rfl] at ho'; cases ho';refine⟨o',ho,?_⟩;cases o' with
    | cells c ty fz =>
     refine⟨hor.1,fun i v hi=>?_⟩;obtain⟨v',h3,h4⟩:=hor.2 i v hi;have hpv:=List.all_eq_true.1 hp v (List.mem_of_getElem? hi);have:=ec hpv h4;subst this;exact⟨_,h3,.aM hpv⟩
    | _=>exact hor.elim
   ·rw[if_neg hbm] at ho';rw[aT.cw _ _ hbm] at e;obtain⟨o',h1,h2⟩:=ha.obj b o k ho' e;exact⟨o',h1,h2.mono (aT.qL k1 hn)⟩
  ·have old:∀{b k},j b=some k→k.c≠k1.c:=fun {b k} e hc=>by
    have:=(h.lt b k e).2;omega
   by_cases hbm:b=m.next
   ·by_cases hbm':b'=m.next
    ·rw[hbm,hbm']
    ·subst hbm; rw[aT.cx] at e; cases e;rw[aT.cw _ _ hbm'] at e';exact absurd hc.symm (old e')
   ·by_cases hbm':b'=m.next
    ·subst hbm'; rw[aT.cx] at e'; cases e';rw[aT.cw _ _ hbm] at e;exact absurd hc (old e)
    ·rw[aT.cw _ _ hbm] at e;rw[aT.cw _ _ hbm'] at e';rw[AMem.bf,if_neg hbm] at hl;rw[AMem.bf,if_neg hbm'] at hl';exact h.inj b b' k k' e e' hl hl' hc
  ·have:=h.glob gl hgl;have hlt:=(h.lt gl _ this).1;rw[aT.cw _ _ (by omega)]; exact this
 ·intro b hb1 hb2 _;have:b=m.next:=by simp at hb2; omega
  subst this; exact⟨k1,aT.cx _ _ _⟩
 ·intro b hb _;rw[AMem.bf,if_neg (by omega)]
 ·intro b k e e'
  by_cases hbm:b=m.next
  ·subst hbm; rw[aT.cx] at e; cases e;exact .inl hfresh
  ·rw[aT.cw _ _ hbm,e'] at e; cases e
theorem Sim.same (h:MR E j m w) (hold:∀c,c<w.heap.size→w1.heap[c]? = w.heap[c]?) (hsize:w.heap.size≤w1.heap.size) (hcalm:fS E w w1):Sim E j m w j m w1 where
 ext:=.refl m
 le:=.refl j
 new:=fun b k h h'=>by simp[h'] at h
 mr:=⟨fun b k hb=>⟨(h.lt b k hb).1,Nat.lt_of_lt_of_le (h.lt b k hb).2 hsize⟩,fun b o k ho hb=>by
  obtain⟨o',h1,h2⟩:=h.obj b o k ho hb;exact⟨o',(hold k.c (h.lt b k hb).2).trans h1,h2⟩,h.inj,h.glob⟩
 size:=hsize
 full:=fun b h h' _=>absurd h (by omega)
 away:=fun _ _ _=>rfl
 fresh:=fun b k h h'=>by simp[h'] at h
 frame:=fun c hc _=>hold c hc
 calm:=hcalm
theorem yR (hE:EnvOk E) {pr:FuncId→Option Prim} (h:∀f p,pr f=some p→E.cE f=some p∨∀args m v m',p.run args m=some (v,m')→∀(j:aT) (w:World) (args':List Value),MR E j m w→LR j args args'→gL E.P (E.cE f).isSome f args'.toArray w (jn E j m w v m')):EnvOk { E with cE:=pr}:=by
 refine⟨hE.call,hE.mixed,fun f p hp args m v m' hrun j w args' hm hl=>?_⟩;have hp':({ E with cE:=pr}:Env).cE f=some p:=hp;have hm0:MR E j m w:=MR.env (E:={ E with cE:=pr}) (E':=E) rfl hm;have key:∀v' w',jn E j m w v m' v' w'→jn { E with cE:=pr} j m w v m' v' w':=fun v' w' ⟨j',s,hv⟩=>⟨j',Sim.env (E:=E) rfl (fun e=>e) s,hv⟩;rcases h f p hp with h1|h1
 ·exact jA (fun _=>by rw[hp']; rfl) (hE.cE f p h1 args m v m' hrun j w args' hm0 hl) key
 ·exact jA (fun _=>by rw[hp']; rfl) (h1 args m v m' hrun j w args' hm0 hl) key
end
section
variable {E : Env} {j : aT} {m : AMem} {w : World}
def jK (j:aT) (g:Nat):aT:=fun x=>if x<g then j x else none
theorem vZ (n:Nat) (gs:Nat→Option (List Value)) (b:Nat):(oF n gs).get b=(gs b).map fun cs=>.cells cs .ro:=by
 simp[AMem.get,oF,Heap.get_nil]
theorem MR.Kv {gs:Nat→Option (List Value)} (h:MR E j m w) (hgs:∀x c,x<E.glob→gs x=some c→m.get x=some (.cells c .ro)) (hgp:∀x c,gs x=some c→c.all aM=true):MR E (jK j E.glob) (oF E.glob gs) w:=by
 have cases1:∀x k,jK j E.glob x=some k→x<E.glob∧j x=some k:=by
  intro x k hx;unfold jK at hx
  split at hx
  ·rename_i hlt; exact⟨hlt,hx⟩
  ·cases hx
 refine⟨fun x k hx=>?_,fun x o k ho hx=>?_,fun x x' k k' hx hx' hl hl' hc=>?_,fun gl hgl=>?_⟩
 ·obtain⟨hlt,hj⟩:=cases1 x k hx;exact⟨hlt,(h.lt x k hj).2⟩
 ·rw[vZ] at ho;obtain⟨hlt,hj⟩:=cases1 x k hx;cases hg:gs x with
  | none=>rw[hg] at ho; cases ho
  | some c =>
   rw[hg] at ho; cases ho;have hgx:=hgs x c hlt hg;obtain⟨o',h1,h2⟩:=h.obj x _ k hgx hj;refine⟨o',h1,?_⟩;cases o' with
   | cells c' ty fz =>
    refine⟨h2.1,fun i v hi=>?_⟩;obtain⟨v',h3,h4⟩:=h2.2 i v hi;have hpv:=List.all_eq_true.1 (hgp x c hg) v (List.mem_of_getElem? hi);have:=ec hpv h4;subst this;exact⟨_,h3,.aM hpv⟩
   | _=>exact h2.elim
 ·have live:∀y,y<E.glob→((oF E.glob gs).get y).isSome=true→(m.get y).isSome=true:=by
   intro y hy hl;rw[vZ] at hl;cases hg:gs y with
   | none=>rw[hg] at hl; cases hl
   | some c=>rw[hgs y c hy hg]; rfl
  obtain⟨hlt,hj⟩:=cases1 x k hx;obtain⟨hlt',hj'⟩:=cases1 x' k' hx';exact h.inj x x' k k' hj hj' (live x hlt hl) (live x' hlt' hl') hc
 ·unfold jK;rw[if_pos hgl];exact h.glob gl hgl
theorem sL (hE:EnvOk E) {f:FuncId} {gs:Nat→Option (List Value)} (hgp:∀x c,gs x=some c→c.all aM=true) {fuel:Nat} {v:Value} {m0:AMem}
  (hrun:run E fuel (.call f [] (oF E.glob gs))=some (.val v m0)) (hwl:E.glob≤m0.wl) (hpv:bq v=true) {args':List Value} (h:MR E j m w) (hgs:∀x c,x<E.glob→gs x=some c→m.get x=some (.cells c .ro)) (hl:LR j [] args') :
  gL E.P (E.cE f).isSome f args'.toArray w (jn E j m w v m):=by
 have hm0:=h.Kv hgs hgp;have hl0:LR (jK j E.glob) [] args':=by
  rw[LR.cV hl]; exact .nil _
 obtain⟨_,_,e,hs⟩:=sM hE fuel _ _ hrun;cases e;refine jA (fun x=>x) (hs _ w args' hm0 hl0) ?_;intro v' w' ⟨j',s,hv'⟩;have hold:∀c,c<w.heap.size→w'.heap[c]? = w.heap[c]?:=fun c hc=>s.frame c hc fun x k hx _ _=>by
  have:x<E.glob:=(hm0.lt x k hx).1;omega
 exact⟨j,.same h hold s.size s.calm,VR.A8 hpv hv'⟩
end
end Go.Ab
end

section
namespace Go.Proofs.YthmekkhpddehjaaGreat
open Go Go.Ab
noncomputable def ux (f:FuncId):Option PSem:=if f=144 then some ⟨tH IC⟩ else if f=145 then some ⟨tH IU⟩ else none
theorem By:KK qP ux:=by
  intro f S hS;unfold ux at hS
  split at hS
  · rename_i e; cases hS; subst e;exact⟨⟨dV vw⟩,rfl,fun h=>rV GD h⟩
  · split at hS
    · rename_i e; cases hS; subst e;exact⟨⟨dV sR⟩,rfl,fun h=>rV G2 h⟩
    · cases hS
def m14:AMem:=oF 0 fun _=>none
set_option maxRecDepth 100000
set_option maxHeartbeats 0 in
theorem xK:(hand qP ux 1000).call 18 [] m14 (KE 0)=true:=by decide +kernel
end Go.Proofs.YthmekkhpddehjaaGreat
end

section
namespace Go.Proofs
open Go.Shelf
def Tryz.sF:Go.Shelf.Ren:=⟨fun|7=>136|10=>150|n=>n,fun|23=>140|26=>3|3=>144|28=>178|0=>0|27=>177|33=>137|4=>4|n=>n,fun|n=>n⟩
theorem Tryz.HK:Go.Proofs.SlLaysZI.n7 Tryz.prog Tryz.sF:={
 mixed:=by kernel_rfl
 f7:=⟨Tryz.f136.name,by decide,Tryz.func136.trans (congrArg some (by kernel_rfl))⟩
 f10:=⟨Tryz.f150.name,by decide,Tryz.func150.trans (congrArg some (by kernel_rfl))⟩
 t0:=Tryz.underlying0
 a0:=Tryz.isAgg0
 z0:=Tryz.sizeOf0
 v0:=Tryz.zeroValue0
 t4:=Tryz.underlying4
 a4:=Tryz.isAgg4
 z4:=Tryz.sizeOf4
 v4:=Tryz.zeroValue4
 t23:=Tryz.underlying140
 a23:=Tryz.isAgg140
 z23:=Tryz.sizeOf140
 v23:=Tryz.zeroValue140
 t26:=Tryz.underlying3
 a26:=Tryz.isAgg3
 z26:=Tryz.sizeOf3
 v26:=Tryz.zeroValue3
 t27:=Tryz.underlying177
 a27:=Tryz.isAgg177
 z27:=Tryz.sizeOf177
 v27:=Tryz.zeroValue177
 t28:=Tryz.underlying178
 a28:=Tryz.isAgg178
 z28:=Tryz.sizeOf178
 v28:=Tryz.zeroValue178
 t33:=Tryz.underlying137
 a33:=Tryz.isAgg137
 z33:=Tryz.sizeOf137
 v33:=Tryz.zeroValue137}
def Tryz.nZ:Go.Shelf.Ren:=⟨fun|6=>135|8=>148|9=>149|11=>158|13=>81|12=>159|23=>101|24=>102|14=>161|15=>162|16=>163|17=>164|18=>165|19=>166|20=>167|21=>168|22=>169|25=>170|26=>122|27=>123|28=>171|29=>172|30=>103|31=>173|n=>n,fun|26=>3|28=>178|24=>102|0=>0|3=>3|37=>117|48=>134|50=>136|4=>4|40=>127|39=>126|45=>131|5=>5|9=>9|51=>164|55=>168|57=>187|58=>81|33=>137|n=>n,fun|n=>n⟩
theorem Tryz.GB:Go.Proofs.SlLaysZI.n6 Tryz.prog Tryz.nZ:={
 mixed:=by kernel_rfl
 f6:=⟨Tryz.f135.name,by decide,Tryz.func135.trans (congrArg some (by kernel_rfl))⟩
 f8:=⟨Tryz.f148.name,by decide,Tryz.func148.trans (congrArg some (by kernel_rfl))⟩
 f11:=⟨Tryz.f158.name,by decide,Tryz.func158.trans (congrArg some (by kernel_rfl))⟩
 t0:=Tryz.underlying0
 a0:=Tryz.isAgg0
 z0:=Tryz.sizeOf0
 v0:=Tryz.zeroValue0
 t24:=Tryz.underlying102
 a24:=Tryz.isAgg102
 z24:=Tryz.sizeOf102
 v24:=Tryz.zeroValue102
 t26:=Tryz.underlying3
 a26:=Tryz.isAgg3
 z26:=Tryz.sizeOf3
 v26:=Tryz.zeroValue3
 t28:=Tryz.underlying178
 a28:=Tryz.isAgg178
 z28:=Tryz.sizeOf178
 v28:=Tryz.zeroValue178
 i26:=by kernel_rfl}
def Tryz.AF:Go.Shelf.Ren:=⟨fun|5=>149|8=>81|7=>159|19=>101|20=>102|10=>161|11=>162|12=>163|13=>164|14=>165|15=>166|16=>167|17=>168|18=>169|30=>170|31=>122|32=>123|33=>171|34=>172|35=>103|40=>173|n=>n,fun|23=>102|25=>3|3=>3|32=>117|22=>102|0=>0|44=>134|46=>136|4=>4|36=>127|35=>126|41=>131|5=>5|9=>9|53=>164|57=>168|63=>187|64=>81|n=>n,fun|n=>n⟩
theorem Tryz.HJ:Go.Proofs.SlLaysM.n5 Tryz.prog Tryz.AF:={
 mixed:=by kernel_rfl
 f5:=⟨Tryz.f149.name,by decide,Tryz.func149.trans (congrArg some (by kernel_rfl))⟩
 f7:=⟨Tryz.f159.name,by decide,Tryz.func159.trans (congrArg some (by kernel_rfl))⟩
 f8:=Tryz.func81.trans (congrArg some (by kernel_rfl))
 f10:=⟨Tryz.f161.name,by decide,Tryz.func161.trans (congrArg some (by kernel_rfl))⟩
 f11:=⟨Tryz.f162.name,by decide,Tryz.func162.trans (congrArg some (by kernel_rfl))⟩
 f12:=⟨Tryz.f163.name,by decide,Tryz.func163.trans (congrArg some (by kernel_rfl))⟩
 f13:=⟨Tryz.f164.name,by decide,Tryz.func164.trans (congrArg some (by kernel_rfl))⟩
 f14:=⟨Tryz.f165.name,by decide,Tryz.func165.trans (congrArg some (by kernel_rfl))⟩
 f15:=⟨Tryz.f166.name,by decide,Tryz.func166.trans (congrArg some (by kernel_rfl))⟩
 f16:=⟨Tryz.f167.name,by decide,Tryz.func167.trans (congrArg some (by kernel_rfl))⟩
 f17:=⟨Tryz.f168.name,by decide,Tryz.func168.trans (congrArg some (by kernel_rfl))⟩
 f18:=⟨Tryz.f169.name,by decide,Tryz.func169.trans (congrArg some (by kernel_rfl))⟩
 f19:=Tryz.func101.trans (congrArg some (by kernel_rfl))
 f20:=Tryz.func102.trans (congrArg some (by kernel_rfl))
 f30:=⟨Tryz.f170.name,by decide,Tryz.func170.trans (congrArg some (by kernel_rfl))⟩
 f31:=Tryz.func122.trans (congrArg some (by kernel_rfl))
 f32:=Tryz.func123.trans (congrArg some (by kernel_rfl))
 f33:=⟨Tryz.f171.name,by decide,Tryz.func171.trans (congrArg some (by kernel_rfl))⟩
 f34:=⟨Tryz.f172.name,by decide,Tryz.func172.trans (congrArg some (by kernel_rfl))⟩
 f35:=⟨Tryz.f103.name,by decide,Tryz.func103.trans (congrArg some (by kernel_rfl))⟩
 f40:=⟨Tryz.f173.name,by decide,Tryz.func173.trans (congrArg some (by kernel_rfl))⟩
 t0:=Tryz.underlying0
 a0:=Tryz.isAgg0
 z0:=Tryz.sizeOf0
 v0:=Tryz.zeroValue0
 t3:=Tryz.underlying3
 a3:=Tryz.isAgg3
 z3:=Tryz.sizeOf3
 v3:=Tryz.zeroValue3
 t4:=Tryz.underlying4
 a4:=Tryz.isAgg4
 z4:=Tryz.sizeOf4
 v4:=Tryz.zeroValue4
 t5:=Tryz.underlying5
 a5:=Tryz.isAgg5
 z5:=Tryz.sizeOf5
 v5:=Tryz.zeroValue5
 t9:=Tryz.underlying9
 a9:=Tryz.isAgg9
 z9:=Tryz.sizeOf9
 v9:=Tryz.zeroValue9
 t22:=Tryz.underlying102
 a22:=Tryz.isAgg102
 z22:=Tryz.sizeOf102
 v22:=Tryz.zeroValue102
 t23:=Tryz.underlying102
 a23:=Tryz.isAgg102
 z23:=Tryz.sizeOf102
 v23:=Tryz.zeroValue102
 t25:=Tryz.underlying3
 a25:=Tryz.isAgg3
 z25:=Tryz.sizeOf3
 v25:=Tryz.zeroValue3
 t32:=Tryz.underlying117
 a32:=Tryz.isAgg117
 z32:=Tryz.sizeOf117
 v32:=Tryz.zeroValue117
 t35:=Tryz.underlying126
 a35:=Tryz.isAgg126
 z35:=Tryz.sizeOf126
 v35:=Tryz.zeroValue126
 t36:=Tryz.underlying127
 a36:=Tryz.isAgg127
 z36:=Tryz.sizeOf127
 v36:=Tryz.zeroValue127
 t41:=Tryz.underlying131
 a41:=Tryz.isAgg131
 z41:=Tryz.sizeOf131
 v41:=Tryz.zeroValue131
 t44:=Tryz.underlying134
 a44:=Tryz.isAgg134
 z44:=Tryz.sizeOf134
 v44:=Tryz.zeroValue134
 t46:=Tryz.underlying136
 a46:=Tryz.isAgg136
 z46:=Tryz.sizeOf136
 v46:=Tryz.zeroValue136
 t53:=Tryz.underlying164
 a53:=Tryz.isAgg164
 z53:=Tryz.sizeOf164
 v53:=Tryz.zeroValue164
 t57:=Tryz.underlying168
 a57:=Tryz.isAgg168
 z57:=Tryz.sizeOf168
 v57:=Tryz.zeroValue168
 t63:=Tryz.underlying187
 a63:=Tryz.isAgg187
 z63:=Tryz.sizeOf187
 v63:=Tryz.zeroValue187
 t64:=Tryz.underlying81
 a64:=Tryz.isAgg81
 z64:=Tryz.sizeOf81
 v64:=Tryz.zeroValue81}
end Go.Proofs
end

section
namespace Go.Proofs
open Go.RowKit Go.Maps Go.Sort Go.Shelf
theorem Tryz.Io (m:Nat):AnyZI.SortsIn Tryz.prog Tryz.nZ Fence.wide m :=
 ⟨fun oh off cap ss W hH hblk hsz=>callsIn_wide.2 (AnyM.slices_Sort_int Tryz.HJ oh off cap ss W hH hblk hsz),
  fun p cap W=>callsIn_wide.2 (AnyM.slices_Sort_int_none Tryz.HJ p cap W)⟩
set_option maxHeartbeats 1000000 in
theorem Tryz.Keys {H:Type} (b nn:Nat) (D0:DataW H) (R:Value→Option (DataW H × List MemPlace)) (w:World) (hown:w.ownsMap Tryz.prog 3 R b nn D0) (hmax:Maps.size D0≤maxLen) (hbytes:Maps.size D0*8≤140737488355328) :
  Calls Tryz.prog 111 #[.map (some b)] w fun e w'=>∃(v:Value) (ss:List Int),e = .returned v∧ss.Perm (intKeys D0) ∧
   w'.ownsRow w.heap.size 3 1 v ss.length ((ss.mergeSort (fun x y=>decide (x≤y))).map encZ)∧(v = .slice none 0 0↔ss = [])∧Below w.heap.size w w':=by
 refine(callsIn_wide (n:=6)).1 ?_;have hbl:=hown.lt;have hseq:SeqGives Fence.wide 2 Tryz.prog 150 #[.pointer (some ⟨w.heap.size,0,none⟩)] encZ (fun ss=>ss.Perm (intKeys D0)) (Maps.size D0) (w.alloc (.cells #[.map (some b)] 140)) :=
  AnyZI.keys_gives (ρ:=Tryz.sF) { Tryz.HK with} Fence.wide _ trivial rfl (by omega) w.heap.size b nn D0 _ (by simp) (by simp) (by
   obtain⟨es,clock,hb,Ft,hs,hD⟩:=hown;exact⟨es,clock,(Below.heap_alloc _ _ b hbl).trans hb,Ft,hs,hD⟩)
 have cK:∀mb W,CallsIn Fence.wide 5 Tryz.prog 136 #[.map mb] W fun e w'=>e = .returned (.func (.func 150) #[] #[.pointer (some ⟨W.heap.size,0,none⟩)])∧w'=W.alloc (.cells #[.map mb] 140):=fun mb W=>AnyZI.keys_in Tryz.HK Fence.wide 5 trivial rfl mb W;have cS:=AnyZI.sorted_in Tryz.GB Fence.wide 5 trivial trivial trivial trivial rfl (by omega) (Tryz.Io _) (enters_of Tryz.func149 (by kernel_rfl) rfl) 150 #[.pointer (some ⟨w.heap.size,0,none⟩)] trivial (enters_of Tryz.func150 (by kernel_rfl) rfl) _ _ hmax hbytes _ hseq
 change CallsIn _ _ Tryz.prog 135 _ _ _ at cS
 have hfK:Fence.wide.fn 136:=trivial;have hfS:Fence.wide.fn 135:=trivial;refine callsIn_of_wp Tryz.func111 rfl trivial ?_ rfl;simp only[Tryz.ntmps111,List.size_toArray,List.length_cons,List.length_nil,Nat.reduceAdd,Nat.reduceSub,Array.replicate_succ,Array.replicate_zero,List.push_toArray,List.append_toArray,List.nil_append,List.cons_append]
 gi_wp2_with (first
  | (gi_at_call 136; refine(cK _ _).mono ?_; rintro e w' ⟨rfl,rfl⟩)
  | (gi_at_call 135; refine cS.mono ?_; rintro e w' ⟨v,ss,rfl,hS,hrow,hnil,hb⟩))
 go_ret
 exact⟨v,ss,rfl,hS,ownsRow_base_a hrow (by simp),hnil,((Below.refl _ w).alloc (Nat.le_refl _) _).trans (hb.mono (by simp))⟩
end Go.Proofs
end

section
namespace Go.Proofs.YthmekkhpddehjaaGreat
open Go Go.Ab Go.Maps
theorem qq:∀{l:List Int},Bo l=true→l.Nodup
 | [],_=>List.nodup_nil
 | a::l,h=>by
  unfold Bo at h;rw[Bool.and_eq_true] at h;exact List.nodup_cons.2 ⟨by simpa using h.1,qq h.2⟩
theorem ng (a:Int):∀l,(wR a l).Perm (a::l)
 | []=>List.Perm.refl _
 | b::l=>by
  unfold wR
  split
  ·exact List.Perm.refl _
  ·exact((ng a l).cons b).trans (List.Perm.swap a b l)
theorem eA:∀l,(eH l).Perm l
 | []=>List.Perm.refl _
 | a::l=>(ng a (eH l)).trans ((eA l).cons a)
theorem nV (a:Int):∀{l:List Int},l.Pairwise (·≤·)→(wR a l).Pairwise (·≤·)
 | [],_=>List.pairwise_singleton _ _
 | b::l,h=>by
  obtain⟨h1,h2⟩:=List.pairwise_cons.1 h;unfold wR
  split
  ·rename_i hab;exact List.pairwise_cons.2 ⟨fun x hx=>by
    rcases List.mem_cons.1 hx with rfl|hx
    ·exact hab
    ·exact Int.le_trans hab (h1 x hx),h⟩
  ·rename_i hab;refine List.pairwise_cons.2 ⟨fun x hx=>?_,nV a h2⟩;rcases List.mem_cons.1 ((ng a l).subset hx) with rfl|hx
   ·omega
   ·exact h1 x hx
theorem iJ:∀l,(eH l).Pairwise (·≤·)
 | []=>List.Pairwise.nil
 | a::l=>nV a (iJ l)
theorem CA {ss ks:List Int} (h:ss.Perm ks):ss.mergeSort (fun x y=>decide (x≤y))=eH ks:=by
 refine List.Perm.eq_of_pairwise (le:=fun a b=>a≤b) (fun a b _ _ h1 h2=>Int.le_antisymm h1 h2) ?_ (iJ ks) (((List.mergeSort_perm ss _).trans h).trans (eA ks).symm);exact(List.pairwise_mergeSort (fun a b c h1 h2=>by simp only[decide_eq_true_eq] at *; omega) (fun a b=>by simp only[Bool.or_eq_true,decide_eq_true_eq]; omega) ss).imp fun h=>by simpa using h
theorem zG {j:aT}:∀{es:List (Value × Value)} {fs:List MapEntry} {ks:List Int},ER j es fs→pN es=some ks→fs.map (·.key)=ks.map (.int .i64)
 | [],[],ks,_,h=>by cases h; rfl
 | (a,b)::es,f::fs,ks,hr,h=>by
  unfold pN at h
  split at h
  ·rename_i e; cases e
  ·rename_i k v r e;cases e;cases hk:pN es with
   | none=>rw[hk] at h; cases h
   | some ks' =>
    rw[hk] at h;cases h;have h1:f.key = .int .i64 k:=by
     have:=hr.1;generalize f.key=fk at this;cases this; rfl
    rw[List.map_cons,List.map_cons,h1,zG hr.2.2 hk]
  ·cases h
 | [],_::_,_,h,_=>h.elim
 | _::_,[],_,h,_=>h.elim
abbrev RU:Value→Option (DataW Unit × List MemPlace):=fun _=>some (.lit (.bool true),[])
theorem KJ:Tryz.prog.underlying 3=some (.int .i64):=by kernel_rfl
theorem wf_i64 {k:Int} (h1 : -9223372036854775808≤k) (h2:k<9223372036854775808):(Lit.int .i64 k).wf=true:=by
 show(decide ((-9223372036854775808:Int)≤k) && decide (k≤9223372036854775807))=true
 rw[decide_eq_true h1,decide_eq_true (show k≤9223372036854775807 by omega)]; rfl
theorem Ie {x:MapEntry} {k:Int} (hk:x.key = .int .i64 k) (h1 : -9223372036854775808≤k) (h2:k<9223372036854775808):Go.WideElems.rd Tryz.prog 3 RU x=some (.int .i64 k,.lit (.bool true)):=by
 have hm:mapKey Tryz.prog 3 (.int .i64 k)=some (.int .i64 k):=by
  unfold mapKey;rw[KJ];simp only[wf_i64 h1 h2,and_self,if_true]
 have hk':keyOf Tryz.prog 3 (.int .i64 k)=some (.int .i64 k):=by
  unfold keyOf;simp only[KJ,hm]
 unfold Go.WideElems.rd;rw[hk,hk']; rfl
theorem qQ {args:List Value} {m m':AMem} {v:Value} (h:dW args m=some (v,m')) {j:aT} {w:World} {args':List Value} (hm:MR qP j m w) (hl:LR j args args') :
  gL qP.P (qP.cE 111).isSome 111 args'.toArray w (jn qP j m w v m'):=by
 unfold dW at h
 split at h
 case h_2=>cases h
 rename_i b
 split at h
 case h_2=>cases h
 rename_i es hg
 split at h
 case h_2=>cases h
 rename_i ks hks
 split at h
 case isFalse=>cases h
 rename_i hok;obtain⟨v1,vs,rfl,hv1,hvs⟩:=hl.cons_inv;obtain rfl:=hvs.cV;cases hv1 with
 | map hj =>
 rename_i k;obtain⟨es',clock,h1,h2⟩:=hm.w7 hj hg;have hinc:=hm.uC hj hg h1;have hkeys:=zG h2 hks;unfold J2 at hok;rw[Bool.and_eq_true,Bool.and_eq_true] at hok;obtain⟨⟨ho1,ho2⟩,ho3⟩:=hok;have hnd:=qq ho2;have hlen:=Nat.le_of_ble_eq_true ho3;have hrange:∀x ∈ ks,-9223372036854775808≤x∧x<9223372036854775808:=fun x hx=>by
  have:=List.all_eq_true.1 ho1 x hx
  simpa using this
 have hsz:es'.size=ks.length:=by
  have:=congrArg List.length hkeys
  simpa using this
 have hread:∀x ∈ es'.toList,∃q:Int,x.key = .int .i64 q∧q ∈ ks∧Go.WideElems.rd Tryz.prog 3 RU x=some (.int .i64 q,.lit (.bool true)):=fun x hx=>by
  have:x.key ∈ ks.map (.int .i64):=hkeys ▸ List.mem_map.2 ⟨x,hx,rfl⟩;obtain⟨q,hq,e⟩:=List.mem_map.1 this;have hr:=hrange q hq;exact⟨q,e.symm,hq,Ie e.symm hr.1 hr.2⟩
 have hknd:(es'.toList.map (·.key)).Nodup:=by
  rw[hkeys];refine List.pairwise_map.2 (hnd.imp fun hne e=>hne ?_);cases e; rfl
 have hmaxlen:(1073741824:Nat)≤maxLen:=by decide
 have hfit:Go.WideElems.Fit Tryz.prog 3 RU es' clock:=⟨by rw[hsz]; omega,⟨hinc.1,hinc.2,hknd⟩,fun x hx=>by
  obtain⟨q,_,_,e⟩:=hread x hx;exact⟨_,e⟩⟩
 have hown:w.ownsMap Tryz.prog 3 RU k.c es'.size (.map ((es'.toList.map (Go.WideElems.rg Tryz.prog 3 RU)).foldr DataW.insert [])):=⟨es',clock,h1,hfit,Nat.le_refl _,rfl⟩;have hrg:es'.toList.map (Go.WideElems.rg Tryz.prog 3 RU)=ks.map fun q=>(Lit.int .i64 q,(.lit (.bool true):DataW Unit)):=by
  have e1:es'.toList.map (Go.WideElems.rg Tryz.prog 3 RU)=(es'.toList.map (·.key)).map fun kv=>match kv with
    | .int .i64 q=>(Lit.int .i64 q,(.lit (.bool true):DataW Unit))
    | _=>(.bool false,.nil):=by
   rw[List.map_map];refine List.map_congr_left fun x hx=>?_;obtain⟨q,e,_,hr⟩:=hread x hx
   show(Go.WideElems.rd Tryz.prog 3 RU x).getD _=_
   rw[hr]
   show _=(match x.key with | .int .i64 q=>(Lit.int .i64 q,(.lit (.bool true):DataW Unit)) | _=>(.bool false,.nil))
   rw[e]; rfl
  rw[e1,hkeys,List.map_map]; rfl
 have hperm:(intKeys (.map ((es'.toList.map (Go.WideElems.rg Tryz.prog 3 RU)).foldr DataW.insert []):DataW Unit)).Perm ks:=by
  show((es'.toList.map (Go.WideElems.rg Tryz.prog 3 RU)).foldr DataW.insert []).map (fun p=>Go.intOf p.1) |>.Perm ks
  refine((Go.WideShapes.sorted_perm _).map _).trans ?_;rw[hrg,List.map_map];have:∀l:List Int,l.map ((fun p:Lit × DataW Unit=>Go.intOf p.1) ∘ fun q=>(Lit.int .i64 q,.lit (.bool true)))=l:=fun l=>by
   induction l with
   | nil=>rfl
   | cons a l ih=>rw[List.map_cons,ih]; rfl
  rw[this]
 have hsize:Maps.size (.map ((es'.toList.map (Go.WideElems.rg Tryz.prog 3 RU)).foldr DataW.insert []):DataW Unit)=ks.length:=by
  show((es'.toList.map (Go.WideElems.rg Tryz.prog 3 RU)).foldr DataW.insert []).length=ks.length
  rw[(Go.WideShapes.sorted_perm _).length_eq,List.length_map,Array.length_toList,hsz]
 have hcon:=Tryz.Keys k.c es'.size _ RU w hown (by rw[hsize]; omega) (by rw[hsize]; omega)
 have hcall:(callFunc 111 #[.map (some k.c)]).run Tryz.prog w = .ok (.enter 111 #[.map (some k.c)]) w:=enters_of Tryz.func111 (by kernel_rfl) rfl _ _
 refine .inl ⟨hcall,callsIn_wide.2 (hcon.mono ?_)⟩;rintro e w' ⟨v2,ss,rfl,hp,hrow,hnil,hb⟩;have hps:=hp.trans hperm;have hsl:=hps.length_eq;have hold:∀c,c<w.heap.size→w'.heap[c]? = w.heap[c]?:=fun c hc=>hb.block c hc;have hcalm:fS qP w w':=⟨hb.os,hb.output,hb.tape,fun f=>f.elim⟩;refine⟨v2,rfl,?_⟩
 match ks,h with
 | [],h =>
  cases h;have:ss = []:=List.length_eq_zero_iff.1 hsl;rw[hnil.2 this];exact⟨j,.same hm hold hb.size hcalm,.snil 0 0⟩
 | q::ks,h =>
  cases h;rw[CA hps] at hrow;obtain⟨hxl,hor⟩:=hrow;rcases hor with⟨_,h0⟩|⟨g,cap,cur,rfl,hg1,hg2,hn1,hn2,hn3,htake⟩
  ·rw[hsl] at h0; simp at h0
  ·have hlen2:(eH (q::ks)).length=ks.length+1:=(eA _).length_eq;have hcl:((eH (q::ks)).map (Value.int .i64)).length=ks.length+1:=by rw[List.length_map,hlen2]
   have hssl:ss.length=ks.length+1:=hsl;rw[hssl] at hn1 htake hxl ⊢;rw[Nat.mul_one] at htake hn3;have hlt:g<w'.heap.size:=(Array.getElem?_eq_some_iff.1 hg2).1;refine⟨_,.nI (k1:=⟨g,some (1,ks.length+1,cap)⟩) hm hold hb.size hcalm hg1 hlt (j1:=j) hg2 ⟨⟨by rw[hcl,hn3],by rw[hcl,hn3]; exact hn1,rfl,by decide,trivial⟩,fun i vv hi=>?_⟩ (by
    rw[List.all_map]; exact List.all_eq_true.2 fun _ _=>rfl),?_⟩
   ·refine⟨vv,?_,?_⟩
    ·rw[←htake] at hi;rw[List.getElem?_take] at hi
     split at hi
     ·simpa using hi
     ·cases hi
    ·have:=List.mem_of_getElem? hi;obtain⟨z,_,rfl⟩:=List.mem_map.1 this;exact .int _ _
   ·exact .sliceM (k:=⟨g,some (1,ks.length+1,cap)⟩) (aT.cx _ _ _) rfl (by omega) (by omega) (Nat.le_refl _) hn1
end Go.Proofs.YthmekkhpddehjaaGreat
end

section
namespace Go.Proofs.YthmekkhpddehjaaGreat
open Go Go.Ab Go.Ab.W
abbrev qO:Int × Int→List Value:=eP (eI .i64) (eI .i64)
def df:List Value→Option (List (Int × Int))
 | []=>some []
 | .int .i64 a::.int .i64 b::r=>(df r).map ((a,b)::·)
 | _=>none
def zY (x y:Int × Int):Bool:=decide (x.1<y.1∨x.1=y.1∧x.2≤y.2)
def xH (m:AMem) (b n n':Nat):Option (List Value × Tag) :=
 match m.get b with
 | some (.cells cs .own)=>if n=n'∧cs.length=n*2∧cs.all aM=true then some (cs,.own) else none
 | some (.cells cs (.more 2))=>if n=n'∧cs.length=n*2∧cs.all aM=true then some (cs,.more 2) else none
 | _=>none
def tS (args:List Value) (m:AMem):Option (Value × AMem) :=
 match args with
 | [.slice none 0 _,.func (.func 51) xs ys]=>if xs.size=0∧ys.size=0 then some (.tuple #[],m) else none
 | [.slice (some ⟨b,0,none⟩) n n',.func (.func 51) xs ys] =>
  match xH m b n n' with
  | some (cs,tg) =>
   match df cs with
   | some l=>if (xs.size=0∧ys.size=0)∧lim n=true then some (.tuple #[],m.set b (.cells ((l.mergeSort zY).map qO).flatten tg)) else none
   | none=>none
  | none=>none
 | _=>none
def BW (f:FuncId):Option Prim:=if f=18 then some ⟨lE⟩ else if f=50 then some ⟨tS⟩ else Fh f
noncomputable def aE:Env:={ P:=Tryz.prog,glob:=0,cE:=BW,mono:=False}
noncomputable def lU:Env:={ P:=Tryz.prog,glob:=0,cE:=fun _=>none,mono:=True}
theorem tM:EnvOk lU:=w8 xu fun f p hp=>by cases hp
end Go.Proofs.YthmekkhpddehjaaGreat
end

section
namespace Go.Ab.W
open Go Go.Ab
attribute [local irreducible] Tm.at Trie.set Trie.get AMem.get AMem.set AMem.alloc AMem.ww AMem.kill
section
variable {E : Env} {n : Nat} {m0 : AMem} {fs : Fs} {ps ps' : List Pc} {ops : Array Oper} {os : List Oper} {K : Tm → AMem → Prop} {prs : List (Nat × Nat)}
variable {ty : TypeId} {p : String} {af : Array Edge} {d : Nat} {o : Op} {g : Option (Nat × Bool)} {v : Value}
inductive Nk
 | any
 | call
 | rd (b:Nat)
 | wr (b:Nat)
 | low (b:Nat)
 | kp (l:List Nat)
 | rn (o:Option Nat)
 | ka (l:List (Option Nat))
def Nk.of:Nk→Note→Prop
 | .any,_=>True
 | .call,x=>x.next≤x.wl
 | .rd b,x=>x.read=some b
 | .wr b,x=>x.wrote=some b
 | .low b,x=>b<x.wl
 | .kp l,x=>∀b ∈ l,x.kept b=true
 | .rn o,x=>x.read=o
 | .ka l,x=>∀b,some b ∈ l→x.kept b=true
def NR:List Nk→List Note→Prop
 | [],[]=>True
 | b::bs,x::xs=>cZ x=true∧b.of x∧NR bs xs
 | _,_=>False
theorem NR.at:∀{bs:List Nk} {ns:List Note} {i:Nat} {b:Nk},NR bs ns→bs[i]? = some b→∃x,ns[i]? = some x∧b.of x
 | b::bs,x::xs,0,c,h,e=>by simp only[List.getElem?_cons_zero,Option.some.injEq] at e; subst e; exact⟨x,rfl,h.2.1⟩
 | b::bs,x::xs,i+1,c,h,e=>by rw[List.getElem?_cons_succ] at e ⊢; exact NR.at h.2.2 e
 | [],[],i,c,h,e=>by simp at e
 | [],_::_,_,_,h,_=>h.elim
 | _::_,[],_,_,h,_=>h.elim
theorem NR.all:∀{bs:List Nk} {ns:List Note},NR bs ns→ns.all cZ=true
 | [],[],_=>rfl
 | _::_,_::_,h=>by rw[List.all_cons,h.1,NR.all h.2.2]; rfl
 | [],_::_,h=>h.elim
 | _::_,[],h=>h.elim
theorem NR.snoc:∀{bs:List Nk} {ns:List Note} {b:Nk} {x:Note},NR bs ns→cZ x=true→b.of x→NR (bs++[b]) (ns++[x])
 | [],[],_,_,_,h1,h2=>⟨h1,h2,trivial⟩
 | _::_,_::_,_,_,h,h1,h2=>⟨h.1,h.2.1,NR.snoc h.2.2 h1 h2⟩
 | [],_::_,_,_,h,_,_=>h.elim
 | _::_,[],_,_,h,_,_=>h.elim
def Nk.Ke:Nk→Bool
 | .call=>true
 | _=>false
def DI (ops:Array Oper) (ss:List Nk) (p:Nat × Nat):Prop :=
 match ss[p.1]?,ss[p.2]? with
  | some (.rd b),some (.wr b')=>b≠b'∧aC (ops.getD p.1 default).op=false
  | some (.wr b),some (.rd b')=>b'≠b∧aC (ops.getD p.2 default).op=false
  | some (.rd b),some (.low b')=>b≤b'∧aC (ops.getD p.1 default).op=false
  | some (.low b),some (.rd b')=>b'≤b∧aC (ops.getD p.2 default).op=false
  | some (.rd b),some (.kp l)=>b ∈ l∧aC (ops.getD p.1 default).op=false
  | some (.kp l),some (.rd b)=>b ∈ l∧aC (ops.getD p.2 default).op=false
  | some (.rd b),some (.ka l)=>some b ∈ l∧aC (ops.getD p.1 default).op=false
  | some (.ka l),some (.rd b)=>some b ∈ l∧aC (ops.getD p.2 default).op=false
  | some (.rn o),some (.ka l)=>o ∈ l∧aC (ops.getD p.1 default).op=false
  | some (.ka l),some (.rn o)=>o ∈ l∧aC (ops.getD p.2 default).op=false
  | some a,some b=>((a.Ke || !(aC (ops.getD p.1 default).op)) && (b.Ke || !(aC (ops.getD p.2 default).op)))=true
  | _,_=>False
def gP (ops:Array Oper) (ss:List Nk):List (Nat × Nat)→Prop
 | []=>True
 | p::ps=>DI ops ss p∧gP ops ss ps
def Gf (ops:Array Oper) (ss:List Nk):List (Nat × Nat)→Bool
 | []=>true
 | p::ps=>(match ss[p.1]?,ss[p.2]? with
  | some (.rd _),some (.wr _)=>false
  | some (.wr _),some (.rd _)=>false
  | some (.rd _),some (.low _)=>false
  | some (.low _),some (.rd _)=>false
  | some (.rd _),some (.kp _)=>false
  | some (.kp _),some (.rd _)=>false
  | some (.rd _),some (.ka _)=>false
  | some (.ka _),some (.rd _)=>false
  | some (.rn _),some (.ka _)=>false
  | some (.ka _),some (.rn _)=>false
  | some a,some b=>((a.Ke || !(aC (ops.getD p.1 default).op)) && (b.Ke || !(aC (ops.getD p.2 default).op)))
  | _,_=>false) && Gf ops ss ps
theorem gP.all {ops:Array Oper} {ss:List Nk}:∀{ps:List (Nat × Nat)},Gf ops ss ps=true→gP ops ss ps
 | [],_=>trivial
 | p::ps,h=>by
  simp only[Gf,Bool.and_eq_true] at h;refine⟨?_,gP.all h.2⟩;have h1:=h.1;unfold DI
  split at h1
  ·cases h1
  ·cases h1
  ·cases h1
  ·cases h1
  ·cases h1
  ·cases h1
  ·cases h1
  ·cases h1
  ·cases h1
  ·cases h1
  ·rename_i a b ha hb hn1 hn2;exact h1
  ·cases h1
theorem gP.nil {ops:Array Oper} {ss:List Nk}:gP ops ss []:=trivial
section
variable {ops : Array Oper} {ss : List Nk} {ps : List (Nat × Nat)} {i j b b' : Nat} {l : List Nat} {o : Option Nat} {la : List (Option Nat)}
theorem gP.step (h:Gf ops ss [(i,j)]=true) (k:gP ops ss ps):gP ops ss ((i,j)::ps):=⟨(gP.all h).1,k⟩
theorem gP.rw (h1:ss[i]? = some (.rd b)) (h2:ss[j]? = some (.wr b')) (he:aC (ops.getD i default).op=false) (hne:b≠b') (k:gP ops ss ps):gP ops ss ((i,j)::ps):=by
 refine⟨?_,k⟩;simp only[DI,h1,h2]; exact⟨hne,he⟩
theorem gP.rk (h1:ss[i]? = some (.rd b)) (h2:ss[j]? = some (.kp l)) (he:aC (ops.getD i default).op=false) (hm:b ∈ l) (k:gP ops ss ps):gP ops ss ((i,j)::ps):=by
 refine⟨?_,k⟩;simp only[DI,h1,h2]; exact⟨hm,he⟩
end
theorem Hb {r e:Note} (h:e.next≤e.wl):Note.ok r e=true:=by
 unfold Note.ok
 split
 ·rfl
 ·rename_i b _
  by_cases hb:b<e.wl
  ·simp[hb]
  ·have:e.next≤b:=by omega
   simp[this]
theorem zA {r e:Note} {b b':Nat} (h1:r.read=some b) (h2:e.wrote=some b') (hne:b≠b'):Note.ok r e=true:=by
 unfold Note.ok;rw[h1,h2];simp[hne]
theorem wo {r e:Note} {b b':Nat} (h1:r.read=some b) (h2:b'<e.wl) (hne:b≤b'):Note.ok r e=true:=by
 unfold Note.ok;rw[h1];simp[show b<e.wl by omega]
theorem zM {r e:Note} {b:Nat} {l:List Nat} (h1:r.read=some b) (h2:∀b ∈ l,e.kept b=true) (hm:b ∈ l):Note.ok r e=true:=by
 unfold Note.ok;rw[h1];simp[h2 b hm]
theorem ug {r e:Note} {b:Nat} {l:List (Option Nat)} (h1:r.read=some b) (h2:∀b,some b ∈ l→e.kept b=true) (hm:some b ∈ l):Note.ok r e=true:=by
 unfold Note.ok;rw[h1];simp[h2 b hm]
theorem Ap {r e:Note} {o:Option Nat} {l:List (Option Nat)} (h1:r.read=o) (h2:∀b,some b ∈ l→e.kept b=true) (hm:o ∈ l):Note.ok r e=true:=by
 cases o with
 | none=>unfold Note.ok; rw[h1]
 | some b=>exact ug h1 h2 hm
theorem Nk.ok {a b:Nk} {x y:Note} (_:a.of x) (hy:b.of y) (h:b.Ke=true):Note.ok x y=true:=by
 cases b with
 | call=>exact Hb hy
 | _=>cases h
theorem vi {ops:Array Oper} {ss:List Nk} {ns:List Note} (h:NR ss ns):∀{prs:List (Nat × Nat)},gP ops ss prs→prs.all (dw ns ops)=true
 | [],_=>rfl
 | p::prs,hk=>by
  rw[List.all_cons,vi h hk.2,Bool.and_true];have h1:=hk.1;unfold DI at h1
  split at h1
  ·rename_i b b' ha hb;obtain⟨x,hx1,hx2⟩:=h.at ha;obtain⟨y,hy1,hy2⟩:=h.at hb;simp only[dw,hx1,hy1,zA hx2 hy2 h1.1,h1.2,Bool.or_true,Bool.not_false,Bool.true_or,Bool.and_self]
  ·rename_i b b' ha hb;obtain⟨x,hx1,hx2⟩:=h.at ha;obtain⟨y,hy1,hy2⟩:=h.at hb;simp only[dw,hx1,hy1,zA hy2 hx2 h1.1,h1.2,Bool.or_true,Bool.not_false,Bool.true_or,Bool.and_self]
  ·rename_i b b' ha hb;obtain⟨x,hx1,hx2⟩:=h.at ha;obtain⟨y,hy1,hy2⟩:=h.at hb;simp only[dw,hx1,hy1,wo hx2 hy2 h1.1,h1.2,Bool.or_true,Bool.not_false,Bool.true_or,Bool.and_self]
  ·rename_i b b' ha hb;obtain⟨x,hx1,hx2⟩:=h.at ha;obtain⟨y,hy1,hy2⟩:=h.at hb;simp only[dw,hx1,hy1,wo hy2 hx2 h1.1,h1.2,Bool.or_true,Bool.not_false,Bool.true_or,Bool.and_self]
  ·rename_i b b' ha hb;obtain⟨x,hx1,hx2⟩:=h.at ha;obtain⟨y,hy1,hy2⟩:=h.at hb;simp only[dw,hx1,hy1,zM hx2 hy2 h1.1,h1.2,Bool.or_true,Bool.not_false,Bool.true_or,Bool.and_self]
  ·rename_i b b' ha hb;obtain⟨x,hx1,hx2⟩:=h.at ha;obtain⟨y,hy1,hy2⟩:=h.at hb;simp only[dw,hx1,hy1,zM hy2 hx2 h1.1,h1.2,Bool.or_true,Bool.not_false,Bool.true_or,Bool.and_self]
  ·rename_i b l ha hb;obtain⟨x,hx1,hx2⟩:=h.at ha;obtain⟨y,hy1,hy2⟩:=h.at hb;simp only[dw,hx1,hy1,ug hx2 hy2 h1.1,h1.2,Bool.or_true,Bool.not_false,Bool.true_or,Bool.and_self]
  ·rename_i b l ha hb;obtain⟨x,hx1,hx2⟩:=h.at ha;obtain⟨y,hy1,hy2⟩:=h.at hb;simp only[dw,hx1,hy1,ug hy2 hx2 h1.1,h1.2,Bool.or_true,Bool.not_false,Bool.true_or,Bool.and_self]
  ·rename_i b l ha hb;obtain⟨x,hx1,hx2⟩:=h.at ha;obtain⟨y,hy1,hy2⟩:=h.at hb;simp only[dw,hx1,hy1,Ap hx2 hy2 h1.1,h1.2,Bool.or_true,Bool.not_false,Bool.true_or,Bool.and_self]
  ·rename_i b l ha hb;obtain⟨x,hx1,hx2⟩:=h.at ha;obtain⟨y,hy1,hy2⟩:=h.at hb;simp only[dw,hx1,hy1,Ap hy2 hx2 h1.1,h1.2,Bool.or_true,Bool.not_false,Bool.true_or,Bool.and_self]
  ·rename_i a b _ _ _ _ _ _ _ _ _ _ ha hb;obtain⟨x,hx1,hx2⟩:=h.at ha;obtain⟨y,hy1,hy2⟩:=h.at hb;simp only[Bool.and_eq_true,Bool.or_eq_true,Bool.not_eq_true'] at h1;simp only[dw,hx1,hy1,Bool.and_eq_true,Bool.or_eq_true,Bool.not_eq_true'];refine⟨?_,?_⟩
   ·rcases h1.2 with h2|h2
    ·exact .inr (Nk.ok hx2 hy2 h2)
    ·exact .inl h2
   ·rcases h1.1 with h2|h2
    ·exact .inr (Nk.ok hy2 hx2 h2)
    ·exact .inl h2
  ·exact h1.elim
theorem NR.rev:∀{bs:List Nk} {ns:List Note},NR bs ns→NR bs.reverse ns.reverse
 | [],[],_=>trivial
 | b::bs,x::xs,h=>by
  rw[List.reverse_cons,List.reverse_cons];exact(NR.rev h.2.2).snoc h.1 h.2.1
 | [],_::_,h=>h.elim
 | _::_,[],h=>h.elim
variable {ss : List Nk}
def Wn (E:Env) (n:Nat) (ops:Array Oper) (prs:List (Nat × Nat)) (K:Tm→AMem→Prop) (os:List Oper) (ss:List Nk) (m0:AMem) (fs:Fs) (ps:List Pc):Prop :=
 ∀t m ns,Fr t fs→Hp m0 m ps→NR ss ns→dO E n ops (fun t m ns=>(prs.all (dw ns ops) && ns.all cZ)=true∧K t m) os t m ns
theorem Wn.nil {Q:AExit→Tm→AMem→Prop} (hk:∀m,Hp m0 m ps→gP ops ss.reverse prs) (h:At Q .normal m0 fs ps):Wn E n ops prs (Q .normal) [] ss m0 fs ps:=fun t m ns hf hm hn=>by
 refine⟨?_,h t m hf hm⟩;rw[vi hn.rev (hk m hm),hn.rev.all]; rfl
theorem Wn.xg {α:Type} {V:α→Value} {N:α→List Pc} {c:Nk} (h:∀t m,Fr t fs→Hp m0 m ps→m.wl=m.next→(∀b,aK E t o=some b→b<m.next)∧∀K:Value→AMem→Prop,(∀x m',Hp m0 m' (N x)→c.of { read:=aK E t o,wl:=m'.wl,next:=m.next,wrote:=dK E t o,kept:=fQ m m'}→K (V x) m')→bt E t m o K)
  (hg:uY ops fs g true) (dst:Option Nat) (hd:∀d,dst=some d→Nat.blt d n=true) (k:∀x,Wn E n ops prs K os (c::ss) m0 (match dst with|some d=>(d,V x)::fs|none=>fs) (N x)):Wn E n ops prs K (⟨dst,o,ty,p,af,g⟩::os) ss m0 fs ps:=by
 intro t m ns hf hm hn;simp only[dO,hg t _ _ _ _ _ hf,if_true];have hx:=hm.ext.next
 have hm':Hp m0 (m.ww m.next) ps:=hm.ww (by omega)
 have hwl:(m.ww m.next).wl=(m.ww m.next).next:=by rw[AMem.wl_ww,AMem.next_ww]
 have e0:({ next:=m.next,wl:=m.next,objs:=m.objs,base:=m.base}:AMem)=m.ww m.next:=by unfold AMem.ww; rfl
 rw[e0];obtain⟨h1,h2⟩:=h t _ hf hm' hwl;rw[AMem.next_ww] at h1;refine bt.A (h2 _ fun x m' hm'' hc=>?_);rw[AMem.next_ww] at hc;have hw:=hm''.ext.wl;have e1:({ next:=m'.next,wl:=min m.wl m'.wl,objs:=m'.objs,base:=m'.base}:AMem)=m'.ww (min m.wl m'.wl):=by unfold AMem.ww; rfl
 have hw0:=hm.ext.wl;have hfin:Hp m0 (m'.ww (min m.wl m'.wl)) (N x):=hm''.ww (by omega)
 have hkp:fQ (m.ww m.next) m'=fQ m m':=by
  funext b
  unfold fQ;rw[AMem.get_ww]
 rw[hkp] at hc;have hnr:NR (c::ss) ({ read:=aK E t o,wl:=m'.wl,next:=m.next,wrote:=dK E t o,kept:=fQ m m'}::ns):=⟨rW h1,hc,hn⟩
 cases dst with
 | none=>exact⟨t,rfl,by rw[e1]; exact k x t _ _ hf hfin hnr⟩
 | some d =>
  have hd':d<n:=by have:=hd d rfl; rwa[Nat.blt_eq] at this
  exact⟨t.set d (V x),by rw[iD,if_pos hd'],by rw[e1]; exact k x _ _ _ hf.set hfin hnr⟩
theorem Wn.x {α:Type} {V:α→Value} {N:α→List Pc} (h:Ox E m0 fs ps o V N) (hg:uY ops fs g true) (hd:Nat.blt d n=true) (k:∀x,Wn E n ops prs K os (.any::ss) m0 ((d,V x)::fs) (N x)):Wn E n ops prs K (⟨some d,o,ty,p,af,g⟩::os) ss m0 fs ps :=
 Wn.xg (c:=.any) (fun t m hf hm _=>⟨(h t m hf hm).1,fun K hK=>(h t m hf hm).2 K fun x m' h1=>hK x m' h1 trivial⟩) hg (some d) (fun d' e=>by cases e; exact hd) k
theorem Wn.x0 {α:Type} {V:α→Value} {N:α→List Pc} (h:Ox E m0 fs ps o V N) (hg:uY ops fs g true) (k:∀x,Wn E n ops prs K os (.any::ss) m0 fs (N x)):Wn E n ops prs K (⟨none,o,ty,p,af,g⟩::os) ss m0 fs ps :=
 Wn.xg (c:=.any) (fun t m hf hm _=>⟨(h t m hf hm).1,fun K hK=>(h t m hf hm).2 K fun x m' h1=>hK x m' h1 trivial⟩) hg none (fun d' e=>by cases e) k
def xJ:Value→Bool
 | .int _ _ | .bool _ | .slice _ _ _ | .map _ | .pointer _=>true
 | _=>false
def KQ:Value→Bool
 | .func (.func _) a c=>a.toList.all xJ && c.toList.all xJ
 | v=>xJ v
def Bb {α:Type} (ps:List Pc) (N:α→List Pc):List Nat→Prop
 | []=>True
 | b::l=>(∃cs k,pk ps k=some (.obj b (.cells cs .own))∧cs.all KQ=true∧∀x,∃k',pk (N x) k'=some (.obj b (.cells cs .own)))∧Bb ps N l
theorem CN {m m':AMem} {b:Nat} (h:m.get b=m'.get b):fQ m m' b=true:=by
 unfold fQ;rw[Bool.or_eq_true];exact .inr (@decide_eq_true _ (Classical.propDecidable _) h)
theorem Bb.kept {α:Type} {N:α→List Pc} {m m':AMem} {x:α} (hm:Hp m0 m ps) (hm':Hp m0 m' (N x)):∀{l:List Nat},Bb ps N l→∀b ∈ l,fQ m m' b=true
 | [],_,b,hb=>by cases hb
 | c::l,h,b,hb=>by
  rcases List.mem_cons.1 hb with rfl|hb
  ·obtain⟨cs,k,h1,h2,h3⟩:=h.1;obtain⟨k',h4⟩:=h3 x;exact CN (by rw[(hm.get h1).2.2,(hm'.get h4).2.2])
  ·exact Bb.kept hm hm' h.2 b hb
theorem Wn.xk {α:Type} {V:α→Value} {N:α→List Pc} {l:List Nat} (h:Ox E m0 fs ps o V N) (hl:Bb ps N l) (hg:uY ops fs g true) (hd:Nat.blt d n=true) (k:∀x,Wn E n ops prs K os (.kp l::ss) m0 ((d,V x)::fs) (N x)):Wn E n ops prs K (⟨some d,o,ty,p,af,g⟩::os) ss m0 fs ps :=
 Wn.xg (c:=.kp l) (fun t m hf hm _=>⟨(h t m hf hm).1,fun K hK=>(h t m hf hm).2 K fun x m' h1=>hK x m' h1 (Bb.kept hm h1 hl)⟩) hg (some d) (fun d' e=>by cases e; exact hd) k
theorem Hp.ne {m:AMem} {i j b b':Nat} {x y:Pc} (h:Hp m0 m ps) (hx:pk ps i=some x) (hy:pk ps j=some y) (hb:x.oh=some b) (hb':y.oh=some b') (hne:i≠j) (ho:x.own=true):b≠b':=fun e=>(fG h.apart hx hy hne).1 b (Pc.KW ho hb) (.inl (by rw[e]; exact hb'))
def Oc (E:Env) (m0:AMem) (fs:Fs) (ps:List Pc) (o:Op) {α:Type} (V:α→Value) (N:α→List Pc):Prop :=
 ∀t m,Fr t fs→Hp m0 m ps→m.wl=m.next→(∀b,aK E t o=some b→b<m.next)∧∀K:Value→AMem→Prop,(∀x m',Hp m0 m' (N x)→m.next≤m'.wl→K (V x) m')→bt E t m o K
theorem e9 {α:Type} {V:α→Value} {N:α→List Pc} {f:Operand} {g:FuncId} {ars:Array Operand} {ts:Array TypeId} {args:List Value} (hf:ev E fs f=some (.func (.func g) #[] #[])) (ha:gQ E fs ars.toList=some args) (hc:∀m,Hp m0 m ps→aG E g args m (fun v m'=>∃x,v=V x∧Hp m m' (N x))) (ho:∀x,uc (N x)=true):Oc E m0 fs ps (.call ⟨.value f,ars,ts⟩) V (fun x=>N x++ps) :=
 fun t m hfr hm hwl=>⟨fun b hb=>(by simp[aK] at hb),fun K hK=>by
  show jh E (ay E t f) (bm E t ars.toList) m _
  rw[hfr.ev hf,hfr.gQ ha,qA];refine(hc m hm).mono fun v m' ⟨x,e,h⟩=>?_;rw[e];refine hK x m' (hm.after h fun p hp=>List.all_eq_true.1 (ho x) p hp) ?_;have:=h.ext.wl;omega⟩
theorem Wn.c {α:Type} {V:α→Value} {N:α→List Pc} (h:Oc E m0 fs ps o V N) (hg:uY ops fs g true) (hd:Nat.blt d n=true) (k:∀x,Wn E n ops prs K os (.call::ss) m0 ((d,V x)::fs) (N x)):Wn E n ops prs K (⟨some d,o,ty,p,af,g⟩::os) ss m0 fs ps :=
 Wn.xg (c:=.call) (fun t m hf hm hw=>⟨(h t m hf hm hw).1,fun K hK=>(h t m hf hm hw).2 K fun x m' h1 h2=>hK x m' h1 h2⟩) hg (some d) (fun d' e=>by cases e; exact hd) k
theorem Wn.od (h:Od E m0 fs ps o v ps') (hd:Nat.blt d n=true) (k:Wn E n ops prs K os (.any::ss) m0 ((d,v)::fs) ps'):Wn E n ops prs K (⟨some d,o,ty,p,af,none⟩::os) ss m0 fs ps:=Wn.x h.x gn hd fun _=>k
theorem Wn.o0 (h:Od E m0 fs ps o v ps') (k:Wn E n ops prs K os (.any::ss) m0 fs ps'):Wn E n ops prs K (⟨none,o,ty,p,af,none⟩::os) ss m0 fs ps:=Wn.x0 h.x gn fun _=>k
theorem Wn.og (h:Od E m0 fs ps o v ps') (hg:uY ops fs g true) (hd:Nat.blt d n=true) (k:Wn E n ops prs K os (.any::ss) m0 ((d,v)::fs) ps'):Wn E n ops prs K (⟨some d,o,ty,p,af,g⟩::os) ss m0 fs ps:=Wn.x h.x hg hd fun _=>k
theorem Wn.ML {x:Operand} {b off:Nat} {ty':TypeId} (hx:ev E fs x=some (ptr b off)) (h:Od E m0 fs ps (.load ty' x) v ps') (hg:uY ops fs g true) (hd:Nat.blt d n=true) (k:Wn E n ops prs K os (.rd b::ss) m0 ((d,v)::fs) ps'):Wn E n ops prs K (⟨some d,.load ty' x,ty,p,af,g⟩::os) ss m0 fs ps :=
 Wn.xg (V:=fun _:Unit=>v) (N:=fun _=>ps') (c:=.rd b) (fun t m hf hm _=>⟨(h t m hf hm).1,fun K hK=>(h t m hf hm).2 K fun m' h1=>hK () m' h1 (by show aK E t (.load ty' x)=some b; simp only[aK,hf.ev hx]; rfl)⟩) hg (some d) (fun d' e=>by cases e; exact hd) fun _=>k
theorem Wn.J4 {x:Operand} {b off:Nat} {ty':TypeId} (hx:ev E fs x=some (ptr b off)) (h:Od E m0 fs ps (.load ty' x) v ps') (hd:Nat.blt d n=true) (k:Wn E n ops prs K os (.rd b::ss) m0 ((d,v)::fs) ps'):Wn E n ops prs K (⟨some d,.load ty' x,ty,p,af,none⟩::os) ss m0 fs ps:=Wn.ML hx h gn hd k
theorem Wn.Mo {x y:Operand} {b off:Nat} {ty':TypeId} (hx:ev E fs x=some (ptr b off)) (h:Od E m0 fs ps (.store ty' x y) v ps') (hg:uY ops fs g true) (k:Wn E n ops prs K os (.wr b::ss) m0 fs ps'):Wn E n ops prs K (⟨none,.store ty' x y,ty,p,af,g⟩::os) ss m0 fs ps :=
 Wn.xg (V:=fun _:Unit=>v) (N:=fun _=>ps') (c:=.wr b) (fun t m hf hm _=>⟨(h t m hf hm).1,fun K hK=>(h t m hf hm).2 K fun m' h1=>hK () m' h1 (by show dK E t (.store ty' x y)=some b; simp only[dK,hf.ev hx]; rfl)⟩) hg none (fun d' e=>by cases e) fun _=>k
theorem Wn.Li {x y:Operand} {b off:Nat} {ty':TypeId} (hx:ev E fs x=some (ptr b off)) (h:Od E m0 fs ps (.store ty' x y) v ps') (k:Wn E n ops prs K os (.wr b::ss) m0 fs ps'):Wn E n ops prs K (⟨none,.store ty' x y,ty,p,af,none⟩::os) ss m0 fs ps:=Wn.Mo hx h gn k
theorem Wn.ic (h:ae m0 ps ps') (k:Wn E n ops prs K os ss m0 fs ps'):Wn E n ops prs K os ss m0 fs ps:=fun t m ns hf hm hn=>k t m ns hf (h m hm) hn
theorem Wn.cB {k w l cap:Nat} {a:Option Addr} {es:List (List Value)} (hp:pk ps k=some (.rd a cap w l es)) (hl:0<l) (h:∀b o,a=some ⟨b,o,none⟩→Wn E n ops prs K os ss m0 fs (.ro b o w l es::ps)):Wn E n ops prs K os ss m0 fs ps:=by
 intro t m ns hf hm hn;obtain⟨h1,h2,h3⟩:=hm.get hp;rcases h3 with⟨_,h3⟩|⟨_,_,_,h3,_⟩|⟨b,o,rfl,h3⟩
 ·omega
 ·omega
 ·exact h b o rfl t m ns hf (hm.more hp rfl ⟨h1,h3⟩ rfl fun b' hb=>hb) hn
theorem Wn.len {α:Type} {f:α→List Value} {k w l:Nat} {a:Option Addr} {xs:List α} (hp:pk ps k=some (.sl a w l (xs.map f))) (h:l=xs.length→Wn E n ops prs K os ss m0 fs ps):Wn E n ops prs K os ss m0 fs ps:=fun t m ns hf hm hn=>by
 refine h ?_ t m ns hf hm hn;rcases hm.get hp with⟨h0,h1,_⟩|⟨b,tg,_,h1⟩
 ·rw[h0,List.map_eq_nil_iff.1 h1]; rfl
 ·have:=h1.2.2.2.1; rw[List.length_map] at this; exact this.symm
theorem Wk.eT {fn:FuncId} {ro:Option Nat} {Q:AExit→Tm→AMem→Prop} {id:Nat} (hp:df ops=some prs) (h:Wn E n ops prs (Q .normal) ops.toList [] m0 fs ps):Wk E n fn ro (.region id ops true) Q m0 fs ps:=fun t m hf hm=>.draw hp (h t m [] hf hm trivial)
end
section
variable {E : Env} {n : Nat} {fn : FuncId} {m0 : AMem} {fs : Fs} {ps : List Pc} {Q : AExit → Tm → AMem → Prop}
def iG (fn:FuncId) (t:Tm) (n:Nat) (params:Array Tmp) (assign body:Code) (s:LoopState) (p:Option Code):AObj:=.loop { state:=s,pending:=p,fn:=fn,tmps:=t,n:=n,params:=params,assign:=assign,body:=body}
structure Rn where
 st:LoopState
 pe:Option Code
 ps:List Pc
theorem Wk.CD {ro:Option Nat} {f:Operand} {params:Array Tmp} {assign body:Code} {g:FuncId} {first cap:Array Value} {F:Func} {c:Code} {rs:List ResultVar} {N:Nat} {γ:Type} {X:γ→Rn}
  (hf:ev E fs f=some (.func (.func g) first cap)) (hp:E.cE g=none) (hfn:E.P.funcs[g]? = some F) (hb:F.body=some c) (hrs:F.results.toList=rs) (hN:max (first.toList.length+1+cap.toList.length) F.ntmps=N)
  (hro:∀m,Hp m0 m ps→match ro with|none=>True|some l=>∃r,m.get l=some (.loop r))
  (h:∀t l rc,Fr t fs→rc=iG fn t n params assign body→Wk E N g none c (pz E rs (fun _ m'=>∃y,Hp m0 m' (.obj l (rc (X y).st (X y).pe)::(X y).ps))) m0 (sq (first.toList++[.func (.yield l) #[] #[]]++cap.toList) 0 []) (.obj l (rc .ready none)::ps))
  (hst:∀y,(X y).st≠.busy) (k:∀y,(match (X y).pe with|none=>At Q .normal m0 fs (X y).ps|some c=>Wk E n fn ro c Q m0 fs (X y).ps)):Wk E n fn ro (.rangeFunc f params assign body) Q m0 fs ps:=by
 intro t m hfr hm;have hl:Hp m0 (m.alloc (iG fn t n params assign body .ready none)) (.obj m.next (iG fn t n params assign body .ready none)::ps) :=
  hm.cons (by rw[AMem.next_alloc]; omega) (hm.ext.alloc _) (fun b hb=>by rw[AMem.bf,if_neg (by omega)]) ⟨hm.ext.next,by rw[AMem.next_alloc]; omega,by rw[AMem.bf,if_pos rfl]⟩ fun b hb=>by cases hb; exact Nat.le_refl _
 have hlen:(first.toList++[Value.func (.yield m.next) #[] #[]]++cap.toList).length=first.toList.length+1+cap.toList.length:=by simp; omega
 obtain⟨v,m2,⟨k1,hk1⟩,y,h2⟩:=aB (N:=N) hp hfn hb hrs (by rw[hlen]; exact hN) hl (h t m.next _ hfr rfl)
 have hg0:=h2.get (k:=0) rfl;have hg:m2.get m.next=some (iG fn t n params assign body (X y).st (X y).pe):=hg0.2.2
 have hlo:m0.next≤m.next:=hm.ext.next
 have h3:Hp m0 (m2.set m.next (iG fn t n params assign body .exhausted (X y).pe)) (X y).ps:=by
  have:=h2.write (k:=0) (o':=iG fn t n params assign body .exhausted (X y).pe) (p':=.obj m.next (iG fn t n params assign body .exhausted (X y).pe)) rfl rfl rfl rfl rfl ⟨hlo,by rw[AMem.next_set]; exact hg0.2.1,by rw[AMem.bD,if_pos rfl]⟩
  refine⟨this.ext,fun p hp=>this.ok p (by simp[cu,hp]),?_⟩
  have hpw:=this.apart;rw[gv,List.pairwise_cons] at hpw;exact hpw.2
 have hev:ay E t f=some (.func (.func g) first cap):=by
  cases f with
  | tmp i=>exact hfr.ev hf
  | const c=>exact hfr.ev hf
  | global g=>exact hfr.ev hf
  | func g=>exact hfr.ev hf
 have hao:eZ E ⟨t,n,fn,ro⟩ m f=true:=by
  have:=hro m hm;cases ro with
  | none=>simp only[eZ,hev,hp]; rfl
  | some l0 =>
   obtain⟨r0,hr0⟩:=this;simp only[eZ,hev,hp,hr0]; rfl
 have hk:=k y;cases hpe:(X y).pe with
 | none =>
  rw[hpe] at hk hg h3;refine⟨.normal,t,_,aX (k:=k1) ?_,hk t _ hfr h3⟩;have hst':=hst y;simp only[step,hev,hao];have hk1':run E k1 (.call g (first.toList++[Value.func (.yield m.next) #[] #[]]++cap.toList) (m.alloc (.loop { state:=.ready,pending:=none,fn:=fn,tmps:=t,n:=n,params:=params,assign:=assign,body:=body})))=some (.val v m2):=hk1
  rw[hk1'];have hg':m2.get m.next=some (.loop { state:=(X y).st,pending:=none,fn:=fn,tmps:=t,n:=n,params:=params,assign:=assign,body:=body}):=hg
  simp only[hg'];cases hs:(X y).st with
  | busy=>exact absurd hs hst'
  | _=>rfl
 | some c' =>
  rw[hpe] at hk hg h3;obtain⟨e2,t2,m3,⟨k2,hk2⟩,q⟩:=hk t _ hfr h3;refine⟨e2,t2,m3,aX (k:=max k1 k2) ?_,q⟩;have hst':=hst y;simp only[step,hev,hao];have hk1':run E (max k1 k2) (.call g (first.toList++[Value.func (.yield m.next) #[] #[]]++cap.toList) (m.alloc (.loop { state:=.ready,pending:=none,fn:=fn,tmps:=t,n:=n,params:=params,assign:=assign,body:=body})))=some (.val v m2):=ff (Nat.le_max_left k1 k2) hk1
  rw[hk1'];have hg':m2.get m.next=some (.loop { state:=(X y).st,pending:=some c',fn:=fn,tmps:=t,n:=n,params:=params,assign:=assign,body:=body}):=hg
  simp only[hg'];have hk2':run E (max k1 k2) (.code c' ⟨t,n,fn,ro⟩ (m2.set m.next (.loop { state:=.exhausted,pending:=some c',fn:=fn,tmps:=t,n:=n,params:=params,assign:=assign,body:=body})))=some (.code e2 t2 m3):=ff (Nat.le_max_right k1 k2) hk2
  cases hs:(X y).st with
  | busy=>exact absurd hs hst'
  | _=>simp only[hk2']
theorem Wk.range {f:Operand} {params:Array Tmp} {assign body:Code} {g:FuncId} {first cap:Array Value} {F:Func} {c:Code} {rs:List ResultVar} {N:Nat} {γ:Type} {X:γ→Rn}
  (hf:ev E fs f=some (.func (.func g) first cap)) (hp:E.cE g=none) (hfn:E.P.funcs[g]? = some F) (hb:F.body=some c) (hrs:F.results.toList=rs) (hN:max (first.toList.length+1+cap.toList.length) F.ntmps=N)
  (h:∀t l rc,Fr t fs→rc=iG fn t n params assign body→Wk E N g none c (pz E rs (fun _ m'=>∃y,Hp m0 m' (.obj l (rc (X y).st (X y).pe)::(X y).ps))) m0 (sq (first.toList++[.func (.yield l) #[] #[]]++cap.toList) 0 []) (.obj l (rc .ready none)::ps))
  (hst:∀y,(X y).st≠.busy) (k:∀y,(match (X y).pe with|none=>At Q .normal m0 fs (X y).ps|some c=>Wk E n fn none c Q m0 fs (X y).ps)):Wk E n fn none (.rangeFunc f params assign body) Q m0 fs ps :=
 Wk.CD hf hp hfn hb hrs hN (fun _ _=>trivial) h hst k
theorem Wk.JM {l0 k0 f0 n0:Nat} {t0:Tm} {params0:Array Tmp} {assign0 body0:Code} {r0:LoopState→Option Code→AObj} {s0:LoopState} {p0:Option Code} {f:Operand} {params:Array Tmp} {assign body:Code} {g:FuncId} {first cap:Array Value} {F:Func} {c:Code} {rs:List ResultVar} {N:Nat} {γ:Type} {X:γ→Rn}
  (hf:ev E fs f=some (.func (.func g) first cap)) (hp:E.cE g=none) (hfn:E.P.funcs[g]? = some F) (hb:F.body=some c) (hrs:F.results.toList=rs) (hN:max (first.toList.length+1+cap.toList.length) F.ntmps=N)
  (h0:r0=iG f0 t0 n0 params0 assign0 body0) (h1:pk ps k0=some (.obj l0 (r0 s0 p0)))
  (h:∀t l rc,Fr t fs→rc=iG fn t n params assign body→Wk E N g none c (pz E rs (fun _ m'=>∃y,Hp m0 m' (.obj l (rc (X y).st (X y).pe)::(X y).ps))) m0 (sq (first.toList++[.func (.yield l) #[] #[]]++cap.toList) 0 []) (.obj l (rc .ready none)::ps))
  (hst:∀y,(X y).st≠.busy) (k:∀y,(match (X y).pe with|none=>At Q .normal m0 fs (X y).ps|some c=>Wk E n fn (some l0) c Q m0 fs (X y).ps)):Wk E n fn (some l0) (.rangeFunc f params assign body) Q m0 fs ps :=
 Wk.CD hf hp hfn hb hrs hN (fun m hm=>by subst h0; exact⟨_,(hm.get h1).2.2⟩) h hst k
def Es:List Tmp→List Value→Fs→Fs
 | p::ps,v::vs,fs=>Es ps vs ((p,v)::fs)
 | _,_,fs=>fs
def Ae (n:Nat):List Tmp→List Value→Bool
 | p::ps,_::vs=>Nat.blt p n && Ae n ps vs
 | [],[]=>true
 | _,_=>false
theorem zO {n:Nat}:∀{ps:List Tmp} {vs:List Value} {t:Tm} {fs:Fs},Ae n ps vs=true→Fr t fs→∃t',dN n t ps vs=some t'∧Fr t' (Es ps vs fs)∧ps.length=vs.length
 | p::ps,v::vs,t,fs,h,hf=>by
  simp only[Ae,Bool.and_eq_true] at h;obtain⟨t',h1,h2,h3⟩:=zO (ps:=ps) (vs:=vs) (t:=t.set p v) (fs:=(p,v)::fs) h.2 hf.set;exact⟨t',by simp only[dN,h.1]; exact h1,h2,by simp[h3]⟩
 | [],[],t,fs,_,hf=>⟨t,rfl,hf,rfl⟩
 | [],_::_,_,_,h,_=>by cases h
 | _::_,[],_,_,h,_=>by cases h
theorem vq {f:Operand} {l:Nat} {first cap:Array Value} {ars:Array Operand} {ts:Array TypeId} {args:List Value} {k k1 fn' n':Nat} {rc:LoopState→Option Code→AObj} {t0:Tm} {params:Array Tmp} {assign body:Code} {f0:Fs} {γA γ:Type} {GA:γA→En} {G:γ→En}
  (hf:ev E fs f=some (.func (.yield l) first cap)) (ha:gQ E fs ars.toList=some args) (hp:pk ps k=some (.obj l (rc .ready none))) (hrc:rc=iG fn' t0 n' params assign body) (h3:Fr t0 f0) (hpar:Ae n' params.toList (first.toList++args)=true)
  (hA:Wk E n' fn' (some l) assign (pO m0 GA) m0 (Es params.toList (first.toList++args) f0) ps) (hAe:∀y,(GA y).e = .normal) (h0:∀y,pk (GA y).ps k1=some (.obj l (rc .ready none)))
  (hB:∀y,Wk E n' fn' (some l) body (pO m0 G) m0 (GA y).fs (cu (GA y).ps k1 (.obj l (rc .busy none)))) (hG:∀y,pk (G y).ps 0=some (.obj l (rc .busy none))) :
  Ox E m0 fs ps (.call ⟨.value f,ars,ts⟩) (fun y:γ=>.bool (eS (G y).e).isNone) (fun y=>cu (G y).ps 0 (.obj l (rc (if (eS (G y).e).isNone then .ready else .done) (eS (G y).e)))):=by
 subst hrc;intro t m hfr hm;refine⟨fun b hb=>(by simp[aK] at hb),fun K hK=>?_⟩
 have hev:ay E t f=some (.func (.yield l) first cap):=by
  cases f with
  | tmp i=>exact hfr.ev hf
  | const c=>exact hfr.ev hf
  | global g=>exact hfr.ev hf
  | func g=>exact hfr.ev hf
 show jh E (ay E t f) (bm E t ars.toList) m K
 rw[hev,hfr.gQ ha]
 show ql E l (first.toList++args) m K
 obtain⟨t2,hset,h4,hlen⟩:=zO (t:=t0) hpar h3;obtain⟨e1,t1,m1,⟨ka,hka⟩,ya,h2,h5,h3'⟩:=hA t2 m h4 hm;rw[hAe] at h2;subst h2;have h6:m.get l=some (iG fn' t0 n' params assign body .ready none):=(hm.get hp).2.2;have h7:m1.get l=some (iG fn' t0 n' params assign body .ready none):=(h3'.get (h0 ya)).2.2;have hbusy:Hp m0 (m1.set l (iG fn' t0 n' params assign body .busy none)) (cu (GA ya).ps k1 (.obj l (iG fn' t0 n' params assign body .busy none))) :=
  h3'.write (h0 ya) rfl rfl rfl rfl ⟨(h3'.get (h0 ya)).1,by rw[AMem.next_set]; exact(h3'.get (h0 ya)).2.1,by rw[AMem.bD,if_pos rfl]⟩
 obtain⟨e0,t3,m2,⟨kb,hkb⟩,y,h8,h10,h1⟩:=hB ya t1 _ h5 hbusy;have h9:m2.get l=some (iG fn' t0 n' params assign body .busy none):=(h1.get (hG y)).2.2;have hfin:Hp m0 (m2.set l (iG fn' t0 n' params assign body (if (eS e0).isNone then .ready else .done) (eS e0))) (cu (G y).ps 0 (.obj l (iG fn' t0 n' params assign body (if (eS e0).isNone then .ready else .done) (eS e0)))) :=
  h1.write (hG y) rfl rfl rfl rfl ⟨(h1.get (hG y)).1,by rw[AMem.next_set]; exact(h1.get (hG y)).2.1,by rw[AMem.bD,if_pos rfl]⟩
 refine⟨.bool (eS e0).isNone,m2.set l (iG fn' t0 n' params assign body (if (eS e0).isNone then .ready else .done) (eS e0)),aX (k:=max ka kb) ?_,?_⟩
 ·have hka':run E (max ka kb) (.code assign ⟨t2,n',fn',some l⟩ m)=some (.code .normal t1 m1):=ff (Nat.le_max_left ka kb) hka;have hkb':run E (max ka kb) (.code body ⟨t1,n',fn',some l⟩ (m1.set l (.loop { state:=.busy,pending:=none,fn:=fn',tmps:=t0,n:=n',params:=params,assign:=assign,body:=body})))=some (.code e0 t3 m2):=ff (Nat.le_max_right ka kb) hkb;have hg0':m.get l=some (.loop { state:=.ready,pending:=none,fn:=fn',tmps:=t0,n:=n',params:=params,assign:=assign,body:=body}):=h6;have hg1':m1.get l=some (.loop { state:=.ready,pending:=none,fn:=fn',tmps:=t0,n:=n',params:=params,assign:=assign,body:=body}):=h7;have hg2':m2.get l=some (.loop { state:=.busy,pending:=none,fn:=fn',tmps:=t0,n:=n',params:=params,assign:=assign,body:=body}):=h9;have hsz:¬((first.toList++args).length≠params.size):=by rw[←hlen]; simp
  simp only[step,hg0',if_neg hsz,hset,hka',hg1',hkb',hg2']
  rfl
 ·subst h8;exact hK y _ hfin
end
section
variable {E : Env} {n : Nat} {m0 m1 m m' : AMem} {fs : Fs} {ps : List Pc} {ops : Array Oper} {os : List Oper} {K : Tm → AMem → Prop} {x y : Operand} {ty : TypeId}
end
section
variable {α β : Type} [DecidableEq α]
def dB (k:α):List (α × β)→Nat→Option (Nat × β)
 | [],_=>none
 | e::es,i=>if k=e.1 then some (i,e.2) else dB k es (i+1)
def iu (xs:List (α × β)) (k:α):Option β:=(dB k xs 0).map (·.2)
def gV (xs:List (α × β)) (k:α) (v:β):List (α × β) :=
 match dB k xs 0 with
 | some p=>xs.set p.1 (k,v)
 | none=>xs++[(k,v)]
def eM (kE:α→Value) (vE:β→Value) (p:α × β):Value × Value:=(kE p.1,vE p.2)
structure KeyE (P:Program) (kt:TypeId) (kE:α→Value):Prop where
 eq:∀a b,ik P Op.maxDepth kt (kE a) (kE b)=some (decide (a=b))
 ok:∀a,fX P kt (kE a)=true
 plain:∀a,bq (kE a)=true
 same:∀a,Instr.sameBits 10000 (kE a) (kE a)=true
theorem j6 {P:Program} {kt:TypeId} {kE:α→Value} {vE:β→Value} (hk:KeyE P kt kE) (k:α):∀(xs:List (α × β)) (i:Nat),fW P kt (kE k) (xs.map (eM kE vE)) i=some ((dB k xs i).map fun p=>(p.1,vE p.2))
 | [],_=>rfl
 | e::es,i=>by
  simp only[List.map_cons,fW,eM,hk.eq,dB]
  by_cases h:k=e.1
  ·rw[decide_eq_true h,if_pos h]; rfl
  ·rw[decide_eq_false h,if_neg h];exact j6 hk k es (i+1)
omit [DecidableEq α] in
theorem kN {kE:α→Value} {vE:β→Value} (k:α) (v:β):∀(xs:List (α × β)) (i:Nat),i<xs.length→je (xs.map (eM kE vE)) i (kE k) (vE v)=(xs.set i (k,v)).map (eM kE vE)
 | [],i,h=>by cases h
 | e::es,0,_=>rfl
 | e::es,i+1,h=>by
  simp only[List.map_cons,je,List.set_cons_succ];rw[kN k v es i (by simpa using h)]
theorem fx (k:α):∀(xs:List (α × β)) (i:Nat) (p:Nat × β),dB k xs i=some p→i≤p.1∧p.1<i+xs.length∧xs[p.1-i]? = some (k,p.2)
 | [],_,_,h=>by cases h
 | e::es,i,p,h=>by
  unfold dB at h
  split at h
  ·rename_i hk; cases h; subst hk; simp
  ·obtain⟨h1,h2,h3⟩:=fx k es (i+1) p h;refine⟨by omega,by simp; omega,?_⟩
   obtain⟨d,hd⟩:∃d,p.1-i=d+1:=⟨p.1-i-1,by omega⟩
   rw[hd,List.getElem?_cons_succ,←h3]
   congr 1; omega
end
section
variable {E : Env} {n : Nat} {m0 m : AMem} {fs : Fs} {ps : List Pc} {x y z : Operand} {ty : TypeId}
variable {α β : Type} [DecidableEq α]
theorem Cr {P:Program} {kt et b:Nat} {kE:α→Value} {vE:β→Value} {z0:β} {xs:List (α × β)} {k:α} {c:Bool} (hu:P.underlying ty=some (.map kt et)) (hk:KeyE P kt kE) (hz:bA P et=some (vE z0)) (hzp:bq (vE z0)=true) (hg:m.get b=some (.map (xs.map (eM kE vE)))) :
  dh P ty (.map (some b)) (kE k) c m=some (if c then .tuple #[vE ((iu xs k).getD z0),.bool (iu xs k).isSome] else vE ((iu xs k).getD z0)):=by
 simp only[dh,hu,mapOf,hg,hz,hk.ok,if_true,j6 hk,iu];cases dB k xs 0 with
 | none=>simp only[Option.map_none,hzp,if_true,Option.getD_none,Option.isSome_none]
 | some p=>simp only[Option.map_some,Option.getD_some,Option.isSome_some]
theorem Mq {kt et b q:Nat} {kE:α→Value} {vE:β→Value} {xs:List (α × β)} {k:α} {v:β} (hu:E.P.underlying ty=some (.map kt et)) (hk:KeyE E.P kt kE) (hx:ev E fs x=some (.map (some b))) (hy:ev E fs y=some (kE k)) (hz:ev E fs z=some (vE v)) (hp:pk ps q=some (.obj b (.map (xs.map (eM kE vE))))) :
  Od E m0 fs ps (.mapUpdate ty x y z) undef (cu ps q (.obj b (.map ((gV xs k v).map (eM kE vE))))) :=
 fun t m hf h=>⟨fun b' hb'=>by simp[aK] at hb',fun K hK=>by
  have hg:=(h.get hp).2.2;have hup:cD E.P ty (.map (some b)) (kE k) (vE v) m=some (m.set b (.map ((gV xs k v).map (eM kE vE)))):=by
   simp only[cD,hu,hg,hk.ok,if_true,j6 hk,gV];cases hfd:dB k xs 0 with
   | none=>simp only[Option.map_none,List.map_append,List.map_cons,List.map_nil]; rfl
   | some p =>
    obtain⟨h1,h2,h3⟩:=fx k xs 0 p hfd;simp only[Nat.sub_zero] at h3;have hst:gp (xs.map (eM kE vE)) p.1 (kE k)=true:=by
     simp only[gp,List.getElem?_map,h3,Option.map_some,eM,hk.plain,hk.same,Bool.and_self]
    simp only[Option.map_some,hst,if_true];rw[kN k v xs p.1 (by omega)]
  unfold bt;simp only[k9,cO,hf.ev hx,hf.ev hy,hf.ev hz,hup,Option.map_some];exact hK _ (h.write hp rfl rfl rfl rfl ⟨(h.get hp).1,by rw[AMem.next_set]; exact(h.get hp).2.1,by rw[AMem.bD,if_pos rfl]⟩)⟩
theorem Wk.label {fn:FuncId} {ro:Option Nat} {Q:AExit→Tm→AMem→Prop} {l:Nat} (h:At Q .normal m0 fs ps):Wk E n fn ro (.label l) Q m0 fs ps:=fun t m hf hm=>.label (h t m hf hm)
theorem Cq {γ:Type} {f:γ→List Value} {xs:List γ} {k cap w l:Nat} {a:Option Addr} (h:Hp m0 m ps) (hp:pk ps k=some (.rd a cap w l (xs.map f))):l=xs.length:=by
 have:=(h.get hp).1;rw[List.length_map] at this;exact this.symm
theorem Jy {P:Program} {kt:TypeId} {k:IntKind} (hu:P.underlying kt=some (.int k)):KeyE P kt (fun n:Int=>.int k n) where
 eq:=fun a b=>by
  simp only[Op.maxDepth,ik,hu,if_true]
  by_cases h:a=b
  ·subst h; simp
  ·simp[h]
 ok:=fun a=>by simp only[fX,hu]
 plain:=fun a=>rfl
 same:=fun a=>by simp[Instr.sameBits]
end
section
variable {E : Env} {n : Nat} {m0 m : AMem} {fs : Fs} {ps ps' : List Pc} {x y z : Operand} {ty : TypeId}
theorem LA {b q:Nat} {kt et:TypeId} {es:List (Value × Value)} {ars:Array Operand} (hu:E.P.underlying ty=some (.map kt et)) (ha:gQ E fs ars.toList=some [.map (some b)]) (hp:pk ps q=some (.obj b (.map es))) :
  Od E m0 fs ps (.call ⟨.builtin .len,ars,#[ty]⟩) (.int .i64 (es.length:Int)) ps :=
 fun t m hf h=>⟨fun b' hb'=>by
  simp only[aK,hf.gQ ha] at hb';cases hb'; exact(h.get hp).2.1,fun K hK=>by
  have:aY E.P .len #[ty] [.map (some b)] m=some (.int .i64 (es.length:Int),m):=by
   have ht:(#[ty]:Array TypeId)[0]? = some ty:=rfl;simp only[aY,ht,Option.bind_some,hu,mapOf,(h.get hp).2.2,Option.map_some]
  rw[Go.Ab.dM (hf.gQ ha) this]; exact hK m h⟩
theorem D2 {α:Type} {b q l:Nat} {kt et:TypeId} {xs:List α} {f:α→Value × Value} {ars:Array Operand} (hu:E.P.underlying ty=some (.map kt et)) (ha:gQ E fs ars.toList=some [.map (some b)]) (hp:pk ps q=some (.obj b (.map (xs.map f)))) (hl:xs.length=l) :
  Od E m0 fs ps (.call ⟨.builtin .len,ars,#[ty]⟩) (.int .i64 (l:Int)) ps:=by
 have:=LA (m0:=m0) hu ha hp;rw[List.length_map,hl] at this;exact this
end
end Go.Ab.W
end

section
namespace Go.Ab.W
open Go Go.Ab
set_option maxRecDepth 10000
attribute [local irreducible] Tm.at Trie.set Trie.get AMem.get AMem.set AMem.alloc AMem.ww
section
variable {E : Env} {n : Nat} {m0 : AMem} {fs : Fs} {ps : List Pc} {x y z : Operand} {v : Value} {ty ty2 : TypeId}
end
end Go.Ab.W
end

section
namespace Go.Ab.W
open Go Go.Ab
attribute [local irreducible] Tm.at Trie.set Trie.get AMem.get AMem.set AMem.alloc AMem.ww AMem.kill
section
variable {α : Type}
def KR:List α→Option (α × α × α × α × α × α × α × α)
 | [a,b,c,d,e,f,g,h]=>some (a,b,c,d,e,f,g,h)
 | _=>none
theorem pR {xs:List α} {a b c d e f g h:α} (hx:KR xs=some (a,b,c,d,e,f,g,h)):xs = [a,b,c,d,e,f,g,h]:=by
 unfold KR at hx
 split at hx
 ·cases hx; rfl
 ·cases hx
end
section
variable {E : Env} {n : Nat} {m0 m : AMem} {fs : Fs} {ps : List Pc} {x y z : Operand} {ty : TypeId}
theorem ae.nT {α:Type} {xs:List α} {f:α→List Value} {k b w l:Nat} {cs:List Value} (hp:pk ps k=some (.obj b (.cells cs .own))) (hx:cs=(xs.map f).flatten) (hl:xs.length=l) (he:Enc f w) (h0:Nat.blt 0 w=true):ae m0 ps (cu ps k (.arr b w l (xs.map f) .own)):=fun m h=>by
 subst hx;exact h.put hp rfl rfl rfl (Nat.le_refl _) h.ext ⟨(h.get hp).1,(h.get hp).2.1,(h.get hp).2.2,by rw[List.length_map]; exact hl,fun e hm=>by obtain⟨x,_,rfl⟩:=List.mem_map.1 hm; exact he.1 x,.inl rfl,by rwa[Nat.blt_eq] at h0⟩ fun _ _ _=>rfl
theorem ae.uE {α:Type} {xs ys:List α} {f:α→List Value} {k b w l:Nat} {cs:List Value} {tg:Tag} (hp:pk ps k=some (.arr b w l (xs.map f) tg)) (hx:xs=ys) (hc:(ys.map f).flatten=cs):ae m0 ps (cu ps k (.obj b (.cells cs tg))):=fun m h=>by
 subst hx hc;exact h.put hp rfl rfl rfl (Nat.le_refl _) h.ext ⟨(h.get hp).1,(h.get hp).2.1,(h.get hp).2.2.1⟩ fun _ _ _=>rfl
theorem jS {el:TypeId} {b len w:Nat} {i:Int} {kd:IntKind} (h:ArT E.P ty el len w) (hx:ev E fs x=some (ptr b 0)) (hy:ev E fs y=some (.int kd i)) (hi:0≤i∧i.toNat<len):Od E m0 fs ps (.indexAddr ty x y) (ptr b (i.toNat*w+0)) ps:=by
 obtain⟨j,rfl⟩:=Int.eq_ofNat_of_zero_le hi.1;have hj:j<len:=by simpa using hi.2
 refine kk hx hy ?_;rw[kP h (b:=b) (o:=0) hj];simp
end
section
variable {E : Env} {n : Nat} {m0 m : AMem} {fs : Fs} {ps : List Pc}
theorem Hp.Dn {m0 m:AMem} {l0:List Pc} {H:Nat→Prop} {a:Option Addr} {cap w l:Nat} {es:List (List Value)} (h:Hp m0 m (l0++[.gen (gR H)])) (ho:(l0.all Pc.JN)=true) (hr:Rd m a cap w l es) (ha:∀b,kf a=some b→¬H b):Hp m0 m (.rd a cap w l es::(l0++[.gen (gR H)])) :=
 ⟨h.ext,fun p hp=>by
  rcases List.mem_cons.1 hp with rfl|hp
  ·exact hr
  ·exact h.ok p hp,List.pairwise_cons.2 ⟨fun q hq=>⟨fun b a=>a.elim (fun a=>by cases a.1) fun a=>a.elim,fun b h1 h2=>by
   rcases List.mem_append.1 hq with hq|hq
   ·exact absurd h1 (Pc.zI (List.all_eq_true.1 ho q hq) b)
   ·rw[List.mem_singleton.1 hq] at h1;rcases h1 with h1|h1
    ·cases h1.1
    ·exact ha b (h2.elim id fun h=>h.elim) h1⟩,h.apart⟩⟩
def wj (l:List Pc):Bool:=l.all Pc.bound
theorem KY {α:Type} {V:α→Value} {N:α→List Pc} {f:Operand} {g:FuncId} {ars:Array Operand} {ts:Array TypeId} {args:List Value} (hf:ev E fs f=some (.func (.func g) #[] #[])) (ha:gQ E fs ars.toList=some args) (hc:∀m,Hp m0 m ps→aG E g args m (fun v m'=>∃x,v=V x∧Hp m m' (N x++[.gen (gR (owns ps))]))) (ho:∀x,wj (N x)=true):Ox E m0 fs ps (.call ⟨.value f,ars,ts⟩) V (fun x=>N x++ps) :=
 kg hf ha fun m hm=>by
  simp only[List.nil_append,List.append_nil];exact(hc m hm).mono fun v m' ⟨x,e,h⟩=>⟨x,e,hm.DJ h fun p hp=>List.all_eq_true.1 (ho x) p hp⟩
theorem nY {α:Type} {V:α→Value} {N:α→List Pc} {f:Operand} {g:FuncId} {ars:Array Operand} {ts:Array TypeId} {args:List Value} (hf:ev E fs f=some (.func (.func g) #[] #[])) (ha:gQ E fs ars.toList=some args) (hc:∀m,Hp m0 m ps→aG E g args m (fun v m'=>∃x,v=V x∧Hp m m' (N x++[.gen (gR (owns ps))]))) (ho:∀x,wj (N x)=true):Oc E m0 fs ps (.call ⟨.value f,ars,ts⟩) V (fun x=>N x++ps) :=
 fun t m hfr hm hwl=>⟨fun b hb=>(by simp[aK] at hb),fun K hK=>by
  show jh E (ay E t f) (bm E t ars.toList) m _
  rw[hfr.ev hf,hfr.gQ ha,qA];refine(hc m hm).mono fun v m' ⟨x,e,h⟩=>?_;rw[e];refine hK x m' (hm.DJ h fun p hp=>List.all_eq_true.1 (ho x) p hp) ?_;have:=h.ext.wl;omega⟩
end
section
variable {E : Env} {n : Nat} {m0 : AMem} {fs : Fs} {ps : List Pc} {ops : Array Oper} {os : List Oper} {dr : Bool}
theorem Wo.qS {K:Tm→AMem→Prop} {α:Type} {f:α→List Value} {k w l cap:Nat} {a:Option Addr} {xs:List α} (hp:pk ps k=some (.rd a cap w l (xs.map f))) (h:l=xs.length→Wo dr E n ops K os m0 fs ps):Wo dr E n ops K os m0 fs ps:=by
 have key:∀m,Hp m0 m ps→l=xs.length:=fun m hm=>Cq hm hp;cases dr with
 | false=>exact fun t m hf hm=>h (key m hm) t m hf hm
 | true=>exact fun t m w hf hm hw=>h (key m hm) t m w hf hm hw
theorem Wn.qS {prs:List (Nat × Nat)} {K:Tm→AMem→Prop} {ss:List Nk} {α:Type} {f:α→List Value} {k w l cap:Nat} {a:Option Addr} {xs:List α} (hp:pk ps k=some (.rd a cap w l (xs.map f))) (h:l=xs.length→Wn E n ops prs K os ss m0 fs ps):Wn E n ops prs K os ss m0 fs ps :=
 fun t m ns hf hm hn=>h (Cq hm hp) t m ns hf hm hn
end
section
variable {E : Env} {m0 : AMem} {fs : Fs} {ps : List Pc} {ty : TypeId}
theorem Kb {α:Type} {f:α→List Value} {elem ty2:TypeId} {w k c0 l l1:Nat} {a a0:Option Addr} {xs ys:List α} {ars:Array Operand} (he:Enc f w) (ht:SlT E.P ty elem w) (h2:∃e0,E.P.underlying ty2=some (.slice e0)) (ha:gQ E fs ars.toList=some [.slice a l l,.slice a0 l1 c0]) (hp:pk ps k=some (.sl a w l (xs.map f))) (hr:∀m,Hp m0 m ps→Rd m a0 c0 w l1 (ys.map f)) (hl:lim (xs++ys).length=true) :
  Ox E m0 fs ps (.call ⟨.builtin .append,ars,#[ty,ty2]⟩) (fun a':Option Addr=>.slice a' (xs++ys).length (xs++ys).length) (fun a'=>cu ps k (.sl a' w (xs++ys).length ((xs++ys).map f))):=fun t m hf hm=>⟨fun b hb=>(by simp[aK] at hb),fun K hK=>by
 have h0:l=xs.length:=by
  have:=hm.get hp;rcases this with⟨h3,h0,_⟩|⟨b,tg,_,h0⟩
  ·rw[h3,List.map_eq_nil_iff.1 h0]; rfl
  ·have:=h0.2.2.2.1; rw[List.length_map] at this; exact this.symm
 have h4:l1=ys.length:=by
  have:=(hr m hm).1; rw[List.length_map] at this; exact this.symm
 have e0:l+l1=(xs++ys).length:=by rw[h0,h4,List.length_append]
 obtain⟨a',m',h5,h1⟩:=sD (n:=l) ht h2 hm hp (hr m hm) (he.oZ ys) (he.gB ys) (by rw[e0]; exact hl)
 have:aY E.P .append #[ty,ty2] [.slice a l l,.slice a0 l1 c0] m=some (.slice a' (l+l1) (l+l1),m'):=h5;rw[Go.Ab.dM (hf.gQ ha) this];have e1:xs.map f++ys.map f=(xs++ys).map f:=List.map_append.symm;rw[e1,e0] at h1;rw[e0];exact hK a' m' h1⟩
end
section
theorem lT (c:Value) (cs:List Value) (o:Nat) (vs:List Value):aJ (c::cs) (o+1) vs=c::aJ cs o vs:=by cases vs<;>rfl
theorem eJ:∀(cs:List Value) (o:Nat),aJ cs o []=cs
 | [],0=>rfl
 | _::_,0=>rfl
 | [],_+1=>rfl
 | c::cs,o+1=>by rw[lT,eJ cs o]
theorem nO {f:Nat→List Value} {v:Nat→Value} (hf:∀x,f x = [v x]):∀{ys xs zs:List Nat},ys++xs.drop ys.length=zs→ys.length≤xs.length→aJ (xs.map f).flatten 0 (ys.map f).flatten=(zs.map f).flatten
 | [],xs,zs,h,_=>by
  rw[List.nil_append,List.length_nil,List.drop_zero] at h;rw[h];exact eJ _ 0
 | y::ys,[],zs,_,hl=>by simp at hl
 | y::ys,x::xs,zs,h,hl=>by
  have ih:=nO hf (ys:=ys) (xs:=xs) (zs:=ys++xs.drop ys.length) rfl (by simpa using hl)
  subst h;simp only[List.map_cons,List.flatten_cons,hf,List.cons_append,List.nil_append,List.length_cons,List.drop_succ_cons] at ih ⊢
  show v y::aJ _ 0 _=_
  rw[ih]
theorem Ki {f:Nat→List Value} {v:Nat→Value} (hf:∀x,f x = [v x]) {c:Value} {ys xs zs:List Nat} (h:ys++xs.drop ys.length=zs) (hl:ys.length≤xs.length):aJ (c::(xs.map f).flatten) 1 (ys.map f).flatten=c::(zs.map f).flatten:=by
 rw[show(1:Nat)=0+1 from rfl,lT,nO hf h hl]
variable {E : Env} {m0 : AMem} {fs : Fs} {ps : List Pc} {ty : TypeId}
theorem Kj {f:Nat→List Value} {elem ty2:TypeId} {k b o q c0 l1:Nat} {a0:Option Addr} {cs cs':List Value} {ys:List Nat} {ars:Array Operand} (he:Enc f 1) (ht:SlT E.P ty elem 1) (ha:gQ E fs ars.toList=some [.slice (some ⟨b,o,none⟩) q q,.slice a0 l1 c0]) (hp:pk ps k=some (.obj b (.cells cs .own))) (hr:∀m,Hp m0 m ps→Rd m a0 c0 1 l1 (ys.map f)) (hq:decide (ys.length≤q)=true) (ho:Nat.ble (o+q) cs.length=true) (hs:aJ cs o (ys.map f).flatten=cs') :
  Od E m0 fs ps (.call ⟨.builtin .copy,ars,#[ty,ty2]⟩) (.int .i64 (ys.length:Int)) (cu ps k (.obj b (.cells cs' .own))):=fun t m hf hm=>⟨fun b hb=>(by simp[aK] at hb),fun K hK=>by
 have h0:l1=ys.length:=by
  have:=(hr m hm).1; rw[List.length_map] at this; exact this.symm
 have hq':=of_decide_eq_true hq;have ho':=Nat.le_of_ble_eq_true ho;have hc:=(hr m hm).cells;have hmin:min l1 q=l1:=by omega
 have hone:aU (ys.map f).flatten=true:=by
  unfold aU;rw[List.all_eq_true];intro x hx;obtain⟨e,h3,h4⟩:=List.mem_flatten.1 hx;exact List.all_eq_true.1 (he.gB ys e h3) x h4
 have hlen:(ys.map f).flatten.length=ys.length:=by
  clear hs hr hq hK h0 hq' hc hone
  induction ys with
  | nil=>rfl
  | cons x l ih=>rw[List.map_cons,List.flatten_cons,List.length_append,ih,he.1 x,List.length_cons]; omega
 have hg:=(hm.get hp).2.2;have hsrc:cG (aA E.P elem) (.slice a0 l1 c0) (min l1 q) m=some (ys.map f).flatten:=by rw[ht.size,hmin]; exact hc
 cases hy:ys with
 | nil =>
  subst hy;have e0:cs'=cs:=by rw[←hs]; exact eJ cs o
  have h1:min l1 q=0:=by rw[hmin,h0]; rfl
  have:aY E.P .copy #[ty,ty2] [.slice (some ⟨b,o,none⟩) q q,.slice a0 l1 c0] m=some (.int .i64 0,m):=by
   show pa E.P ty _ _ m=_
   unfold pa;rw[h1] at hsrc;simp only[ht.und,ht.known,Bool.not_true,Bool.false_eq_true,if_false,h1,hsrc,hone]
  rw[Go.Ab.dM (hf.gQ ha) this];exact hK m (by rw[e0]; exact hm.put hp rfl rfl rfl (Nat.le_refl _) hm.ext (hm.get hp) fun _ _ _=>rfl)
 | cons y y0 =>
  have h2:min l1 q=y0.length+1:=by rw[hmin,h0,hy]; rfl
  have hst:m.cH b o (ys.map f).flatten=some (m.set b (.cells cs' .own)):=by
   have hne:(ys.map f).flatten≠[]:=fun e=>by rw[e,hy] at hlen; cases hlen
   unfold AMem.cH
   split
   ·rename_i e; exact absurd e hne
   ·rw[hg];simp only[hlen];rw[if_pos (by omega),hs]
  have:aY E.P .copy #[ty,ty2] [.slice (some ⟨b,o,none⟩) q q,.slice a0 l1 c0] m=some (.int .i64 (ys.length:Int),m.set b (.cells cs' .own)):=by
   show pa E.P ty _ _ m=_
   unfold pa;rw[h2] at hsrc;simp only[ht.und,ht.known,Bool.not_true,Bool.false_eq_true,if_false,h2,hsrc,hone,hst,Option.map_some];rw[hy]; rfl
  rw[Go.Ab.dM (hf.gQ ha) this];have hw:Hp m0 (m.set b (.cells cs' .own)) (cu ps k (.obj b (.cells cs' .own))):=hm.write (o':=.cells cs' .own) (p':=.obj b (.cells cs' .own)) hp rfl rfl rfl rfl ⟨(hm.get hp).1,by rw[AMem.next_set]; exact(hm.get hp).2.1,by rw[AMem.bD,if_pos rfl]⟩
  exact hK _ hw⟩
end
end Go.Ab.W
end

section
namespace Go.Ab.W
open Go Go.Ab
section
variable {α : Type}
end
section
variable {α : Type} {E : Env} {m0 m : AMem} {fs : Fs} {ps : List Pc} {f : α → List Value} {w : Nat}
variable {x : Operand} {ty : TypeId}
variable {N : Nat} {ops : Array Oper} {os : List Oper} {dr : Bool}
end
end Go.Ab.W
end

section
namespace Go.Ab.W
open Go Go.Ab
attribute [local irreducible] Tm.at Trie.set Trie.get AMem.get AMem.set AMem.alloc AMem.ww AMem.kill
theorem AA:∀(l:List Pc) (k:Nat) (p q:Pc),cu (cu l k p) k q=cu l k q:=by
 intro l
 induction l with
 | nil=>intro k p q; rfl
 | cons a l ih =>
  intro k p q;cases k with
  | zero=>rfl
  | succ k=>rw[dY,dY,dY,ih]
theorem Ff:∀{l:List Pc} {k:Nat} {p:Pc} (q:Pc),pk l k=some p→pk (cu l k q) k=some q:=by
 intro l
 induction l with
 | nil=>intro k p q h; simp[pk] at h
 | cons a l ih =>
  intro k p q h;cases k with
  | zero=>rfl
  | succ k=>rw[dY,fu]; rw[fu] at h; exact ih q h
section
variable {α : Type} {E : Env} {m0 m : AMem} {fs : Fs} {ps : List Pc} {f : α → List Value} {w : Nat} {ty : TypeId}
theorem iO {β:Type} {V:β→Value} {N:β→List Pc} {x:Operand} {b off:Nat} (hx:ev E fs x=some (ptr b off)) (hb:∀m,Hp m0 m ps→b<m.next) (h:∀m,Hp m0 m ps→∃z,dg E.P ty (ptr b off) m=some (V z)∧Hp m0 m (N z)):Ox E m0 fs ps (.load ty x) V N :=
 fun t m hf hm=>⟨fun b' hb'=>by
  have hx':ay E t x=some (ptr b off):=hf.ev hx;simp only[aK,hx',Option.bind_some] at hb';cases hb'; exact hb m hm,fun K hK=>by
  obtain⟨z,h1,h2⟩:=h m hm;rw[Go.Ab.Ca (hf.ev hx) h1]; exact hK z m h2⟩
theorem Hh {elem:TypeId} {len:Nat} {parts:Array (Nat × Operand)} {vs:List (Nat × Value)} {es:List (List Value)} (ht:SlT E.P ty elem w) (h:CO E fs parts.toList=some vs) (hf:Kx E.P elem w len vs=some es.flatten) (hl:Nat.beq es.length len=true) (hw:GI w es=true) :
  Ox E m0 fs ps (.buildSlice ty len parts) (fun b=>.slice (some ⟨b,0,none⟩) len len) (fun b=>.obj b (.cells es.flatten .own)::ps):=fun t m hfr hm=>⟨(kY ht h hf hl hw t m hfr hm).1,fun K hK=>(kY ht h hf hl hw t m hfr hm).2 K fun b m' hm'=>hK b m' ⟨hm'.ext,fun p hp=>by
  have h0:=hm'.ok _ (List.mem_cons_self ..);rcases List.mem_cons.1 hp with rfl|hp
  ·exact⟨h0.1,h0.2.1,h0.2.2.1⟩
  ·exact hm'.ok p (List.mem_cons_of_mem _ hp),List.pairwise_cons.2 ⟨fun r hr=>(List.pairwise_cons.1 hm'.apart).1 r hr,(List.pairwise_cons.1 hm'.apart).2⟩⟩⟩
theorem ae.Mv {k b n:Nat} {cs:List Value} {es:List (List Value)} (hp:pk ps k=some (.obj b (.cells cs .own))) (hcs:es.flatten=cs) (hn:Nat.beq es.length n=true) (hw:GI w es=true) (h0:Nat.blt 0 w=true):ae m0 ps (cu ps k (.sl (some ⟨b,0,none⟩) w n es)):=fun m h=>by
 have hk:=h.get hp;exact h.put hp rfl rfl rfl (Nat.le_refl _) h.ext (.inr ⟨b,.own,rfl,hk.1,hk.2.1,by rw[hcs]; exact hk.2.2,Nat.eq_of_beq_eq_true hn,Au hw,.inl rfl,by rwa[Nat.blt_eq] at h0⟩) fun _ _ _=>rfl
theorem FA {P:Program} {sz b n j k:Nat} {es:List (List Value)} {tg:Tag} {e:List Value} {v:Value} (hm:Hp m0 m ps) (ht:TyI P ty true sz) (hp:pk ps k=some (.arr b w n es tg)) (he:es[j]? = some e) (hv:Bp true sz e 0=some v) (hs:AD true sz 0 w=true):dg P ty (ptr b (j*w+0)) m=some v:=by
 have hs:=oJ hs;have:=jX (P:=P) ht (Own.FO (hm.get hp)) he hv hs.1 hs.2;rwa[Nat.zero_add] at this
end
section
variable {α : Type} {E : Env} {n : Nat} {m0 m : AMem} {fs : Fs} {ps : List Pc} {f : α → List Value} {w : Nat} {ops : Array Oper} {os : List Oper} {prs : List (Nat × Nat)} {K : Tm → AMem → Prop} {ss : List Nk}
end
def Lm (m:AMem) (RW:Nat→Prop) (rb:Nat) (row:List (Bool × List Nat)):Prop :=
 rb<m.next∧∃vs,m.get rb=some (.cells vs .own)∧vs.length=row.length*2∧∀(j:Nat) (x:Bool × List Nat),row[j]? = some x→vs[j*2]? = some (.bool x.1)∧∃a c,vs[j*2+1]? = some (.slice a x.2.length c)∧Rd m a c 1 x.2.length (x.2.map (eN .u64))∧∀b,kf a=some b→RW b
def LO (ρ:Nat→Nat) (L:List (List (Bool × List Nat))) (x:Nat):Prop:=∃i row,L[i]? = some row∧row≠[]∧x=ρ i
structure MatAt (m:AMem) (b n:Nat) (ρ:Nat→Nat) (RW:Nat→Prop) (L:List (List (Bool × List Nat))):Prop where
 lt:b<m.next
 len:n=L.length
 cells:∃cs,m.get b=some (.cells cs .own)∧cs.length=n∧∀(i:Nat) (row:List (Bool × List Nat)),L[i]? = some row→(row = []∧cs[i]? = some (.slice none 0 0))∨(row≠[]∧cs[i]? = some (.slice (some ⟨ρ i,0,none⟩) row.length row.length))
 rows:∀(i:Nat) (row:List (Bool × List Nat)),L[i]? = some row→row≠[]→Lm m RW (ρ i) row
 rw:∀x,RW x→x<m.next∧x≠b∧¬LO ρ L x
 out:∀(i:Nat) (row:List (Bool × List Nat)),L[i]? = some row→row≠[]→ρ i≠b
 inj:∀(i j:Nat) (row row':List (Bool × List Nat)),L[i]? = some row→L[j]? = some row'→row≠[]→row'≠[]→ρ i=ρ j→i=j
section
variable {E : Env} {m0 m : AMem} {fs : Fs} {ps : List Pc} {x y : Operand} {ty : TypeId} {b n : Nat} {ρ : Nat → Nat} {RW : Nat → Prop} {L : List (List (Bool × List Nat))}
end
section
variable {E : Env} {m0 m : AMem} {fs : Fs} {ps : List Pc} {x y z : Operand} {ty : TypeId} {H : Nat → Prop} {M : List (Option Nat × List (Int × Bool))}
end
end Go.Ab.W
end
