/- A part of the proof. -/
import Derived.Test.YthmekkhpddehjaaGreatRk2
import Derived.ChangeStays
import Derived.ChangeShapes
import Derived.OpenShut
import Derived.RowKit
import Derived.Shelf.Spec.BitsCarry
import Derived.Test.YthmekkhpddehjaaGreatRows
import Derived.ProofKit
import Derived.Stop.Joined
import Derived.Shelf.SlIterI.Nil
import Derived.Shelf.SortM.Plain
import Derived.Shelf.SortM.SortNone
import Derived.Ground.GgzProg
import Derived.Ground.SlgmProg
import Derived.Test.YthmekkhpddehjaaGreatProg
section
namespace Go.Ab
open Go
structure Sem where
 run:Hand→Option Nat→Tm→AMem→(AExit→Tm→AMem→Bool)→Bool
noncomputable def gI (e:AExit) (a:Bool) (b:Nat→Bool) (c:Bool):Bool:=AExit.rec (motive:=fun _=>Bool) a b c e
noncomputable def wT (S:Sem):Nat→Hand→Option Nat→Tm→AMem→(AExit→Tm→AMem→Bool)→Bool :=
 Nat.rec (fun _ _ _ _ _=>false) fun _ ih H ro t m K=>S.run H ro t m fun e t m=>gI e (ih H ro t m K) (fun id=>K (.exit id) t m) (K .ret t m)
noncomputable def mJ (s:LoopState) (ready busy other:Bool):Bool:=LoopState.rec (motive:=fun _=>Bool) ready busy other other s
noncomputable def nJ (ro:Option Nat) (m:AMem) (x:Bool):Bool:=Option.rec (motive:=fun _=>Bool) x (fun l=>nK m l fun _=>x) ro
noncomputable def zY {α:Type} (o:Option α):Bool:=Option.rec (motive:=fun _=>Bool) true (fun _=>false) o
noncomputable def B5 (E:Env) (H:Hand) (f:Fn) (first captured:Array Value) (l:Nat) (m:AMem) (K:Value→AMem→Bool):Bool :=
 Fn.rec (motive:=fun _=>Bool) (fun g=>dC (zY (E.bT g)) (iZ first.toList [.func (.yield l) #[] #[]] fun ars=>iZ ars captured.toList fun ars=>H.call g ars m K) false) (fun _=>false) (fun _ _=>false) (fun _ _ _ _=>false) (fun _=>false) f
noncomputable def iy (E:Env) (n:Nat) (fn:FuncId):Code→Sem
 | .skip=>⟨fun _ _ t m K=>K .normal t m⟩
 | .label _=>⟨fun _ _ t m K=>K .normal t m⟩
 | .exit id=>⟨fun _ _ t m K=>K (.exit id) t m⟩
 | .ret=>⟨fun _ _ t m K=>K .ret t m⟩
 | .seq a b=>⟨fun H ro t m K=>(iy E n fn a).run H ro t m fun e t m=>gI e ((iy E n fn b).run H ro t m K) (fun id=>K (.exit id) t m) (K .ret t m)⟩
 | .cond x a b=>⟨fun H ro t m K=>(cO E x).run t fun v=>mW v (fun c=>dC c ((iy E n fn a).run H ro t m K) ((iy E n fn b).run H ro t m K)) false⟩
 | .block id a=>⟨fun H ro t m K=>(iy E n fn a).run H ro t m fun e t m=>gI e (K .normal t m) (fun id'=>dC (Nat.beq id' id) (K .normal t m) (K (.exit id') t m)) (K .ret t m)⟩
 | .scope a=>⟨fun H ro t m K=>(iy E n fn a).run H ro t m K⟩
 | .loop a=>⟨fun H ro t m K=>wT (iy E n fn a) 1000000 H ro t m K⟩
 | .region _ ops draw=>⟨fun H _ t m K=>(CZ E n ops draw).run H t m fun t m=>K .normal t m⟩
 | .rangeFunc f params assign body=>⟨fun H ro t m K=>nJ ro m ((cO E f).run t fun fv=>xo fv fun g first captured =>
   cE m (.loop { state:=.ready,pending:=none,fn:=fn,tmps:=t,n:=n,params:=params,assign:=assign,body:=body}) fun l m1=>B5 E H g first captured l m1 fun _ m2 =>
    nK m2 l fun r=>ALoop.rec (motive:=fun _=>Bool) (fun state pending fn' tmps' n' params' assign' body'=>mJ state
     (cx m2 l (.loop ⟨.exhausted,pending,fn',tmps',n',params',assign',body'⟩) fun m3=>Option.rec (motive:=fun _=>Bool) (K .normal t m3) (fun c=>Code.rec (motive:=fun _=>Bool) false (fun _ _ _=>false) (fun _ _ _ _=>false) (fun _ _ _ _ _=>false) (fun _ _ _=>false) (fun _ _=>false) (fun _ _ _ _ _ _=>false) (fun id=>K (.exit id) t m3) (fun _ _=>false) (fun _=>false) (fun _=>false) (K .ret t m3) (fun _=>false) c) pending)
     false
     (cx m2 l (.loop ⟨.exhausted,pending,fn',tmps',n',params',assign',body'⟩) fun m3=>Option.rec (motive:=fun _=>Bool) (K .normal t m3) (fun c=>Code.rec (motive:=fun _=>Bool) false (fun _ _ _=>false) (fun _ _ _ _=>false) (fun _ _ _ _ _=>false) (fun _ _ _=>false) (fun _ _=>false) (fun _ _ _ _ _ _=>false) (fun id=>K (.exit id) t m3) (fun _ _=>false) (fun _=>false) (fun _=>false) (K .ret t m3) (fun _=>false) c) pending)) r)⟩
 | .goto _=>⟨fun _ _ _ _ _=>false⟩
 | .refuse _=>⟨fun _ _ _ _ _=>false⟩
section
variable {E : Env} {n : Nat} {fn : FuncId} {ro : Option Nat} {Q : AExit → Tm → AMem → Prop} {t : Tm} {m : AMem}
def Cp (E:Env) (n:Nat) (fn:FuncId) (ro:Option Nat) (t:Tm) (l:Nat) (Q:AExit→Tm→AMem→Prop) (m2:AMem):Prop :=
 ∃r,m2.get l=some (.loop r)∧r.state≠.busy∧((r.pending=none∧Q .normal t (m2.set l (.loop { r with state:=.exhausted})))∨(∃c,r.pending=some c∧bl E n fn ro c Q t (m2.set l (.loop { r with state:=.exhausted}))))
theorem bl.rangeFunc {f:Operand} {params:Array Tmp} {assign body:Code} {g:FuncId} {first captured:Array Value} (hf:an E t f=some (.func (.func g) first captured)) (ha:ef E ⟨t,n,fn,ro⟩ m f=true)
  (h:aC E g (first.toList++[.func (.yield m.next) #[] #[]]++captured.toList) (m.alloc (.loop { state:=.ready,pending:=none,fn:=fn,tmps:=t,n:=n,params:=params,assign:=assign,body:=body})) (fun _ m2=>Cp E n fn ro t m.next Q m2)) :
  bl E n fn ro (.rangeFunc f params assign body) Q t m:=by
 obtain⟨v,m2,⟨k1,h1⟩,r,hr,hb,hq⟩:=h;rcases hq with⟨hp,hq⟩|⟨c,hp,e,t',m',⟨k2,h2⟩,hq⟩
 ·refine⟨_,_,_,aO (k:=k1) ?_,hq⟩;cases hs:r.state with
  | busy=>exact absurd hs hb
  | _=>simp only[step,hf,ha,h1,hr,hs,hp]
 ·refine⟨_,_,_,aO (k:=max k1 k2) ?_,hq⟩;obtain⟨state,pending,fn',tmps',n',params',assign',body'⟩:=r;have hp':pending=some c:=hp;subst hp';have h2':=eD (Nat.le_max_right k1 k2) h2;cases state with
  | busy=>exact absurd rfl hb
  | _=>simp only[step,hf,ha,eD (Nat.le_max_left k1 k2) h1,hr,h2']
def Gm (ro:Option Nat) (m:AMem):Bool :=
 match ro with
 | none=>true
 | some l=>match m.get l with
  | some (.loop _)=>true
  | _=>false
theorem mD {x:Bool} (h:nJ ro m x=true):x=true∧Gm ro m=true:=by
 cases ro with
 | none=>exact⟨h,rfl⟩
 | some l =>
  obtain⟨r,h1,h2⟩:=fP h;exact⟨h2,by simp only[Gm,h1]⟩
theorem dT {e:AExit} {a:Bool} {b:Nat→Bool} {c:Bool} (h:gI e a b c=true):(e = .normal∧a=true)∨(∃id,e = .exit id∧b id=true)∨(e = .ret∧c=true):=by
 cases e with
 | normal=>exact .inl ⟨rfl,h⟩
 | exit id=>exact .inr (.inl ⟨id,rfl,h⟩)
 | ret=>exact .inr (.inr ⟨rfl,h⟩)
theorem rV {H:Hand} {a:Code} {S:Sem} (hS:∀{t:Tm} {m:AMem} {K:AExit→Tm→AMem→Bool},S.run H ro t m K=true→bl E n fn ro a (fun e t m=>K e t m=true) t m) {K:AExit→Tm→AMem→Bool} :
  ∀(k:Nat) {t:Tm} {m:AMem},wT S k H ro t m K=true→ml E n fn ro a (fun e t m=>K e t m=true) t m
 | 0,t,m,h=>by cases h
 | k+1,t,m,h=>by
  have h':(S.run H ro t m fun e t m=>gI e (wT S k H ro t m K) (fun id=>K (.exit id) t m) (K .ret t m))=true:=h;refine .round ((hS h').mono fun e t m h=>?_);rcases dT h with⟨rfl,h⟩|⟨id,rfl,h⟩|⟨rfl,h⟩
  ·exact rV hS k h
  ·exact h
  ·exact h
theorem tt {c:Code} {a:Nat→Bool} {b:Bool} (h:Code.rec (motive:=fun _=>Bool) false (fun _ _ _=>false) (fun _ _ _ _=>false) (fun _ _ _ _ _=>false) (fun _ _ _=>false) (fun _ _=>false) (fun _ _ _ _ _ _=>false) a (fun _ _=>false) (fun _=>false) (fun _=>false) b (fun _=>false) c=true) :
  (∃id,c = .exit id∧a id=true)∨(c = .ret∧b=true):=by
 cases c<;>first|exact .inl ⟨_,rfl,h⟩|exact .inr ⟨rfl,h⟩|cases h
theorem oF {H:Hand} (hH:zb E H):∀(c:Code) {ro:Option Nat} {t:Tm} {m:AMem} {K:AExit→Tm→AMem→Bool},(iy E n fn c).run H ro t m K=true→bl E n fn ro c (fun e t m=>K e t m=true) t m:=by
 intro c
 induction c with
 | skip=>intro ro t m K h; exact .skip h
 | label l=>intro ro t m K h; exact .label h
 | exit id=>intro ro t m K h; exact .exit h
 | ret=>intro ro t m K h; exact .ret h
 | seq a b iha ihb =>
  intro ro t m K h;refine .seq ((iha (K:=fun e t m=>gI e ((iy E n fn b).run H ro t m K) (fun id=>K (.exit id) t m) (K .ret t m)) h).mono fun e t m h=>?_);rcases dT h with⟨rfl,h⟩|⟨id,rfl,h⟩|⟨rfl,h⟩
  ·exact ihb h
  ·exact h
  ·exact h
 | cond x a b iha ihb =>
  intro ro t m K h;obtain⟨v,h1,h⟩:=aS (x:=x) h;obtain⟨c,rfl,h⟩:=gU h;refine .cond h1 (fun hc=>?_) (fun hc=>?_)
  ·subst hc; exact iha h
  ·subst hc; exact ihb h
 | block id a ih =>
  intro ro t m K h;refine .block ((ih (K:=fun e t m=>gI e (K .normal t m) (fun id'=>dC (Nat.beq id' id) (K .normal t m) (K (.exit id') t m)) (K .ret t m)) h).mono fun e t m h=>?_);rcases dT h with⟨rfl,h⟩|⟨id',rfl,h⟩|⟨rfl,h⟩
  ·exact h
  ·simp only[er];rcases bZ h with⟨h1,h⟩|⟨h1,h⟩
   ·rw[if_pos (Nat.eq_of_beq_eq_true h1)]; exact h
   ·rw[if_neg (Nat.ne_of_beq_eq_false h1)]; exact h
  ·exact h
 | scope a ih=>intro ro t m K h; exact .scope (ih h)
 | loop a ih=>intro ro t m K h; exact .loop (rV (fun h=>ih h) 1000000 h)
 | region id ops draw=>intro ro t m K h; exact zi hH (fun t m h=>h) h
 | rangeFunc f params assign body iha ihb =>
  intro ro t m K h;obtain⟨h,hro⟩:=mD h;obtain⟨fv,h1,h⟩:=aS (x:=f) h;have g:=nw h; clear h; obtain⟨g,first,captured,rfl,h⟩:=g
  rw[bO] at h;cases g with
  | func g =>
   have g':=aX h; clear h; obtain⟨hp,h⟩:=g';rw[ek,ek] at h;have hp':(E.bT g).isNone=true:=by cases hg:E.bT g with
    | none=>rfl
    | some p=>rw[hg] at hp; cases hp
   have hro':ef E ⟨t,n,fn,ro⟩ m f=true:=by
    unfold ef;simp only[h1,hp',Bool.true_and];exact hro
   refine .rangeFunc h1 hro' ((hH.1 h).mono fun v m2 h=>?_);obtain⟨r,hr,h⟩:=fP h;refine⟨r,hr,?_⟩;obtain⟨state,pending,fn',tmps',n',params',assign',body'⟩:=r;have key:∀{x:Bool},(x=cx m2 m.next (.loop ⟨.exhausted,pending,fn',tmps',n',params',assign',body'⟩) fun m3=>Option.rec (motive:=fun _=>Bool) (K .normal t m3) (fun c=>Code.rec (motive:=fun _=>Bool) false (fun _ _ _=>false) (fun _ _ _ _=>false) (fun _ _ _ _ _=>false) (fun _ _ _=>false) (fun _ _=>false) (fun _ _ _ _ _ _=>false) (fun id=>K (.exit id) t m3) (fun _ _=>false) (fun _=>false) (fun _=>false) (K .ret t m3) (fun _=>false) c) pending)→x=true →
     ((pending=none∧K .normal t (m2.set m.next (.loop ⟨.exhausted,pending,fn',tmps',n',params',assign',body'⟩))=true)∨(∃c,pending=some c∧bl E n fn ro c (fun e t m=>K e t m=true) t (m2.set m.next (.loop ⟨.exhausted,pending,fn',tmps',n',params',assign',body'⟩)))):=by
    intro x hx hx';rw[hx,ct] at hx';cases pending with
    | none=>exact .inl ⟨rfl,hx'⟩
    | some c =>
     rcases tt hx' with⟨id,rfl,h⟩|⟨rfl,h⟩
     ·exact .inr ⟨_,rfl,.exit h⟩
     ·exact .inr ⟨_,rfl,.ret h⟩
   cases state with
   | busy=>cases h
   | ready=>exact⟨(by intro e; cases e),key rfl h⟩
   | done=>exact⟨(by intro e; cases e),key rfl h⟩
   | exhausted=>exact⟨(by intro e; cases e),key rfl h⟩
  | _=>cases h
 | goto l=>intro ro t m K h; cases h
 | refuse w=>intro ro t m K h; cases h
end
structure ResSem where
 run:Tm→AMem→(List Value→Bool)→Bool
noncomputable def yB (E:Env):List ResultVar→ResSem
 | []=>⟨fun _ _ k=>k []⟩
 | .tmp i::rs=>⟨fun t m k=>(rC i).run t fun v=>(yB E rs).run t m fun vs=>k (v::vs)⟩
 | .cell a ty::rs=>⟨fun t m k=>(rC a).run t fun p=>(uS E.P ty).run p m fun v=>(yB E rs).run t m fun vs=>k (v::vs)⟩
theorem mR {E:Env} {t:Tm} {m:AMem}:∀{rs:List ResultVar} {k:List Value→Bool},(yB E rs).run t m k=true→∃vs,bI E t m rs=some vs∧k vs=true
 | [],k,h=>⟨[],rfl,h⟩
 | .tmp i::rs,k,h=>by
  have h':=nP (d:=i) h;obtain⟨vs,h1,h2⟩:=mR h';exact⟨_,by simp only[bI,h1,Option.map_some],h2⟩
 | .cell a ty::rs,k,h=>by
  have h':=nP (d:=a) h;obtain⟨v,h1,h'⟩:=ru h';obtain⟨vs,h2,h3⟩:=mR h';exact⟨_,by simp only[bI,h1,h2],h3⟩
noncomputable def BS (vs:List Value) (k:Value→Bool):Bool :=
 List.rec (motive:=fun _=>Bool) (k (.tuple #[])) (fun v rest _=>List.rec (motive:=fun _=>Bool) (k v) (fun w rest' _=>k (.tuple ⟨v::w::rest'⟩)) rest) vs
theorem va (vs:List Value) (k:Value→Bool):BS vs k=k (fA vs):=by
 match vs with
 | []=>rfl
 | [v]=>rfl
 | v::w::rest=>rfl
noncomputable def tV (args:List Value):Nat→Tm→(Tm→Bool)→Bool :=
 List.rec (motive:=fun _=>Nat→Tm→(Tm→Bool)→Bool) (fun _ t k=>k t) (fun v _ ih i t k=>(uq i).run t v fun t=>fN (Nat.succ i) fun i=>ih i t k) args
theorem pb:∀(args:List Value) (i:Nat) (t:Tm) (k:Tm→Bool),i+args.length≤512→tV args i t k=k (Trie.ofList args i t)
 | [],i,t,k,_=>rfl
 | v::vs,i,t,k,h=>by
  have hi:i<512:=by simp at h; omega
  show(uq i).run t v (fun t=>fN (Nat.succ i) fun i=>tV vs i t k)=_
  rw[sd i hi,cG,pb vs (i+1) _ k (by simp at h; omega)]
  rfl
structure FunSem where
 run:Hand→List Value→AMem→(Value→AMem→Bool)→Bool
structure PSem where
 run:List Value→AMem→(Value→AMem→Bool)→Bool
def Dk (E:Env) (F:FuncId→Option PSem):Prop:=∀{f:FuncId} {S:PSem},F f=some S→∃p,E.bT f=some p∧∀{args:List Value} {m:AMem} {K:Value→AMem→Bool},S.run args m K=true→∃v m',p.run args m=some (v,m')∧K v m'=true
noncomputable def uu (E:Env) (f:FuncId):FunSem :=
 match E.P.funcs[f]? with
 | some fn=>match fn.body,Nat.ble fn.ntmps 512 with
  | some c,true=>⟨fun H args m K=>dC (Nat.ble args.length fn.ntmps) (tV args 0 .nil fun t=>(iy E fn.ntmps f c).run H none t m fun e t m=>gI e ((yB E fn.results.toList).run t m fun vs=>BS vs fun v=>K v m) (fun _=>false) ((yB E fn.results.toList).run t m fun vs=>BS vs fun v=>K v m)) false⟩
  | _,_=>⟨fun _ _ _ _=>false⟩
 | none=>⟨fun _ _ _ _=>false⟩
noncomputable def CQ (E:Env) (F:FuncId→Option PSem) (f:FuncId):FunSem :=
 match F f with
 | some S=>⟨fun _ args m K=>S.run args m K⟩
 | none=>match E.bT f with
  | some p=>⟨fun H args m K=>Option.rec (motive:=fun _=>Bool) ((uu E f).run H args m K) (fun r=>Prod.rec (motive:=fun _=>Bool) (fun v m'=>fV v fun v=>fM m' fun m'=>K v m') r) (p.run args m)⟩
  | none=>uu E f
theorem aC.bT {E:Env} {f:FuncId} {p:Prim} {args:List Value} {m m':AMem} {v:Value} {R:Value→AMem→Prop} (hp:E.bT f=some p) (h:p.run args m=some (v,m')) (hR:R v m'):aC E f args m R:=by
 have hpa:jz E f args m=some (v,m'):=by
  unfold jz;rw[hp];exact h
 exact⟨v,m',aO (k:=0) (by simp only[step,hpa]),hR⟩
theorem rL {E:Env} {H:Hand} (hH:zb E H) {f:FuncId} {args:List Value} {m:AMem} (hpa:jz E f args m=none) {K:Value→AMem→Bool} (h:(uu E f).run H args m K=true):aC E f args m fun v m'=>K v m'=true:=by
 unfold uu at h
 split at h
 ·rename_i F hf
  split at h
  ·rename_i c hb hn;have g:=aX h; clear h; obtain⟨h1,h⟩:=g;have hle:=Nat.le_of_ble_eq_true h1;have hn':=Nat.le_of_ble_eq_true hn;rw[pb args 0 _ _ (by omega)] at h
   have hmax:max args.length F.ntmps=F.ntmps:=Nat.max_eq_right hle;refine .CN hpa hf hb ?_;rw[hmax];refine(oF hH c h).mono fun e t m h=>?_;rcases dT h with⟨rfl,h⟩|⟨id,rfl,h⟩|⟨rfl,h⟩
   ·obtain⟨vs,h2,h⟩:=mR h;rw[va] at h;exact⟨fun id e=>(by cases e),vs,h2,h⟩
   ·cases h
   ·obtain⟨vs,h2,h⟩:=mR h;rw[va] at h;exact⟨fun id e=>(by cases e),vs,h2,h⟩
  ·cases h
 ·cases h
theorem Ae {E:Env} {F:FuncId→Option PSem} (hF:Dk E F) {H:Hand} (hH:zb E H) {f:FuncId} {args:List Value} {m:AMem} {K:Value→AMem→Bool} (h:(CQ E F f).run H args m K=true):aC E f args m fun v m'=>K v m'=true:=by
 unfold CQ at h
 split at h
 ·rename_i S hS;obtain⟨p,hp,hS'⟩:=hF hS;obtain⟨v,m',h1,h2⟩:=hS' h;exact .bT hp h1 h2
 split at h
 ·rename_i p hp;simp only at h;cases he:p.run args m with
  | none =>
   rw[he] at h;exact rL hH (by unfold jz; rw[hp]; exact he) h
  | some r =>
   obtain⟨v,m'⟩:=r;rw[he] at h;simp only[uC,xE] at h;exact .bT hp he h
 ·rename_i hp;exact rL hH (by unfold jz; rw[hp]; rfl) h
noncomputable def iq (n:Nat):List Tmp→List Value→Tm→(Tm→Bool)→Bool
 | p::ps,v::vs,t,k=>(jZ n (some p)).run t v fun t=>iq n ps vs t k
 | _,_,t,k=>k t
theorem kl {n:Nat}:∀{ps:List Tmp} {vs:List Value} {t:Tm} {k:Tm→Bool},iq n ps vs t k=true→∃t',dv n t ps vs=some t'∧k t'=true
 | p::ps,v::vs,t,k,h=>by
  have h':((jZ n (some p)).run t v fun t=>iq n ps vs t k)=true:=by rw[iq] at h; exact h
  obtain⟨t',hp,h2⟩:=gw h';obtain⟨t'',h3,h4⟩:=kl h2;refine⟨t'',?_,h4⟩;unfold dv;unfold fC at hp;simp only at hp
  split at hp
  ·rename_i hb; cases hp; exact h3
  ·cases hp
 | [],vs,t,k,h=>⟨t,by unfold dv; rfl,by rw[iq] at h; exact h; intros; simp_all⟩
 | p::ps,[],t,k,h=>⟨t,by unfold dv; rfl,by rw[iq] at h; exact h; intros; simp_all⟩
noncomputable def xw (E:Env) (H:Hand) (l:Nat) (args:List Value) (m:AMem) (K:Value→AMem→Bool):Bool :=
 nK m l fun r=>ALoop.rec (motive:=fun _=>Bool) (fun state _ fn tmps n params assign body=>mJ state
  (dC (Nat.beq args.length params.size) (iq n params.toList args tmps fun t0=>(iy E n fn assign).run H (some l) t0 m fun e t1 m1=>gI e
   (nK m1 l fun r1=>ALoop.rec (motive:=fun _=>Bool) (fun state1 pending1 fn1 tmps1 n1 params1 assign1 body1=>mJ state1
    (cx m1 l (.loop ⟨.busy,pending1,fn1,tmps1,n1,params1,assign1,body1⟩) fun m1'=>(iy E n fn body).run H (some l) t1 m1' fun e _ m2=>nK m2 l fun r2=>ALoop.rec (motive:=fun _=>Bool) (fun _ _ fn2 tmps2 n2 params2 assign2 body2 =>
     gI e (cx m2 l (.loop ⟨.ready,none,fn2,tmps2,n2,params2,assign2,body2⟩) fun m3=>K (.bool true) m3)
      (fun id=>cx m2 l (.loop ⟨.done,some (.exit id),fn2,tmps2,n2,params2,assign2,body2⟩) fun m3=>K (.bool false) m3)
      (cx m2 l (.loop ⟨.done,some .ret,fn2,tmps2,n2,params2,assign2,body2⟩) fun m3=>K (.bool false) m3)) r2)
    false false) r1)
   (fun _=>false) false) false)
  false false) r
theorem jB {s:LoopState} {a:Bool} (h:mJ s a false false=true):s = .ready∧a=true:=by
 cases s<;>first|exact⟨rfl,h⟩|cases h
theorem vz {E:Env} {H:Hand} (hH:zb E H) {l:Nat} {args:List Value} {m:AMem} {K:Value→AMem→Bool} (h:xw E H l args m K=true):nV E l args m fun v m'=>K v m'=true:=by
 obtain⟨r,hr,h⟩:=fP h;obtain⟨state,pending,fn,tmps,n,params,assign,body⟩:=r;have g:=jB h; clear h; obtain⟨rfl,h⟩:=g;obtain⟨h1,h⟩:=aX h;obtain⟨t0,h2,h⟩:=kl h;obtain⟨e,t1,m1,⟨k1,h3⟩,h⟩:=oF hH assign h;rcases dT h with⟨rfl,h⟩|⟨id,rfl,h⟩|⟨rfl,h⟩
 ·obtain⟨r1,hr1,h⟩:=fP h;obtain⟨state1,pending1,fn1,tmps1,n1,params1,assign1,body1⟩:=r1;have g:=jB h; clear h; obtain⟨rfl,h⟩:=g;rw[ct] at h;obtain⟨e,t2,m2,⟨k2,h4⟩,h⟩:=oF hH body h;obtain⟨r2,hr2,h⟩:=fP h;obtain⟨state2,pending2,fn2,tmps2,n2,params2,assign2,body2⟩:=r2;have hlen:¬args.length≠params.size:=by have:=Nat.eq_of_beq_eq_true h1; omega
  have hb:step E (run E (max k1 k2)) (.round l args m)=some (.val (.bool (ee e).isNone) (m2.set l (.loop ⟨if (ee e).isNone then .ready else .done,ee e,fn2,tmps2,n2,params2,assign2,body2⟩))):=by
   simp only[step,hr,if_neg hlen,h2,eD (Nat.le_max_left k1 k2) h3,hr1,eD (Nat.le_max_right k1 k2) h4,hr2]
  rcases dT h with⟨rfl,hz⟩|⟨id,rfl,hz⟩|⟨rfl,hz⟩
  ·rw[ct] at hz;exact⟨_,_,aO (k:=max k1 k2) hb,hz⟩
  ·rw[ct] at hz;exact⟨_,_,aO (k:=max k1 k2) hb,hz⟩
  ·rw[ct] at hz;exact⟨_,_,aO (k:=max k1 k2) hb,hz⟩
 ·cases h
 ·cases h
noncomputable def hand (E:Env) (F:FuncId→Option PSem):Nat→Hand :=
 Nat.rec ⟨fun _ _ _ _=>false,fun _ _ _ _=>false⟩ fun _ ih=>⟨fun f args m K=>(CQ E F f).run ih args m K,fun l args m K=>xw E ih l args m K⟩
theorem p8 {E:Env} {F:FuncId→Option PSem} (hF:Dk E F):∀n,zb E (hand E F n)
 | 0=>⟨fun h=>(by cases h),fun h=>(by cases h)⟩
 | n+1=>⟨fun h=>Ae hF (p8 hF n) h,fun h=>vz (p8 hF n) h⟩
theorem pW {E:Env} {F:FuncId→Option PSem} (hF:Dk E F) {n:Nat} {f:FuncId} {args:List Value} {m:AMem} {K:Value→AMem→Bool} (h:(hand E F n).call f args m K=true):∃fuel v m',run E fuel (.call f args m)=some (.val v m')∧K v m'=true:=by
 obtain⟨v,m',⟨k,h1⟩,h2⟩:=(p8 hF n).1 h;exact⟨k,v,m',h1,h2⟩
noncomputable def Ee (n:Nat) (v:Value) (m:AMem):Bool:=mW v (fun b=>dC b (Nat.ble n m.wl) false) false
theorem qW {E:Env} {F:FuncId→Option PSem} (hF:Dk E F) {n g:Nat} {f:FuncId} {args:List Value} {m:AMem} (h:(hand E F n).call f args m (Ee g)=true):∃fuel m',run E fuel (.call f args m)=some (.val (.bool true) m')∧g≤m'.wl:=by
 obtain⟨k,v,m',h1,h2⟩:=pW hF h;obtain⟨b,rfl,h2⟩:=gU h2;obtain⟨rfl,h2⟩:=aX h2;exact⟨k,m',h1,Nat.le_of_ble_eq_true h2⟩
section
variable {E : Env} {n : Nat} {t : Tm} {m : AMem} {K : Tm → AMem → Prop} {ops : Array Oper} {os : List Oper} {ty : TypeId} {p : String} {af : Array Edge} {d : Nat}
variable {L : Tm → AMem → List Note → Prop} {ns : List Note}
variable {a b r v : Value} {x y : Operand} {e e' : TypeId}
theorem Cq (h:an E t x=some v) (K':Value→AMem→Prop):bf E t m (.move x) K'=K' v m:=by rw[AF,h]; rfl
theorem w8 (h:an E t x=some v) (K':Value→AMem→Prop):bf E t m (.assign x) K'=K' v m:=by rw[vw,h]; rfl
theorem zz {c:Operand} (hc:an E t c=some (.bool true)) (h:an E t x=some v) (K':Value→AMem→Prop):bf E t m (.pick c x y) K'=K' v m:=by rw[u5,hc,sN,h]; rfl
theorem AL {c:Operand} (hc:an E t c=some (.bool false)) (h:an E t y=some v) (K':Value→AMem→Prop):bf E t m (.pick c x y) K'=K' v m:=by rw[u5,hc,so,h]; rfl
theorem Ds (h:an E t x=some v) (K':Value→AMem→Prop):bf E t m (.box e x) K'=K' (ptr m.next 0) (m.alloc (.cells v.cells.toList .own)):=by rw[Cr,h]; rfl
theorem DD {op:BinOp} (h:an E t x=some a) (h':an E t y=some b) (hr:bw op e E.P a b=some r) (K':Value→AMem→Prop):bf E t m (.binOp op e x y e') K'=K' r m:=by rw[wU,h,dj,h',dj,hr]; rfl
theorem fb {op:UnOp} (h:an E t x=some a) (hr:uK op a=some r) (K':Value→AMem→Prop):bf E t m (.unOp op e x) K'=K' r m:=by rw[zy,h,dj,hr]; rfl
theorem CR (h:an E t x=some a) (hr:ez E.P e e' a=some r) (K':Value→AMem→Prop):bf E t m (.convert e e' x) K'=K' r m:=by rw[s8,h,dj,hr]; rfl
theorem yI (h:an E t x=some a) (hr:cT E.P e a m=some r) (K':Value→AMem→Prop):bf E t m (.load e x) K'=K' r m:=by rw[zB,h,dj,hr]; rfl
theorem Ay {m':AMem} (h:an E t x=some a) (h':an E t y=some b) (hr:dN E.P e a b m=some m') (K':Value→AMem→Prop):bf E t m (.store e x y) K'=K' undef m':=by rw[yY,h,dj,h',dj,hr]; rfl
theorem rv {f:Nat} (h:an E t x=some a) (hr:aN E.P e a f=some r) (K':Value→AMem→Prop):bf E t m (.fieldAddr e x f) K'=K' r m:=by rw[qG,h,dj,hr]; rfl
theorem rS (h:an E t x=some a) (h':an E t y=some b) (hr:bq E.P e a b=some r) (K':Value→AMem→Prop):bf E t m (.indexAddr e x y) K'=K' r m:=by rw[qd,h,dj,h',dj,hr]; rfl
theorem zL (h:an E t x=some a) (h':an E t y=some b) (hr:ei E.P e a b=some r) (K':Value→AMem→Prop):bf E t m (.index e x y) K'=K' r m:=by rw[wV,h,dj,h',dj,hr]; rfl
theorem vf {i:Nat} {vs:Array Value} (h:an E t x=some (.tuple vs)) (hr:vs[i]? = some r) (K':Value→AMem→Prop):bf E t m (.extract x i) K'=K' r m:=by rw[sU h,hr]; rfl
theorem kA {l h k:Option Operand} {l' h' k':Option Value} (h1:an E t x=some a) (h2:cP E t l=some l') (h3:cP E t h=some h') (h4:cP E t k=some k') (hr:bA E.P e a l' h' k' m=some r) (K':Value→AMem→Prop):bf E t m (.slice e x l h k) K'=K' r m:=by rw[wK h1 h2 h3 h4,hr]; rfl
theorem zD {z:Value} (hz:bh E.P e=some z) (hp:bc z=true) (K':Value→AMem→Prop):bf E t m (.alloc e) K'=K' (ptr m.next 0) (m.alloc (.cells z.cells.toList .own)):=by
 rw[wI]; simp only[cf,hz,hp,if_true]; rfl
theorem cC {bi:Builtin} {ars:Array Operand} {ts:Array TypeId} {vs:List Value} {m':AMem} (h:aV E t ars.toList=some vs) (hr:aL E.P bi ts vs m=some (r,m')) (K':Value→AMem→Prop):bf E t m (.call ⟨.builtin bi,ars,ts⟩) K'=K' r m':=by rw[tw,h,dj,hr]; rfl
theorem yK {op:Op} {m':AMem} (hc:j6 op=none) (hr:cf E t m op=some (r,m')) (K':Value→AMem→Prop):bf E t m op K'=K' r m':=by
 unfold bf; rw[hc]; simp only[hr]; rfl
theorem F1 {ops:Array Oper} {t:Tm} {dst:Option Tmp} {o:Op} {ty:TypeId} {p:String} {a:Array Edge} {j d:Nat} {b c:Bool} (hd:(ops[j]?).bind (·.dst)=some d) (h:t.at d = .bool c):aW ops ⟨dst,o,ty,p,a,some (j,b)⟩ t=(c == b):=by
 rw[xx]; unfold cj; rw[hd]; simp only[u2 h]
end
section
variable {E : Env} {n : Nat} {fn : FuncId} {ro : Option Nat} {Q : AExit → Tm → AMem → Prop} {t : Tm} {m : AMem} {w : Nat}
def gR (E:Env) (n:Nat) (ops:Array Oper) (K:Tm→AMem→Prop):List Oper→Tm→AMem→Nat→Prop
 | [],t,m,w=>K t (m.ww w)
 | o::os,t,m,w =>
  if aW ops o t then(∀b,aD E t o.op=some b→b<m.next)∧bf E t (m.ww m.next) o.op fun v m'=>xM (fC n t o.dst v) fun t'=>gR E n ops K os t' m' (min w m'.wl)
  else xM (fC n t o.dst undef) fun t'=>gR E n ops K os t' m w
theorem pI {r:Option Nat} {x y:Nat} {z:Option Nat} {u:Nat→Bool} (h:∀b,r=some b→b<y):cB { read:=r,wl:=x,next:=y,wrote:=z,kept:=u}=true:=by
 cases r with
 | none=>rfl
 | some b =>
  have:=h b rfl
  show Nat.blt b y=true
  rw[Nat.blt_eq]; exact this
theorem jV {ops:Array Oper} {K:Tm→AMem→Prop}:∀{os:List Oper} {t:Tm} {m:AMem} {w:Nat} {ns:List Note},gR E n ops K os t m w→ns.all cB=true→dw E n ops (fun t m ns=>ns.all cB=true∧K t m) os t (m.ww w) ns
 | [],t,m,w,ns,h,hn=>⟨by simpa using hn,h⟩
 | o::os,t,m,w,ns,h,hn=>by
  simp only[gR] at h;simp only[dw]
  split at h
  ·rename_i hw;rw[if_pos hw];obtain⟨h1,h2⟩:=h;refine h2.A.mono fun v m' hv=>?_;obtain⟨t',hp,h3⟩:=hv.A;refine⟨t',hp,?_⟩;have:=jV (ns:={ read:=aD E t o.op,wl:=m'.wl,next:=m.next,wrote:=dq E t o.op,kept:=fi m m'}::ns) h3 (by rw[List.all_cons,hn,Bool.and_true]; exact pI h1)
   exact this
  ·rename_i hw;rw[if_neg hw];obtain⟨t',hp,h2⟩:=h.A;exact⟨t',hp,jV h2 (by rw[List.all_cons,hn]; rfl)⟩
theorem bl.Dx {id:Nat} {ops:Array Oper} (hp:cd ops=some []) (h:∀K:Tm→AMem→Prop,(∀t m,Q .normal t m→K t m)→gR E n ops K ops.toList t m m.wl):bl E n fn ro (.region id ops true) Q t m:=by
 refine .draw hp ?_;have h1:=jV (ns:=[]) (h (fun t m=>Q .normal t m) fun _ _ h=>h) rfl;have mono:∀{os:List Oper} {t:Tm} {m:AMem} {ns:List Note},dw E n ops (fun t m ns=>ns.all cB=true∧Q .normal t m) os t m ns→dw E n ops (fun t m ns=>(([]:List (Nat × Nat)).all (cQ ns ops) && ns.all cB)=true∧Q .normal t m) os t m ns:=by
  intro os t m ns h
  simpa using h
 exact mono h1
variable {K : Tm → AMem → Prop} {ops : Array Oper} {os : List Oper} {ty : TypeId} {p : String} {af : Array Edge} {d : Nat} {g : Option (Nat × Bool)} {v a b r : Value} {x y : Operand} {e : TypeId}
theorem Ao {xs:List Operand} {vs:List Value} (h:an E t x=some v) (hs:aV E t xs=some vs):aV E t (x::xs)=some (v::vs):=by simp only[aV,h,hs]
end
end Go.Ab
end

section
namespace Go.Ab.W
open Go Go.Ab
abbrev Fs:=List (Nat × Value)
def lk:Fs→Nat→Option Value
 | [],_=>none
 | p::l,i=>match Nat.beq p.1 i with
  | true=>some p.2
  | false=>lk l i
def Fr (t:Tm) (fs:Fs):Prop:=∀i v,lk fs i=some v→t.at i=v
theorem Fr.nil (t:Tm):Fr t []:=fun i v h=>by cases h
theorem Fr.set {t:Tm} {fs:Fs} {d:Nat} {v:Value} (h:Fr t fs):Fr (Trie.set t d v) ((d,v)::fs):=by
 intro i x hx;unfold lk at hx;rw[at_set]
 split at hx
 ·rename_i e;have:d=i:=Nat.eq_of_beq_eq_true e;rw[if_pos this.symm]; exact Option.some.inj hx
 ·rename_i e;have:d≠i:=Nat.ne_of_beq_eq_false e;rw[if_neg (Ne.symm this)]; exact h i x hx
def sub (fs:Fs):Fs→Prop
 | []=>True
 | p::l=>lk fs p.1=some p.2∧sub fs l
theorem Fr.sub {t:Tm} {fs:Fs}:∀{fs':Fs},Fr t fs→sub fs fs'→Fr t fs'
 | [],_,_=>Fr.nil t
 | p::l,h,hs=>by
  intro i v hv;unfold lk at hv
  split at hv
  ·rename_i e;have:p.1=i:=Nat.eq_of_beq_eq_true e;subst this;cases hv;exact h _ _ hs.1
  ·exact Fr.sub h hs.2 i v hv
def ev (E:Env) (fs:Fs):Operand→Option Value
 | .tmp i=>lk fs i
 | .const v=>match bc v with
  | true=>some v
  | false=>none
 | .global g=>match Nat.blt g E.glob with
  | true=>some (ptr g 0)
  | false=>none
 | .func f=>some (.func (.func f) #[] #[])
def e8 (E:Env) (fs:Fs):List Operand→Option (List Value)
 | []=>some []
 | x::xs=>match ev E fs x with
  | some v=>match e8 E fs xs with
   | some vs=>some (v::vs)
   | none=>none
  | none=>none
def oO (E:Env) (fs:Fs):Option Operand→Option (Option Value)
 | none=>some none
 | some x=>match ev E fs x with
  | some v=>some (some v)
  | none=>none
def xJ (E:Env) (fs:Fs):List (Nat × Operand)→Option (List (Nat × Value))
 | []=>some []
 | x::xs=>match ev E fs x.2 with
  | some v=>match xJ E fs xs with
   | some vs=>some ((x.1,v)::vs)
   | none=>none
  | none=>none
section
variable {E : Env} {t : Tm} {fs : Fs}
theorem Fr.ev (h:Fr t fs):∀{x:Operand} {v:Value},ev E fs x=some v→an E t x=some v
 | .tmp i,v,e=>by show some (t.at i)=some v; rw[h i v e]
 | .const c,v,e=>by
  simp only[Go.Ab.W.ev] at e
  split at e
  ·rename_i hp; cases e; simp only[an]; rw[if_pos hp]
  ·cases e
 | .global g,v,e=>by
  simp only[Go.Ab.W.ev] at e
  split at e
  ·rename_i hp; cases e; simp only[an]; rw[if_pos (by rwa[Nat.blt_eq] at hp)]
  ·cases e
 | .func f,v,e=>by simp only[Go.Ab.W.ev] at e; exact e
theorem Fr.e8 (h:Fr t fs):∀{xs:List Operand} {vs:List Value},e8 E fs xs=some vs→aV E t xs=some vs
 | [],vs,e=>by simp only[Go.Ab.W.e8] at e; exact e
 | x::xs,vs,e=>by
  simp only[Go.Ab.W.e8] at e
  split at e
  ·rename_i v hv
   split at e
   ·rename_i ws hw;cases e;exact Ao (h.ev hv) (Fr.e8 h hw)
   ·cases e
  ·cases e
theorem Fr.oO (h:Fr t fs):∀{x:Option Operand} {v:Option Value},oO E fs x=some v→cP E t x=some v
 | none,v,e=>by simp only[Go.Ab.W.oO] at e; exact e
 | some x,v,e=>by
  simp only[Go.Ab.W.oO] at e
  split at e
  ·rename_i w hw; cases e; simp only[cP]; rw[h.ev hw]; rfl
  ·cases e
theorem Fr.xJ (h:Fr t fs):∀{xs:List (Nat × Operand)} {vs:List (Nat × Value)},xJ E fs xs=some vs→cD E t xs=some vs
 | [],vs,e=>by simp only[Go.Ab.W.xJ] at e; exact e
 | x::xs,vs,e=>by
  simp only[Go.Ab.W.xJ] at e
  split at e
  ·rename_i v hv
   split at e
   ·rename_i ws hw;cases e;obtain⟨i,y⟩:=x;unfold cD;rw[h.ev hv,Fr.xJ h hw]
   ·cases e
  ·cases e
end
def oJ (m:AMem) (b o w:Nat) (es:List (List Value)):Prop :=
 b<m.next∧∃all tg,m.get b=some (.cells all tg)∧(∀sz,tg = .more sz→sz=w)∧∀i e,es[i]? = some e→(all.drop (o+i*w)).take w=e∧e.length=w
def iE:Option Addr→Option Nat
 | some a=>some a.block
 | none=>none
def Rd (m:AMem) (a:Option Addr) (cap w n:Nat) (es:List (List Value)):Prop :=
 es.length=n∧n≤cap∧((a=none∧n=0)∨(∃b sp,a=some ⟨b,0,some sp⟩∧n=0∧cap=0∧b<m.next)∨∃b o,a=some ⟨b,o,none⟩∧oJ m b o w es)
theorem Rd.lt {m:AMem} {a:Option Addr} {cap w n:Nat} {es:List (List Value)} (h:Rd m a cap w n es) {b:Nat} (hb:iE a=some b):b<m.next:=by
 rcases h.2.2 with⟨rfl,_⟩|⟨b',sp,rfl,_,_,h4⟩|⟨b',o,rfl,h4⟩
 ·cases hb
 ·cases hb; exact h4
 ·cases hb; exact h4.1
def Own (lo:Nat) (m:AMem) (b w n:Nat) (es:List (List Value)) (tg:Tag):Prop :=
 lo≤b∧b<m.next∧m.get b=some (.cells es.flatten tg)∧es.length=n∧(∀e ∈ es,e.length=w)∧(tg = .own∨tg = .more w)∧0<w
structure GPc where
 ow:Nat→Prop
 rd:Nat→Prop
 P:AMem→Prop
 st:∀m m':AMem,P m→m.next≤m'.next→(∀b,ow b∨rd b→b<m.next→m'.get b=m.get b)→P m'
 lt:∀(m:AMem) b,P m→ow b∨rd b→b<m.next
 fr:Bool:=false
inductive Pc
 | obj (b:Nat) (o:AObj)
 | arr (b w n:Nat) (es:List (List Value)) (tg:Tag)
 | sl (a:Option Addr) (w n:Nat) (es:List (List Value))
 | rd (a:Option Addr) (cap w n:Nat) (es:List (List Value))
 | ro (b o w n:Nat) (es:List (List Value))
 | gen (g:GPc)
def Pc.lW:Pc→Option Nat
 | .obj b _=>some b
 | .arr b _ _ _ _=>some b
 | .sl a _ _ _=>iE a
 | .rd a _ _ _ _=>iE a
 | .ro b _ _ _ _=>some b
 | .gen _=>none
def Pc.own:Pc→Bool
 | .obj _ _ | .arr _ _ _ _ _ | .sl _ _ _ _=>true
 | _=>false
def Pc.Gj:Pc→Nat→Prop
 | .gen g=>g.ow
 | _=>fun _=>False
def Pc.vg:Pc→Nat→Prop
 | .gen g=>fun b=>g.ow b∨g.rd b
 | _=>fun _=>False
def Pc.ow (p:Pc) (b:Nat):Prop:=(p.own=true∧p.lW=some b)∨p.Gj b
def Pc.any (p:Pc) (b:Nat):Prop:=p.lW=some b∨p.vg b
theorem Pc.jP {p:Pc} {b:Nat} (h:p.ow b):p.any b:=by
 rcases h with h|h
 ·exact .inl h.2
 ·cases p with
  | gen g=>exact .inr (.inl h)
  | _=>exact h.elim
theorem Pc.DS {p:Pc} {b:Nat} (ho:p.own=true) (hb:p.lW=some b):p.ow b:=.inl ⟨ho,hb⟩
theorem Pc.s9 {p:Pc} {b:Nat} (ho:p.own=true) (h:p.any b):p.lW=some b:=by
 rcases h with h|h
 ·exact h
 ·cases p with
  | gen g=>cases ho
  | _=>exact h.elim
def Pc.ok (lo:Nat) (m:AMem):Pc→Prop
 | .obj b o=>lo≤b∧b<m.next∧m.get b=some o
 | .arr b w n es tg=>Own lo m b w n es tg
 | .sl a w n es=>(n=0∧es = []∧a=none∧0<w)∨∃b tg,a=some ⟨b,0,none⟩∧Own lo m b w n es tg
 | .rd a cap w n es=>Rd m a cap w n es
 | .ro b o w n es=>es.length=n∧oJ m b o w es
 | .gen g=>g.P m∧(g.fr=false→∀b,g.ow b→lo≤b)
def Pc.bound:Pc→Bool
 | .gen g=>!g.fr
 | _=>true
def Pc.apart (p q:Pc):Prop:=(∀b,p.ow b→q.any b→False)∧∀b,q.ow b→p.any b→False
structure Hp (m0 m:AMem) (ps:List Pc):Prop where
 ext:Ext m0 m
 ok:∀p ∈ ps,p.ok m0.next m
 apart:ps.Pairwise Pc.apart
def pk:List Pc→Nat→Option Pc
 | [],_=>none
 | p::_,0=>some p
 | _::l,k+1=>pk l k
def bH:List Pc→Nat→Pc→List Pc
 | [],_,_=>[]
 | _::l,0,p=>p::l
 | q::l,k+1,p=>q::bH l k p
theorem fU (p:Pc) (l:List Pc):pk (p::l) 0=some p:=rfl
theorem ep (p:Pc) (l:List Pc) (k:Nat):pk (p::l) (k+1)=pk l k:=rfl
theorem lp:∀{ps:List Pc} {k:Nat} {p:Pc},pk ps k=some p→p ∈ ps:=by
 intro ps
 induction ps with
 | nil=>intro k p h; simp[pk] at h
 | cons q l ih =>
  intro k p h;cases k with
  | zero=>rw[fU] at h; have:=Option.some.inj h; simp[this]
  | succ k=>rw[ep] at h; have:=ih h; simp[this]
theorem fq (q:Pc) (l:List Pc) (p:Pc):bH (q::l) 0 p=p::l:=rfl
theorem dF (q:Pc) (l:List Pc) (k:Nat) (p:Pc):bH (q::l) (k+1) p=q::bH l k p:=rfl
theorem pd:∀{l:List Pc} {k:Nat} {p r:Pc},r ∈ bH l k p→r ∈ l∨r=p:=by
 intro l
 induction l with
 | nil=>intro k p r h; simp[bH] at h
 | cons a l ih =>
  intro k p r h;cases k with
  | zero =>
   rw[fq,List.mem_cons] at h;rcases h with h|h
   ·exact .inr h
   ·exact .inl (by simp[h])
  | succ k =>
   rw[dF,List.mem_cons] at h;rcases h with h|h
   ·exact .inl (by simp[h])
   ·rcases ih h with h1|h1
    ·exact .inl (by simp[h1])
    ·exact .inr h1
theorem oJ.fE {m m':AMem} {b o w:Nat} {es:List (List Value)} (h:oJ m b o w es) (hn:m.next≤m'.next) (hg:m'.get b=m.get b):oJ m' b o w es:=by
 obtain⟨h1,all,tg,h2,h3⟩:=h;exact⟨by omega,all,tg,by rw[hg]; exact h2,h3⟩
theorem Own.fE {lo:Nat} {m m':AMem} {b w n:Nat} {es:List (List Value)} {tg:Tag} (h:Own lo m b w n es tg) (hn:m.next≤m'.next) (hg:m'.get b=m.get b):Own lo m' b w n es tg:=by
 obtain⟨h1,h2,h3,h4⟩:=h;exact⟨h1,by omega,by rw[hg]; exact h3,h4⟩
theorem Rd.fE {m m':AMem} {a:Option Addr} {cap w n:Nat} {es:List (List Value)} (h:Rd m a cap w n es) (hn:m.next≤m'.next) (hg:∀b,iE a=some b→b<m.next→m'.get b=m.get b):Rd m' a cap w n es:=by
 obtain⟨h1,h2,h4⟩:=h;refine⟨h1,h2,?_⟩;rcases h4 with h4|⟨b,sp,rfl,a1,a2,a3⟩|⟨b,o,rfl,h⟩
 ·exact .inl h4
 ·exact .inr (.inl ⟨b,sp,rfl,a1,a2,Nat.lt_of_lt_of_le a3 hn⟩)
 ·exact .inr (.inr ⟨b,o,rfl,h.fE hn (hg b rfl h.1)⟩)
theorem Pc.gJ {lo:Nat} {m m':AMem} {p:Pc} (h:p.ok lo m) (hn:m.next≤m'.next) (hg:∀b,p.any b→b<m.next→m'.get b=m.get b):p.ok lo m':=by
 cases p with
 | obj b o=>exact⟨h.1,by have:=h.2.1; omega,by rw[hg b (.inl rfl) h.2.1]; exact h.2.2⟩
 | arr b w n es tg=>exact Own.fE h hn (hg b (.inl rfl) h.2.1)
 | sl a w n es =>
  rcases h with h|⟨b,tg,rfl,h⟩
  ·exact .inl h
  ·exact .inr ⟨b,tg,rfl,h.fE hn (hg b (.inl rfl) h.2.1)⟩
 | rd a cap w n es=>exact Rd.fE h hn fun b hb=>hg b (.inl hb)
 | ro b o w n es=>exact⟨h.1,h.2.fE hn (hg b (.inl rfl) h.2.1)⟩
 | gen g=>exact⟨g.st m m' h.1 hn fun b hb=>hg b (.inr hb),h.2⟩
theorem Pc.eh {lo:Nat} {m:AMem} {p:Pc} (h:p.ok lo m) {b:Nat} (hb:p.any b):b<m.next:=by
 cases p with
 | obj b' o=>rcases hb with hb|hb; cases hb; exact h.2.1; exact hb.elim
 | arr b' w n es tg=>rcases hb with hb|hb; cases hb; exact h.2.1; exact hb.elim
 | sl a w n es =>
  rcases hb with hb|hb
  ·rcases h with⟨_,_,rfl,_⟩|⟨b',tg,rfl,h⟩
   ·cases hb
   ·cases hb; exact h.2.1
  ·exact hb.elim
 | rd a cap w n es=>rcases hb with hb|hb; exact Rd.lt h hb; exact hb.elim
 | ro b' o w n es=>rcases hb with hb|hb; cases hb; exact h.2.1; exact hb.elim
 | gen g=>rcases hb with hb|hb; cases hb; exact g.lt m b h.1 hb
theorem Pc.CW {lo:Nat} {m:AMem} {p:Pc} (h:p.ok lo m) {b:Nat} (hb:p.lW=some b):b<m.next:=Pc.eh h (.inl hb)
theorem Pc.xc {lo:Nat} {m:AMem} {p:Pc} (h:p.ok lo m) (hf:p.bound=true) {b:Nat} (hb:p.ow b):lo≤b:=by
 rcases hb with⟨ho,hb⟩|hb
 ·cases p with
  | obj b' o=>cases hb; exact h.1
  | arr b' w n es tg=>cases hb; exact h.1
  | sl a w n es =>
   rcases h with⟨_,_,rfl,_⟩|⟨b',tg,rfl,h⟩
   ·cases hb
   ·cases hb; exact h.1
  | rd a cap w n es=>cases ho
  | ro b' o w n es=>cases ho
  | gen g=>cases ho
 ·cases p with
  | gen g=>exact h.2 (by simpa [Pc.bound] using hf) b hb
  | _=>exact hb.elim
theorem Pc.yo {lo:Nat} {m:AMem} {p:Pc} (h:p.ok lo m) (ho:p.own=true) {b:Nat} (hb:p.lW=some b):lo≤b:=Pc.xc h (by cases p<;>first|rfl|cases ho) (.inl ⟨ho,hb⟩)
section
variable {m0 m m' : AMem} {ps : List Pc}
theorem Hp.get (h:Hp m0 m ps) {k:Nat} {p:Pc} (hp:pk ps k=some p):p.ok m0.next m:=h.ok p (lp hp)
theorem Pc.ig {p r:Pc} (h:Pc.apart p r):Pc.apart r p:=⟨h.2,h.1⟩
theorem fL:∀{ps:List Pc} {k:Nat} {p p':Pc},pk ps k=some p→(∀r ∈ ps,Pc.apart p r→Pc.apart p' r)→ps.Pairwise Pc.apart→(bH ps k p').Pairwise Pc.apart:=by
 intro ps
 induction ps with
 | nil=>intro k p p' hk; simp[pk] at hk
 | cons q l ih =>
  intro k p p' hk hr h;rw[List.pairwise_cons] at h;cases k with
  | zero =>
   rw[fU] at hk;have hk:=Option.some.inj hk;subst hk;rw[fq];exact List.pairwise_cons.2 ⟨fun r hm=>hr r (by simp[hm]) (h.1 r hm),h.2⟩
  | succ k =>
   rw[ep] at hk;rw[dF];refine List.pairwise_cons.2 ⟨fun r hm=>?_,ih hk (fun r hm=>hr r (by simp[hm])) h.2⟩
   rcases pd hm with hm|hm
   ·exact h.1 r hm
   ·rw[hm]; exact Pc.ig (hr q (by simp) (Pc.ig (h.1 p (lp hk))))
theorem rl:∀{ps:List Pc} {k:Nat} {p p' r:Pc},pk ps k=some p→ps.Pairwise Pc.apart→r ∈ bH ps k p'→r=p'∨(r ∈ ps∧Pc.apart r p):=by
 intro ps
 induction ps with
 | nil=>intro k p p' r hk; simp[pk] at hk
 | cons q l ih =>
  intro k p p' r hk h hr;rw[List.pairwise_cons] at h;cases k with
  | zero =>
   rw[fU] at hk;have hk:=Option.some.inj hk;subst hk;rw[fq,List.mem_cons] at hr;rcases hr with hr|hr
   ·exact .inl hr
   ·exact .inr ⟨by simp[hr],Pc.ig (h.1 r hr)⟩
  | succ k =>
   rw[ep] at hk;rw[dF,List.mem_cons] at hr;rcases hr with hr|hr
   ·rw[hr]; exact .inr ⟨by simp,h.1 p (lp hk)⟩
   ·rcases ih hk h.2 hr with h1|⟨h1,h2⟩
    ·exact .inl h1
    ·exact .inr ⟨by simp[h1],h2⟩
theorem Hp.wD (h:Hp m0 m ps) {k:Nat} {p p':Pc} (hp:pk ps k=some p) (how:∀b,p'.ow b→p.ow b∨m.next≤b) (hany:∀b,p'.any b→p.any b∨m.next≤b) (hn:m.next≤m'.next) (hext:Ext m0 m')
  (hok:p'.ok m0.next m') (hg:∀b,¬p.ow b→b<m.next→m'.get b=m.get b):Hp m0 m' (bH ps k p') where
 ext:=hext
 apart:=fL hp (fun r hr ha=>⟨fun b a c=>(how b a).elim (fun a=>ha.1 b a c) fun a=>by have:=Pc.eh (h.ok r hr) c; omega,fun b a c=>(hany b c).elim (fun c=>ha.2 b a c) fun c=>by have:=Pc.eh (h.ok r hr) (Pc.jP a); omega⟩) h.apart
 ok:=fun r hr=>by
  rcases rl hp h.apart hr with rfl|⟨h1,h2⟩
  ·exact hok
  ·exact Pc.gJ (h.ok r h1) hn fun b hb' hlt=>hg b (fun e=>h2.2 b e hb') hlt
theorem Hp.put (h:Hp m0 m ps) {k:Nat} {p p':Pc} (hp:pk ps k=some p) (ho:p.own=true) (hb:p'.lW=p.lW) (ho':p'.own=true) (hn:m.next≤m'.next) (hext:Ext m0 m')
  (hok:p'.ok m0.next m') (hg:∀b,p.lW≠some b→b<m.next→m'.get b=m.get b):Hp m0 m' (bH ps k p') :=
 h.wD hp (fun b a=>.inl (.inl ⟨ho,by rw[←hb]; exact Pc.s9 ho' (Pc.jP a)⟩)) (fun b a=>.inl (.inl (by rw[←hb]; exact Pc.s9 ho' a))) hn hext hok fun b hb' hlt=>hg b (fun e=>hb' (.inl ⟨ho,e⟩)) hlt
theorem Hp.DZ (h:Hp m0 m ps) {p:Pc} (hn:m.next≤m'.next) (hext:Ext m0 m') (hsame:∀b,b<m.next→m'.get b=m.get b) (hp:p.ok m0.next m') (hb:∀b,p.any b→m.next≤b):Hp m0 m' (p::ps) where
 ext:=hext
 ok:=fun q hq=>by
  rcases List.mem_cons.1 hq with rfl|hq
  ·exact hp
  ·exact Pc.gJ (h.ok q hq) hn fun b hb' hlt=>hsame b hlt
 apart:=List.pairwise_cons.2 ⟨fun q hq=>⟨fun b h1 h2=>by
  have:=Pc.eh (h.ok q hq) h2;have:=hb b (Pc.jP h1);omega,fun b h1 h2=>by
  have:=Pc.eh (h.ok q hq) (Pc.jP h1);have:=hb b h2;omega⟩,h.apart⟩
theorem Hp.cons (h:Hp m0 m ps) {p:Pc} (hn:m.next≤m'.next) (hext:Ext m0 m') (hsame:∀b,b<m.next→m'.get b=m.get b) (hp:p.ok m0.next m') (hb:∀b,p.lW=some b→m.next≤b) (hng:∀b,¬p.vg b:=by exact fun _ h=>h):Hp m0 m' (p::ps) :=
 h.DZ hn hext hsame hp fun b hb'=>hb'.elim (hb b) fun h=>absurd h (hng b)
def aa (ps:List Pc):List Nat→Option (List Pc)
 | []=>some []
 | k::ks=>match pk ps k with
  | some p=>match aa ps ks with
   | some qs=>some (p::qs)
   | none=>none
  | none=>none
def k7:List Nat→Bool
 | []=>true
 | k::ks=>!(ks.any (Nat.beq k)) && k7 ks
theorem pB:∀{ks:List Nat} {qs:List Pc},aa ps ks=some qs→∀q ∈ qs,∃k ∈ ks,pk ps k=some q:=by
 intro ks
 induction ks with
 | nil=>intro qs h q hq; simp only[aa,Option.some.injEq] at h; subst h; cases hq
 | cons k ks ih =>
  intro qs h q hq;simp only[aa] at h
  split at h
  ·rename_i p hp
   split at h
   ·rename_i qs' hqs;simp only[Option.some.injEq] at h;subst h;rcases List.mem_cons.1 hq with rfl|hq
    ·exact⟨k,by simp,hp⟩
    ·obtain⟨k',h1,h2⟩:=ih hqs q hq;exact⟨k',by simp[h1],h2⟩
   ·cases h
  ·cases h
theorem eY:∀{ps:List Pc} {i j:Nat} {p q:Pc},ps.Pairwise Pc.apart→pk ps i=some p→pk ps j=some q→i≠j→Pc.apart p q:=by
 intro ps
 induction ps with
 | nil=>intro i j p q _ h; simp[pk] at h
 | cons r l ih =>
  intro i j p q h hi hj hne;rw[List.pairwise_cons] at h;cases i with
  | zero =>
   cases j with
   | zero=>exact absurd rfl hne
   | succ j =>
    rw[fU] at hi;rw[ep] at hj;rw[←Option.some.inj hi];exact h.1 q (lp hj)
  | succ i =>
   cases j with
   | zero =>
    rw[fU] at hj;rw[ep] at hi;rw[←Option.some.inj hj];exact Pc.ig (h.1 p (lp hi))
   | succ j=>rw[ep] at hi hj; exact ih h.2 hi hj (fun e=>hne (by rw[e]))
theorem lD:∀{ps:List Pc} {r:Pc},r ∈ ps→∃k,pk ps k=some r:=by
 intro ps
 induction ps with
 | nil=>intro r h; cases h
 | cons p l ih =>
  intro r h;rcases List.mem_cons.1 h with rfl|h
  ·exact⟨0,rfl⟩
  ·obtain⟨k,hk⟩:=ih h; exact⟨k+1,hk⟩
theorem Hp.Ef (h:Hp m0 m ps) {k:Nat} {p q:Pc} (hp:pk ps k=some p) (hpo:∀b,¬p.ow b) (hq:q.ok m0.next m) (hqo:∀b,¬q.ow b) (hb:∀b,q.any b→p.any b):Hp m0 m (q::ps) where
 ext:=h.ext
 ok:=fun r hr=>by
  rcases List.mem_cons.1 hr with rfl|hr
  ·exact hq
  ·exact h.ok r hr
 apart:=List.pairwise_cons.2 ⟨fun r hr=>⟨fun b h1 _=>hqo b h1,fun b h1 h2=>by
  obtain⟨k',hk'⟩:=lD hr;have hne:k≠k':=fun e=>by
   rw[←e,hp] at hk';exact hpo b (by rw[Option.some.inj hk']; exact h1)
  exact(eY h.apart hp hk' hne).2 b h1 (hb b h2)⟩,h.apart⟩
theorem Hp.more (h:Hp m0 m ps) {k:Nat} {p q:Pc} (hp:pk ps k=some p) (hpo:p.own=false) (hq:q.ok m0.next m) (hqo:q.own=false) (hb:∀b,q.lW=some b→p.lW=some b) (hpg:∀b,¬p.Gj b:=by exact fun _ h=>h) (hqg:∀b,¬q.vg b:=by exact fun _ h=>h):Hp m0 m (q::ps) :=
 h.Ef hp (fun b h=>h.elim (fun h=>by rw[hpo] at h; cases h.1) (hpg b)) hq (fun b h=>h.elim (fun h=>by rw[hqo] at h; cases h.1) fun h=>hqg b (by cases q with|gen g=>exact .inl h|_=>exact h)) fun b h=>h.elim (fun h=>.inl (hb b h)) fun h=>absurd h (hqg b)
theorem sF (h:ps.Pairwise Pc.apart):∀{ks:List Nat} {qs:List Pc},k7 ks=true→aa ps ks=some qs→qs.Pairwise Pc.apart:=by
 intro ks
 induction ks with
 | nil=>intro qs _ e; simp only[aa,Option.some.injEq] at e; subst e; exact .nil
 | cons k ks ih =>
  intro qs hnd e;simp only[k7,Bool.and_eq_true,Bool.not_eq_true',List.any_eq_false] at hnd;simp only[aa] at e
  split at e
  ·rename_i p hp
   split at e
   ·rename_i qs' hqs;simp only[Option.some.injEq] at e;subst e;refine List.pairwise_cons.2 ⟨fun q hq=>?_,ih hnd.2 hqs⟩;obtain⟨k',h1,h2⟩:=pB hqs q hq;exact eY h hp h2 fun e=>hnd.1 k' h1 (by rw[e]; exact Nat.beq_refl _)
   ·cases e
  ·cases e
theorem Hp.aa (h:Hp m0 m ps) (ks:List Nat) {qs:List Pc} (hnd:k7 ks=true) (e:W.aa ps ks=some qs):Hp m0 m qs where
 ext:=h.ext
 ok:=fun q hq=>by
  obtain⟨k,_,hk⟩:=pB e q hq;exact h.ok q (lp hk)
 apart:=sF h.apart hnd e
theorem Pc.BE {lo lo':Nat} {m:AMem} {p:Pc} (h:p.ok lo m) (hle:lo'≤lo):p.ok lo' m:=by
 have up:∀{b w n es tg},Own lo m b w n es tg→Own lo' m b w n es tg:=fun ho=>⟨Nat.le_trans hle ho.1,ho.2⟩;cases p with
 | obj b o=>exact⟨Nat.le_trans hle h.1,h.2⟩
 | arr b w n es tg=>exact up h
 | sl a w n es =>
  rcases h with h1|⟨b,tg,e,h1⟩
  ·exact .inl h1
  ·exact .inr ⟨b,tg,e,up h1⟩
 | rd a cap w n es=>exact h
 | ro b o w n es=>exact h
 | gen g=>exact⟨h.1,fun hf b hb=>Nat.le_trans hle (h.2 hf b hb)⟩
theorem Hp.B0 (h:Hp m0 m ps) {new:List Pc} (h':Hp m m' new) (hbd:∀p ∈ new,p.bound=true) (hro:∀p ∈ new,∀b,p.any b→m.next≤b∨(¬p.ow b∧∃q ∈ ps,(∀b,¬q.ow b)∧q.any b)):Hp m0 m' (new++ps) where
 ext:=h.ext.trans h'.ext
 ok:=fun q hq=>by
  rcases List.mem_append.1 hq with hq|hq
  ·exact Pc.BE (h'.ok q hq) h.ext.next
  ·exact Pc.gJ (h.ok q hq) h'.ext.next fun b _ hlt=>h'.ext.same b hlt
 apart:=List.pairwise_append.2 ⟨h'.apart,h.apart,fun p hp q hq=>⟨fun b h1 h2=>by
  have:=Pc.xc (h'.ok p hp) (hbd p hp) h1;have:=Pc.eh (h.ok q hq) h2;omega,fun b h1 h2=>by
  rcases hro p hp b h2 with h3|⟨_,r,hr,hr1,hr2⟩
  ·have:=Pc.eh (h.ok q hq) (Pc.jP h1);omega
  ·obtain⟨i,hi⟩:=lD hq;obtain⟨j,hj⟩:=lD hr;have hne:i≠j:=fun e=>by
    rw[e,hj] at hi;exact hr1 b (by rw[Option.some.inj hi]; exact h1)
   exact(eY h.apart hi hj hne).1 b h1 hr2⟩⟩
theorem Hp.after (h:Hp m0 m ps) {new:List Pc} (h':Hp m m' new) (hro:∀p ∈ new,p.own=true):Hp m0 m' (new++ps) :=
 h.B0 h' (fun p hp=>by have:=hro p hp; cases p<;>first|rfl|cases this) fun p hp b hb=>.inl (Pc.yo (h'.ok p hp) (hro p hp) (Pc.s9 (hro p hp) hb))
def owns (ps:List Pc) (b:Nat):Prop:=∃p ∈ ps,p.ow b
theorem Hp.dh (h:Hp m0 m ps):∀b,owns ps b→b<m.next:=fun _ ⟨p,hp,hb⟩=>Pc.eh (h.ok p hp) (Pc.jP hb)
def bu (H:Nat→Prop):GPc:={ ow:=H,rd:=fun _=>False,P:=fun m=>∀b,H b→b<m.next,fr:=true,st:=fun _ _ h hn _ b hb=>Nat.lt_of_lt_of_le (h b hb) hn,lt:=fun _ b h hb=>hb.elim (h b) fun h=>h.elim}
theorem Hp.kV (m:AMem) {H:Nat→Prop} (hH:∀b,H b→b<m.next):Hp m m [.gen (bu H)]:=⟨.refl m,fun p h=>by rw[List.mem_singleton.1 h]; exact⟨hH,fun h=>by cases h⟩,List.pairwise_singleton ..⟩
theorem Hp.yR (h:Hp m0 m ps) {new:List Pc} (h':Hp m m' (new++[.gen (bu (owns ps))])) (hbd:∀p ∈ new,p.bound=true):Hp m0 m' (new++ps) where
 ext:=h.ext.trans h'.ext
 ok:=fun q hq=>by
  rcases List.mem_append.1 hq with hq|hq
  ·exact Pc.BE (h'.ok q (List.mem_append_left _ hq)) h.ext.next
  ·exact Pc.gJ (h.ok q hq) h'.ext.next fun b _ hlt=>h'.ext.same b hlt
 apart:=List.pairwise_append.2 ⟨(List.pairwise_append.1 h'.apart).1,h.apart,fun p hp q hq=>⟨fun b h1 h2=>by
  have:=Pc.xc (h'.ok p (List.mem_append_left _ hp)) (hbd p hp) h1;have:=Pc.eh (h.ok q hq) h2;omega,fun b h1 h2=>((List.pairwise_append.1 h'.apart).2.2 p hp _ (List.mem_singleton.2 rfl)).2 b (.inr ⟨q,hq,h1⟩) h2⟩⟩
theorem Hp.gS (h:Hp m0 m ps) {k cap w n:Nat} {a:Option Addr} {es:List (List Value)} (hp:pk ps k=some (.rd a cap w n es)):∀b,iE a=some b→¬owns ps b:=fun b hb ⟨q,hq,h1⟩=>by
 obtain⟨i,hi⟩:=lD hq;have hne:i≠k:=fun e=>by
  rw[e,hp] at hi;cases hi;exact h1.elim (fun h=>by cases h.1) fun h=>h.elim
 exact(eY h.apart hi hp hne).1 b h1 (.inl hb)
end
structure TyI (P:Program) (ty:TypeId) (ag:Bool) (sz:Nat):Prop where
 known:known P ty=true
 agg:cZ P ty=ag
 size:aq P ty=sz
structure SlT (P:Program) (ty elem:TypeId) (w:Nat):Prop where
 und:P.underlying ty=some (.slice elem)
 known:known P elem=true
 size:aq P elem=w
 pos:0<w
 zero:(bh P elem).any (fun z=>z.cells.size == w && z.cells.toList.all aF)=true
 bytes:∃i,P.info? elem=some i∧i.bytes≠0∧i.bytes≤1024
structure ArT (P:Program) (ty elem:TypeId) (len w:Nat):Prop where
 und:P.underlying ty=some (.array len elem)
 known:known P elem=true
 size:aq P elem=w
def DU (P:Program) (ty elem:TypeId) (w:Nat):Bool :=
 (match P.underlying ty with|some (.slice e)=>Nat.beq e elem|_=>false) && known P elem && Nat.beq (aq P elem) w && Nat.blt 0 w && (bh P elem).any (fun z=>z.cells.size == w && z.cells.toList.all aF) && (match P.info? elem with|some i=>!(Nat.beq i.bytes 0) && Nat.ble i.bytes 1024|none=>false)
theorem SlT.of {P:Program} {ty elem:TypeId} {w:Nat} (h:DU P ty elem w=true):SlT P ty elem w:=by
 simp only[DU,Bool.and_eq_true] at h;obtain⟨⟨⟨⟨⟨h1,h2⟩,h3⟩,h4⟩,h5⟩,h6⟩:=h;refine⟨?_,h2,Nat.eq_of_beq_eq_true h3,by rwa[Nat.blt_eq] at h4,h5,?_⟩
 ·split at h1
  ·rename_i e he; rw[he,Nat.eq_of_beq_eq_true h1]
  ·cases h1
 ·split at h6
  ·rename_i i hi;simp only[Bool.and_eq_true,Bool.not_eq_true'] at h6;exact⟨i,hi,Nat.ne_of_beq_eq_false h6.1,Nat.le_of_ble_eq_true h6.2⟩
  ·cases h6
section
variable {E : Env} {n : Nat} {m0 : AMem} {fs : Fs} {ps : List Pc}
def Od (E:Env) (m0:AMem) (fs:Fs) (ps:List Pc) (o:Op) (v:Value) (ps':List Pc):Prop :=
 ∀t m,Fr t fs→Hp m0 m ps→(∀b,aD E t o=some b→b<m.next)∧∀K:Value→AMem→Prop,(∀m',Hp m0 m' ps'→K v m')→bf E t m o K
def Ox (E:Env) (m0:AMem) (fs:Fs) (ps:List Pc) (o:Op) {α:Type} (V:α→Value) (N:α→List Pc):Prop :=
 ∀t m,Fr t fs→Hp m0 m ps→(∀b,aD E t o=some b→b<m.next)∧∀K:Value→AMem→Prop,(∀x m',Hp m0 m' (N x)→K (V x) m')→bf E t m o K
theorem Od.pure {o:Op} {v:Value} (hr:∀t,aD E t o=none) (h:∀t m,Fr t fs→∀K,bf E t m o K=K v m):Od E m0 fs ps o v ps :=
 fun t m hf hp=>⟨fun b hb=>(by rw[hr] at hb; cases hb),fun K hK=>by rw[h t m hf]; exact hK m hp⟩
variable {x y z : Operand} {a b r v : Value} {ty ty' : TypeId}
theorem U (h:ev E fs x=some v):Od E m0 fs ps (.move x) v ps:=.pure (fun _=>rfl) fun _ _ hf=>Go.Ab.Cq (hf.ev h)
theorem ah (h:ev E fs x=some v):Od E m0 fs ps (.assign x) v ps:=.pure (fun _=>rfl) fun _ _ hf=>Go.Ab.w8 (hf.ev h)
theorem iF {c:Operand} (hc:ev E fs c=some (.bool true)) (h:ev E fs x=some v):Od E m0 fs ps (.pick c x y) v ps:=.pure (fun _=>rfl) fun _ _ hf=>Go.Ab.zz (hf.ev hc) (hf.ev h)
theorem ax {c:Operand} (hc:ev E fs c=some (.bool false)) (h:ev E fs y=some v):Od E m0 fs ps (.pick c x y) v ps:=.pure (fun _=>rfl) fun _ _ hf=>Go.Ab.AL (hf.ev hc) (hf.ev h)
theorem aj {op:BinOp} (h:ev E fs x=some a) (h':ev E fs y=some b) (hr:bw op ty E.P a b=some r):Od E m0 fs ps (.binOp op ty x y ty') r ps:=.pure (fun _=>rfl) fun _ _ hf=>Go.Ab.DD (hf.ev h) (hf.ev h') hr
theorem fb {op:UnOp} (h:ev E fs x=some a) (hr:uK op a=some r):Od E m0 fs ps (.unOp op ty x) r ps:=.pure (fun _=>rfl) fun _ _ hf=>Go.Ab.fb (hf.ev h) hr
theorem Er (h:ev E fs x=some a) (hr:ez E.P ty ty' a=some r):Od E m0 fs ps (.convert ty ty' x) r ps:=.pure (fun _=>rfl) fun _ _ hf=>Go.Ab.CR (hf.ev h) hr
theorem aB {f:Nat} (h:ev E fs x=some a) (hr:aN E.P ty a f=some r):Od E m0 fs ps (.fieldAddr ty x f) r ps:=.pure (fun _=>rfl) fun _ _ hf=>Go.Ab.rv (hf.ev h) hr
theorem vq (h:ev E fs x=some a) (h':ev E fs y=some b) (hr:bq E.P ty a b=some r):Od E m0 fs ps (.indexAddr ty x y) r ps:=.pure (fun _=>rfl) fun _ _ hf=>Go.Ab.rS (hf.ev h) (hf.ev h') hr
theorem bt {i:Nat} {vs:Array Value} (h:ev E fs x=some (.tuple vs)) (hr:vs[i]? = some r):Od E m0 fs ps (.extract x i) r ps:=.pure (fun _=>rfl) fun _ _ hf=>Go.Ab.vf (hf.ev h) hr
theorem sr {f:FuncId} {xs ys:Array Operand} {vs ws:List Value} (h:e8 E fs xs.toList=some vs) (h':e8 E fs ys.toList=some ws):Od E m0 fs ps (.makeFunc (.func f) xs ys) (.func (.func f) vs.toArray ws.toArray) ps :=
 .pure (fun _=>rfl) fun _ _ hf K=>by rw[Go.Ab.rT,hf.e8 h,Go.Ab.dj,hf.e8 h',Go.Ab.dj]
theorem D7 {bi:Builtin} {ars:Array Operand} {ts:Array TypeId} {vs:List Value} (h:e8 E fs ars.toList=some vs) (hn:(match bi with | .len | .cap=>false|_=>true)=true) (hr:∀m,aL E.P bi ts vs m=some (r,m)):Od E m0 fs ps (.call ⟨.builtin bi,ars,ts⟩) r ps :=
 .pure (fun _=>by cases bi<;>first|rfl|cases hn) fun _ _ hf K=>Go.Ab.cC (hf.e8 h) (hr _) K
theorem cr {parts:Array (Nat × Operand)} {vs:List (Nat × Value)} {z:Value} (h:xJ E fs parts.toList=some vs) (hz:bh E.P ty=some z) (hpz:bc z=true) (hr:ic E.P ty vs=some r):Od E m0 fs ps (.build ty parts) r ps :=
 .pure (fun _=>rfl) fun t m hf K=>by
  have:cf E t m (.build ty parts)=some (r,m):=by simp only[cf,hf.xJ h,hz,hpz,if_true,hr,Option.map_some]
  exact Go.Ab.yK rfl this K
def vQ (ag:Bool) (sz:Nat) (cs:List Value) (o:Nat):Option Value :=
 match ag with
 | true=>match Nat.beq ((cs.drop o).take sz).length sz with
  | true=>some (.agg ((cs.drop o).take sz).toArray)
  | false=>none
 | false=>cs[o]?
theorem qL {P:Program} {m:AMem} {ag:Bool} {sz b o:Nat} {cs:List Value} {tg:Tag} (ht:TyI P ty ag sz) (hg:m.get b=some (.cells cs tg)) (h:vQ ag sz cs o=some v):cT P ty (ptr b o) m=some v:=by
 cases ag with
 | false=>exact zp ht.known ht.agg hg h
 | true =>
  simp only[vQ] at h
  split at h
  ·rename_i e;cases h;exact AV ht.known ht.agg ht.size hg rfl (Nat.eq_of_beq_eq_true e)
  ·cases h
def vp (ag:Bool) (sz c w:Nat):Bool:=(match ag with|true=>true|false=>Nat.beq sz 1) && Nat.ble (c+sz) w
theorem mG {ag:Bool} {sz c w:Nat} (h:vp ag sz c w=true):(ag=false→sz=1)∧c+sz≤w:=by
 simp only[vp,Bool.and_eq_true] at h;exact⟨fun e=>by subst e; exact Nat.eq_of_beq_eq_true h.1,Nat.le_of_ble_eq_true h.2⟩
theorem Od.load {b o:Nat} (hx:ev E fs x=some (ptr b o)) (h:∀m,Hp m0 m ps→b<m.next∧cT E.P ty (ptr b o) m=some v):Od E m0 fs ps (.load ty x) v ps :=
 fun t m hf hp=>⟨fun b' hb=>by
  simp only[aD,hf.ev hx] at hb;cases hb; exact(h m hp).1,fun K hK=>by
  rw[Go.Ab.yI (hf.ev hx) (h m hp).2]; exact hK m hp⟩
theorem al {ag:Bool} {sz b o k:Nat} {cs:List Value} {tg:Tag} (ht:TyI E.P ty ag sz) (hx:ev E fs x=some (ptr b o)) (hp:pk ps k=some (.obj b (.cells cs tg))) (hv:vQ ag sz cs o=some v):Od E m0 fs ps (.load ty x) v ps :=
 .load hx fun _ h=>⟨(h.get hp).2.1,qL ht (h.get hp).2.2 hv⟩
theorem AQ {ag:Bool} {sz o w c:Nat} {all e:List Value} (he:(all.drop o).take w=e) (hsz:ag=false→sz=1) (hc:c+sz≤w) (h:vQ ag sz e c=some v):vQ ag sz all (o+c)=some v:=by
 subst he;have key:((List.take w (List.drop o all)).drop c).take sz=(all.drop (o+c)).take sz:=by
  rw[List.drop_take,List.take_take,List.drop_drop,Nat.min_eq_left (by omega)]
 cases ag with
 | true=>simp only[vQ,key] at h ⊢; exact h
 | false =>
  simp only[vQ,List.getElem?_take,List.getElem?_drop] at h ⊢
  split at h
  ·exact h
  ·cases h
theorem jl {P:Program} {m:AMem} {ag:Bool} {sz b o w j c:Nat} {es:List (List Value)} {e:List Value} (ht:TyI P ty ag sz) (hl:oJ m b o w es) (he:es[j]? = some e) (hv:vQ ag sz e c=some v) (hsz:ag=false→sz=1) (hc:c+sz≤w):cT P ty (ptr b (o+j*w+c)) m=some v:=by
 obtain⟨_,all,tg,hg,_,h⟩:=hl;exact qL ht hg (AQ (h j e he).1 hsz hc hv)
theorem p3 {w:Nat}:∀{es:List (List Value)} {j:Nat} {e:List Value},(∀e ∈ es,e.length=w)→es[j]? = some e→(es.flatten.drop (j*w)).take w=e:=by
 intro es
 induction es with
 | nil=>intro j e _ h; simp at h
 | cons x es ih =>
  intro j e hw h;have hx:=hw x (by simp)
  cases j with
  | zero =>
   simp only[List.getElem?_cons_zero,Option.some.injEq] at h;subst h;rw[List.flatten_cons,Nat.zero_mul,List.drop_zero,List.take_left' hx]
  | succ j =>
   rw[List.getElem?_cons_succ] at h;rw[List.flatten_cons,Nat.succ_mul,Nat.add_comm,←List.drop_drop,List.drop_left' hx];exact ih (fun e he=>hw e (by simp[he])) h
theorem Own.C2 {lo:Nat} {m:AMem} {b w n:Nat} {es:List (List Value)} {tg:Tag} (h:Own lo m b w n es tg):oJ m b 0 w es :=
 ⟨h.2.1,_,tg,h.2.2.1,fun sz e=>(by rcases h.2.2.2.2.2.1 with h1|h1<;>rw[h1] at e<;>cases e; rfl),fun i e he=>⟨by rw[Nat.zero_add]; exact p3 h.2.2.2.2.1 he,h.2.2.2.2.1 e (List.mem_of_getElem? he)⟩⟩
theorem gr {ag:Bool} {sz b w n j c k:Nat} {es:List (List Value)} {tg:Tag} {e:List Value} (ht:TyI E.P ty ag sz) (hx:ev E fs x=some (ptr b (j*w+c))) (hp:pk ps k=some (.arr b w n es tg)) (he:es[j]? = some e) (hv:vQ ag sz e c=some v) (hs:vp ag sz c w=true):Od E m0 fs ps (.load ty x) v ps:=by
 have hs:=mG hs;refine .load hx fun m h=>⟨(h.get hp).2.1,?_⟩;have:=jl (P:=E.P) ht (Own.C2 (h.get hp)) he hv hs.1 hs.2;rwa[Nat.zero_add] at this
theorem bG {ag:Bool} {sz b o w n j c k:Nat} {es:List (List Value)} {e:List Value} (ht:TyI E.P ty ag sz) (hx:ev E fs x=some (ptr b (o+j*w+c))) (hp:pk ps k=some (.ro b o w n es)) (he:es[j]? = some e) (hv:vQ ag sz e c=some v) (hs:vp ag sz c w=true):Od E m0 fs ps (.load ty x) v ps:=by
 have hs:=mG hs;exact .load hx fun m h=>⟨(h.get hp).2.1,jl (P:=E.P) ht (h.get hp).2 he hv hs.1 hs.2⟩
theorem bB {elem:TypeId} {b o w n cap:Nat} {i:Int} {kd:IntKind} (ht:SlT E.P ty elem w) (hx:ev E fs x=some (.slice (some ⟨b,o,none⟩) n cap)) (hy:ev E fs y=some (.int kd i)) (hi:0≤i∧i.toNat<n):Od E m0 fs ps (.indexAddr ty x y) (ptr b (o+i.toNat*w+0)) ps:=by
 refine vq hx hy ?_;have hd:decide ((0:Int)≤i∧i<(n:Nat))=true:=by simp; omega
 simp only[bq,ht.und,ht.known,hd,Bool.and_self,if_true,ht.size,Nat.add_zero]
theorem du {elem:TypeId} {b w n cap:Nat} {i:Int} {kd:IntKind} (ht:SlT E.P ty elem w) (hx:ev E fs x=some (.slice (some ⟨b,0,none⟩) n cap)) (hy:ev E fs y=some (.int kd i)) (hi:0≤i∧i.toNat<n):Od E m0 fs ps (.indexAddr ty x y) (ptr b (i.toNat*w+0)) ps:=by
 have:=bB (m0:=m0) (ps:=ps) ht hx hy hi;rwa[Nat.zero_add] at this
theorem Hp.write {m:AMem} (h:Hp m0 m ps) {k b:Nat} {p p':Pc} {o':AObj} (hp:pk ps k=some p) (ho:p.own=true) (hb:p.lW=some b) (hb':p'.lW=some b) (ho':p'.own=true) (hok:p'.ok m0.next (m.set b o')):Hp m0 (m.set b o') (bH ps k p') :=
 h.put hp ho (hb'.trans hb.symm) ho' (Nat.le_refl _) (h.ext.set (Pc.yo (h.get hp) ho hb) _) hok fun x hx _=>by
  rw[AMem.aY,if_neg (fun e=>hx (by rw[e]; exact hb))]
def wB (cs:List Value) (o:Nat) (v:Value) (sz:Nat):Option (List Value) :=
 match Nat.beq v.cells.toList.length sz && Nat.blt 0 sz && aJ v.cells.toList && Nat.ble (o+sz) cs.length with
 | true=>some (az cs o v.cells.toList)
 | false=>none
theorem eo:∀(cs:List Value) (o:Nat) (vs:List Value),o+vs.length≤cs.length→(az cs o vs).length=cs.length
 | cs,0,[],_=>by cases cs<;>rfl
 | [],0,v::vs,h=>by simp at h
 | c::cs,0,v::vs,h=>by simp only[az,List.length_cons]; rw[eo cs 0 vs (by simpa using h)]
 | [],o+1,vs,h=>by simp at h
 | c::cs,o+1,vs,h=>by simp only[az,List.length_cons]; rw[eo cs o vs (by simp at h; omega)]
theorem nu {P:Program} {m:AMem} {ag:Bool} {sz b o:Nat} {cs cs':List Value} {tg:Tag} (ht:TyI P ty ag sz) (hg:m.get b=some (.cells cs tg)) (htg:tg≠.ro) (h:wB cs o v sz=some cs'):dN P ty (ptr b o) v m=some (m.set b (.cells cs' tg)):=by
 simp only[wB] at h
 split at h
 ·rename_i e;cases h;simp only[Bool.and_eq_true] at e;obtain⟨⟨⟨h1,h2⟩,h3⟩,h4⟩:=e;have h1:=Nat.eq_of_beq_eq_true h1;have h2:0<sz:=by rwa[Nat.blt_eq] at h2
  have h4:=Nat.le_of_ble_eq_true h4;have hs:(v.cells.size == aq P ty)=true:=by rw[ht.size,←h1]; simp
  simp only[dN,ptr,ht.known,hs,h3,Bool.and_self,if_true,AMem.bS];cases hc:v.cells.toList with
  | nil=>rw[hc] at h1; simp at h1; omega
  | cons x xs =>
   rw[hc] at h1;simp only[hg];cases tg with
   | ro=>exact absurd rfl htg
   | own=>rw[if_pos (by rw[h1]; exact h4)]
   | more s=>rw[if_pos (by rw[h1]; exact h4)]
 ·cases h
theorem Od.store {bk o:Nat} {p':List Pc} (hx:ev E fs x=some (ptr bk o)) (hy:ev E fs y=some v) (h:∀m,Hp m0 m ps→∃m',dN E.P ty (ptr bk o) v m=some m'∧Hp m0 m' p'):Od E m0 fs ps (.store ty x y) undef p' :=
 fun t m hf hp=>⟨fun b hb=>by simp[aD] at hb,fun K hK=>by
  obtain⟨m',h1,h2⟩:=h m hp;rw[Go.Ab.Ay (hf.ev hx) (hf.ev hy) h1]; exact hK m' h2⟩
def xG:Tag→Bool
 | .ro=>false
 | _=>true
theorem ba {ag:Bool} {sz b o k:Nat} {cs cs':List Value} {tg:Tag} (ht:TyI E.P ty ag sz) (hx:ev E fs x=some (ptr b o)) (hy:ev E fs y=some v) (hp:pk ps k=some (.obj b (.cells cs tg))) (htg:xG tg=true) (hv:wB cs o v sz=some cs'):Od E m0 fs ps (.store ty x y) undef (bH ps k (.obj b (.cells cs' tg))) :=
 .store hx hy fun m h=>⟨_,nu ht (h.get hp).2.2 (fun e=>by rw[e] at htg; cases htg) hv,h.write hp rfl rfl rfl rfl ⟨(h.get hp).1,(h.get hp).2.1,by rw[AMem.aY,if_pos rfl]⟩⟩
theorem nz:∀(l r vs:List Value) (c:Nat),c+vs.length≤l.length→az (l++r) c vs=az l c vs++r:=by
 intro l r
 induction l with
 | nil =>
  intro vs c h;have h0:c+vs.length≤0:=h;have h1:c=0:=by omega
  have h2:vs = []:=List.length_eq_zero_iff.1 (by omega)
  subst h1 h2;cases r<;>rfl
 | cons a l ihl =>
  intro vs c h;cases c with
  | zero=>cases vs with
   | nil=>rfl
   | cons v vs=>simp only[List.cons_append,az]; rw[ihl vs 0 (by simpa using h)]
  | succ c=>simp only[List.cons_append,az]; rw[ihl vs c (by simp at h; omega)]
theorem iY:∀(l r vs:List Value) (o:Nat),az (l++r) (l.length+o) vs=l++az r o vs:=by
 intro l r vs
 induction l with
 | nil=>intro o; simp
 | cons a l ihl=>intro o; rw[List.cons_append,List.length_cons,show l.length+1+o=(l.length+o)+1 by omega,az,ihl o]; rfl
theorem lQ {w c:Nat} {vs:List Value}:∀{es:List (List Value)} {j:Nat} {e:List Value},(∀e ∈ es,e.length=w)→es[j]? = some e→c+vs.length≤w→az es.flatten (j*w+c) vs=(es.set j (az e c vs)).flatten:=by
 intro es
 induction es with
 | nil=>intro j e _ h; simp at h
 | cons x es ih =>
  intro j e hw h hc;have hx:=hw x (by simp)
  cases j with
  | zero =>
   simp only[List.getElem?_cons_zero,Option.some.injEq] at h;subst h;rw[List.flatten_cons,Nat.zero_mul,Nat.zero_add,nz _ _ _ _ (by omega)]
   simp[List.flatten_cons]
  | succ j =>
   rw[List.getElem?_cons_succ] at h;rw[List.flatten_cons,Nat.succ_mul,show j*w+w+c=x.length+(j*w+c) by omega,iY,ih (fun e he=>hw e (by simp[he])) h hc]
   simp[List.flatten_cons]
theorem Dv {ag:Bool} {sz b w n j c k:Nat} {es:List (List Value)} {e e':List Value} {tg:Tag} (ht:TyI E.P ty ag sz) (hx:ev E fs x=some (ptr b (j*w+c))) (hy:ev E fs y=some v) (hp:pk ps k=some (.arr b w n es tg)) (he:es[j]? = some e) (hv:wB e c v sz=some e'):Od E m0 fs ps (.store ty x y) undef (bH ps k (.arr b w n (es.set j e') tg)):=by
 refine .store hx hy fun m h=>?_;obtain⟨g1,g2,g3,g4,g5,g6,g7⟩:=h.get hp;have hew:=g5 e (List.mem_of_getElem? he);simp only[wB] at hv
 split at hv
 ·rename_i e1;cases hv;simp only[Bool.and_eq_true] at e1;obtain⟨⟨⟨h1,h2⟩,h3⟩,h4⟩:=e1;have h1:=Nat.eq_of_beq_eq_true h1;have h2':0<sz:=by rwa[Nat.blt_eq] at h2
  have h4:=Nat.le_of_ble_eq_true h4;have hj:j<es.length:=(List.getElem?_eq_some_iff.1 he).1;have hfl:∀(l:List (List Value)),(∀e ∈ l,e.length=w)→l.flatten.length=l.length*w:=by
   intro l
   induction l with
   | nil=>intro _; simp
   | cons x l ih=>intro hl; rw[List.flatten_cons,List.length_append,ih (fun e he=>hl e (by simp[he])),hl x (by simp),List.length_cons,Nat.succ_mul]; omega
  have hmul:(j+1)*w≤es.length*w:=Nat.mul_le_mul_right w hj;rw[Nat.succ_mul] at hmul;have hst:wB es.flatten (j*w+c) v sz=some (az es.flatten (j*w+c) v.cells.toList):=by
   have:(Nat.beq v.cells.toList.length sz && Nat.blt 0 sz && aJ v.cells.toList && Nat.ble (j*w+c+sz) es.flatten.length)=true:=by
    simp only[Bool.and_eq_true];exact⟨⟨⟨by rw[h1]; exact Nat.beq_refl _,h2⟩,h3⟩,Nat.ble_eq_true_of_le (by rw[hfl es g5]; omega)⟩
   simp only[wB,this]
  refine⟨_,nu ht g3 (by rcases g6 with rfl|rfl<;>simp) hst,h.write hp rfl rfl rfl rfl ?_⟩
  refine⟨g1,g2,?_,by simpa using g4,fun e'' he''=>?_,g6,g7⟩
  ·rw[AMem.aY,if_pos rfl,lQ g5 he (by omega)]
  ·rcases List.mem_or_eq_of_mem_set he'' with h5|h5
   ·exact g5 _ h5
   ·rw[h5,eo _ _ _ (by omega)]; exact hew
 ·cases hv
theorem Ox.made {o:Op} {ob:Nat→AObj} {p:Nat→Pc} {V:Nat→Value} (hr:∀t,aD E t o=none) (h:∀t m,Fr t fs→∀K,bf E t m o K=K (V m.next) (m.alloc (ob m.next)))
  (hb:∀b,(p b).lW=some b) (hp:∀lo m b,lo≤b→b<m.next→m.get b=some (ob b)→(p b).ok lo m) (hpg:∀b x,¬(p b).vg x:=by exact fun _ _ h=>h):Ox E m0 fs ps o V (fun b=>p b::ps) :=
 fun t m hf hm=>⟨fun b hb=>(by rw[hr] at hb; cases hb),fun K hK=>by
  rw[h t m hf];refine hK m.next _ (hm.cons (Nat.le_succ _) (hm.ext.alloc _) (fun b hlt=>by rw[AMem.aU,if_neg (by omega)]) (hp _ _ _ hm.ext.next (Nat.lt_succ_self _) (by rw[AMem.aU,if_pos rfl])) (fun b' h'=>?_) (hpg _))
  rw[hb] at h'; cases h'; exact Nat.le_refl _⟩
theorem cb {z:Value} (hz:bh E.P ty=some z) (hp:bc z=true):Ox E m0 fs ps (.alloc ty) (fun b=>ptr b 0) (fun b=>.obj b (.cells z.cells.toList .own)::ps) :=
 .made (ob:=fun _=>.cells z.cells.toList .own) (p:=fun b=>.obj b (.cells z.cells.toList .own)) (fun _=>rfl) (fun _ _ _ K=>Go.Ab.zD hz hp K) (fun _=>rfl) fun _ _ _ h1 h2 h3=>⟨h1,h2,h3⟩
theorem cy (h:ev E fs x=some v):Ox E m0 fs ps (.box ty x) (fun b=>ptr b 0) (fun b=>.obj b (.cells v.cells.toList .own)::ps) :=
 .made (ob:=fun _=>.cells v.cells.toList .own) (p:=fun b=>.obj b (.cells v.cells.toList .own)) (fun _=>rfl) (fun _ _ hf K=>Go.Ab.Ds (hf.ev h) K) (fun _=>rfl) fun _ _ _ h1 h2 h3=>⟨h1,h2,h3⟩
theorem Ev:Ox E m0 fs ps (.makeMap ty none) (fun b=>.map (some b)) (fun b=>.obj b (.map [])::ps) :=
 .made (ob:=fun _=>.map []) (p:=fun b=>.obj b (.map [])) (fun _=>rfl) (fun _ _ _ _=>Go.Ab.tp) (fun _=>rfl) fun _ _ _ h1 h2 h3=>⟨h1,h2,h3⟩
def D1 (P:Program) (elem:TypeId) (w len:Nat) (vs:List (Nat × Value)):Option (List Value) :=
 match dx P elem len with
 | some zs=>match zs.all aF && Nat.ble (len*w) 16777216 with
  | true=>fh (fun i=>some (i*w,w)) zs vs
  | false=>none
 | none=>none
def zv (w:Nat) (es:List (List Value)):Bool:=es.all fun e=>Nat.beq e.length w
theorem tZ {w:Nat} {es:List (List Value)} (h:zv w es=true):∀e ∈ es,e.length=w:=fun e he=>Nat.eq_of_beq_eq_true (List.all_eq_true.1 h e he)
theorem e6 {elem:TypeId} {w len:Nat} {parts:Array (Nat × Operand)} {vs:List (Nat × Value)} {es:List (List Value)} (ht:SlT E.P ty elem w) (h:xJ E fs parts.toList=some vs) (hf:D1 E.P elem w len vs=some es.flatten) (hl:Nat.beq es.length len=true) (hw:zv w es=true) :
  Ox E m0 fs ps (.buildSlice ty len parts) (fun b=>.slice (some ⟨b,0,none⟩) len len) (fun b=>.arr b w len es .own::ps):=by
 refine .made (ob:=fun _=>.cells es.flatten .own) (p:=fun b=>.arr b w len es .own) (fun _=>rfl) (fun t m hfr K=>?_) (fun _=>rfl) fun _ _ _ h1 h2 h3=>⟨h1,h2,h3,Nat.eq_of_beq_eq_true hl,tZ hw,.inl rfl,ht.pos⟩;simp only[D1] at hf
 split at hf
 ·rename_i zs hz
  split at hf
  ·rename_i hc;simp only[Bool.and_eq_true] at hc;have:cf E t m (.buildSlice ty len parts)=some (.slice (some ⟨m.next,0,none⟩) len len,m.alloc (.cells es.flatten .own)):=by
    have h2:¬(len*w>2 ^ 24):=by have:=Nat.le_of_ble_eq_true hc.2; omega
    simp only[cf,ht.und,hfr.xJ h,ht.known,ht.size,hz,hc.1,hf,Bool.not_true,Bool.false_or,decide_eq_false h2,if_true,Option.map_some]
    rfl
   exact Go.Ab.yK rfl this K
  ·cases hf
 ·cases hf
def lim (n:Nat):Bool:=Nat.ble n 1073741824
theorem iJ {z:List Value}:∀n,bM z n=(List.replicate n z).flatten
 | 0=>rfl
 | n+1=>by rw[bM,iJ n,List.replicate_succ,List.flatten_cons]
theorem FV {elem:TypeId} {w n:Nat} {i:Int} {z:Value} (ht:SlT E.P ty elem w) (hx:ev E fs x=some (.int .i64 i)) (hi:i=(n:Int)) (hl:lim n=true) (hz:bh E.P elem=some z) (hp:z.cells.toList.all aF=true) :
  Ox E m0 fs ps (.makeSlice ty x x) (fun b=>.slice (some ⟨b,0,none⟩) n n) (fun b=>.arr b w n (List.replicate n z.cells.toList) .own::ps):=by
 subst hi;have hzs:z.cells.size=w:=by have:=ht.zero; rw[hz] at this; simp only[Option.any_some,Bool.and_eq_true,beq_iff_eq] at this; exact this.1
 refine .made (ob:=fun _=>.cells (List.replicate n z.cells.toList).flatten .own) (p:=fun b=>.arr b w n (List.replicate n z.cells.toList) .own) (fun _=>rfl) (fun t m hfr K=>?_) (fun _=>rfl) fun _ _ _ h1 h2 h3=>⟨h1,h2,h3,by simp,fun e he=>by rw[List.eq_of_mem_replicate he]; simpa using hzs,.inl rfl,ht.pos⟩
 have hln:n≤1073741824:=Nat.le_of_ble_eq_true hl;obtain⟨inf,hi1,hi2,hi3⟩:=ht.bytes;have hzz:dx E.P elem n=some (List.replicate n z.cells.toList).flatten:=by
  simp only[dx,hz,ht.size];rw[if_pos hzs,iJ]
 have ha:(List.replicate n z.cells.toList).flatten.all aF=true:=by
  rw[List.all_eq_true];intro v hv;obtain⟨l,h1,h2⟩:=List.mem_flatten.1 hv;rw[List.eq_of_mem_replicate h1] at h2;exact List.all_eq_true.1 hp v h2
 have hmul:inf.bytes*n≤1024*1073741824:=Nat.mul_le_mul hi3 hln;have:cf E t m (.makeSlice ty x x)=some (.slice (some ⟨m.next,0,none⟩) n n,m.alloc (.cells (List.replicate n z.cells.toList).flatten .own)):=by
  have hc:(0:Int)≤(n:Int)∧(n:Int)≤(n:Int)∧(E.P.info? elem).any (fun i=>i.bytes*(n:Int)≤2 ^ 40 && i.bytes != 0)=true∧known E.P elem=true:=by
   refine⟨by omega,by omega,?_,ht.known⟩
   rw[hi1];have h5:((inf.bytes*n:Nat):Int)≤(1024*1073741824:Nat):=Int.ofNat_le.2 hmul;have h6:((inf.bytes*n:Nat):Int)=(inf.bytes:Int)*(n:Int):=Int.natCast_mul _ _;simp only[Option.any_some,Bool.and_eq_true,decide_eq_true_eq,bne_iff_ne,ne_eq];exact⟨by rw[←h6]; omega,hi2⟩
  simp only[cf,ht.und,hfr.ev hx,Int.toNat_natCast,hzz];rw[if_pos hc,if_pos ha]
 exact Go.Ab.yK rfl this K
end
end Go.Ab.W
end

section
namespace Go.Ab.W
open Go Go.Ab
attribute [local irreducible] Tm.at Trie.set Trie.get AMem.get AMem.set AMem.alloc AMem.ww AMem.kill
section
variable {E : Env} {n : Nat} {m0 m m' : AMem} {fs : Fs} {ps : List Pc} {x y : Operand} {v : Value} {ty : TypeId}
theorem Own.rd {lo b w n:Nat} {es:List (List Value)} {tg:Tag} (h:Own lo m b w n es tg):Rd m (some ⟨b,0,none⟩) n w n es :=
 ⟨h.2.2.2.1,Nat.le_refl _,.inr (.inr ⟨b,0,rfl,h.C2⟩)⟩
inductive IsRd:Pc→Option Addr→Nat→Nat→Nat→List (List Value)→Prop
 | arr (b w n:Nat) (es:List (List Value)) (tg:Tag):IsRd (.arr b w n es tg) (some ⟨b,0,none⟩) n w n es
 | sl (a:Option Addr) (w n:Nat) (es:List (List Value)):IsRd (.sl a w n es) a n w n es
 | rd (a:Option Addr) (cap w n:Nat) (es:List (List Value)):IsRd (.rd a cap w n es) a cap w n es
 | nil {p:Pc} (w:Nat):IsRd p none 0 w 0 []
theorem Pc.Ep {p:Pc} {a:Option Addr} {lo cap w n:Nat} {es:List (List Value)} (h:p.ok lo m) (hi:IsRd p a cap w n es):Rd m a cap w n es:=by
 cases hi with
 | arr b w n es tg=>exact Own.rd h
 | sl a w n es =>
  rcases h with⟨rfl,rfl,rfl,_⟩|⟨b,tg,rfl,h⟩
  ·exact⟨rfl,Nat.le_refl _,.inl ⟨rfl,rfl⟩⟩
  ·exact h.rd
 | rd a cap w n es=>exact h
 | nil w=>exact⟨rfl,Nat.le_refl _,.inl ⟨rfl,rfl⟩⟩
theorem Hp.rd (h:Hp m0 m ps) {k:Nat} {p:Pc} {a:Option Addr} {cap w n:Nat} {es:List (List Value)} (hp:pk ps k=some p) (hi:IsRd p a cap w n es):Rd m a cap w n es:=Pc.Ep (h.get hp) hi
theorem Rd.nil (m:AMem) (w:Nat):Rd m none 0 w 0 []:=⟨rfl,Nat.le_refl _,.inl ⟨rfl,rfl⟩⟩
theorem Rd.cells {a:Option Addr} {cap w n:Nat} {es:List (List Value)} (h:Rd m a cap w n es):ca w (.slice a n cap) n m=some es.flatten:=by
 obtain⟨h1,h2,h4⟩:=h
 by_cases hn:n=0
 ·subst hn;have:es = []:=List.length_eq_zero_iff.1 h1;subst this;cases a with
  | none=>rfl
  | some a=>obtain⟨b,o,sp⟩:=a; cases sp<;>rfl
 ·rcases h4 with h4|⟨b,sp,rfl,h4,_⟩|⟨b,o,rfl,_,all,tg,hg,_,hl⟩
  ·exact absurd h4.2 hn
  ·exact absurd h4 hn
  ·simp only[ca,if_neg hn,AMem.cL,hg];have key:∀(es:List (List Value)) (k:Nat),(∀i e,es[i]? = some e→(all.drop (o+(k+i)*w)).take w=e∧e.length=w)→(all.drop (o+k*w)).take (es.length*w)=es.flatten∧es.flatten.length=es.length*w:=by
    intro es
    induction es with
    | nil=>intro k _; simp
    | cons e es ih =>
     intro k hk;obtain⟨a1,a2⟩:=hk 0 e rfl;obtain⟨b1,b2⟩:=ih (k+1) fun i e' he'=>by
      have:=hk (i+1) e' (by simpa using he')
      rwa[show k+(i+1)=k+1+i by omega] at this
     rw[Nat.add_zero] at a1;refine⟨?_,by rw[List.flatten_cons,List.length_append,a2,b2,List.length_cons,Nat.succ_mul]; omega⟩
     rw[List.length_cons,Nat.succ_mul,Nat.add_comm,List.take_add,a1,List.drop_drop,List.flatten_cons,←b1,Nat.succ_mul,Nat.add_assoc]
   have:=key es 0 (fun i e he=>by rw[Nat.zero_add]; exact hl i e he)
   rw[Nat.zero_mul,Nat.add_zero,h1] at this;rw[this.1,if_pos this.2]
theorem Hp.renew (h:Hp m0 m ps) {k:Nat} {p p':Pc} (hp:pk ps k=some p) (hn:m.next≤m'.next) (hext:Ext m0 m') (hok:p'.ok m0.next m') (hb:∀b,p'.lW=some b→m.next≤b) (hpo:p.own=true) (hg:∀b,p.lW≠some b→b<m.next→m'.get b=m.get b) (hng:∀b,¬p'.vg b:=by exact fun _ h=>h):Hp m0 m' (bH ps k p') :=
 h.wD hp (fun b a=>.inr ((Pc.jP a).elim (hb b) fun h=>absurd h (hng b))) (fun b a=>.inr (a.elim (hb b) fun h=>absurd h (hng b))) hn hext hok fun b hb' hlt=>hg b (fun e=>hb' (.inl ⟨hpo,e⟩)) hlt
def fw (es:List (List Value)):Prop:=∀e ∈ es,e.all ki=true
theorem s6 {α:Type} {f:α→List Value} (h:∀x,(f x).all ki=true) (xs:List α):fw (xs.map f):=fun e he=>by
 obtain⟨x,_,rfl⟩:=List.mem_map.1 he; exact h x
theorem lZ {es:List (List Value)} (h:fw es):aJ es.flatten=true:=by
 unfold aJ;rw[List.all_eq_true];intro v hv;obtain⟨l,h1,h2⟩:=List.mem_flatten.1 hv;exact List.all_eq_true.1 (h l h1) v h2
theorem bJ {w:Nat}:∀{l:List (List Value)},(∀e ∈ l,e.length=w)→l.flatten.length=l.length*w:=by
 intro l
 induction l with
 | nil=>intro _; simp
 | cons x l ih=>intro hl; rw[List.flatten_cons,List.length_append,ih (fun e he=>hl e (by simp[he])),hl x (by simp),List.length_cons,Nat.succ_mul]; omega
theorem px {P:Program} {elem ty2:TypeId} {w k n0 c0:Nat} {a a0:Option Addr} {es e0:List (List Value)} (ht:SlT P ty elem w) (h2:∃e1,P.underlying ty2=some (.slice e1)) (h:Hp m0 m ps) (hp:pk ps k=some (.sl a w n es)) (hr:Rd m a0 c0 w n0 e0) (h1:∀e ∈ e0,e.length=w) (ho:fw e0) (hl:lim (n+n0)=true) :
  ∃a' m',bD P ty (some ty2) (.slice a n n) (.slice a0 n0 c0) m=some (.slice a' (n+n0) (n+n0),m')∧Hp m0 m' (bH ps k (.sl a' w (n+n0) (es++e0))):=by
 obtain⟨e1,h3⟩:=h2;obtain⟨inf,h4,h5,h6⟩:=ht.bytes;have hln:n+n0≤1073741824:=Nat.le_of_ble_eq_true hl;have hc:=hr.cells;have hlen2:e0.flatten.length=n0*w:=by rw[bJ h1,hr.1]
 have hnew:dA P elem (some ty2) (.slice a0 n0 c0) m=some (n0,e0.flatten):=by
  simp only[dA,Option.bind_some,h3,ht.size];have:ca w (.slice a0 n0 c0) n0 m=some e0.flatten:=hc;rw[this]; rfl
 have hfit:(P.info? elem).any (fun i=>cU i.bytes (n+n0) && i.bytes != 0)=true:=by
  rw[h4];have hmul:(2*(n+n0)+2000)*inf.bytes≤(2*1073741824+2000)*1024:=Nat.mul_le_mul (by omega) h6
  simp only[Option.any_some,cU,Bool.and_eq_true,decide_eq_true_eq,bne_iff_ne,ne_eq];exact⟨by omega,h5⟩
 have hzero:(bh P elem).any (fun z=>z.cells.size == w && z.cells.toList.all aF)=true:=ht.zero;have hpos:=ht.pos;have h7:(w == 0)=false:=by simp; omega
 have hguard:(!(known P elem) || aq P elem == 0 || !aJ e0.flatten || !(P.info? elem).any (fun i=>cU i.bytes (n+n0) && i.bytes != 0) || e0.flatten.length != n0*aq P elem || !(bh P elem).any (fun z=>z.cells.size == aq P elem && z.cells.toList.all aF))=false:=by
  rw[ht.size,ht.known,hfit,hzero,lZ ho,h7,hlen2]; simp
 have hres:∀a',(∃m',(.slice a' (n+n0) (n+n0),m')=((.slice a' (n+n0) (n+n0),m'):Value × AMem)):=fun a'=>⟨m,rfl⟩;have hpc:=h.get hp;have hext:=h.ext;rcases hpc with⟨rfl,rfl,rfl,_⟩|⟨b,tg,rfl,hb⟩
 ·
  by_cases h0:n0=0
  ·subst h0;have hes:e0 = []:=List.length_eq_zero_iff.1 hr.1;subst hes;refine⟨none,m,?_,?_⟩
   ·unfold bD;simp only[ht.und,hnew];rw[if_neg (by rw[hguard]; exact Bool.false_ne_true)]
    rfl
   ·have:bH ps k (.sl none w (0+0) ([]++[]))=ps:=by
     have:∀(l:List Pc) (k:Nat) (p:Pc),pk l k=some p→bH l k p=l:=by
      intro l
      induction l with
      | nil=>intro k p h; simp[pk] at h
      | cons q l ih =>
       intro k p h;cases k with
       | zero=>rw[fU] at h; rw[fq,Option.some.inj h]
       | succ k=>rw[ep] at h; rw[dF,ih k p h]
     exact this ps k _ hp
    rw[this]; exact h
  ·refine⟨some ⟨m.next,0,none⟩,m.alloc (.cells e0.flatten (.more w)),?_,?_⟩
   ·unfold bD;simp only[ht.und,hnew];rw[if_neg (by rw[hguard]; exact Bool.false_ne_true)]
    simp only[ht.size];rw[if_neg (by simp),if_neg h0,Nat.zero_add]
   ·refine h.renew hp (by simp only[AMem.next_alloc]; omega) (hext.alloc _) (.inr ⟨m.next,.more w,rfl,hext.next,(by rw[AMem.next_alloc]; omega),?_,?_,?_,.inr rfl,hpos⟩) (fun b' hb'=>?_) rfl fun b' _ hlt=>?_
    ·rw[AMem.aU,if_pos rfl,List.nil_append]
    ·rw[List.nil_append,hr.1,Nat.zero_add]
    ·rw[List.nil_append]; exact h1
    ·cases hb'; exact Nat.le_refl _
    ·rw[AMem.aU,if_neg (by omega)]
 ·obtain⟨g4,g5,g0,g1,g2,g3,g6⟩:=hb;have hlen:es.flatten.length=n*w:=by rw[bJ g2,g1]
  by_cases h0:n0=0
  ·subst h0;have hes:e0 = []:=List.length_eq_zero_iff.1 hr.1;subst hes;refine⟨some ⟨b,0,none⟩,m,?_,?_⟩
   ·unfold bD;simp only[ht.und,hnew];rw[if_neg (by rw[hguard]; exact Bool.false_ne_true)]
    simp only[g0];rw[if_pos (Nat.le_of_eq (Nat.add_zero n))];simp[AMem.bS]
   ·rw[List.append_nil,Nat.add_zero];have:bH ps k (.sl (some ⟨b,0,none⟩) w n es)=ps:=by
     have:∀(l:List Pc) (k:Nat) (p:Pc),pk l k=some p→bH l k p=l:=by
      intro l
      induction l with
      | nil=>intro k p h; simp[pk] at h
      | cons q l ih =>
       intro k p h;cases k with
       | zero=>rw[fU] at h; rw[fq,Option.some.inj h]
       | succ k=>rw[ep] at h; rw[dF,ih k p h]
     exact this ps k _ hp
    rw[this]; exact h
  ·have hcap:¬(n+n0≤n):=by omega
   have htake:es.flatten.take (n*w)=es.flatten:=List.take_of_length_le (by omega)
   have hok:∀(mm:AMem),m.next≤mm.next→Pc.ok m0.next (mm.alloc (.cells (es.flatten++e0.flatten) (.more w))) (.sl (some ⟨mm.next,0,none⟩) w (n+n0) (es++e0)):=fun mm hmm =>
    .inr ⟨mm.next,.more w,rfl,Nat.le_trans hext.next hmm,(by rw[AMem.next_alloc]; omega),by rw[AMem.aU,if_pos rfl,List.flatten_append],by rw[List.length_append,g1,hr.1],fun e he=>by
     rcases List.mem_append.1 he with he|he
     ·exact g2 e he
     ·exact h1 e he,.inr rfl,hpos⟩
   rcases g3 with rfl|rfl
   ·refine⟨some ⟨m.next,0,none⟩,m.alloc (.cells (es.flatten++e0.flatten) (.more w)),?_,?_⟩
    ·unfold bD;simp only[ht.und,hnew];rw[if_neg (by rw[hguard]; exact Bool.false_ne_true)]
     simp only[ht.size,g0];rw[if_neg hcap];have hld:m.cL b 0 (n*w)=some es.flatten:=by
      simp only[AMem.cL,g0,List.drop_zero,htake];rw[if_pos hlen]
     simp only[hld]
    ·refine h.renew hp (by simp only[AMem.next_alloc]; omega) (hext.alloc _) (hok m (Nat.le_refl _)) (fun b' hb'=>?_) rfl fun b' _ hlt=>?_
     ·cases hb'; exact Nat.le_refl _
     ·rw[AMem.aU,if_neg (by omega)]
   ·refine⟨some ⟨(m.kill b).next,0,none⟩,(m.kill b).alloc (.cells (es.flatten++e0.flatten) (.more w)),?_,?_⟩
    ·unfold bD;simp only[ht.und,hnew];rw[if_neg (by rw[hguard]; exact Bool.false_ne_true)]
     simp only[ht.size,g0];rw[if_neg hcap];simp only[and_self,if_true,htake,hlen,AMem.next_kill]
    ·have hk:Ext m0 (m.kill b):=⟨by rw[AMem.next_kill]; exact hext.next,fun x hx=>by rw[AMem.dL,if_neg (by omega)]; exact hext.same x hx,by
      rw[AMem.wl_kill];have:=hext.wl; omega⟩
     refine h.renew hp (by simp only[AMem.next_alloc,AMem.next_kill]; omega) (hk.alloc _) (hok (m.kill b) (by rw[AMem.next_kill]; exact Nat.le_refl _)) (fun b' hb'=>?_) rfl fun b' hb' hlt=>?_
     ·cases hb'; rw[AMem.next_kill]; exact Nat.le_refl _
     ·rw[AMem.aU,if_neg (by simp; omega),AMem.dL,if_neg (fun e=>hb' (by rw[e]; rfl))]
theorem FE {elem ty2:TypeId} {w k k2 n0 c0:Nat} {a a0:Option Addr} {es e0:List (List Value)} {ars:Array Operand} {p0:Pc} (ht:SlT E.P ty elem w) (h0:∃e1,E.P.underlying ty2=some (.slice e1)) (ha:e8 E fs ars.toList=some [.slice a n n,.slice a0 n0 c0]) (hp:pk ps k=some (.sl a w n es)) (h1:pk ps k2=some p0) (hr:IsRd p0 a0 c0 w n0 e0) (h2:∀e ∈ e0,e.length=w) (ho:fw e0) (hl:lim (n+n0)=true) :
  Ox E m0 fs ps (.call ⟨.builtin .append,ars,#[ty,ty2]⟩) (fun a':Option Addr=>.slice a' (n+n0) (n+n0)) (fun a'=>bH ps k (.sl a' w (n+n0) (es++e0))) :=
 fun t m hf h=>⟨fun b hb=>(by simp[aD] at hb),fun K hK=>by
  obtain⟨a',m',h3,h4⟩:=px (n:=n) ht h0 h hp (h.rd h1 hr) h2 ho hl;have:aL E.P .append #[ty,ty2] [.slice a n n,.slice a0 n0 c0] m=some (.slice a' (n+n0) (n+n0),m'):=h3;rw[Go.Ab.cC (hf.e8 ha) this];exact hK a' m' h4⟩
theorem bE {k cap:Nat} {a:Option Addr} {ars:Array Operand} {p:Pc} {elem:TypeId} (hu:E.P.underlying ty=some (.slice elem)) (ha:e8 E fs ars.toList=some [.slice a n cap]) (hp:pk ps k=some p) (hb:iE a=p.lW∨a=none) :
  Od E m0 fs ps (.call ⟨.builtin .len,ars,#[ty]⟩) (.int .i64 (n:Int)) ps :=
 fun t m hf h=>⟨fun b hb'=>by
  simp only[aD,hf.e8 ha] at hb';have hab:cW (.slice a n cap)=iE a:=by cases a<;>rfl
  rw[hab] at hb';exact hb.elim (fun hb=>Pc.CW (h.get hp) (hb ▸ hb')) (fun hb=>by rw[hb] at hb'; exact nomatch hb'),fun K hK=>by
  have:aL E.P .len #[ty] [.slice a n cap] m=some (.int .i64 (n:Int),m):=by
   have ht:(#[ty]:Array TypeId)[0]? = some ty:=rfl;simp only[aL,ht,Option.bind_some,hu]
  rw[Go.Ab.cC (hf.e8 ha) this]; exact hK m h⟩
theorem ft {n cap lo hi:Nat} (h1:lo≤hi) (h2:hi≤cap) {l h:Option Value} (hl:l=none∧lo=0∨∃k,l=some (.int k (lo:Int))) (hh:h=none∧hi=n∨∃k,h=some (.int k (hi:Int))):cX n cap l h none=some (lo,hi,cap):=by
 have hb:∀(k:IntKind) (x y:Nat),x≤y→iu (.int k (x:Int)) y=some x:=fun k x y hxy=>by
  simp only[iu]; rw[if_pos ⟨by omega,by omega⟩,Int.toNat_natCast]
 rcases hl with⟨rfl,rfl⟩|⟨k1,rfl⟩<;>rcases hh with⟨rfl,rfl⟩|⟨k2,rfl⟩<;>(unfold cX; simp only[hb _ _ _ h1,hb _ _ _ h2])
theorem oJ.drop {b o w:Nat} {es:List (List Value)} (h:oJ m b o w es) (lo k:Nat):oJ m b (o+lo*w) w ((es.drop lo).take k):=by
 obtain⟨h1,all,tg,h2,hs,h3⟩:=h;refine⟨h1,all,tg,h2,hs,fun i e he=>?_⟩;rw[List.getElem?_take] at he
 split at he
 ·rw[List.getElem?_drop] at he;have:=h3 (lo+i) e he;rwa[Nat.add_mul,←Nat.add_assoc] at this
 ·cases he
theorem xU {P:Program} {elem:TypeId} {cap w lo hi:Nat} {a:Option Addr} {es:List (List Value)} {l h:Option Value} (ht:SlT P ty elem w) (hr:Rd m a cap w n es) (h1:lo≤hi) (h2:hi≤n) (hl:l=none∧lo=0∨∃k,l=some (.int k (lo:Int))) (hh:h=none∧hi=n∨∃k,h=some (.int k (hi:Int))) :
  ∃a' cap',bA P ty (.slice a n cap) l h none m=some (.slice a' (hi-lo) cap')∧Rd m a' cap' w (hi-lo) ((es.drop lo).take (hi-lo))∧(iE a'=iE a):=by
 obtain⟨r1,r2,r4⟩:=hr;have hlen:((es.drop lo).take (hi-lo)).length=hi-lo:=by rw[List.length_take,List.length_drop,r1]; omega
 have hb:=ft (n:=n) (cap:=cap) h1 (Nat.le_trans h2 r2) hl hh;rcases r4 with⟨rfl,rfl⟩|⟨b,sp,rfl,rfl,rfl,hlt⟩|⟨b,o,rfl,hli⟩
 ·refine⟨none,cap-lo,?_,⟨hlen,by omega,.inl ⟨rfl,by omega⟩⟩,rfl⟩
  simp only[bA,ht.und,ht.known,if_true,hb]
 ·have e1:lo=0:=by omega
  have e2:hi=0:=by omega
  subst e1 e2;refine⟨some ⟨b,0,some sp⟩,0,?_,⟨hlen,Nat.le_refl _,.inr (.inl ⟨b,sp,rfl,rfl,rfl,hlt⟩)⟩,rfl⟩;simp only[bA,ht.und,ht.known,if_true,hb,Nat.sub_zero]
 ·have hli':=hli.drop lo (hi-lo);obtain⟨hlt,all,tg,hg,hs,hall⟩:=hli;have plain:(∀sz,tg≠.more sz)→∃a' cap',bA P ty (.slice (some ⟨b,o,none⟩) n cap) l h none m=some (.slice a' (hi-lo) cap')∧Rd m a' cap' w (hi-lo) ((es.drop lo).take (hi-lo))∧(iE a'=iE (some ⟨b,o,none⟩)):=by
   intro hne;have:bA P ty (.slice (some ⟨b,o,none⟩) n cap) l h none m=some (.slice (some (if cap=lo then⟨b,o,none⟩ else⟨b,o+lo*w,none⟩)) (hi-lo) (cap-lo)):=by
    cases tg with
    | more sz=>exact absurd rfl (hne sz)
    | ro=>simp only[bA,ht.und,ht.known,if_true,hg,hb,ht.size]
    | own=>simp only[bA,ht.und,ht.known,if_true,hg,hb,ht.size]
   by_cases hc:cap=lo
   ·rw[if_pos hc] at this;have e0:hi-lo=0:=by omega
    refine⟨_,_,this,⟨hlen,by omega,.inr (.inr ⟨b,o,rfl,hlt,all,tg,hg,hs,fun i e he=>?_⟩)⟩,rfl⟩
    rw[e0,List.take_zero] at he; simp at he
   ·rw[if_neg hc] at this;exact⟨_,_,this,⟨hlen,by omega,.inr (.inr ⟨b,_,rfl,hli'⟩)⟩,rfl⟩
  cases tg with
  | ro=>exact plain fun sz e=>(by cases e)
  | own=>exact plain fun sz e=>(by cases e)
  | more sz =>
   have hsz:=hs sz rfl;subst hsz;have hb':=ft (n:=n) (cap:=cap) h1 (Nat.le_trans h2 r2) hl hh
   by_cases hc:cap=lo
   ·have e0:hi-lo=0:=by omega
    have e1:((es.drop lo).take (hi-lo)) = []:=by rw[e0]; rfl
    refine⟨some ⟨b,0,some 0⟩,0,?_,⟨hlen,by omega,.inr (.inl ⟨b,0,rfl,e0,rfl,hlt⟩)⟩,rfl⟩
    simp only[bA,ht.und,ht.known,if_true,hg,hb',ht.size,ne_eq,not_true_eq_false,if_false,e0,fF];rw[if_pos hc]
   ·refine⟨some ⟨b,o+lo*sz,none⟩,cap-lo,?_,⟨hlen,by omega,.inr (.inr ⟨b,_,rfl,hli'⟩)⟩,rfl⟩
    simp only[bA,ht.und,ht.known,if_true,hg,hb',ht.size,hc,ne_eq,not_true_eq_false,if_false]
theorem FF {elem:TypeId} {k cap w lo hi:Nat} {a:Option Addr} {es:List (List Value)} {x:Operand} {lx hx:Option Operand} {l h:Option Value} (ht:SlT E.P ty elem w) (hv:ev E fs x=some (.slice a n cap)) (e1:oO E fs lx=some l) (e2:oO E fs hx=some h) (hp:pk ps k=some (.rd a cap w n es)) (h1:lo≤hi) (h2:hi≤n) (hl:l=none∧lo=0∨∃k,l=some (.int k (lo:Int))) (hh:h=none∧hi=n∨∃k,h=some (.int k (hi:Int))) :
  Ox E m0 fs ps (.slice ty x lx hx none) (fun r:Option Addr × Nat=>.slice r.1 (hi-lo) r.2) (fun r=>.rd r.1 r.2 w (hi-lo) ((es.drop lo).take (hi-lo))::ps) :=
 fun t m hf hm=>by
  obtain⟨a',cap',s1,s2,s3⟩:=xU ht (hm.get hp) h1 h2 hl hh;refine⟨fun b hb=>?_,fun K hK=>?_⟩
  ·have hab:cW (.slice a n cap)=iE a:=by cases a<;>rfl
   simp only[aD,hf.ev hv,Option.bind_some,hab] at hb;exact Rd.lt (hm.get hp) hb
  ·rw[Go.Ab.kA (hf.ev hv) (hf.oO e1) (hf.oO e2) rfl s1];exact hK (a',cap') m (hm.more hp rfl s2 rfl fun b hb=>by
    have:iE a'=some b:=hb;rw[s3] at this; exact this)
def qh (ps:List Pc):Bool:=ps.all Pc.own
theorem fS {α:Type} {V:α→Value} {N:α→List Pc} {f:Operand} {g:FuncId} {first cap:Array Value} {ars:Array Operand} {ts:Array TypeId} {args:List Value} (hf:ev E fs f=some (.func (.func g) first cap)) (ha:e8 E fs ars.toList=some args) (hc:∀m,Hp m0 m ps→aC E g (first.toList++args++cap.toList) m (fun v m'=>∃x,v=V x∧Hp m0 m' (N x))):Ox E m0 fs ps (.call ⟨.value f,ars,ts⟩) V N :=
 fun t m hfr hm=>⟨fun b hb=>(by simp[aD] at hb),fun K hK=>by
  have hev:an E t f=some (.func (.func g) first cap):=by
   cases f with
   | tmp i=>exact hfr.ev hf
   | const c=>exact hfr.ev hf
   | global g=>exact hfr.ev hf
   | func g=>exact hfr.ev hf
  show iz E (an E t f) (aV E t ars.toList) m _
  rw[hev,hfr.e8 ha]
  show aC E g (first.toList++args++cap.toList) m K
  exact(hc m hm).mono fun v m' ⟨x,e,h⟩=>by rw[e]; exact hK x m' h⟩
theorem aM {α:Type} {V:α→Value} {N:α→List Pc} {f:Operand} {g:FuncId} {ars:Array Operand} {ts:Array TypeId} {args:List Value} (hf:ev E fs f=some (.func (.func g) #[] #[])) (ha:e8 E fs ars.toList=some args) (hc:∀m,Hp m0 m ps→aC E g args m (fun v m'=>∃x,v=V x∧Hp m m' (N x))) (ho:∀x,qh (N x)=true):Ox E m0 fs ps (.call ⟨.value f,ars,ts⟩) V (fun x=>N x++ps) :=
 fS hf ha fun m hm=>by
  simp only[List.nil_append,List.append_nil];exact(hc m hm).mono fun v m' ⟨x,e,h⟩=>⟨x,e,hm.after h fun p hp=>List.all_eq_true.1 (ho x) p hp⟩
end
theorem Ext.GL {m0 m:AMem} (h:Ext m0 m) {w:Nat} (hw:min m0.wl m0.next≤w):Ext m0 (m.ww w):=⟨by rw[AMem.next_ww]; exact h.next,fun b hb=>by rw[AMem.get_ww]; exact h.same b hb,by rw[AMem.wl_ww]; exact hw⟩
theorem Hp.ww {m0 m:AMem} {ps:List Pc} (h:Hp m0 m ps) {w:Nat} (hw:min m0.wl m0.next≤w):Hp m0 (m.ww w) ps :=
 ⟨Ext.GL h.ext hw,fun p hp=>Pc.gJ (h.ok p hp) (by rw[AMem.next_ww]; exact Nat.le_refl _) (fun b _ _=>by rw[AMem.get_ww]),h.apart⟩
section
variable {E : Env} {n : Nat} {m0 : AMem} {fs : Fs} {ps ps' : List Pc} {ops : Array Oper} {os : List Oper} {K : Tm → AMem → Prop} {dr : Bool}
def Wo (dr:Bool) (E:Env) (n:Nat) (ops:Array Oper) (K:Tm→AMem→Prop) (os:List Oper) (m0:AMem) (fs:Fs) (ps:List Pc):Prop :=
 match dr with
 | false=>∀t m,Fr t fs→Hp m0 m ps→nb E n ops K os t m
 | true=>∀t m w,Fr t fs→Hp m0 m ps→min m0.wl m0.next≤w→gR E n ops K os t m w
variable {ty : TypeId} {p : String} {af : Array Edge} {d : Nat} {o : Op} {g : Option (Nat × Bool)} {v : Value}
def rK (ops:Array Oper) (fs:Fs) (g:Option (Nat × Bool)) (b:Bool):Prop:=∀t d o ty p af,Fr t fs→aW ops ⟨d,o,ty,p,af,g⟩ t=b
theorem gn:rK ops fs none true:=fun _ _ _ _ _ _ _=>rfl
theorem gg {j d:Nat} {b c r:Bool} (hd:(ops[j]?).bind (·.dst)=some d) (h:lk fs d=some (.bool c)) (hr:(c == b)=r):rK ops fs (some (j,b)) r:=fun t d' o ty p af hf=>by
 rw[←hr]; exact F1 hd (hf d _ h)
theorem Wo.x {α:Type} {V:α→Value} {N:α→List Pc} (h:Ox E m0 fs ps o V N) (hg:rK ops fs g true) (hd:Nat.blt d n=true) (k:∀x,Wo dr E n ops K os m0 ((d,V x)::fs) (N x)):Wo dr E n ops K (⟨some d,o,ty,p,af,g⟩::os) m0 fs ps:=by
 have hd':d<n:=by rwa[Nat.blt_eq] at hd
 cases dr with
 | false =>
  intro t m hf hm;simp only[nb,hg t _ _ _ _ _ hf,if_true];refine(h t m hf hm).2 _ fun x m' hm'=>?_;rw[gQ,if_pos hd'];exact k x _ m' hf.set hm'
 | true =>
  intro t m w hf hm hw;simp only[gR,hg t _ _ _ _ _ hf,if_true];have hx:=hm.ext.next
  have hm':Hp m0 (m.ww m.next) ps:=hm.ww (by omega)
  refine⟨fun b hb=>?_,?_⟩
  ·have:=(h t _ hf hm').1 b hb;rwa[AMem.next_ww] at this
  ·refine(h t _ hf hm').2 _ fun x m' hm''=>?_;rw[gQ,if_pos hd'];have:=hm''.ext.wl;exact k x _ m' _ hf.set hm'' (by omega)
theorem Wo.x0 {α:Type} {V:α→Value} {N:α→List Pc} (h:Ox E m0 fs ps o V N) (hg:rK ops fs g true) (k:∀x,Wo dr E n ops K os m0 fs (N x)):Wo dr E n ops K (⟨none,o,ty,p,af,g⟩::os) m0 fs ps:=by
 cases dr with
 | false =>
  intro t m hf hm;simp only[nb,hg t _ _ _ _ _ hf,if_true];refine(h t m hf hm).2 _ fun x m' hm'=>?_;exact k x _ m' hf hm'
 | true =>
  intro t m w hf hm hw;simp only[gR,hg t _ _ _ _ _ hf,if_true];have hx:=hm.ext.next
  have hm':Hp m0 (m.ww m.next) ps:=hm.ww (by omega)
  refine⟨fun b hb=>?_,?_⟩
  ·have:=(h t _ hf hm').1 b hb;rwa[AMem.next_ww] at this
  ·refine(h t _ hf hm').2 _ fun x m' hm''=>?_;have:=hm''.ext.wl;exact k x _ m' _ hf hm'' (by omega)
theorem Od.x (h:Od E m0 fs ps o v ps'):Ox E m0 fs ps o (fun _:Unit=>v) (fun _=>ps'):=fun t m hf hm=>⟨(h t m hf hm).1,fun K hK=>(h t m hf hm).2 K fun m' hm'=>hK () m' hm'⟩
theorem Wo.od (h:Od E m0 fs ps o v ps') (hd:Nat.blt d n=true) (k:Wo dr E n ops K os m0 ((d,v)::fs) ps'):Wo dr E n ops K (⟨some d,o,ty,p,af,none⟩::os) m0 fs ps:=Wo.x h.x gn hd fun _=>k
theorem Wo.o0 (h:Od E m0 fs ps o v ps') (k:Wo dr E n ops K os m0 fs ps'):Wo dr E n ops K (⟨none,o,ty,p,af,none⟩::os) m0 fs ps:=Wo.x0 h.x gn fun _=>k
theorem Wo.og (h:Od E m0 fs ps o v ps') (hg:rK ops fs g true) (hd:Nat.blt d n=true) (k:Wo dr E n ops K os m0 ((d,v)::fs) ps'):Wo dr E n ops K (⟨some d,o,ty,p,af,g⟩::os) m0 fs ps:=Wo.x h.x hg hd fun _=>k
theorem Wo.s (hg:rK ops fs g false) (hd:Nat.blt d n=true) (k:Wo dr E n ops K os m0 ((d,undef)::fs) ps):Wo dr E n ops K (⟨some d,o,ty,p,af,g⟩::os) m0 fs ps:=by
 have hd':d<n:=by rwa[Nat.blt_eq] at hd
 cases dr with
 | false =>
  intro t m hf hm;simp only[nb,hg t _ _ _ _ _ hf,Bool.false_eq_true,if_false];rw[gQ,if_pos hd'];exact k _ m hf.set hm
 | true =>
  intro t m w hf hm hw;simp only[gR,hg t _ _ _ _ _ hf,Bool.false_eq_true,if_false];rw[gQ,if_pos hd'];exact k _ m w hf.set hm hw
def ab (m0:AMem) (ps:List Pc) (qs:List Pc):Prop:=∀m,Hp m0 m ps→Hp m0 m qs
theorem Wo.eF (h:ab m0 ps ps') (k:Wo dr E n ops K os m0 fs ps'):Wo dr E n ops K os m0 fs ps:=by
 cases dr with
 | false=>exact fun t m hf hm=>k t m hf (h m hm)
 | true=>exact fun t m w hf hm hw=>k t m w hf (h m hm) hw
theorem Wo.open {k w l:Nat} {a:Option Addr} {es:List (List Value)} (hp:pk ps k=some (.sl a w l es)) (hl:0<l) (h:∀b tg,a=some ⟨b,0,none⟩→xG tg=true→Wo dr E n ops K os m0 fs (bH ps k (.arr b w l es tg))):Wo dr E n ops K os m0 fs ps:=by
 have key:∀m,Hp m0 m ps→∃b tg,a=some ⟨b,0,none⟩∧xG tg=true∧Hp m0 m (bH ps k (.arr b w l es tg)):=by
  intro m hm;have h0:=hm.get hp;rcases h0 with⟨h1,_⟩|⟨b,tg,rfl,h1⟩
  ·omega
  ·refine⟨b,tg,rfl,by rcases h1.2.2.2.2.2.1 with rfl|rfl<;>rfl,hm.put hp rfl rfl rfl (Nat.le_refl _) hm.ext h1 fun _ _ _=>rfl⟩
 cases dr with
 | false=>intro t m hf hm; obtain⟨b,tg,h1,h2,h3⟩:=key m hm; exact h b tg h1 h2 t m hf h3
 | true=>intro t m w' hf hm hw; obtain⟨b,tg,h1,h2,h3⟩:=key m hm; exact h b tg h1 h2 t m w' hf h3 hw
theorem Wo.dy {k w l cap:Nat} {a:Option Addr} {es:List (List Value)} (hp:pk ps k=some (.rd a cap w l es)) (hl:0<l) (h:∀b o,a=some ⟨b,o,none⟩→Wo dr E n ops K os m0 fs (.ro b o w l es::ps)):Wo dr E n ops K os m0 fs ps:=by
 have key:∀m,Hp m0 m ps→∃b o,a=some ⟨b,o,none⟩∧Hp m0 m (.ro b o w l es::ps):=by
  intro m hm;obtain⟨h1,h2,h3⟩:=hm.get hp;rcases h3 with⟨_,h3⟩|⟨_,_,_,h3,_⟩|⟨b,o,rfl,h3⟩
  ·omega
  ·omega
  ·exact⟨b,o,rfl,hm.more hp rfl ⟨h1,h3⟩ rfl fun b' hb=>hb⟩
 cases dr with
 | false=>intro t m hf hm; obtain⟨b,o,h1,h3⟩:=key m hm; exact h b o h1 t m hf h3
 | true=>intro t m w' hf hm hw; obtain⟨b,o,h1,h3⟩:=key m hm; exact h b o h1 t m w' hf h3 hw
theorem ab.trans {ps'':List Pc} (h:ab m0 ps ps') (h':ab m0 ps' ps''):ab m0 ps ps'':=fun m hm=>h' m (h m hm)
theorem ab.aa (ks:List Nat) (hnd:k7 ks=true) (e:W.aa ps ks=some ps'):ab m0 ps ps':=fun _ h=>h.aa ks hnd e
theorem ab.close {k b w l:Nat} {es:List (List Value)} {tg:Tag} (hp:pk ps k=some (.arr b w l es tg)):ab m0 ps (bH ps k (.sl (some ⟨b,0,none⟩) w l es)):=fun _ h =>
 h.put hp rfl rfl rfl (Nat.le_refl _) h.ext (.inr ⟨b,tg,rfl,h.get hp⟩) fun _ _ _=>rfl
theorem ab.nil (w:Nat) (hw:Nat.blt 0 w=true):ab m0 ps (.sl none w 0 []::ps):=fun m h =>
 h.cons (Nat.le_refl _) h.ext (fun _ _=>rfl) (.inl ⟨rfl,rfl,rfl,by rwa[Nat.blt_eq] at hw⟩) fun b hb=>(by cases hb)
theorem oW {ps:List Pc} {k:Nat} {p p':Pc} (hk:pk ps k=some p) (ho:p'.own=false) (hb:∀b,p'.lW=some b→p.lW=some b∧p.own=true) (h:ps.Pairwise Pc.apart) (hng:∀b,¬p'.vg b:=by exact fun _ h=>h):(bH ps k p').Pairwise Pc.apart :=
 fL hk (fun r _ ha=>⟨fun b a c=>a.elim (fun a=>by rw[ho] at a; cases a.1) fun a=>hng b (by cases p' with|gen g=>exact .inl a|_=>exact a),fun b a c=>ha.2 b a (c.elim (fun c=>.inl (hb b c).1) fun c=>absurd c (hng b))⟩) h
theorem ab.freeze {k w l:Nat} {a:Option Addr} {es:List (List Value)} (hp:pk ps k=some (.sl a w l es)):ab m0 ps (bH ps k (.rd a l w l es)):=fun m h =>
 ⟨h.ext,fun q hq=>by
  rcases rl hp h.apart hq with rfl|⟨h1,_⟩
  ·exact Pc.Ep (h.get hp) (.sl a w l es)
  ·exact h.ok q h1,oW hp rfl (fun b hb=>⟨hb,rfl⟩) h.apart⟩
variable {fn : FuncId} {ro : Option Nat} {Q : AExit → Tm → AMem → Prop}
def Wk (E:Env) (n:Nat) (fn:FuncId) (ro:Option Nat) (c:Code) (Q:AExit→Tm→AMem→Prop) (m0:AMem) (fs:Fs) (ps:List Pc):Prop:=∀t m,Fr t fs→Hp m0 m ps→bl E n fn ro c Q t m
def At (Q:AExit→Tm→AMem→Prop) (e:AExit) (m0:AMem) (fs:Fs) (ps:List Pc):Prop:=∀t m,Fr t fs→Hp m0 m ps→Q e t m
variable {a b c : Code} {id id' : Nat}
theorem Wk.seq (h:Wk E n fn ro a (lM (bl E n fn ro b Q) Q) m0 fs ps):Wk E n fn ro (.seq a b) Q m0 fs ps:=fun t m hf hm=>.seq (h t m hf hm)
theorem Wk.skip (h:At Q .normal m0 fs ps):Wk E n fn ro .skip Q m0 fs ps:=fun t m hf hm=>.skip (h t m hf hm)
theorem Wk.exit (h:At Q (.exit id) m0 fs ps):Wk E n fn ro (.exit id) Q m0 fs ps:=fun t m hf hm=>.exit (h t m hf hm)
theorem Wk.ret (h:At Q .ret m0 fs ps):Wk E n fn ro .ret Q m0 fs ps:=fun t m hf hm=>.ret (h t m hf hm)
theorem Wk.cond {x:Operand} {r:Bool} (hx:ev E fs x=some (.bool r)) (ht:r=true→Wk E n fn ro a Q m0 fs ps) (hf:r=false→Wk E n fn ro b Q m0 fs ps):Wk E n fn ro (.cond x a b) Q m0 fs ps:=fun t m hfr hm=>.cond (hfr.ev hx) (fun h=>ht h t m hfr hm) (fun h=>hf h t m hfr hm)
theorem Wk.ar {x:Operand} {r:Bool} (hx:ev E fs x=some (.bool r)) (hr:r=true) (ht:Wk E n fn ro a Q m0 fs ps):Wk E n fn ro (.cond x a b) Q m0 fs ps:=.cond hx (fun _=>ht) (fun h=>by rw[hr] at h; cases h)
theorem Wk.au {x:Operand} {r:Bool} (hx:ev E fs x=some (.bool r)) (hr:r=false) (ht:Wk E n fn ro b Q m0 fs ps):Wk E n fn ro (.cond x a b) Q m0 fs ps:=.cond hx (fun h=>by rw[hr] at h; cases h) (fun _=>ht)
theorem Wk.block (h:Wk E n fn ro a (er id Q) m0 fs ps):Wk E n fn ro (.block id a) Q m0 fs ps:=fun t m hf hm=>.block (h t m hf hm)
theorem Wk.scope (h:Wk E n fn ro a Q m0 fs ps):Wk E n fn ro (.scope a) Q m0 fs ps:=fun t m hf hm=>.scope (h t m hf hm)
theorem Wk.region (h:Wo false E n ops (Q .normal) ops.toList m0 fs ps):Wk E n fn ro (.region id ops false) Q m0 fs ps:=fun t m hf hm=>.zl (h t m hf hm)
theorem tL {t:Tm} {m:AMem} {o:Op} {K K':Value→AMem→Prop} (h:bf E t m o K) (hk:∀v m',K v m'→K' v m'):bf E t m o K':=by
 unfold bf at h ⊢;cases hc:j6 o with
 | some p =>
  obtain⟨f,ars⟩:=p;rw[hc] at h;simp only at h ⊢;cases hf:an E t f with
  | none=>rw[hf] at h; exact h.elim
  | some v =>
   cases ha:aV E t ars with
   | none=>rw[hf,ha] at h; unfold iz at h; split at h<;>first | (rename_i h1 h2; cases h2) | exact h.elim
   | some vs =>
    rw[hf,ha] at h;unfold iz at h ⊢
    split at h
    ·rename_i h1 h2;cases h1; cases h2;exact h.mono hk
    ·rename_i h1 h2;cases h1; cases h2;obtain⟨v,m',h5,hv⟩:=h;exact⟨v,m',h5,hk v m' hv⟩
    ·exact h.elim
 | none =>
  rw[hc] at h;simp only at h ⊢;cases he:cf E t m o with
  | none=>rw[he] at h; exact h.elim
  | some r=>rw[he] at h; exact hk r.1 r.2 h
theorem tx {K K':Tm→AMem→Prop} (hK:∀t m,K t m→K' t m):∀(os:List Oper) (t:Tm) (m:AMem) (w:Nat),gR E n ops K os t m w→gR E n ops K' os t m w:=by
 intro os
 induction os with
 | nil=>intro t m w hk; exact hK _ _ hk
 | cons o os ih =>
  intro t m w hk;simp only[gR] at hk ⊢
  split at hk
  ·rename_i hw;rw[if_pos hw];refine⟨hk.1,tL hk.2 fun v m' hv=>?_⟩;obtain⟨t',e,h4⟩:=hv.A
   show xM (fC n t o.dst v) fun t'=>gR E n ops K' os t' m' (min w m'.wl)
   rw[e]; exact ih _ _ _ h4
  ·rename_i hw;rw[if_neg hw];obtain⟨t',e,h4⟩:=hk.A;rw[e]; exact ih _ _ _ h4
theorem Wk.draw (hp:cd ops=some []) (h:Wo true E n ops (Q .normal) ops.toList m0 fs ps):Wk E n fn ro (.region id ops true) Q m0 fs ps:=fun t m hf hm=>.Dx hp fun K hK=>by
 exact tx hK _ _ _ _ (h t m m.wl hf hm hm.ext.wl)
theorem Wo.nil (h:At Q .normal m0 fs ps):Wo dr E n ops (Q .normal) [] m0 fs ps:=by
 cases dr with
 | false=>exact fun t m hf hm=>h t m hf hm
 | true=>exact fun t m w hf hm hw=>h t _ hf (hm.ww hw)
theorem At.tn (h:Wk E n fn ro b Q m0 fs ps):At (lM (bl E n fn ro b Q) Q) .normal m0 fs ps:=h
theorem At.te {K:Tm→AMem→Prop} (h:At Q (.exit id) m0 fs ps):At (lM K Q) (.exit id) m0 fs ps:=h
theorem At.tr {K:Tm→AMem→Prop} (h:At Q .ret m0 fs ps):At (lM K Q) .ret m0 fs ps:=h
theorem At.bn (h:At Q .normal m0 fs ps):At (er id Q) .normal m0 fs ps:=h
theorem At.be (h:At Q .normal m0 fs ps):At (er id Q) (.exit id) m0 fs ps:=fun t m hf hm=>by rw[uc,if_pos rfl]; exact h t m hf hm
theorem At.bx (hne:Nat.beq id' id=false) (h:At Q (.exit id') m0 fs ps):At (er id Q) (.exit id') m0 fs ps:=fun t m hf hm=>by rw[uc,if_neg (Nat.ne_of_beq_eq_false hne)]; exact h t m hf hm
theorem At.br (h:At Q .ret m0 fs ps):At (er id Q) .ret m0 fs ps:=h
theorem Wk.db {fs':Fs} (hs:sub fs fs') (h:ab m0 ps ps') (k:Wk E n fn ro c Q m0 fs' ps'):Wk E n fn ro c Q m0 fs ps:=fun t m hf hm=>k t m (hf.sub hs) (h m hm)
structure En where
 e:AExit
 fs:Fs
 ps:List Pc
def nE (m0:AMem) {γ:Type} (G:γ→En) (e:AExit) (t:Tm) (m:AMem):Prop:=∃g,e=(G g).e∧Fr t (G g).fs∧Hp m0 m (G g).ps
theorem At.en {γ:Type} {G:γ→En} {e:AExit} (g:γ) (he:e=(G g).e) (hs:sub fs (G g).fs) (ht:ab m0 ps (G g).ps):At (nE m0 G) e m0 fs ps:=fun _ m hf hm=>⟨g,he,hf.sub hs,ht m hm⟩
theorem Wk.cut {γ:Type} {G:γ→En} (h:Wk E n fn ro c (nE m0 G) m0 fs ps) (k:∀g,At Q (G g).e m0 (G g).fs (G g).ps):Wk E n fn ro c Q m0 fs ps:=fun t m hf hm =>
 (h t m hf hm).mono fun e t' m' ⟨g,h1,h2,h3⟩=>by rw[h1]; exact k g t' m' h2 h3
def cY {σ ρ:Type} (body:σ→Option (σ ⊕ ρ)):Nat→σ→Option ρ
 | 0,_=>none
 | k+1,s=>match body s with
  | some (.inl s')=>cY body k s'
  | some (.inr r)=>some r
  | none=>none
theorem Wk.loop {σ ρ γ:Type} {δ:ρ→Type} (body:σ→Option (σ ⊕ ρ)) (I:σ→γ→En) (X:(r:ρ)→δ r→En)
  (hb:∀s g r,body s=some r→Wk E n fn ro c (match r with | .inl s'=>nE m0 (I s') | .inr r=>nE m0 (X r)) m0 (I s g).fs (I s g).ps)
  (hn:∀s g,(I s g).e = .normal) (hx:∀r g,(X r g).e≠.normal) :
  ∀(N:Nat) (s:σ) (r:ρ),cY body N s=some r→∀g,Wk E n fn ro (.loop c) (nE m0 (X r)) m0 (I s g).fs (I s g).ps:=by
 intro N
 induction N with
 | zero=>intro s r h; cases h
 | succ N ih =>
  intro s r h g t m hf hm;refine .loop (.round ?_);simp only[cY] at h
  split at h
  ·rename_i s' hs;refine(hb s g _ hs t m hf hm).mono fun e t' m' ⟨g',h1,h2,h3⟩=>?_;rw[h1,hn];have:=ih s' r h g' t' m' h2 h3;obtain⟨e2,t2,m2,⟨k2,hk2⟩,q2⟩:=this;cases k2 with
   | zero=>cases hk2
   | succ k2=>exact⟨e2,t2,m2,⟨k2,hk2⟩,q2⟩
  ·rename_i r' hs;simp only[Option.some.injEq] at h;subst h;refine(hb s g _ hs t m hf hm).mono fun e t' m' ⟨g',h1,h2,h3⟩=>?_;have hq:nE m0 (X r') e t' m':=⟨g',h1,h2,h3⟩;cases he:e with
   | normal=>rw[h1] at he; exact absurd he (hx _ _)
   | exit id=>rw[he] at hq; exact hq
   | ret=>rw[he] at hq; exact hq
  ·cases h
def pt:List Value→Nat→Fs→Fs
 | [],_,fs=>fs
 | v::vs,i,fs=>pt vs (i+1) ((i,v)::fs)
theorem Fr.args:∀(vs:List Value) (i:Nat) (fs:Fs) (t:Tm),Fr t fs→Fr (Trie.ofList vs i t) (pt vs i fs)
 | [],_,_,_,h=>h
 | _::vs,i,_,_,h=>Fr.args vs (i+1) _ _ h.set
theorem av {f:FuncId} {F:Func} {c:Code} {args:List Value} {rs:List ResultVar} {N:Nat} {R:Value→AMem→Prop} (hp:E.bT f=none) (hf:E.P.funcs[f]? = some F) (hb:F.body=some c) (hrs:F.results.toList=rs) (hN:max args.length F.ntmps=N)
  {m:AMem} (hm:Hp m0 m ps) (h:Wk E N f none c (nh E rs R) m0 (pt args 0 []) ps):aC E f args m R :=
 aC.BK hp hf hb hrs hN (h _ m (Fr.args args 0 [] _ (Fr.nil _)) hm)
theorem Hp.start (m:AMem):Hp m m []:=⟨.refl m,fun p h=>(by cases h),.nil⟩
theorem Hp.in {m0 m:AMem} {ps:List Pc} {a:Option Addr} {cap w l:Nat} {es:List (List Value)} (h:Hp m0 m ps) (ho:∀p ∈ ps,∀b,¬p.ow b) (hr:Rd m a cap w l es):Hp m0 m (.rd a cap w l es::ps) :=
 ⟨h.ext,fun p hp=>by
  rcases List.mem_cons.1 hp with rfl|hp
  ·exact hr
  ·exact h.ok p hp,List.pairwise_cons.2 ⟨fun q hq=>⟨fun b a=>a.elim (fun a=>by cases a.1) fun a=>a.elim,fun b a=>absurd a (ho q hq b)⟩,h.apart⟩⟩
def Pc.Da:Pc→Bool
 | .gen _=>false
 | p=>!p.own
theorem Pc.uE {p:Pc} (h:p.Da=true) (b:Nat):¬p.ow b:=by
 cases p with
 | gen g=>cases h
 | obj b o=>cases h
 | arr b w n es tg=>cases h
 | sl a w n es=>cases h
 | rd a cap w n es=>exact fun a=>a.elim (fun a=>by cases a.1) fun a=>a.elim
 | ro b o w n es=>exact fun a=>a.elim (fun a=>by cases a.1) fun a=>a.elim
inductive Res1 (E:Env) (fs:Fs) (ps:List Pc):List ResultVar→List Value→Prop
 | nil:Res1 E fs ps [] []
 | tmp {i:Nat} {v:Value} {rs:List ResultVar} {vs:List Value} (h:lk fs i=some v) (k:Res1 E fs ps rs vs):Res1 E fs ps (.tmp i::rs) (v::vs)
 | cell {i k b o sz:Nat} {ty:TypeId} {v:Value} {rs:List ResultVar} {vs:List Value} {cs:List Value} {tg:Tag} {ag:Bool} (ht:TyI E.P ty ag sz) (h:lk fs i=some (ptr b o)) (hp:pk ps k=some (.obj b (.cells cs tg))) (hv:vQ ag sz cs o=some v) (k:Res1 E fs ps rs vs):Res1 E fs ps (.cell i ty::rs) (v::vs)
theorem Res1.ok {fs:Fs} {ps:List Pc} {t:Tm} {m:AMem} (hf:Fr t fs) (hm:Hp m0 m ps):∀{rs:List ResultVar} {vs:List Value},Res1 E fs ps rs vs→bI E t m rs=some vs:=by
 intro rs vs h
 induction h with
 | nil=>rfl
 | tmp h _ ih=>simp only[bI,ih,hf _ _ h,Option.map_some]
 | cell ht h hp hv _ ih=>simp only[bI,hf _ _ h,qL ht (hm.get hp).2.2 hv,ih]
theorem At.ret {rs:List ResultVar} {vs:List Value} {R:Value→AMem→Prop} (h:Res1 E fs ps rs vs) (k:∀m,Hp m0 m ps→R (fA vs) m):At (nh E rs R) .ret m0 fs ps:=fun t m hf hm=>by
 rw[CT,h.ok hf hm]; exact k m hm
theorem At.fin {rs:List ResultVar} {vs:List Value} {R:Value→AMem→Prop} (h:Res1 E fs ps rs vs) (k:∀m,Hp m0 m ps→R (fA vs) m):At (nh E rs R) .normal m0 fs ps:=fun t m hf hm=>by
 rw[vG,h.ok hf hm]; exact k m hm
end
end Go.Ab.W
end

section
namespace Go.Ab.W
open Go Go.Ab
def ob {α β:Type} (o:Option α) (f:α→Option β):Option β :=
 match o with
 | some x=>f x
 | none=>none
def gd {β:Type} (b:Bool) (k:Option β):Option β :=
 match b with
 | true=>k
 | false=>none
def br {β:Type} (b:Bool) (k l:Option β):Option β :=
 match b with
 | true=>k
 | false=>l
section
variable {α β : Type}
theorem J {o:Option α} {f:α→Option β} {r:β} (h:ob o f=some r):∃x,o=some x∧f x=some r:=by
 cases o with
 | none=>cases h
 | some x=>exact⟨x,rfl,h⟩
theorem ai {b:Bool} {k:Option β} {r:β} (h:gd b k=some r):b=true∧k=some r:=by
 cases b with
 | false=>cases h
 | true=>exact⟨rfl,h⟩
theorem ae {b:Bool} {k l:Option β} {r:β} (h:br b k l=some r):(b=true∧k=some r)∨(b=false∧l=some r):=by
 cases b with
 | false=>exact .inr ⟨rfl,h⟩
 | true=>exact .inl ⟨rfl,h⟩
def bF (i:Int) (n:Nat):Bool:=decide (0≤i∧i.toNat<n)
theorem ak {i:Int} {n:Nat} (h:bF i n=true):0≤i∧i.toNat<n:=of_decide_eq_true h
theorem aH {f:α→β} {xs:List α} {i:Nat} {x:α} (h:xs[i]? = some x):(xs.map f)[i]? = some (f x):=by
 rw[List.getElem?_map,h]; rfl
theorem bp {i:Int} {n:Nat} (h:0≤i∧i.toNat<n):0<n:=by omega
def okB (lo hi:Int) (n:Nat):Bool:=decide (0≤lo∧lo≤hi∧hi≤(n:Int))
theorem sJ {lo hi:Int} {n:Nat} (h:okB lo hi n=true):0≤lo∧lo≤hi∧hi≤(n:Int):=of_decide_eq_true h
end
def eI (k:IntKind) (x:Int):List Value:=[.int k x]
def eN (k:IntKind) (x:Nat):List Value:=[.int k (x:Int)]
def eB (b:Bool):List Value:=[.bool b]
def eP {α β:Type} (f:α→List Value) (g:β→List Value) (p:α × β):List Value:=f p.1++g p.2
structure Enc {α:Type} (f:α→List Value) (w:Nat):Prop where
 len:∀x,(f x).length=w
 one:∀x,(f x).all ki=true
theorem mq (k:IntKind):Enc (eI k) 1:=⟨fun _=>rfl,fun _=>rfl⟩
theorem Aj (k:IntKind):Enc (eN k) 1:=⟨fun _=>rfl,fun _=>rfl⟩
theorem GR:Enc eB 1:=⟨fun _=>rfl,fun _=>rfl⟩
theorem vu {α β:Type} {f:α→List Value} {g:β→List Value} {w v:Nat} (h:Enc f w) (h':Enc g v):Enc (eP f g) (w+v) :=
 ⟨fun x=>by simp[eP,h.len,h'.len],fun x=>by simp only[eP,List.all_append,h.one,h'.one,Bool.and_self]⟩
theorem Enc.mO {α:Type} {f:α→List Value} {w:Nat} (h:Enc f w) (xs:List α):∀e ∈ xs.map f,e.length=w:=fun e he=>by
 obtain⟨x,_,rfl⟩:=List.mem_map.1 he; exact h.len x
theorem Enc.fw {α:Type} {f:α→List Value} {w:Nat} (h:Enc f w) (xs:List α):W.fw (xs.map f):=s6 h.one xs
theorem ux {α:Type} {f:α→List Value} {xs:List α} {i:Nat} {x:α}:(xs.map f).set i (f x)=(xs.set i x).map f:=(List.map_set).symm
theorem zU {α:Type} {f:α→List Value} {xs:List α} {i k:Nat}:((xs.map f).drop i).take k=((xs.drop i).take k).map f:=by rw[←List.map_drop,←List.map_take]
theorem uz {α:Type} {f:α→List Value} {n:Nat} {x:α}:List.replicate n (f x)=(List.replicate n x).map f:=by simp
def uM (k:IntKind):Nat:=2 ^ k.bits
def uw (k:IntKind) (n:Nat):Nat:=n%uM k
def ui (k:IntKind) (i:Int):Nat:=(i%(uM k:Int)).toNat
def lA (k:IntKind) (a b:Nat):Nat:=a/2 ^ (min b k.bits)
def mi {α:Type} [LT α] [DecidableRel (α:=α) (· < ·)] (a b:α):α:=if b<a then b else a
def ma {α:Type} [LT α] [DecidableRel (α:=α) (· < ·)] (a b:α):α:=if a<b then b else a
theorem Cl (k:IntKind):0<uM k:=Nat.two_pow_pos _
theorem rU {k:IntKind} (h:k.signed=false) (n:Int):k.wrap n=((ui k n:Nat):Int):=by
 have h0:(0:Int)≤n%(uM k:Int):=Int.emod_nonneg _ (by have:=Cl k; omega)
 simp only[IntKind.wrap,h,Bool.false_and,Bool.false_eq_true,if_false,ui];rw[Int.toNat_of_nonneg h0];simp[uM]
theorem BR (k:IntKind) (n:Nat):ui k (n:Int)=uw k n:=by
 unfold ui uw;rw[←Int.natCast_emod,Int.toNat_natCast]
theorem oL {k:IntKind} (h:k.signed=false) (n:Nat):k.wrap (n:Int)=((uw k n:Nat):Int):=by rw[rU h,BR]
section
variable {k kd : IntKind} {ty : TypeId} {P : Program}
theorem lq (h:k.signed=false) (a b:Nat):bw .add ty P (.int k (a:Int)) (.int k (b:Int))=some (.int k ((uw k (a+b):Nat):Int)):=by
 rw[ay,←Int.natCast_add,oL h]
theorem ou (h:k.signed=false) (a b:Nat):bw .mul ty P (.int k (a:Int)) (.int k (b:Int))=some (.int k ((uw k (a*b):Nat):Int)):=by
 rw[bW,←Int.natCast_mul,oL h]
theorem q9 (k:IntKind) (a:Nat):(BitVec.ofInt k.bits (a:Int)).toNat=uw k a:=by simp[uw,uM]
theorem tF (h:k.signed=false) (a b:Nat):bw .and ty P (.int k (a:Int)) (.int k (b:Int))=some (.int k ((uw k (uw k a &&& uw k b):Nat):Int)):=by
 simp only[bw,if_true]; rw[BitVec.toNat_and,q9,q9,oL h]
theorem xB (a b:Nat):bw .lss ty P (.int k (a:Int)) (.int k (b:Int))=some (.bool (decide (a<b))):=by rw[aA]; congr 2; exact decide_eq_decide.2 Int.ofNat_lt
theorem B1 (a b:Nat):bw .gtr ty P (.int k (a:Int)) (.int k (b:Int))=some (.bool (decide (b<a))):=by rw[bo]; congr 2; exact decide_eq_decide.2 Int.ofNat_lt
theorem yj (a b:Nat):bw .eql ty P (.int k (a:Int)) (.int k (b:Int))=some (.bool (decide (a=b))):=by rw[aZ]; congr 2; exact decide_eq_decide.2 Int.ofNat_inj
theorem BM (a b:Nat):bw .neq ty P (.int k (a:Int)) (.int k (b:Int))=some (.bool (!decide (a=b))):=by
 rw[ug]; congr 2
 by_cases h:a=b
 ·simp[h]
 ·have:¬((a:Int)=(b:Int)):=by omega
  simp[h,this]
theorem dm (a b:Int):bw .neq ty P (.int k a) (.int k b)=some (.bool (!decide (a=b))):=by
 rw[ug]; congr 2; by_cases h:a=b<;>simp[h]
theorem ly (a:Nat) (b:Int) (hb:decide (0≤b)=true):bw .shr ty P (.int k (a:Int)) (.int kd b)=some (.int k ((lA k a b.toNat:Nat):Int)):=by
 have h0:¬(b<0):=by have:=of_decide_eq_true hb; omega
 simp only[bw,if_neg h0,lA]
 congr 2
 have h2:((2:Int) ^ (min b.toNat k.bits))=((2 ^ (min b.toNat k.bits):Nat):Int):=by simp
 rw[h2,Int.fdiv_eq_ediv_of_nonneg _ (Int.natCast_nonneg _)];exact(Int.natCast_ediv a _).symm
theorem xn (a b:Int) (h:decide (b≠0)=true):bw .quo ty P (.int k a) (.int k b)=some (.int k (k.wrap (a.tdiv b))):=Ac k a b (of_decide_eq_true h)
theorem fy (a b:Int) (h:decide (b≠0)=true):bw .rem ty P (.int k a) (.int k b)=some (.int k (a.tmod b)):=zj k a b (of_decide_eq_true h)
theorem A3 (a:Int):uK .neg (.int k a)=some (.int k (k.wrap (0-a))):=rfl
theorem Ea {s d:TypeId} {x:Int} (hs:(P.underlying s).isSome=true) (hd:P.underlying d=some (.int k)):ez P s d (.int kd x)=some (.int k (k.wrap x)):=by
 cases h:P.underlying s with
 | none=>rw[h] at hs; cases hs
 | some u=>simp only[ez,h,hd]
theorem FL {s d:TypeId} {x:Int} (hs:(P.underlying s).isSome=true) (hd:P.underlying d=some (.int k)) (hk:k.signed=false):ez P s d (.int kd x)=some (.int k ((ui k x:Nat):Int)):=by
 rw[Ea hs hd,rU hk]
theorem Dt (a b:Int) {ts:Array TypeId} (m:AMem):aL P .min ts [.int k a,.int k b] m=some (.int k (mi a b),m):=rfl
theorem By {a b:Bool} (hu:P.underlying ty=some .bool):bw .eql ty P (.bool a) (.bool b)=some (.bool (a == b)):=by
 simp only[bw,Op.maxDepth,gB,hu,Option.map_some]
theorem A0 {a b:Bool} (hu:P.underlying ty=some .bool):bw .neq ty P (.bool a) (.bool b)=some (.bool (!(a == b))):=by
 simp only[bw,Op.maxDepth,gB,hu,Option.map_some]
end
theorem aR {c:Bool} (h:c=true):(c == true)=true:=by rw[h]; rfl
theorem dZ {c:Bool} (h:c=false):(c == false)=true:=by rw[h]; rfl
theorem ec {c:Bool} (h:c=true):(c == false)=false:=by rw[h]; rfl
theorem aQ {c:Bool} (h:c=false):(c == true)=false:=by rw[h]; rfl
section
variable {E : Env} {n : Nat} {m0 : AMem} {fs : Fs} {ps : List Pc} {x y : Operand} {v : Value} {ty : TypeId}
theorem bm {c:Operand} {b:Bool} (hc:ev E fs c=some (.bool b)) (hb:b=true) (h:ev E fs x=some v):Od E m0 fs ps (.pick c x y) v ps:=iF (by rw[hc,hb]) h
theorem bj {c:Operand} {b:Bool} (hc:ev E fs c=some (.bool b)) (hb:b=false) (h:ev E fs y=some v):Od E m0 fs ps (.pick c x y) v ps:=ax (by rw[hc,hb]) h
theorem lU {α:Type} {f:α→List Value} {elem ty2:TypeId} {w k k2 c0 l l1:Nat} {a a0:Option Addr} {xs ys:List α} {ars:Array Operand} {p0:Pc} (he:Enc f w) (ht:SlT E.P ty elem w) (h3:∃e0,E.P.underlying ty2=some (.slice e0)) (ha:e8 E fs ars.toList=some [.slice a l l,.slice a0 l1 c0]) (hp:pk ps k=some (.sl a w l (xs.map f))) (h1:pk ps k2=some p0) (hr:IsRd p0 a0 c0 w l1 (ys.map f)) (hl:lim (xs++ys).length=true) :
  Ox E m0 fs ps (.call ⟨.builtin .append,ars,#[ty,ty2]⟩) (fun a':Option Addr=>.slice a' (xs++ys).length (xs++ys).length) (fun a'=>bH ps k (.sl a' w (xs++ys).length ((xs++ys).map f))):=by
 intro t m hf hm;have h0:l=xs.length:=by
  have:=hm.get hp;rcases this with⟨h4,h0,_⟩|⟨b,tg,_,h0⟩
  ·rw[h4,List.map_eq_nil_iff.1 h0]; rfl
  ·have:=h0.2.2.2.1; rw[List.length_map] at this; exact this.symm
 have h2:l1=ys.length:=by
  have:=(hm.rd h1 hr).1; rw[List.length_map] at this; exact this.symm
 have:=FE (m0:=m0) ht h3 ha hp h1 hr (he.mO ys) (he.fw ys) (by rw[h0,h2,←List.length_append]; exact hl) t m hf hm
 have e1:xs.map f++ys.map f=(xs++ys).map f:=List.map_append.symm;have e0:l+l1=(xs++ys).length:=by rw[h0,h2,List.length_append]
 rw[e1,e0] at this;exact this
theorem uY {α:Type} {f:α→List Value} {elem:TypeId} {k cap w l:Nat} {lo hi:Int} {a:Option Addr} {xs:List α} {lx hx:Option Operand} {lv hv:Option Value} (ht:SlT E.P ty elem w) (hv':ev E fs x=some (.slice a l cap)) (e1:oO E fs lx=some lv) (e2:oO E fs hx=some hv) (hp:pk ps k=some (.rd a cap w l (xs.map f))) (hb:okB lo hi l=true) (hl:lv=none∧lo=0∨∃k,lv=some (.int k lo)) (hh:hv=none∧hi=(l:Int)∨∃k,hv=some (.int k hi)) :
  Ox E m0 fs ps (.slice ty x lx hx none) (fun r:Option Addr × Nat=>.slice r.1 ((xs.drop lo.toNat).take (hi.toNat-lo.toNat)).length r.2) (fun r=>.rd r.1 r.2 w ((xs.drop lo.toNat).take (hi.toNat-lo.toNat)).length (((xs.drop lo.toNat).take (hi.toNat-lo.toNat)).map f)::ps):=by
 intro t m hf hm;obtain⟨b1,b2,b3⟩:=sJ hb;have h1:xs.length=l:=by have:=(hm.get hp).1; rw[List.length_map] at this; exact this
 have elo:((lo.toNat:Nat):Int)=lo:=Int.toNat_of_nonneg b1;have ehi:((hi.toNat:Nat):Int)=hi:=Int.toNat_of_nonneg (by omega)
 have hlen:((xs.drop lo.toNat).take (hi.toNat-lo.toNat)).length=hi.toNat-lo.toNat:=by rw[List.length_take,List.length_drop,h1]; omega
 have:=FF (m0:=m0) (lo:=lo.toNat) (hi:=hi.toNat) ht hv' e1 e2 hp (by omega) (by omega) (by
  rcases hl with⟨h,h'⟩|⟨k,h⟩
  ·exact .inl ⟨h,by omega⟩
  ·exact .inr ⟨k,by rw[elo]; exact h⟩) (by
  rcases hh with⟨h,h'⟩|⟨k,h⟩
  ·exact .inl ⟨h,by omega⟩
  ·exact .inr ⟨k,by rw[ehi]; exact h⟩) t m hf hm
 rw[zU] at this;rw[hlen];exact this
theorem uI {α:Type} {f:α→List Value} {z0:α} {elem:TypeId} {w:Nat} {i:Int} {z:Value} (ht:SlT E.P ty elem w) (hx:ev E fs x=some (.int .i64 i)) (hi:decide (0≤i)=true) (hl:lim i.toNat=true) (hz:bh E.P elem=some z) (hp:z.cells.toList.all aF=true) (hzf:z.cells.toList=f z0) :
  Ox E m0 fs ps (.makeSlice ty x x) (fun b=>.slice (some ⟨b,0,none⟩) i.toNat i.toNat) (fun b=>.arr b w i.toNat ((List.replicate i.toNat z0).map f) .own::ps):=by
 have:=FV (m0:=m0) (ps:=ps) ht hx (Int.toNat_of_nonneg (of_decide_eq_true hi)).symm hl hz hp;rw[hzf,uz] at this;exact this
theorem km {α:Type} {f:α→List Value} {ag:Bool} {sz b w l j c k:Nat} {xs:List α} {x1 x2:α} {tg:Tag} (ht:TyI E.P ty ag sz) (hx:ev E fs x=some (ptr b (j*w+c))) (hy:ev E fs y=some v) (hp:pk ps k=some (.arr b w l (xs.map f) tg)) (he:xs[j]? = some x1) (hv:wB (f x1) c v sz=some (f x2)):Od E m0 fs ps (.store ty x y) undef (bH ps k (.arr b w l ((xs.set j x2).map f) tg)):=by
 have:=Dv (m0:=m0) ht hx hy hp (aH he) hv;rwa[ux] at this
end
def AP:Tag→Bool
 | .more _=>false
 | _=>true
def B3:Tag→Bool
 | .own=>true
 | _=>false
theorem sn {fs:Fs}:sub fs []:=trivial
theorem sc {fs l:Fs} {i:Nat} {v:Value} (h:lk fs i=some v) (k:sub fs l):sub fs ((i,v)::l):=⟨h,k⟩
theorem cI {k:IntKind} {e y:Int} (h:some e=some y):some (Value.int k e)=some (.int k y):=by rw[Option.some.inj h]
theorem cN {k:IntKind} {e y:Nat} (h:some e=some y):some (Value.int k (e:Int))=some (.int k (y:Int)):=by rw[Option.some.inj h]
theorem Gv {k:IntKind} {e y:Int} {m:AMem} (h:some e=some y):some (Value.int k e,m)=some (.int k y,m):=by rw[Option.some.inj h]
section
variable {P : Program} {ty el : TypeId} {w len : Nat}
theorem yb (h:ArT P ty el len w) {b o i:Nat} {kd:IntKind} (hi:i<len):bq P ty (ptr b o) (.int kd (i:Int))=some (ptr b (o+i*w)):=Df h.und h.known h.size hi
theorem p9 {cs:Array Value} {off sz:Nat} {v:Value} (h:TyI P ty true sz) (hv:(Value.agg (cs.extract off (off+sz)))=v):dI P ty cs off=some v:=by
 simp only[dI,h.known,h.agg,h.size,Bool.not_true,Bool.false_eq_true,if_false,if_true,hv]
theorem qo {cs:Array Value} {off sz:Nat} {v:Value} (h:TyI P ty false sz) (hv:cs[off]? = some v):dI P ty cs off=some v:=by
 simp only[dI,h.known,h.agg,Bool.not_true,Bool.false_eq_true,if_false,hv]
theorem rJ (h:ArT P ty el len w) {cs:Array Value} {i:Nat} {kd:IntKind} {v:Value} (hi:i<len) (hp:dI P el cs (i*w)=some v):ei P ty (.agg cs) (.int kd (i:Int))=some v:=by
 simp only[ei,h.und,h.size,Int.toNat_natCast];rw[if_pos ⟨by omega,by omega⟩]; exact hp
structure BdT (P:Program) (ty:TypeId) (z:Value) (offs:List (Nat × Nat)):Prop where
 bd:∀parts,(parts.all fun p=>Nat.blt p.1 offs.length)=true→ic P ty parts=(fh (fun i=>offs[i]?) z.cells.toList parts).map fun cs=>.agg cs.toArray
def GS (P:Program) (ty:TypeId) (z:Value) (offs:List (Nat × Nat)):Prop :=
 bh P ty=some z∧match P.underlying ty with
  | some (.struct fields)=>fields.toList.all (fun f=>known P f.type)=true∧fields.toList.map (fun f=>(f.offset,aq P f.type))=offs
  | some (.array n elem)=>known P elem=true∧(List.range n).map (fun i=>(i*aq P elem,aq P elem))=offs
  | _=>False
theorem iM {p q:Nat→Option (Nat × Nat)} {n:Nat} (h:∀i,i<n→p i=q i):∀(parts:List (Nat × Value)) (cs:List Value),(parts.all fun p=>Nat.blt p.1 n)=true→fh p cs parts=fh q cs parts
 | [],_,_=>rfl
 | (i,v)::rest,cs,hp=>by
  rw[List.all_cons,Bool.and_eq_true] at hp;have hi:i<n:=by have:=hp.1; rwa[Nat.blt_eq] at this
  simp only[fh,h i hi];cases q i with
  | none=>rfl
  | some r=>simp only[]; split; rfl; exact iM h rest _ hp.2
theorem BdT.of {z:Value} {offs:List (Nat × Nat)} (h:GS P ty z offs):BdT P ty z offs:=⟨fun parts hp=>by
 obtain⟨hz,h⟩:=h;unfold ic;rw[hz];cases hu:P.underlying ty with
 | none=>rw[hu] at h; exact h.elim
 | some u =>
  rw[hu] at h;cases u with
  | struct fields =>
   simp only at h ⊢;rw[if_pos h.1]
   congr 1
   refine iM (n:=offs.length) (fun i hi=>?_) parts _ hp;rw[←h.2,List.getElem?_map]; simp
  | array n elem =>
   simp only at h ⊢;rw[if_pos h.1]
   congr 1
   refine iM (n:=offs.length) (fun i hi=>?_) parts _ hp;have hl:offs.length=n:=by rw[←h.2]; simp
   rw[←h.2,List.getElem?_map,List.getElem?_range (by omega)]; rfl
  | _=>exact h.elim⟩
def Gk (P:Program) (ty:TypeId) (offs:List (Nat × Nat)):Bool :=
 match P.underlying ty with
 | some (.struct fields)=>fields.toList.all (fun f=>known P f.type) && decide (fields.toList.map (fun f=>(f.offset,aq P f.type))=offs)
 | some (.array n elem)=>known P elem && decide ((List.range n).map (fun i=>(i*aq P elem,aq P elem))=offs)
 | _=>false
theorem BdT.mk' {z:Value} {offs:List (Nat × Nat)} (hz:bh P ty=some z) (h:Gk P ty offs=true):BdT P ty z offs:=by
 refine .of ⟨hz,?_⟩;unfold Gk at h;cases hu:P.underlying ty with
 | none=>rw[hu] at h; cases h
 | some u =>
  rw[hu] at h;cases u with
  | struct fields=>simp only[Bool.and_eq_true,decide_eq_true_eq] at h ⊢; exact h
  | array n elem=>simp only[Bool.and_eq_true,decide_eq_true_eq] at h ⊢; exact h
  | _=>cases h
theorem cm {z r:Value} {offs:List (Nat × Nat)} {parts:List (Nat × Value)} {cs:List Value} (h:BdT P ty z offs) (hp:(parts.all fun p=>Nat.blt p.1 offs.length)=true) (hr:fh (fun i=>offs[i]?) z.cells.toList parts=some cs) (e:Value.agg cs.toArray=r):ic P ty parts=some r:=by
 rw[h.bd parts hp,hr]; exact congrArg some e
theorem fa {n:Nat} {vs:List (Nat × Value)} {z:Value} {cs:List Value} (ht:SlT P ty el w) (hz:bh P el=some z) (h1:((bM z.cells.toList n).all aF && Nat.ble (n*w) 16777216)=true) (hr:fh (fun i=>some (i*w,w)) (bM z.cells.toList n) vs=some cs):D1 P el w n vs=some cs:=by
 have hzs:z.cells.size=w:=by have:=ht.zero; rw[hz] at this; simp only[Option.any_some,Bool.and_eq_true,beq_iff_eq] at this; exact this.1
 have:dx P el n=some (bM z.cells.toList n):=by simp only[dx,hz,ht.size]; rw[if_pos hzs]
 simp only[D1,this,h1]; exact hr
theorem q7 {xs ys:Array Value} {b:Bool} (h:P.eqGuardType P.depth ty=false) (hb:gB P Op.maxDepth ty (.agg xs) (.agg ys)=some b):bw .eql ty P (.agg xs) (.agg ys)=some (.bool b):=by
 simp only[bw,h,Bool.false_eq_true,if_false,hb,Option.map_some]
theorem BC {xs ys:Array Value} {b:Bool} (h:P.eqGuardType P.depth ty=false) (hb:gB P Op.maxDepth ty (.agg xs) (.agg ys)=some b):bw .neq ty P (.agg xs) (.agg ys)=some (.bool (!b)):=by
 simp only[bw,h,Bool.false_eq_true,if_false,hb,Option.map_some]
end
section
variable {E : Env} {n : Nat} {m0 : AMem} {fs : Fs} {ps : List Pc} {x y : Operand} {v : Value} {ty : TypeId}
theorem DM {el:TypeId} {len w b o k:Nat} {cs:List Value} {tg:Tag} (ht:ArT E.P ty el len w) (hx:ev E fs x=some (ptr b o)) (hp:pk ps k=some (.obj b (.cells cs tg))) (htg:AP tg=true) (hlen:Nat.blt 0 len=true):Od E m0 fs ps (.slice ty x none none none) (.slice (some ⟨b,o,none⟩) len len) ps :=
 fun t m hf h=>⟨fun b' hb=>by
  have:cW (ptr b o)=some b:=rfl;simp only[aD,hf.ev hx,Option.bind_some,this] at hb;cases hb; exact(h.get hp).2.1,fun K hK=>by
  have hg:=(h.get hp).2.2;have hb:cX len len none none none=some (0,len,len):=ft (Nat.zero_le _) (Nat.le_refl _) (.inl ⟨rfl,rfl⟩) (.inl ⟨rfl,rfl⟩);have hl:len≠0:=by rw[Nat.blt_eq] at hlen; omega
  have:bA E.P ty (ptr b o) none none none m=some (.slice (some ⟨b,o,none⟩) len len):=by
   cases tg with
   | more s=>cases htg
   | ro=>simp only[bA,ptr,ht.und,ht.known,if_true,hg,hb,Nat.sub_zero,if_neg hl,Nat.zero_mul,Nat.add_zero]
   | own=>simp only[bA,ptr,ht.und,ht.known,if_true,hg,hb,Nat.sub_zero,if_neg hl,Nat.zero_mul,Nat.add_zero]
  rw[Go.Ab.kA (hf.ev hx) rfl rfl rfl this]; exact hK m h⟩
variable {ops : Array Oper} {os : List Oper} {K : Tm → AMem → Prop} {dr : Bool}
theorem Wo.len {α:Type} {f:α→List Value} {k w l:Nat} {a:Option Addr} {xs:List α} (hp:pk ps k=some (.sl a w l (xs.map f))) (h:l=xs.length→Wo dr E n ops K os m0 fs ps):Wo dr E n ops K os m0 fs ps:=by
 have key:∀m,Hp m0 m ps→l=xs.length:=fun m hm=>by
  rcases hm.get hp with⟨h0,h1,_⟩|⟨b,tg,_,h1⟩
  ·rw[h0,List.map_eq_nil_iff.1 h1]; rfl
  ·have:=h1.2.2.2.1; rw[List.length_map] at this; exact this.symm
 cases dr with
 | false=>exact fun t m hf hm=>h (key m hm) t m hf hm
 | true=>exact fun t m w hf hm hw=>h (key m hm) t m w hf hm hw
end
theorem ab.An {m0:AMem} {ps:List Pc} (w:Nat):ab m0 ps (.rd none 0 w 0 []::ps):=fun m h =>
 h.cons (Nat.le_refl _) h.ext (fun _ _=>rfl) (Rd.nil m w) fun b hb=>(by cases hb)
theorem Hp.kT {m0 m:AMem} {ps:List Pc} {a:Option Addr} {cap w l:Nat} {es:List (List Value)} (h:Hp m0 m ps) (ho:(ps.all Pc.Da)=true) (hr:Rd m a cap w l es):Hp m0 m (.rd a cap w l es::ps) :=
 h.in (fun p hp b=>Pc.uE (List.all_eq_true.1 ho p hp) b) hr
theorem Hp.Gy {m0 m:AMem} {ps:List Pc} {α:Type} {xs:List α} {f:α→List Value} {k b o w l:Nat} {cs:List Value} {tg:Tag} (h:Hp m0 m ps) (hp:pk ps k=some (.obj b (.cells cs tg))) (htg:B3 tg=true) (hl:Nat.beq xs.length l=true) (hc:(cs.drop o).take (l*w)=(xs.map f).flatten) (he:Enc f w):Rd m (some ⟨b,o,none⟩) l w l (xs.map f):=by
 have hl:=Nat.eq_of_beq_eq_true hl;have hnm:∀sz,tg = .more sz→sz=w:=fun sz e=>by rw[e] at htg; cases htg
 have hg:=(h.get hp).2.2;refine⟨by rw[List.length_map]; exact hl,Nat.le_refl _,.inr (.inr ⟨b,o,rfl,(h.get hp).2.1,cs,tg,hg,hnm,fun i e hi=>?_⟩)⟩
 have hw:=he.mO xs;have h1:=p3 hw hi;have hlt:i<l:=by have:=(List.getElem?_eq_some_iff.1 hi).1; rw[List.length_map,hl] at this; exact this
 refine⟨?_,hw e (List.mem_of_getElem? hi)⟩;rw[←hc] at h1;rw[←h1,List.drop_take,List.take_take,List.drop_drop];have:w≤l*w-i*w:=by
  have:(i+1)*w≤l*w:=Nat.mul_le_mul_right w hlt;rw[Nat.succ_mul] at this; omega
 rw[Nat.min_eq_left this]
theorem gu {ops:Array Oper} {fs:Fs} {j d:Nat} {b:Bool} (hd:(ops[j]?).bind (·.dst)=some d) (h:lk fs d=some undef):rK ops fs (some (j,b)) false:=fun t d' o ty p af hf=>by
 rw[xx];have hat:=hf d _ h;unfold cj;rw[hd];unfold Tm.at at hat;cases hg:Trie.get t d with
 | none=>simp only[hg]
 | some v=>rw[hg] at hat; have hv:v=undef:=hat; subst hv; simp only[hg]; rfl
section
variable {P : Program} {ty : TypeId} {k : IntKind}
end
section
variable {E : Env} {n : Nat} {m0 : AMem} {fs : Fs} {ps : List Pc} {x y : Operand} {v : Value} {ty : TypeId}
theorem Bu {α:Type} {V:α→Value} {N:α→List Pc} {a b:Value} (hx:ev E fs x=some a) (hy:ev E fs y=some b) (h:∀m,Hp m0 m ps→∃z,ei E.P ty a b=some (V z)∧Hp m0 m (N z)):Ox E m0 fs ps (.index ty x y) V N :=
 fun t m hf hm=>⟨fun b hb=>(by simp[aD] at hb),fun K hK=>by
  obtain⟨z,h1,h2⟩:=h m hm;rw[Go.Ab.zL (hf.ev hx) (hf.ev hy) h1]; exact hK z m h2⟩
end
theorem Hp.dup {m0 m:AMem} {ps:List Pc} {a:Option Addr} {k cap w l:Nat} {es:List (List Value)} (h:Hp m0 m ps) (hp:pk ps k=some (.rd a cap w l es)):Hp m0 m (.rd a cap w l es::ps):=h.more hp rfl (h.get hp) rfl fun _ h=>h
end Go.Ab.W
end

section
namespace Go.Ab
open Go Go.Ab.W
theorem EU (j:aK) (u:Value):∃v,VR j v u:=by
 match h:u with
 | .agg cs =>
  have:∀i (hi:i<cs.size),∃v,VR j v cs[i]:=fun i hi=>EU j cs[i];refine⟨.agg (Array.ofFn fun i:Fin cs.size=>Classical.choose (this i.1 i.2)),.agg (by simp) fun i a b=>?_⟩
  have hi:i<cs.size:=b;have:=Classical.choose_spec (this i hi)
  simpa using this
 | .tuple cs =>
  have:∀i (hi:i<cs.size),∃v,VR j v cs[i]:=fun i hi=>EU j cs[i];refine⟨.tuple (Array.ofFn fun i:Fin cs.size=>Classical.choose (this i.1 i.2)),.tuple (by simp) fun i a b=>?_⟩
  have hi:i<cs.size:=b;have:=Classical.choose_spec (this i hi)
  simpa using this
 | .bool b=>exact⟨_,.bool b⟩
 | .int k n=>exact⟨_,.int k n⟩
 | .float k b=>exact⟨_,.junk rfl⟩
 | .complex k a b=>exact⟨_,.junk rfl⟩
 | .string s=>exact⟨_,.string s⟩
 | .pointer none=>exact⟨_,.pnil⟩
 | .pointer (some a)=>exact⟨_,.junk rfl⟩
 | .slice none l c=>exact⟨_,.snil l c⟩
 | .slice (some a) l c=>exact⟨_,.junk rfl⟩
 | .map none=>exact⟨_,.mnil⟩
 | .map (some r)=>exact⟨_,.junk rfl⟩
 | .chan r=>exact⟨_,.junk rfl⟩
 | .func f a b=>exact⟨_,.junk rfl⟩
 | .nilFunc=>exact⟨_,.nilFunc⟩
 | .iface t v=>exact⟨_,.junk rfl⟩
 | .nilIface=>exact⟨_,.nilIface⟩
termination_by SizeOf.sizeOf u
decreasing_by
 all_goals
  subst h;have:=Array.sizeOf_getElem cs i hi;simp only[Value.agg.sizeOf_spec,Value.tuple.sizeOf_spec];omega
noncomputable def seen (j:aK) (v':Value):Value:=if aF v' then v' else Classical.choose (EU j v')
theorem Ad (j:aK) (v':Value):VR j (seen j v') v':=by
 unfold seen
 split
 ·rename_i h; exact .aF h
 ·exact Classical.choose_spec (EU j v')
def iG (W:World):aK:=fun b=>if b<W.heap.size then some ⟨b,none⟩ else none
noncomputable def fJ (W:World):AMem:={ next:=W.heap.size,wl:=W.heap.size,objs:=.nil,base:=fun b=>match W.heap[b]? with
 | some (.cells c _ _)=>some (.cells (c.toList.map (seen (iG W))) .ro)
 | _=>none}
theorem sP (W:World) (b:Nat):(fJ W).get b=match W.heap[b]? with
 | some (.cells c _ _)=>some (.cells (c.toList.map (seen (iG W))) .ro)
 | _=>none:=by
 simp[AMem.get,fJ,Heap.get_nil]
theorem Ct {E:Env} {W:World} (hg:E.glob≤W.heap.size):MR E (iG W) (fJ W) W:=by
 have hj:∀b k,iG W b=some k→b<W.heap.size∧k=⟨b,none⟩:=by
  intro b k h;unfold iG at h
  split at h
  ·rename_i hb; cases h; exact⟨hb,rfl⟩
  ·cases h
 refine⟨fun b k h=>?_,fun b o k ho h=>?_,fun b b' k k' h h' _ _ hc=>?_,fun g hgl=>?_⟩
 ·obtain⟨h1,rfl⟩:=hj b k h;exact⟨h1,h1⟩
 ·obtain⟨h1,rfl⟩:=hj b k h;rw[sP] at ho
  split at ho
  ·rename_i c t fz hc;cases ho;refine⟨_,hc,⟨rfl,by simp⟩,fun i v hi=>?_⟩
   rw[List.getElem?_map] at hi;obtain⟨x,hx,rfl⟩:=Option.map_eq_some_iff.1 hi;exact⟨x,by simpa using hx,Ad _ _⟩
  ·cases ho
 ·obtain⟨_,rfl⟩:=hj b k h;obtain⟨_,rfl⟩:=hj b' k' h';exact hc
 ·unfold iG;rw[if_pos (by omega)]
inductive Lf where
 | int (k:IntKind)
 | bool
 | sl (e:TypeId)
 deriving DecidableEq
inductive All2 {α β:Type} (R:α→β→Prop):List α→List β→Prop
 | nil:All2 R [] []
 | cons {a:α} {b:β} {l:List α} {r:List β} (h:R a b) (t:All2 R l r):All2 R (a::l) (b::r)
section
variable {H : Type} {enc : TypeId × Value → H} {P : Program} {W : World} {base : Nat} {sp : Nat → Bool} {held : Bool}
end
end Go.Ab
end

section
namespace Go.Ab
open Go Go.Ab.W Go.ChangeShapes Go.WideShapes Go.RowKit
section
variable {H : Type} {enc : TypeId × Value → H} {P : Program} {W : World} {sp : Nat → Bool} {held : Bool}
theorem jE {T:TypeId→Prop} (K:Kids P T) (hsz:∀{t e:TypeId},T t→P.underlying t=some (.slice e)→0<P.cellsOf e) {W':World} {sp':Nat→Bool}:∀{ts:List TypeId} {vs:List Value} {ds:List (DataW H)} {ps:List MemPlace},
  (∀t ∈ ts,T t)→DataW.TrodAll enc P W 0 (fun _=>true) true ts vs ds ps→(∀p ∈ ps,W.sameAt W' p)→(∀p ∈ ps,sp' p.block=true)→DataW.TrodAll enc P W' 0 sp' true ts vs ds ps
 | [],[],[],_,_,h,_,_=>h
 | t::ts,v::vs,d::ds,_,hT,⟨p,q,⟨n,hn⟩,hs,e⟩,h1,h2=>by
  subst e;refine⟨p,q,⟨n,DataW.trod_stays K hsz (fun h=>(by cases h)) (hT t (by simp)) hn (fun x hx=>h1 x (by simp[hx])) fun x hx=>h2 x (by simp[hx])⟩,jE K hsz (fun t' ht'=>hT t' (by simp[ht'])) hs (fun x hx=>h1 x (by simp[hx])) (fun x hx=>h2 x (by simp[hx])),rfl⟩
theorem vc {w w':World} {p:MemPlace} (h:w'.heap[p.block]? = w.heap[p.block]?):w.sameAt w' p:=by
 cases p with
 | cell b o=>simp only[World.sameAt,World.cell?]; rw[show w'.heap[b]? = w.heap[b]? from h]
 | map b=>simp only[World.sameAt]; rw[show w'.heap[b]? = w.heap[b]? from h]
def sizedB (P:Program):Bool:=(List.range P.types.size).all fun t=>match P.underlying t with
 | some (.slice e)=>decide (0<P.cellsOf e)
 | _=>true
theorem vH (h:sizedB P=true) {t e:TypeId} (ht:t<P.types.size) (hu:P.underlying t=some (.slice e)):0<P.cellsOf e:=by
 have:=List.all_eq_true.1 h t (by simpa using ht)
 rw[hu] at this
 simpa using this
theorem yL {f:Func} {s:ChangeSpec} {W':World} {args:Array Value} {ds:List (DataW H)} {before:List MemPlace} {tb:TypeId} {fresh handsOn:Bool} (hlo:laidOutB P=true) (hm:mapsRowed P=true) (hsz:sizedB P=true)
  (hvars:s.vars = []) (hres:f.resultTypes.toList = [tb]) (hrs:f.resultTypes.size=1) (htb:P.underlying tb=some .bool) (hpt:∀t ∈ f.params.toList,t<P.types.size) (hfn:s.fn H ds = { results:=[.lit (.bool true)],args:=ds,vars:=[]})
  (hW:DataW.Whole enc P f.params.toList s.vars false W args.toList ds [] before) {E:Env} (hcalm:ff E W W') (hg:∀c,c<W.heap.size→W'.heap[c]? = W.heap[c]?) :
  s.post enc P f false fresh handsOn false W args (.bool true) W':=by
 have hW':=hW;obtain⟨p,q,hA,hV,rfl,_,_⟩:=hW;rw[hvars] at hV;obtain⟨_,rfl⟩:=trodVars_none hV;have hlt:=hW'.lt;refine⟨ds,[],_,[],p,[],hW',?_,?_,?_,mC hcalm hg _,fun h=>by cases h⟩
 ·rw[List.append_nil,hfn,hres]
  show DataW.TrodAll enc P W' _ _ handsOn [tb] ((Value.bool true).resultList f.resultTypes.size) [.lit (.bool true)] []
  rw[hrs];exact trodAll_mk1 (shut_bool htb true)
 ·rw[List.append_nil,hfn];refine jE (kids_rows hlo hm) (fun ht hu=>vH hsz ht hu) hpt hA (fun x hx=>vc (hg _ (hlt x (by simp[hx])))) fun x hx=>by
   have:=hlt x (by simp[hx])
   simpa using this
 ·rw[List.append_nil,hfn,hvars];exact rfl
end
end Go.Ab
end

section
namespace Go.Ab
open Go
def rY (x y c:Nat):Value:=.tuple #[.int .u64 (.ofNat ((x+y+c)%18446744073709551616)),.int .u64 (.ofNat ((x+y+c)/18446744073709551616))]
def qK (x y c:Nat):Value:=.tuple #[.int .u64 (.ofNat ((x+18446744073709551616-y-c)%18446744073709551616)),.int .u64 (.ofNat (if x<y+c then 1 else 0))]
def dD (V:Nat→Nat→Nat→Value) (args:List Value) (m:AMem):Option (Value × AMem) :=
 match args with
 | [.int .u64 (.ofNat x),.int .u64 (.ofNat y),.int .u64 (.ofNat c)]=>if Nat.ble c 1 then some (V x y c,m) else none
 | _=>none
theorem pa {V:Nat→Nat→Nat→Value} {args:List Value} {m m':AMem} {v:Value} (h:dD V args m=some (v,m')) :
  ∃x y c:Nat,args = [.int .u64 x,.int .u64 y,.int .u64 c]∧c≤1∧v=V x y c∧m'=m:=by
 unfold dD at h
 split at h
 ·rename_i x y c
  split at h
  ·rename_i hc;cases h;exact⟨x,y,c,rfl,Nat.le_of_ble_eq_true hc,rfl,rfl⟩
  ·cases h
 ·cases h
section
variable {E : Env} {j : aK} {m : AMem} {w : World}
theorem LR.AS:∀{l l':List Value},l.all Ab.aF=true→LR j l l'→l'=l:=by
 intro l
 induction l with
 | nil=>intro l' _ h; exact h.cw
 | cons v l ih =>
  intro l' hp h;obtain⟨v1,vs,rfl,h1,h2⟩:=h.cons_inv;rw[List.all_cons,Bool.and_eq_true] at hp;rw[dG hp.1 h1,ih hp.2 h2]
theorem kI {V:Nat→Nat→Nat→Value} {f:FuncId} (hV:∀x y c,bc (V x y c)=true) (hrun:∀(x y c:Nat) (w:World),c≤1→(callFunc f #[.int .u64 x,.int .u64 y,.int .u64 c]).run E.P w = .ok (.value (V x y c)) w) (hpr:(E.bT f).isSome=true)
  {args args':List Value} {v:Value} {m':AMem} (he:dD V args m=some (v,m')) (h:MR E j m w) (hl:LR j args args') :
  fR E.P (E.bT f).isSome f args'.toArray w (iC E j m w v m'):=by
 obtain⟨x,y,c,rfl,hc,rfl,rfl⟩:=pa he;rw[LR.AS rfl hl];exact .inr ⟨hpr,V x y c,w,hrun x y c w hc,j,.refl h,.bc (hV x y c)⟩
end
theorem tE (x y c:Nat):bc (rY x y c)=true:=rfl
theorem sT (x y c:Nat):bc (qK x y c)=true:=rfl
section
variable {P : Program} {f : FuncId} {fn : Func}
theorem Av (hf : P.funcs[f]? = some fn) (hname : (fn.name == "runtime.NumGoroutine") = false) (hb : fn.body.isNone = true) (hn : Extern.findNext fn = none) (he : Extern.find fn = some add64Entry) (x y c : Nat) (w : World) (hc : c ≤ 1) :
  (callFunc f #[.int .u64 x,.int .u64 y,.int .u64 c]).run P w = .ok (.value (rY x y c)) w:=by
 rw[run_callFunc_extern hf hname hb hn he,run_add64 x y c (by omega) (by omega) (by omega) (by omega)]
 simp only[Result.andThen,rY]
 congr 5
theorem zg (hf : P.funcs[f]? = some fn) (hname : (fn.name == "runtime.NumGoroutine") = false) (hb : fn.body.isNone = true) (hn : Extern.findNext fn = none) (he : Extern.find fn = some Go.Proofs.sub64Entry) (x y c : Nat) (w : World) (hc : c ≤ 1) :
  (callFunc f #[.int .u64 x,.int .u64 y,.int .u64 c]).run P w = .ok (.value (qK x y c)) w:=by
 rw[run_callFunc_extern hf hname hb hn he,Go.Proofs.run_sub64 x y c hc]
 rfl
end
noncomputable def AW (v:Value) (k:Nat→Bool):Bool:=ju v fun kd z=>dC (hM kd .u64) (wz z k false) false
theorem lf {v:Value} {k:Nat→Bool} (h:AW v k=true):∃x:Nat,v = .int .u64 x∧k x=true:=by
 obtain⟨kd,z,rfl,h⟩:=bX h;obtain⟨h1,h⟩:=aX h;cases dE h1;rcases fG h with⟨x,rfl,h⟩|h
 ·exact⟨x,rfl,h⟩
 ·cases h
noncomputable def qe (W:Nat→Nat→Nat→(Value→Bool)→Bool) (args:List Value) (m:AMem) (K:Value→AMem→Bool):Bool :=
 dC (xl args 3) (sE 0 args fun a=>sE 1 args fun b=>sE 2 args fun d=>AW a fun x=>AW b fun y=>AW d fun c=>dC (Nat.ble c 1) (W x y c fun v=>K v m) false) false
noncomputable def CD (x y c:Nat) (k:Value→Bool):Bool:=fN ((x+y+c)%18446744073709551616) fun s=>fN ((x+y+c)/18446744073709551616) fun d=>k (.tuple #[.int .u64 (.ofNat s),.int .u64 (.ofNat d)])
noncomputable def BN (x y c:Nat) (k:Value→Bool):Bool:=fN ((x+18446744073709551616-y-c)%18446744073709551616) fun s=>dC (Nat.blt x (y+c)) (k (.tuple #[.int .u64 (.ofNat s),.int .u64 (.ofNat 1)])) (k (.tuple #[.int .u64 (.ofNat s),.int .u64 (.ofNat 0)]))
theorem zH (x y c:Nat) (k:Value→Bool):CD x y c k=k (rY x y c):=by unfold CD rY; rw[cG,cG]
theorem AM (x y c:Nat) (k:Value→Bool):BN x y c k=k (qK x y c):=by
 unfold BN qK;rw[cG]
 by_cases h:x<y+c
 ·have:Nat.blt x (y+c)=true:=by rw[Nat.blt_eq]; exact h
  rw[this,if_pos h]; rfl
 ·have:Nat.blt x (y+c)=false:=by
   cases hb:Nat.blt x (y+c) with
   | false=>rfl
   | true=>rw[Nat.blt_eq] at hb; exact absurd hb h
  rw[this,if_neg h]; rfl
theorem pz {V:Nat→Nat→Nat→Value} {W:Nat→Nat→Nat→(Value→Bool)→Bool} (hW:∀x y c k,W x y c k=k (V x y c)) {args:List Value} {m:AMem} {K:Value→AMem→Bool} (h:qe W args m K=true):∃v m',dD V args m=some (v,m')∧K v m'=true:=by
 unfold qe at h;obtain⟨hl,h⟩:=aX h;obtain⟨a,ha,h⟩:=eL h;obtain⟨b,hb,h⟩:=eL h;obtain⟨d,hd,h⟩:=eL h;obtain⟨x,ea,h⟩:=lf h;obtain⟨y,eb,h⟩:=lf h;obtain⟨c,ed,h⟩:=lf h;rw[ea] at ha; rw[eb] at hb; rw[ed] at hd;obtain⟨hc,h⟩:=aX h;rw[hW] at h;have hargs:args = [.int .u64 x,.int .u64 y,.int .u64 c]:=by
  have:=jj hl
  match args,this,ha,hb,hd with
  | [p,q,r],_,ha,hb,hd=>cases ha; cases hb; cases hd; rfl
 refine⟨_,_,?_,h⟩;rw[hargs]
 show(if Nat.ble c 1 then some (V x y c,m) else none)=_
 rw[hc]; rfl
end Go.Ab
end

section
namespace Go.Proofs.YthmekkhpddehjaaGreat
open Go Go.Ab
def oz:List (Value × Value)→Option (List Int)
 | []=>some []
 | (.int .i64 k,_)::r=>(oz r).map (k::·)
 | _=>none
def rI (a:Int):List Int→List Int
 | []=>[a]
 | b::l=>if a≤b then a::b::l else b::rI a l
def gT:List Int→List Int
 | []=>[]
 | a::l=>rI a (gT l)
def zT:List Int→Bool
 | []=>true
 | a::l=>!l.contains a && zT l
def Fx (ks:List Int):Bool:=ks.all (fun k=>decide (-9223372036854775808≤k) && decide (k<9223372036854775808)) && zT ks && Nat.ble ks.length 1073741824
def dH (args:List Value) (m:AMem):Option (Value × AMem) :=
 match args with
 | [.map (some b)]=>match m.get b with
  | some (.map es)=>match oz es with
   | some ks=>if Fx ks then(match ks with
    | []=>some (.slice none 0 0,m)
    | k::ks=>some (.slice (some ⟨m.next,0,none⟩) (ks.length+1) (ks.length+1),m.alloc (.cells ((gT (k::ks)).map (.int .i64)) (.more 1)))) else none
   | none=>none
  | _=>none
 | _=>none
def z6 (f:FuncId):Option Prim:=if f=111 then some ⟨dH⟩ else if f=144 then some ⟨dD rY⟩ else if f=145 then some ⟨dD qK⟩ else none
noncomputable def oY:Env:={ P:=Tryz.prog,glob:=0,bT:=z6,mono:=False}
def kS (args:List Value) (m:AMem):Option (Value × AMem) :=
 match args with
 | []=>some (.bool true,m)
 | _=>none
theorem D8:ownKnob Tryz.prog.godebug=none:=by kernel_rfl
theorem sB:tP Tryz.prog=true:=by kernel_rfl
end Go.Proofs.YthmekkhpddehjaaGreat
end

section
namespace Go.Ab
open Go
section
variable {E : Env} {j j1 : aK} {m m1 : AMem} {w w1 : World}
theorem Sim.k8 (h:MR E j m w) (hold:∀c,c<w.heap.size→w1.heap[c]? = w.heap[c]?) (hsize:w.heap.size≤w1.heap.size) (hcalm:ff E w w1) {k1:Blk} (hfresh:w.heap.size≤k1.c) (hlt:k1.c<w1.heap.size) {cs:List Value} {tag:Tag} {o':Obj} (ho:w1.heap[k1.c]? = some o') (hor:OR j1 k1 (.cells cs tag) o') (hp:cs.all aF=true) :
  Sim E j m w (j.set m.next k1) (m.alloc (.cells cs tag)) w1:=by
 have hn:j m.next=none:=h.lB
 have ha:MR E j m w1:=⟨fun b k hb=>⟨(h.lt b k hb).1,Nat.lt_of_lt_of_le (h.lt b k hb).2 hsize⟩,fun b o k ho hb=>by
  obtain⟨o',h1,h2⟩:=h.obj b o k ho hb;exact⟨o',(hold k.c (h.lt b k hb).2).trans h1,h2⟩,h.inj,h.glob⟩
 refine⟨.alloc m _,aK.nj k1 hn,?_,?_,hsize,?_,?_,?_,fun c hc _=>hold c hc,hcalm⟩
 ·intro b k e e'
  by_cases hbm:b=m.next
  ·omega
  ·rw[aK.bR _ _ hbm,e'] at e; cases e
 ·refine⟨fun b k e=>?_,fun b o k ho' e=>?_,fun b b' k k' e e' hl hl' hc=>?_,fun gl hgl=>?_⟩
  ·by_cases hbm:b=m.next
   ·subst hbm; rw[aK.bU] at e; cases e;exact⟨Nat.lt_succ_self _,hlt⟩
   ·rw[aK.bR _ _ hbm] at e;exact⟨Nat.lt_succ_of_lt (h.lt b k e).1,(ha.lt b k e).2⟩
  ·rw[AMem.aU] at ho'
   by_cases hbm:b=m.next
   ·subst hbm; rw[aK.bU] at e; cases e;rw[if_pos rfl] at ho'; cases ho';refine⟨o',ho,?_⟩;cases o' with
    | cells c ty fz =>
     refine⟨hor.1,fun i v hi=>?_⟩;obtain⟨v',h3,h4⟩:=hor.2 i v hi;have hpv:=List.all_eq_true.1 hp v (List.mem_of_getElem? hi);have:=dG hpv h4;subst this;exact⟨_,h3,.aF hpv⟩
    | _=>exact hor.elim
   ·rw[if_neg hbm] at ho';rw[aK.bR _ _ hbm] at e;obtain⟨o',h1,h2⟩:=ha.obj b o k ho' e;exact⟨o',h1,h2.mono (aK.nj k1 hn)⟩
  ·have old:∀{b k},j b=some k→k.c≠k1.c:=fun {b k} e hc=>by
    have:=(h.lt b k e).2;omega
   by_cases hbm:b=m.next
   ·by_cases hbm':b'=m.next
    ·rw[hbm,hbm']
    ·subst hbm; rw[aK.bU] at e; cases e;rw[aK.bR _ _ hbm'] at e';exact absurd hc.symm (old e')
   ·by_cases hbm':b'=m.next
    ·subst hbm'; rw[aK.bU] at e'; cases e';rw[aK.bR _ _ hbm] at e;exact absurd hc (old e)
    ·rw[aK.bR _ _ hbm] at e;rw[aK.bR _ _ hbm'] at e';rw[AMem.aU,if_neg hbm] at hl;rw[AMem.aU,if_neg hbm'] at hl';exact h.inj b b' k k' e e' hl hl' hc
  ·have:=h.glob gl hgl;have hlt:=(h.lt gl _ this).1;rw[aK.bR _ _ (by omega)]; exact this
 ·intro b hb1 hb2 _;have:b=m.next:=by simp at hb2; omega
  subst this; exact⟨k1,aK.bU _ _ _⟩
 ·intro b hb _;rw[AMem.aU,if_neg (by omega)]
 ·intro b k e e'
  by_cases hbm:b=m.next
  ·subst hbm; rw[aK.bU] at e; cases e;exact .inl hfresh
  ·rw[aK.bR _ _ hbm,e'] at e; cases e
theorem Sim.same (h:MR E j m w) (hold:∀c,c<w.heap.size→w1.heap[c]? = w.heap[c]?) (hsize:w.heap.size≤w1.heap.size) (hcalm:ff E w w1):Sim E j m w j m w1 where
 ext:=.refl m
 le:=.refl j
 new:=fun b k h h'=>by simp[h'] at h
 mr:=⟨fun b k hb=>⟨(h.lt b k hb).1,Nat.lt_of_lt_of_le (h.lt b k hb).2 hsize⟩,fun b o k ho hb=>by
  obtain⟨o',h1,h2⟩:=h.obj b o k ho hb;exact⟨o',(hold k.c (h.lt b k hb).2).trans h1,h2⟩,h.inj,h.glob⟩
 size:=hsize
 full:=fun b h h' _=>absurd h (by omega)
 away:=fun _ _ _=>rfl
 fresh:=fun b k h h'=>by simp[h'] at h
 frame:=fun c hc _=>hold c hc
 calm:=hcalm
theorem tv (hE:EnvOk E) {pr:FuncId→Option Prim} (h:∀f p,pr f=some p→E.bT f=some p∨∀args m v m',p.run args m=some (v,m')→∀(j:aK) (w:World) (args':List Value),MR E j m w→LR j args args'→fR E.P (E.bT f).isSome f args'.toArray w (iC E j m w v m')):EnvOk { E with bT:=pr}:=by
 refine⟨hE.call,hE.mixed,fun f p hp args m v m' hrun j w args' hm hl=>?_⟩;have hp':({ E with bT:=pr}:Env).bT f=some p:=hp;have hm0:MR E j m w:=MR.env (E:={ E with bT:=pr}) (E':=E) rfl hm;have key:∀v' w',iC E j m w v m' v' w'→iC { E with bT:=pr} j m w v m' v' w':=fun v' w' ⟨j',s,hv⟩=>⟨j',Sim.env (E:=E) rfl (fun e=>e) s,hv⟩;rcases h f p hp with h1|h1
 ·exact jb (fun _=>by rw[hp']; rfl) (hE.bT f p h1 args m v m' hrun j w args' hm0 hl) key
 ·exact jb (fun _=>by rw[hp']; rfl) (h1 args m v m' hrun j w args' hm0 hl) key
end
section
variable {E : Env} {j : aK} {m : AMem} {w : World}
def iL (j:aK) (g:Nat):aK:=fun x=>if x<g then j x else none
theorem rj (n:Nat) (gs:Nat→Option (List Value)) (b:Nat):(my n gs).get b=(gs b).map fun cs=>.cells cs .ro:=by
 simp[AMem.get,my,Heap.get_nil]
theorem MR.DT {gs:Nat→Option (List Value)} (h:MR E j m w) (hgs:∀x c,x<E.glob→gs x=some c→m.get x=some (.cells c .ro)) (hgp:∀x c,gs x=some c→c.all aF=true):MR E (iL j E.glob) (my E.glob gs) w:=by
 have cases1:∀x k,iL j E.glob x=some k→x<E.glob∧j x=some k:=by
  intro x k hx;unfold iL at hx
  split at hx
  ·rename_i hlt; exact⟨hlt,hx⟩
  ·cases hx
 refine⟨fun x k hx=>?_,fun x o k ho hx=>?_,fun x x' k k' hx hx' hl hl' hc=>?_,fun gl hgl=>?_⟩
 ·obtain⟨hlt,hj⟩:=cases1 x k hx;exact⟨hlt,(h.lt x k hj).2⟩
 ·rw[rj] at ho;obtain⟨hlt,hj⟩:=cases1 x k hx;cases hg:gs x with
  | none=>rw[hg] at ho; cases ho
  | some c =>
   rw[hg] at ho; cases ho;have hgx:=hgs x c hlt hg;obtain⟨o',h1,h2⟩:=h.obj x _ k hgx hj;refine⟨o',h1,?_⟩;cases o' with
   | cells c' ty fz =>
    refine⟨h2.1,fun i v hi=>?_⟩;obtain⟨v',h3,h4⟩:=h2.2 i v hi;have hpv:=List.all_eq_true.1 (hgp x c hg) v (List.mem_of_getElem? hi);have:=dG hpv h4;subst this;exact⟨_,h3,.aF hpv⟩
   | _=>exact h2.elim
 ·have live:∀y,y<E.glob→((my E.glob gs).get y).isSome=true→(m.get y).isSome=true:=by
   intro y hy hl;rw[rj] at hl;cases hg:gs y with
   | none=>rw[hg] at hl; cases hl
   | some c=>rw[hgs y c hy hg]; rfl
  obtain⟨hlt,hj⟩:=cases1 x k hx;obtain⟨hlt',hj'⟩:=cases1 x' k' hx';exact h.inj x x' k k' hj hj' (live x hlt hl) (live x' hlt' hl') hc
 ·unfold iL;rw[if_pos hgl];exact h.glob gl hgl
theorem qu (hE:EnvOk E) {f:FuncId} {gs:Nat→Option (List Value)} (hgp:∀x c,gs x=some c→c.all aF=true) {fuel:Nat} {v:Value} {m0:AMem}
  (hrun:run E fuel (.call f [] (my E.glob gs))=some (.val v m0)) (hwl:E.glob≤m0.wl) (hpv:bc v=true) {args':List Value} (h:MR E j m w) (hgs:∀x c,x<E.glob→gs x=some c→m.get x=some (.cells c .ro)) (hl:LR j [] args') :
  fR E.P (E.bT f).isSome f args'.toArray w (iC E j m w v m):=by
 have hm0:=h.DT hgs hgp;have hl0:LR (iL j E.glob) [] args':=by
  rw[LR.cw hl]; exact .nil _
 obtain⟨_,_,e,hs⟩:=qw hE fuel _ _ hrun;cases e;refine jb (fun x=>x) (hs _ w args' hm0 hl0) ?_;intro v' w' ⟨j',s,hv'⟩;have hold:∀c,c<w.heap.size→w'.heap[c]? = w.heap[c]?:=fun c hc=>s.frame c hc fun x k hx _ _=>by
  have:x<E.glob:=(hm0.lt x k hx).1;omega
 exact⟨j,.same h hold s.size s.calm,VR.vI hpv hv'⟩
end
end Go.Ab
end

section
namespace Go.Proofs.YthmekkhpddehjaaGreat
open Go Go.Ab
noncomputable def p7 (f:FuncId):Option PSem:=if f=144 then some ⟨qe CD⟩ else if f=145 then some ⟨qe BN⟩ else none
theorem wx:Dk oY p7:=by
  intro f S hS;unfold p7 at hS
  split at hS
  · rename_i e; cases hS; subst e;exact⟨⟨dD rY⟩,rfl,fun h=>pz zH h⟩
  · split at hS
    · rename_i e; cases hS; subst e;exact⟨⟨dD qK⟩,rfl,fun h=>pz AM h⟩
    · cases hS
def m14:AMem:=my 0 fun _=>none
set_option maxRecDepth 100000
set_option maxHeartbeats 0 in
theorem tC:(hand oY p7 1000).call 18 [] m14 (Ee 0)=true:=by decide +kernel
end Go.Proofs.YthmekkhpddehjaaGreat
end

section
namespace Go.Proofs
open Go.Shelf
def Tryz.ph:Go.Shelf.Ren:=⟨fun|7=>136|10=>150|n=>n,fun|23=>140|26=>3|3=>144|28=>178|0=>0|27=>177|33=>137|4=>4|n=>n,fun|n=>n⟩
theorem Tryz.Bb:Go.Proofs.SlLaysZI.n7 Tryz.prog Tryz.ph:={
 mixed:=by kernel_rfl
 f7:=⟨Tryz.f136.name,by decide,Tryz.func136.trans (congrArg some (by kernel_rfl))⟩
 f10:=⟨Tryz.f150.name,by decide,Tryz.func150.trans (congrArg some (by kernel_rfl))⟩
 t0:=Tryz.underlying0
 a0:=Tryz.isAgg0
 z0:=Tryz.sizeOf0
 v0:=Tryz.zeroValue0
 t4:=Tryz.underlying4
 a4:=Tryz.isAgg4
 z4:=Tryz.sizeOf4
 v4:=Tryz.zeroValue4
 t23:=Tryz.underlying140
 a23:=Tryz.isAgg140
 z23:=Tryz.sizeOf140
 v23:=Tryz.zeroValue140
 t26:=Tryz.underlying3
 a26:=Tryz.isAgg3
 z26:=Tryz.sizeOf3
 v26:=Tryz.zeroValue3
 t27:=Tryz.underlying177
 a27:=Tryz.isAgg177
 z27:=Tryz.sizeOf177
 v27:=Tryz.zeroValue177
 t28:=Tryz.underlying178
 a28:=Tryz.isAgg178
 z28:=Tryz.sizeOf178
 v28:=Tryz.zeroValue178
 t33:=Tryz.underlying137
 a33:=Tryz.isAgg137
 z33:=Tryz.sizeOf137
 v33:=Tryz.zeroValue137}
def Tryz.mw:Go.Shelf.Ren:=⟨fun|6=>135|8=>148|9=>149|11=>158|13=>81|12=>159|23=>101|24=>102|14=>161|15=>162|16=>163|17=>164|18=>165|19=>166|20=>167|21=>168|22=>169|25=>170|26=>122|27=>123|28=>171|29=>172|30=>103|31=>173|n=>n,fun|26=>3|28=>178|24=>102|0=>0|3=>3|37=>117|48=>134|50=>136|4=>4|40=>127|39=>126|45=>131|5=>5|9=>9|51=>164|55=>168|57=>187|58=>81|33=>137|n=>n,fun|n=>n⟩
theorem Tryz.z8:Go.Proofs.SlLaysZI.n6 Tryz.prog Tryz.mw:={
 mixed:=by kernel_rfl
 f6:=⟨Tryz.f135.name,by decide,Tryz.func135.trans (congrArg some (by kernel_rfl))⟩
 f8:=⟨Tryz.f148.name,by decide,Tryz.func148.trans (congrArg some (by kernel_rfl))⟩
 f11:=⟨Tryz.f158.name,by decide,Tryz.func158.trans (congrArg some (by kernel_rfl))⟩
 t0:=Tryz.underlying0
 a0:=Tryz.isAgg0
 z0:=Tryz.sizeOf0
 v0:=Tryz.zeroValue0
 t24:=Tryz.underlying102
 a24:=Tryz.isAgg102
 z24:=Tryz.sizeOf102
 v24:=Tryz.zeroValue102
 t26:=Tryz.underlying3
 a26:=Tryz.isAgg3
 z26:=Tryz.sizeOf3
 v26:=Tryz.zeroValue3
 t28:=Tryz.underlying178
 a28:=Tryz.isAgg178
 z28:=Tryz.sizeOf178
 v28:=Tryz.zeroValue178
 i26:=by kernel_rfl}
def Tryz.vO:Go.Shelf.Ren:=⟨fun|5=>149|8=>81|7=>159|19=>101|20=>102|10=>161|11=>162|12=>163|13=>164|14=>165|15=>166|16=>167|17=>168|18=>169|30=>170|31=>122|32=>123|33=>171|34=>172|35=>103|40=>173|n=>n,fun|23=>102|25=>3|3=>3|32=>117|22=>102|0=>0|44=>134|46=>136|4=>4|36=>127|35=>126|41=>131|5=>5|9=>9|53=>164|57=>168|63=>187|64=>81|n=>n,fun|n=>n⟩
theorem Tryz.AZ:Go.Proofs.SlLaysM.n5 Tryz.prog Tryz.vO:={
 mixed:=by kernel_rfl
 f5:=⟨Tryz.f149.name,by decide,Tryz.func149.trans (congrArg some (by kernel_rfl))⟩
 f7:=⟨Tryz.f159.name,by decide,Tryz.func159.trans (congrArg some (by kernel_rfl))⟩
 f8:=Tryz.func81.trans (congrArg some (by kernel_rfl))
 f10:=⟨Tryz.f161.name,by decide,Tryz.func161.trans (congrArg some (by kernel_rfl))⟩
 f11:=⟨Tryz.f162.name,by decide,Tryz.func162.trans (congrArg some (by kernel_rfl))⟩
 f12:=⟨Tryz.f163.name,by decide,Tryz.func163.trans (congrArg some (by kernel_rfl))⟩
 f13:=⟨Tryz.f164.name,by decide,Tryz.func164.trans (congrArg some (by kernel_rfl))⟩
 f14:=⟨Tryz.f165.name,by decide,Tryz.func165.trans (congrArg some (by kernel_rfl))⟩
 f15:=⟨Tryz.f166.name,by decide,Tryz.func166.trans (congrArg some (by kernel_rfl))⟩
 f16:=⟨Tryz.f167.name,by decide,Tryz.func167.trans (congrArg some (by kernel_rfl))⟩
 f17:=⟨Tryz.f168.name,by decide,Tryz.func168.trans (congrArg some (by kernel_rfl))⟩
 f18:=⟨Tryz.f169.name,by decide,Tryz.func169.trans (congrArg some (by kernel_rfl))⟩
 f19:=Tryz.func101.trans (congrArg some (by kernel_rfl))
 f20:=Tryz.func102.trans (congrArg some (by kernel_rfl))
 f30:=⟨Tryz.f170.name,by decide,Tryz.func170.trans (congrArg some (by kernel_rfl))⟩
 f31:=Tryz.func122.trans (congrArg some (by kernel_rfl))
 f32:=Tryz.func123.trans (congrArg some (by kernel_rfl))
 f33:=⟨Tryz.f171.name,by decide,Tryz.func171.trans (congrArg some (by kernel_rfl))⟩
 f34:=⟨Tryz.f172.name,by decide,Tryz.func172.trans (congrArg some (by kernel_rfl))⟩
 f35:=⟨Tryz.f103.name,by decide,Tryz.func103.trans (congrArg some (by kernel_rfl))⟩
 f40:=⟨Tryz.f173.name,by decide,Tryz.func173.trans (congrArg some (by kernel_rfl))⟩
 t0:=Tryz.underlying0
 a0:=Tryz.isAgg0
 z0:=Tryz.sizeOf0
 v0:=Tryz.zeroValue0
 t3:=Tryz.underlying3
 a3:=Tryz.isAgg3
 z3:=Tryz.sizeOf3
 v3:=Tryz.zeroValue3
 t4:=Tryz.underlying4
 a4:=Tryz.isAgg4
 z4:=Tryz.sizeOf4
 v4:=Tryz.zeroValue4
 t5:=Tryz.underlying5
 a5:=Tryz.isAgg5
 z5:=Tryz.sizeOf5
 v5:=Tryz.zeroValue5
 t9:=Tryz.underlying9
 a9:=Tryz.isAgg9
 z9:=Tryz.sizeOf9
 v9:=Tryz.zeroValue9
 t22:=Tryz.underlying102
 a22:=Tryz.isAgg102
 z22:=Tryz.sizeOf102
 v22:=Tryz.zeroValue102
 t23:=Tryz.underlying102
 a23:=Tryz.isAgg102
 z23:=Tryz.sizeOf102
 v23:=Tryz.zeroValue102
 t25:=Tryz.underlying3
 a25:=Tryz.isAgg3
 z25:=Tryz.sizeOf3
 v25:=Tryz.zeroValue3
 t32:=Tryz.underlying117
 a32:=Tryz.isAgg117
 z32:=Tryz.sizeOf117
 v32:=Tryz.zeroValue117
 t35:=Tryz.underlying126
 a35:=Tryz.isAgg126
 z35:=Tryz.sizeOf126
 v35:=Tryz.zeroValue126
 t36:=Tryz.underlying127
 a36:=Tryz.isAgg127
 z36:=Tryz.sizeOf127
 v36:=Tryz.zeroValue127
 t41:=Tryz.underlying131
 a41:=Tryz.isAgg131
 z41:=Tryz.sizeOf131
 v41:=Tryz.zeroValue131
 t44:=Tryz.underlying134
 a44:=Tryz.isAgg134
 z44:=Tryz.sizeOf134
 v44:=Tryz.zeroValue134
 t46:=Tryz.underlying136
 a46:=Tryz.isAgg136
 z46:=Tryz.sizeOf136
 v46:=Tryz.zeroValue136
 t53:=Tryz.underlying164
 a53:=Tryz.isAgg164
 z53:=Tryz.sizeOf164
 v53:=Tryz.zeroValue164
 t57:=Tryz.underlying168
 a57:=Tryz.isAgg168
 z57:=Tryz.sizeOf168
 v57:=Tryz.zeroValue168
 t63:=Tryz.underlying187
 a63:=Tryz.isAgg187
 z63:=Tryz.sizeOf187
 v63:=Tryz.zeroValue187
 t64:=Tryz.underlying81
 a64:=Tryz.isAgg81
 z64:=Tryz.sizeOf81
 v64:=Tryz.zeroValue81}
end Go.Proofs
end

section
namespace Go.Proofs
open Go.RowKit Go.Maps Go.Sort Go.Shelf
theorem Tryz.CL (m:Nat):AnyZI.SortsIn Tryz.prog Tryz.mw Fence.wide m :=
 ⟨fun lW off cap ss W hH hblk hsz=>callsIn_wide.2 (AnyM.slices_Sort_int Tryz.AZ lW off cap ss W hH hblk hsz),
  fun p cap W=>callsIn_wide.2 (AnyM.slices_Sort_int_none Tryz.AZ p cap W)⟩
set_option maxHeartbeats 1000000 in
theorem Tryz.Keys {H:Type} (b nn:Nat) (D0:DataW H) (R:Value→Option (DataW H × List MemPlace)) (w:World) (hown:w.ownsMap Tryz.prog 3 R b nn D0) (hmax:Maps.size D0≤maxLen) (hbytes:Maps.size D0*8≤140737488355328) :
  Calls Tryz.prog 111 #[.map (some b)] w fun e w'=>∃(v:Value) (ss:List Int),e = .returned v∧ss.Perm (intKeys D0) ∧
   w'.ownsRow w.heap.size 3 1 v ss.length ((ss.mergeSort (fun x y=>decide (x≤y))).map encZ)∧(v = .slice none 0 0↔ss = [])∧Below w.heap.size w w':=by
 refine(callsIn_wide (n:=6)).1 ?_;have hbl:=hown.lt;have hseq:SeqGives Fence.wide 2 Tryz.prog 150 #[.pointer (some ⟨w.heap.size,0,none⟩)] encZ (fun ss=>ss.Perm (intKeys D0)) (Maps.size D0) (w.alloc (.cells #[.map (some b)] 140)) :=
  AnyZI.keys_gives (ρ:=Tryz.ph) { Tryz.Bb with} Fence.wide _ trivial rfl (by omega) w.heap.size b nn D0 _ (by simp) (by simp) (by
   obtain⟨es,clock,hb,Ft,hs,hD⟩:=hown;exact⟨es,clock,(Below.heap_alloc _ _ b hbl).trans hb,Ft,hs,hD⟩)
 have cK:∀mb W,CallsIn Fence.wide 5 Tryz.prog 136 #[.map mb] W fun e w'=>e = .returned (.func (.func 150) #[] #[.pointer (some ⟨W.heap.size,0,none⟩)])∧w'=W.alloc (.cells #[.map mb] 140):=fun mb W=>AnyZI.keys_in Tryz.Bb Fence.wide 5 trivial rfl mb W;have cS:=AnyZI.sorted_in Tryz.z8 Fence.wide 5 trivial trivial trivial trivial rfl (by omega) (Tryz.CL _) (enters_of Tryz.func149 (by kernel_rfl) rfl) 150 #[.pointer (some ⟨w.heap.size,0,none⟩)] trivial (enters_of Tryz.func150 (by kernel_rfl) rfl) _ _ hmax hbytes _ hseq
 change CallsIn _ _ Tryz.prog 135 _ _ _ at cS
 have hfK:Fence.wide.fn 136:=trivial;have hfS:Fence.wide.fn 135:=trivial;refine callsIn_of_wp Tryz.func111 rfl trivial ?_ rfl;simp only[Tryz.ntmps111,List.size_toArray,List.length_cons,List.length_nil,Nat.reduceAdd,Nat.reduceSub,Array.replicate_succ,Array.replicate_zero,List.push_toArray,List.append_toArray,List.nil_append,List.cons_append]
 gi_wp2_with (first
  | (gi_at_call 136; refine(cK _ _).mono ?_; rintro e w' ⟨rfl,rfl⟩)
  | (gi_at_call 135; refine cS.mono ?_; rintro e w' ⟨v,ss,rfl,hS,hrow,hnil,hb⟩))
 go_ret
 exact⟨v,ss,rfl,hS,ownsRow_base_a hrow (by simp),hnil,((Below.refl _ w).alloc (Nat.le_refl _) _).trans (hb.mono (by simp))⟩
end Go.Proofs
end

section
namespace Go.Proofs.YthmekkhpddehjaaGreat
open Go Go.Ab Go.Maps
theorem nS:∀{l:List Int},zT l=true→l.Nodup
 | [],_=>List.nodup_nil
 | a::l,h=>by
  unfold zT at h;rw[Bool.and_eq_true] at h;exact List.nodup_cons.2 ⟨by simpa using h.1,nS h.2⟩
theorem k6 (a:Int):∀l,(rI a l).Perm (a::l)
 | []=>List.Perm.refl _
 | b::l=>by
  unfold rI
  split
  ·exact List.Perm.refl _
  ·exact((k6 a l).cons b).trans (List.Perm.swap a b l)
theorem jX:∀l,(gT l).Perm l
 | []=>List.Perm.refl _
 | a::l=>(k6 a (gT l)).trans ((jX l).cons a)
theorem lN (a:Int):∀{l:List Int},l.Pairwise (·≤·)→(rI a l).Pairwise (·≤·)
 | [],_=>List.pairwise_singleton _ _
 | b::l,h=>by
  obtain⟨h1,h2⟩:=List.pairwise_cons.1 h;unfold rI
  split
  ·rename_i hab;exact List.pairwise_cons.2 ⟨fun x hx=>by
    rcases List.mem_cons.1 hx with rfl|hx
    ·exact hab
    ·exact Int.le_trans hab (h1 x hx),h⟩
  ·rename_i hab;refine List.pairwise_cons.2 ⟨fun x hx=>?_,lN a h2⟩;rcases List.mem_cons.1 ((k6 a l).subset hx) with rfl|hx
   ·omega
   ·exact h1 x hx
theorem kq:∀l,(gT l).Pairwise (·≤·)
 | []=>List.Pairwise.nil
 | a::l=>lN a (kq l)
theorem yW {ss ks:List Int} (h:ss.Perm ks):ss.mergeSort (fun x y=>decide (x≤y))=gT ks:=by
 refine List.Perm.eq_of_pairwise (le:=fun a b=>a≤b) (fun a b _ _ h1 h2=>Int.le_antisymm h1 h2) ?_ (kq ks) (((List.mergeSort_perm ss _).trans h).trans (jX ks).symm);exact(List.pairwise_mergeSort (fun a b c h1 h2=>by simp only[decide_eq_true_eq] at *; omega) (fun a b=>by simp only[Bool.or_eq_true,decide_eq_true_eq]; omega) ss).imp fun h=>by simpa using h
theorem uL {j:aK}:∀{es:List (Value × Value)} {fs:List MapEntry} {ks:List Int},ER j es fs→oz es=some ks→fs.map (·.key)=ks.map (.int .i64)
 | [],[],ks,_,h=>by cases h; rfl
 | (a,b)::es,f::fs,ks,hr,h=>by
  unfold oz at h
  split at h
  ·rename_i e; cases e
  ·rename_i k v r e;cases e;cases hk:oz es with
   | none=>rw[hk] at h; cases h
   | some ks' =>
    rw[hk] at h;cases h;have h1:f.key = .int .i64 k:=by
     have:=hr.1;generalize f.key=fk at this;cases this; rfl
    rw[List.map_cons,List.map_cons,h1,uL hr.2.2 hk]
  ·cases h
 | [],_::_,_,h,_=>h.elim
 | _::_,[],_,h,_=>h.elim
abbrev RU:Value→Option (DataW Unit × List MemPlace):=fun _=>some (.lit (.bool true),[])
theorem EE:Tryz.prog.underlying 3=some (.int .i64):=by kernel_rfl
theorem wf_i64 {k:Int} (h1 : -9223372036854775808≤k) (h2:k<9223372036854775808):(Lit.int .i64 k).wf=true:=by
 show(decide ((-9223372036854775808:Int)≤k) && decide (k≤9223372036854775807))=true
 rw[decide_eq_true h1,decide_eq_true (show k≤9223372036854775807 by omega)]; rfl
theorem Ch {x:MapEntry} {k:Int} (hk:x.key = .int .i64 k) (h1 : -9223372036854775808≤k) (h2:k<9223372036854775808):Go.WideElems.rd Tryz.prog 3 RU x=some (.int .i64 k,.lit (.bool true)):=by
 have hm:mapKey Tryz.prog 3 (.int .i64 k)=some (.int .i64 k):=by
  unfold mapKey;rw[EE];simp only[wf_i64 h1 h2,and_self,if_true]
 have hk':keyOf Tryz.prog 3 (.int .i64 k)=some (.int .i64 k):=by
  unfold keyOf;simp only[EE,hm]
 unfold Go.WideElems.rd;rw[hk,hk']; rfl
theorem oS {args:List Value} {m m':AMem} {v:Value} (h:dH args m=some (v,m')) {j:aK} {w:World} {args':List Value} (hm:MR oY j m w) (hl:LR j args args') :
  fR oY.P (oY.bT 111).isSome 111 args'.toArray w (iC oY j m w v m'):=by
 unfold dH at h
 split at h
 case h_2=>cases h
 rename_i b
 split at h
 case h_2=>cases h
 rename_i es hg
 split at h
 case h_2=>cases h
 rename_i ks hks
 split at h
 case isFalse=>cases h
 rename_i hok;obtain⟨v1,vs,rfl,hv1,hvs⟩:=hl.cons_inv;obtain rfl:=hvs.cw;cases hv1 with
 | map hj =>
 rename_i k;obtain⟨es',clock,h1,h2⟩:=hm.sw hj hg;have hinc:=hm.qP hj hg h1;have hkeys:=uL h2 hks;unfold Fx at hok;rw[Bool.and_eq_true,Bool.and_eq_true] at hok;obtain⟨⟨ho1,ho2⟩,ho3⟩:=hok;have hnd:=nS ho2;have hlen:=Nat.le_of_ble_eq_true ho3;have hrange:∀x ∈ ks,-9223372036854775808≤x∧x<9223372036854775808:=fun x hx=>by
  have:=List.all_eq_true.1 ho1 x hx
  simpa using this
 have hsz:es'.size=ks.length:=by
  have:=congrArg List.length hkeys
  simpa using this
 have hread:∀x ∈ es'.toList,∃q:Int,x.key = .int .i64 q∧q ∈ ks∧Go.WideElems.rd Tryz.prog 3 RU x=some (.int .i64 q,.lit (.bool true)):=fun x hx=>by
  have:x.key ∈ ks.map (.int .i64):=hkeys ▸ List.mem_map.2 ⟨x,hx,rfl⟩;obtain⟨q,hq,e⟩:=List.mem_map.1 this;have hr:=hrange q hq;exact⟨q,e.symm,hq,Ch e.symm hr.1 hr.2⟩
 have hknd:(es'.toList.map (·.key)).Nodup:=by
  rw[hkeys];refine List.pairwise_map.2 (hnd.imp fun hne e=>hne ?_);cases e; rfl
 have hmaxlen:(1073741824:Nat)≤maxLen:=by decide
 have hfit:Go.WideElems.Fit Tryz.prog 3 RU es' clock:=⟨by rw[hsz]; omega,⟨hinc.1,hinc.2,hknd⟩,fun x hx=>by
  obtain⟨q,_,_,e⟩:=hread x hx;exact⟨_,e⟩⟩
 have hown:w.ownsMap Tryz.prog 3 RU k.c es'.size (.map ((es'.toList.map (Go.WideElems.rg Tryz.prog 3 RU)).foldr DataW.insert [])):=⟨es',clock,h1,hfit,Nat.le_refl _,rfl⟩;have hrg:es'.toList.map (Go.WideElems.rg Tryz.prog 3 RU)=ks.map fun q=>(Lit.int .i64 q,(.lit (.bool true):DataW Unit)):=by
  have e1:es'.toList.map (Go.WideElems.rg Tryz.prog 3 RU)=(es'.toList.map (·.key)).map fun kv=>match kv with
    | .int .i64 q=>(Lit.int .i64 q,(.lit (.bool true):DataW Unit))
    | _=>(.bool false,.nil):=by
   rw[List.map_map];refine List.map_congr_left fun x hx=>?_;obtain⟨q,e,_,hr⟩:=hread x hx
   show(Go.WideElems.rd Tryz.prog 3 RU x).getD _=_
   rw[hr]
   show _=(match x.key with | .int .i64 q=>(Lit.int .i64 q,(.lit (.bool true):DataW Unit)) | _=>(.bool false,.nil))
   rw[e]; rfl
  rw[e1,hkeys,List.map_map]; rfl
 have hperm:(intKeys (.map ((es'.toList.map (Go.WideElems.rg Tryz.prog 3 RU)).foldr DataW.insert []):DataW Unit)).Perm ks:=by
  show((es'.toList.map (Go.WideElems.rg Tryz.prog 3 RU)).foldr DataW.insert []).map (fun p=>Go.intOf p.1) |>.Perm ks
  refine((Go.WideShapes.sorted_perm _).map _).trans ?_;rw[hrg,List.map_map];have:∀l:List Int,l.map ((fun p:Lit × DataW Unit=>Go.intOf p.1) ∘ fun q=>(Lit.int .i64 q,.lit (.bool true)))=l:=fun l=>by
   induction l with
   | nil=>rfl
   | cons a l ih=>rw[List.map_cons,ih]; rfl
  rw[this]
 have hsize:Maps.size (.map ((es'.toList.map (Go.WideElems.rg Tryz.prog 3 RU)).foldr DataW.insert []):DataW Unit)=ks.length:=by
  show((es'.toList.map (Go.WideElems.rg Tryz.prog 3 RU)).foldr DataW.insert []).length=ks.length
  rw[(Go.WideShapes.sorted_perm _).length_eq,List.length_map,Array.length_toList,hsz]
 have hcon:=Tryz.Keys k.c es'.size _ RU w hown (by rw[hsize]; omega) (by rw[hsize]; omega)
 have hcall:(callFunc 111 #[.map (some k.c)]).run Tryz.prog w = .ok (.enter 111 #[.map (some k.c)]) w:=enters_of Tryz.func111 (by kernel_rfl) rfl _ _
 refine .inl ⟨hcall,callsIn_wide.2 (hcon.mono ?_)⟩;rintro e w' ⟨v2,ss,rfl,hp,hrow,hnil,hb⟩;have hps:=hp.trans hperm;have hsl:=hps.length_eq;have hold:∀c,c<w.heap.size→w'.heap[c]? = w.heap[c]?:=fun c hc=>hb.block c hc;have hcalm:ff oY w w':=⟨hb.os,hb.output,hb.tape,fun f=>f.elim⟩;refine⟨v2,rfl,?_⟩
 match ks,h with
 | [],h =>
  cases h;have:ss = []:=List.length_eq_zero_iff.1 hsl;rw[hnil.2 this];exact⟨j,.same hm hold hb.size hcalm,.snil 0 0⟩
 | q::ks,h =>
  cases h;rw[yW hps] at hrow;obtain⟨hxl,hor⟩:=hrow;rcases hor with⟨_,h0⟩|⟨g,cap,cur,rfl,hg1,hg2,hn1,hn2,hn3,htake⟩
  ·rw[hsl] at h0; simp at h0
  ·have hlen2:(gT (q::ks)).length=ks.length+1:=(jX _).length_eq;have hcl:((gT (q::ks)).map (Value.int .i64)).length=ks.length+1:=by rw[List.length_map,hlen2]
   have hssl:ss.length=ks.length+1:=hsl;rw[hssl] at hn1 htake hxl ⊢;rw[Nat.mul_one] at htake hn3;have hlt:g<w'.heap.size:=(Array.getElem?_eq_some_iff.1 hg2).1;refine⟨_,.k8 (k1:=⟨g,some (1,ks.length+1,cap)⟩) hm hold hb.size hcalm hg1 hlt (j1:=j) hg2 ⟨⟨by rw[hcl,hn3],by rw[hcl,hn3]; exact hn1,rfl,by decide,trivial⟩,fun i vv hi=>?_⟩ (by
    rw[List.all_map]; exact List.all_eq_true.2 fun _ _=>rfl),?_⟩
   ·refine⟨vv,?_,?_⟩
    ·rw[←htake] at hi;rw[List.getElem?_take] at hi
     split at hi
     ·simpa using hi
     ·cases hi
    ·have:=List.mem_of_getElem? hi;obtain⟨z,_,rfl⟩:=List.mem_map.1 this;exact .int _ _
   ·exact .sliceM (k:=⟨g,some (1,ks.length+1,cap)⟩) (aK.bU _ _ _) rfl (by omega) (by omega) (Nat.le_refl _) hn1
end Go.Proofs.YthmekkhpddehjaaGreat
end

section
namespace Go.Proofs.YthmekkhpddehjaaGreat
open Go Go.Ab Go.Ab.W
abbrev j8:Int × Int→List Value:=eP (eI .i64) (eI .i64)
def cd:List Value→Option (List (Int × Int))
 | []=>some []
 | .int .i64 a::.int .i64 b::r=>(cd r).map ((a,b)::·)
 | _=>none
def cz (x y:Int × Int):Bool:=decide (x.1<y.1∨x.1=y.1∧x.2≤y.2)
def oD (m:AMem) (b n n':Nat):Option (List Value × Tag) :=
 match m.get b with
 | some (.cells cs .own)=>if n=n'∧cs.length=n*2∧cs.all aF=true then some (cs,.own) else none
 | some (.cells cs (.more 2))=>if n=n'∧cs.length=n*2∧cs.all aF=true then some (cs,.more 2) else none
 | _=>none
def hY (args:List Value) (m:AMem):Option (Value × AMem) :=
 match args with
 | [.slice none 0 _,.func (.func 51) xs ys]=>if xs.size=0∧ys.size=0 then some (.tuple #[],m) else none
 | [.slice (some ⟨b,0,none⟩) n n',.func (.func 51) xs ys] =>
  match oD m b n n' with
  | some (cs,tg) =>
   match cd cs with
   | some l=>if (xs.size=0∧ys.size=0)∧lim n=true then some (.tuple #[],m.set b (.cells ((l.mergeSort cz).map j8).flatten tg)) else none
   | none=>none
  | none=>none
 | _=>none
def xu (f:FuncId):Option Prim:=if f=18 then some ⟨kS⟩ else if f=50 then some ⟨hY⟩ else z6 f
noncomputable def aE:Env:={ P:=Tryz.prog,glob:=0,bT:=xu,mono:=False}
noncomputable def kO:Env:={ P:=Tryz.prog,glob:=0,bT:=fun _=>none,mono:=True}
theorem qH:EnvOk kO:=sL sB fun f p hp=>by cases hp
end Go.Proofs.YthmekkhpddehjaaGreat
end

section
namespace Go.Ab.W
open Go Go.Ab
attribute [local irreducible] Tm.at Trie.set Trie.get AMem.get AMem.set AMem.alloc AMem.ww AMem.kill
section
variable {E : Env} {n : Nat} {m0 : AMem} {fs : Fs} {ps ps' : List Pc} {ops : Array Oper} {os : List Oper} {K : Tm → AMem → Prop} {prs : List (Nat × Nat)}
variable {ty : TypeId} {p : String} {af : Array Edge} {d : Nat} {o : Op} {g : Option (Nat × Bool)} {v : Value}
inductive Nk
 | any
 | call
 | rd (b:Nat)
 | wr (b:Nat)
 | low (b:Nat)
 | kp (l:List Nat)
 | rn (o:Option Nat)
 | ka (l:List (Option Nat))
def Nk.of:Nk→Note→Prop
 | .any,_=>True
 | .call,x=>x.next≤x.wl
 | .rd b,x=>x.read=some b
 | .wr b,x=>x.wrote=some b
 | .low b,x=>b<x.wl
 | .kp l,x=>∀b ∈ l,x.kept b=true
 | .rn o,x=>x.read=o
 | .ka l,x=>∀b,some b ∈ l→x.kept b=true
def NR:List Nk→List Note→Prop
 | [],[]=>True
 | b::bs,x::xs=>cB x=true∧b.of x∧NR bs xs
 | _,_=>False
theorem NR.at:∀{bs:List Nk} {ns:List Note} {i:Nat} {b:Nk},NR bs ns→bs[i]? = some b→∃x,ns[i]? = some x∧b.of x
 | b::bs,x::xs,0,c,h,e=>by simp only[List.getElem?_cons_zero,Option.some.injEq] at e; subst e; exact⟨x,rfl,h.2.1⟩
 | b::bs,x::xs,i+1,c,h,e=>by rw[List.getElem?_cons_succ] at e ⊢; exact NR.at h.2.2 e
 | [],[],i,c,h,e=>by simp at e
 | [],_::_,_,_,h,_=>h.elim
 | _::_,[],_,_,h,_=>h.elim
theorem NR.all:∀{bs:List Nk} {ns:List Note},NR bs ns→ns.all cB=true
 | [],[],_=>rfl
 | _::_,_::_,h=>by rw[List.all_cons,h.1,NR.all h.2.2]; rfl
 | [],_::_,h=>h.elim
 | _::_,[],h=>h.elim
theorem NR.snoc:∀{bs:List Nk} {ns:List Note} {b:Nk} {x:Note},NR bs ns→cB x=true→b.of x→NR (bs++[b]) (ns++[x])
 | [],[],_,_,_,h1,h2=>⟨h1,h2,trivial⟩
 | _::_,_::_,_,_,h,h1,h2=>⟨h.1,h.2.1,NR.snoc h.2.2 h1 h2⟩
 | [],_::_,_,_,h,_,_=>h.elim
 | _::_,[],_,_,h,_,_=>h.elim
def Nk.DN:Nk→Bool
 | .call=>true
 | _=>false
def wW (ops:Array Oper) (ss:List Nk) (p:Nat × Nat):Prop :=
 match ss[p.1]?,ss[p.2]? with
  | some (.rd b),some (.wr b')=>b≠b'∧aw (ops.getD p.1 default).op=false
  | some (.wr b),some (.rd b')=>b'≠b∧aw (ops.getD p.2 default).op=false
  | some (.rd b),some (.low b')=>b≤b'∧aw (ops.getD p.1 default).op=false
  | some (.low b),some (.rd b')=>b'≤b∧aw (ops.getD p.2 default).op=false
  | some (.rd b),some (.kp l)=>b ∈ l∧aw (ops.getD p.1 default).op=false
  | some (.kp l),some (.rd b)=>b ∈ l∧aw (ops.getD p.2 default).op=false
  | some (.rd b),some (.ka l)=>some b ∈ l∧aw (ops.getD p.1 default).op=false
  | some (.ka l),some (.rd b)=>some b ∈ l∧aw (ops.getD p.2 default).op=false
  | some (.rn o),some (.ka l)=>o ∈ l∧aw (ops.getD p.1 default).op=false
  | some (.ka l),some (.rn o)=>o ∈ l∧aw (ops.getD p.2 default).op=false
  | some a,some b=>((a.DN || !(aw (ops.getD p.1 default).op)) && (b.DN || !(aw (ops.getD p.2 default).op)))=true
  | _,_=>False
def jg (ops:Array Oper) (ss:List Nk):List (Nat × Nat)→Prop
 | []=>True
 | p::ps=>wW ops ss p∧jg ops ss ps
def B2 (ops:Array Oper) (ss:List Nk):List (Nat × Nat)→Bool
 | []=>true
 | p::ps=>(match ss[p.1]?,ss[p.2]? with
  | some (.rd _),some (.wr _)=>false
  | some (.wr _),some (.rd _)=>false
  | some (.rd _),some (.low _)=>false
  | some (.low _),some (.rd _)=>false
  | some (.rd _),some (.kp _)=>false
  | some (.kp _),some (.rd _)=>false
  | some (.rd _),some (.ka _)=>false
  | some (.ka _),some (.rd _)=>false
  | some (.rn _),some (.ka _)=>false
  | some (.ka _),some (.rn _)=>false
  | some a,some b=>((a.DN || !(aw (ops.getD p.1 default).op)) && (b.DN || !(aw (ops.getD p.2 default).op)))
  | _,_=>false) && B2 ops ss ps
theorem jg.all {ops:Array Oper} {ss:List Nk}:∀{ps:List (Nat × Nat)},B2 ops ss ps=true→jg ops ss ps
 | [],_=>trivial
 | p::ps,h=>by
  simp only[B2,Bool.and_eq_true] at h;refine⟨?_,jg.all h.2⟩;have h1:=h.1;unfold wW
  split at h1
  ·cases h1
  ·cases h1
  ·cases h1
  ·cases h1
  ·cases h1
  ·cases h1
  ·cases h1
  ·cases h1
  ·cases h1
  ·cases h1
  ·rename_i a b ha hb hn1 hn2;exact h1
  ·cases h1
theorem jg.nil {ops:Array Oper} {ss:List Nk}:jg ops ss []:=trivial
section
variable {ops : Array Oper} {ss : List Nk} {ps : List (Nat × Nat)} {i j b b' : Nat} {l : List Nat} {o : Option Nat} {la : List (Option Nat)}
theorem jg.rw (h1:ss[i]? = some (.rd b)) (h2:ss[j]? = some (.wr b')) (he:aw (ops.getD i default).op=false) (hne:b≠b') (k:jg ops ss ps):jg ops ss ((i,j)::ps):=by
 refine⟨?_,k⟩;simp only[wW,h1,h2]; exact⟨hne,he⟩
theorem jg.rk (h1:ss[i]? = some (.rd b)) (h2:ss[j]? = some (.kp l)) (he:aw (ops.getD i default).op=false) (hm:b ∈ l) (k:jg ops ss ps):jg ops ss ((i,j)::ps):=by
 refine⟨?_,k⟩;simp only[wW,h1,h2]; exact⟨hm,he⟩
end
theorem zt {r e:Note} (h:e.next≤e.wl):Note.ok r e=true:=by
 unfold Note.ok
 split
 ·rfl
 ·rename_i b _
  by_cases hb:b<e.wl
  ·simp[hb]
  ·have:e.next≤b:=by omega
   simp[this]
theorem uG {r e:Note} {b b':Nat} (h1:r.read=some b) (h2:e.wrote=some b') (hne:b≠b'):Note.ok r e=true:=by
 unfold Note.ok;rw[h1,h2];simp[hne]
theorem ra {r e:Note} {b b':Nat} (h1:r.read=some b) (h2:b'<e.wl) (hne:b≤b'):Note.ok r e=true:=by
 unfold Note.ok;rw[h1];simp[show b<e.wl by omega]
theorem u9 {r e:Note} {b:Nat} {l:List Nat} (h1:r.read=some b) (h2:∀b ∈ l,e.kept b=true) (hm:b ∈ l):Note.ok r e=true:=by
 unfold Note.ok;rw[h1];simp[h2 b hm]
theorem qB {r e:Note} {b:Nat} {l:List (Option Nat)} (h1:r.read=some b) (h2:∀b,some b ∈ l→e.kept b=true) (hm:some b ∈ l):Note.ok r e=true:=by
 unfold Note.ok;rw[h1];simp[h2 b hm]
theorem uA {r e:Note} {o:Option Nat} {l:List (Option Nat)} (h1:r.read=o) (h2:∀b,some b ∈ l→e.kept b=true) (hm:o ∈ l):Note.ok r e=true:=by
 cases o with
 | none=>unfold Note.ok; rw[h1]
 | some b=>exact qB h1 h2 hm
theorem Nk.ok {a b:Nk} {x y:Note} (_:a.of x) (hy:b.of y) (h:b.DN=true):Note.ok x y=true:=by
 cases b with
 | call=>exact zt hy
 | _=>cases h
theorem rM {ops:Array Oper} {ss:List Nk} {ns:List Note} (h:NR ss ns):∀{prs:List (Nat × Nat)},jg ops ss prs→prs.all (cQ ns ops)=true
 | [],_=>rfl
 | p::prs,hk=>by
  rw[List.all_cons,rM h hk.2,Bool.and_true];have h1:=hk.1;unfold wW at h1
  split at h1
  ·rename_i b b' ha hb;obtain⟨x,hx1,hx2⟩:=h.at ha;obtain⟨y,hy1,hy2⟩:=h.at hb;simp only[cQ,hx1,hy1,uG hx2 hy2 h1.1,h1.2,Bool.or_true,Bool.not_false,Bool.true_or,Bool.and_self]
  ·rename_i b b' ha hb;obtain⟨x,hx1,hx2⟩:=h.at ha;obtain⟨y,hy1,hy2⟩:=h.at hb;simp only[cQ,hx1,hy1,uG hy2 hx2 h1.1,h1.2,Bool.or_true,Bool.not_false,Bool.true_or,Bool.and_self]
  ·rename_i b b' ha hb;obtain⟨x,hx1,hx2⟩:=h.at ha;obtain⟨y,hy1,hy2⟩:=h.at hb;simp only[cQ,hx1,hy1,ra hx2 hy2 h1.1,h1.2,Bool.or_true,Bool.not_false,Bool.true_or,Bool.and_self]
  ·rename_i b b' ha hb;obtain⟨x,hx1,hx2⟩:=h.at ha;obtain⟨y,hy1,hy2⟩:=h.at hb;simp only[cQ,hx1,hy1,ra hy2 hx2 h1.1,h1.2,Bool.or_true,Bool.not_false,Bool.true_or,Bool.and_self]
  ·rename_i b b' ha hb;obtain⟨x,hx1,hx2⟩:=h.at ha;obtain⟨y,hy1,hy2⟩:=h.at hb;simp only[cQ,hx1,hy1,u9 hx2 hy2 h1.1,h1.2,Bool.or_true,Bool.not_false,Bool.true_or,Bool.and_self]
  ·rename_i b b' ha hb;obtain⟨x,hx1,hx2⟩:=h.at ha;obtain⟨y,hy1,hy2⟩:=h.at hb;simp only[cQ,hx1,hy1,u9 hy2 hx2 h1.1,h1.2,Bool.or_true,Bool.not_false,Bool.true_or,Bool.and_self]
  ·rename_i b l ha hb;obtain⟨x,hx1,hx2⟩:=h.at ha;obtain⟨y,hy1,hy2⟩:=h.at hb;simp only[cQ,hx1,hy1,qB hx2 hy2 h1.1,h1.2,Bool.or_true,Bool.not_false,Bool.true_or,Bool.and_self]
  ·rename_i b l ha hb;obtain⟨x,hx1,hx2⟩:=h.at ha;obtain⟨y,hy1,hy2⟩:=h.at hb;simp only[cQ,hx1,hy1,qB hy2 hx2 h1.1,h1.2,Bool.or_true,Bool.not_false,Bool.true_or,Bool.and_self]
  ·rename_i b l ha hb;obtain⟨x,hx1,hx2⟩:=h.at ha;obtain⟨y,hy1,hy2⟩:=h.at hb;simp only[cQ,hx1,hy1,uA hx2 hy2 h1.1,h1.2,Bool.or_true,Bool.not_false,Bool.true_or,Bool.and_self]
  ·rename_i b l ha hb;obtain⟨x,hx1,hx2⟩:=h.at ha;obtain⟨y,hy1,hy2⟩:=h.at hb;simp only[cQ,hx1,hy1,uA hy2 hx2 h1.1,h1.2,Bool.or_true,Bool.not_false,Bool.true_or,Bool.and_self]
  ·rename_i a b _ _ _ _ _ _ _ _ _ _ ha hb;obtain⟨x,hx1,hx2⟩:=h.at ha;obtain⟨y,hy1,hy2⟩:=h.at hb;simp only[Bool.and_eq_true,Bool.or_eq_true,Bool.not_eq_true'] at h1;simp only[cQ,hx1,hy1,Bool.and_eq_true,Bool.or_eq_true,Bool.not_eq_true'];refine⟨?_,?_⟩
   ·rcases h1.2 with h2|h2
    ·exact .inr (Nk.ok hx2 hy2 h2)
    ·exact .inl h2
   ·rcases h1.1 with h2|h2
    ·exact .inr (Nk.ok hy2 hx2 h2)
    ·exact .inl h2
  ·exact h1.elim
theorem NR.rev:∀{bs:List Nk} {ns:List Note},NR bs ns→NR bs.reverse ns.reverse
 | [],[],_=>trivial
 | b::bs,x::xs,h=>by
  rw[List.reverse_cons,List.reverse_cons];exact(NR.rev h.2.2).snoc h.1 h.2.1
 | [],_::_,h=>h.elim
 | _::_,[],h=>h.elim
variable {ss : List Nk}
def Wn (E:Env) (n:Nat) (ops:Array Oper) (prs:List (Nat × Nat)) (K:Tm→AMem→Prop) (os:List Oper) (ss:List Nk) (m0:AMem) (fs:Fs) (ps:List Pc):Prop :=
 ∀t m ns,Fr t fs→Hp m0 m ps→NR ss ns→dw E n ops (fun t m ns=>(prs.all (cQ ns ops) && ns.all cB)=true∧K t m) os t m ns
theorem Wn.nil {Q:AExit→Tm→AMem→Prop} (hk:∀m,Hp m0 m ps→jg ops ss.reverse prs) (h:At Q .normal m0 fs ps):Wn E n ops prs (Q .normal) [] ss m0 fs ps:=fun t m ns hf hm hn=>by
 refine⟨?_,h t m hf hm⟩;rw[rM hn.rev (hk m hm),hn.rev.all]; rfl
theorem Wn.xg {α:Type} {V:α→Value} {N:α→List Pc} {c:Nk} (h:∀t m,Fr t fs→Hp m0 m ps→m.wl=m.next→(∀b,aD E t o=some b→b<m.next)∧∀K:Value→AMem→Prop,(∀x m',Hp m0 m' (N x)→c.of { read:=aD E t o,wl:=m'.wl,next:=m.next,wrote:=dq E t o,kept:=fi m m'}→K (V x) m')→bf E t m o K)
  (hg:rK ops fs g true) (dst:Option Nat) (hd:∀d,dst=some d→Nat.blt d n=true) (k:∀x,Wn E n ops prs K os (c::ss) m0 (match dst with|some d=>(d,V x)::fs|none=>fs) (N x)):Wn E n ops prs K (⟨dst,o,ty,p,af,g⟩::os) ss m0 fs ps:=by
 intro t m ns hf hm hn;simp only[dw,hg t _ _ _ _ _ hf,if_true];have hx:=hm.ext.next
 have hm':Hp m0 (m.ww m.next) ps:=hm.ww (by omega)
 have hwl:(m.ww m.next).wl=(m.ww m.next).next:=by rw[AMem.wl_ww,AMem.next_ww]
 have e0:({ next:=m.next,wl:=m.next,objs:=m.objs,base:=m.base}:AMem)=m.ww m.next:=by unfold AMem.ww; rfl
 rw[e0];obtain⟨h1,h2⟩:=h t _ hf hm' hwl;rw[AMem.next_ww] at h1;refine bf.A (h2 _ fun x m' hm'' hc=>?_);rw[AMem.next_ww] at hc;have hw:=hm''.ext.wl;have e1:({ next:=m'.next,wl:=min m.wl m'.wl,objs:=m'.objs,base:=m'.base}:AMem)=m'.ww (min m.wl m'.wl):=by unfold AMem.ww; rfl
 have hw0:=hm.ext.wl;have hfin:Hp m0 (m'.ww (min m.wl m'.wl)) (N x):=hm''.ww (by omega)
 have hkp:fi (m.ww m.next) m'=fi m m':=by
  funext b
  unfold fi;rw[AMem.get_ww]
 rw[hkp] at hc;have hnr:NR (c::ss) ({ read:=aD E t o,wl:=m'.wl,next:=m.next,wrote:=dq E t o,kept:=fi m m'}::ns):=⟨pI h1,hc,hn⟩
 cases dst with
 | none=>exact⟨t,rfl,by rw[e1]; exact k x t _ _ hf hfin hnr⟩
 | some d =>
  have hd':d<n:=by have:=hd d rfl; rwa[Nat.blt_eq] at this
  exact⟨t.set d (V x),by rw[gQ,if_pos hd'],by rw[e1]; exact k x _ _ _ hf.set hfin hnr⟩
theorem Wn.x {α:Type} {V:α→Value} {N:α→List Pc} (h:Ox E m0 fs ps o V N) (hg:rK ops fs g true) (hd:Nat.blt d n=true) (k:∀x,Wn E n ops prs K os (.any::ss) m0 ((d,V x)::fs) (N x)):Wn E n ops prs K (⟨some d,o,ty,p,af,g⟩::os) ss m0 fs ps :=
 Wn.xg (c:=.any) (fun t m hf hm _=>⟨(h t m hf hm).1,fun K hK=>(h t m hf hm).2 K fun x m' h1=>hK x m' h1 trivial⟩) hg (some d) (fun d' e=>by cases e; exact hd) k
theorem Wn.x0 {α:Type} {V:α→Value} {N:α→List Pc} (h:Ox E m0 fs ps o V N) (hg:rK ops fs g true) (k:∀x,Wn E n ops prs K os (.any::ss) m0 fs (N x)):Wn E n ops prs K (⟨none,o,ty,p,af,g⟩::os) ss m0 fs ps :=
 Wn.xg (c:=.any) (fun t m hf hm _=>⟨(h t m hf hm).1,fun K hK=>(h t m hf hm).2 K fun x m' h1=>hK x m' h1 trivial⟩) hg none (fun d' e=>by cases e) k
def tT:Value→Bool
 | .int _ _ | .bool _ | .slice _ _ _ | .map _ | .pointer _=>true
 | _=>false
def Di:Value→Bool
 | .func (.func _) a c=>a.toList.all tT && c.toList.all tT
 | v=>tT v
def wi {α:Type} (ps:List Pc) (N:α→List Pc):List Nat→Prop
 | []=>True
 | b::l=>(∃cs k,pk ps k=some (.obj b (.cells cs .own))∧cs.all Di=true∧∀x,∃k',pk (N x) k'=some (.obj b (.cells cs .own)))∧wi ps N l
theorem yi {m m':AMem} {b:Nat} (h:m.get b=m'.get b):fi m m' b=true:=by
 unfold fi;rw[Bool.or_eq_true];exact .inr (@decide_eq_true _ (Classical.propDecidable _) h)
theorem wi.kept {α:Type} {N:α→List Pc} {m m':AMem} {x:α} (hm:Hp m0 m ps) (hm':Hp m0 m' (N x)):∀{l:List Nat},wi ps N l→∀b ∈ l,fi m m' b=true
 | [],_,b,hb=>by cases hb
 | c::l,h,b,hb=>by
  rcases List.mem_cons.1 hb with rfl|hb
  ·obtain⟨cs,k,h1,h2,h3⟩:=h.1;obtain⟨k',h4⟩:=h3 x;exact yi (by rw[(hm.get h1).2.2,(hm'.get h4).2.2])
  ·exact wi.kept hm hm' h.2 b hb
theorem Wn.xk {α:Type} {V:α→Value} {N:α→List Pc} {l:List Nat} (h:Ox E m0 fs ps o V N) (hl:wi ps N l) (hg:rK ops fs g true) (hd:Nat.blt d n=true) (k:∀x,Wn E n ops prs K os (.kp l::ss) m0 ((d,V x)::fs) (N x)):Wn E n ops prs K (⟨some d,o,ty,p,af,g⟩::os) ss m0 fs ps :=
 Wn.xg (c:=.kp l) (fun t m hf hm _=>⟨(h t m hf hm).1,fun K hK=>(h t m hf hm).2 K fun x m' h1=>hK x m' h1 (wi.kept hm h1 hl)⟩) hg (some d) (fun d' e=>by cases e; exact hd) k
theorem Hp.ne {m:AMem} {i j b b':Nat} {x y:Pc} (h:Hp m0 m ps) (hx:pk ps i=some x) (hy:pk ps j=some y) (hb:x.lW=some b) (hb':y.lW=some b') (hne:i≠j) (ho:x.own=true):b≠b':=fun e=>(eY h.apart hx hy hne).1 b (Pc.DS ho hb) (.inl (by rw[e]; exact hb'))
def Oc (E:Env) (m0:AMem) (fs:Fs) (ps:List Pc) (o:Op) {α:Type} (V:α→Value) (N:α→List Pc):Prop :=
 ∀t m,Fr t fs→Hp m0 m ps→m.wl=m.next→(∀b,aD E t o=some b→b<m.next)∧∀K:Value→AMem→Prop,(∀x m',Hp m0 m' (N x)→m.next≤m'.wl→K (V x) m')→bf E t m o K
theorem jL {α:Type} {V:α→Value} {N:α→List Pc} {f:Operand} {g:FuncId} {ars:Array Operand} {ts:Array TypeId} {args:List Value} (hf:ev E fs f=some (.func (.func g) #[] #[])) (ha:e8 E fs ars.toList=some args) (hc:∀m,Hp m0 m ps→aC E g args m (fun v m'=>∃x,v=V x∧Hp m m' (N x))) (ho:∀x,qh (N x)=true):Oc E m0 fs ps (.call ⟨.value f,ars,ts⟩) V (fun x=>N x++ps) :=
 fun t m hfr hm hwl=>⟨fun b hb=>(by simp[aD] at hb),fun K hK=>by
  show iz E (an E t f) (aV E t ars.toList) m _
  rw[hfr.ev hf,hfr.e8 ha,nd];refine(hc m hm).mono fun v m' ⟨x,e,h⟩=>?_;rw[e];refine hK x m' (hm.after h fun p hp=>List.all_eq_true.1 (ho x) p hp) ?_;have:=h.ext.wl;omega⟩
theorem Wn.c {α:Type} {V:α→Value} {N:α→List Pc} (h:Oc E m0 fs ps o V N) (hg:rK ops fs g true) (hd:Nat.blt d n=true) (k:∀x,Wn E n ops prs K os (.call::ss) m0 ((d,V x)::fs) (N x)):Wn E n ops prs K (⟨some d,o,ty,p,af,g⟩::os) ss m0 fs ps :=
 Wn.xg (c:=.call) (fun t m hf hm hw=>⟨(h t m hf hm hw).1,fun K hK=>(h t m hf hm hw).2 K fun x m' h1 h2=>hK x m' h1 h2⟩) hg (some d) (fun d' e=>by cases e; exact hd) k
theorem Wn.od (h:Od E m0 fs ps o v ps') (hd:Nat.blt d n=true) (k:Wn E n ops prs K os (.any::ss) m0 ((d,v)::fs) ps'):Wn E n ops prs K (⟨some d,o,ty,p,af,none⟩::os) ss m0 fs ps:=Wn.x h.x gn hd fun _=>k
theorem Wn.o0 (h:Od E m0 fs ps o v ps') (k:Wn E n ops prs K os (.any::ss) m0 fs ps'):Wn E n ops prs K (⟨none,o,ty,p,af,none⟩::os) ss m0 fs ps:=Wn.x0 h.x gn fun _=>k
theorem Wn.og (h:Od E m0 fs ps o v ps') (hg:rK ops fs g true) (hd:Nat.blt d n=true) (k:Wn E n ops prs K os (.any::ss) m0 ((d,v)::fs) ps'):Wn E n ops prs K (⟨some d,o,ty,p,af,g⟩::os) ss m0 fs ps:=Wn.x h.x hg hd fun _=>k
theorem Wn.GJ {x:Operand} {b off:Nat} {ty':TypeId} (hx:ev E fs x=some (ptr b off)) (h:Od E m0 fs ps (.load ty' x) v ps') (hg:rK ops fs g true) (hd:Nat.blt d n=true) (k:Wn E n ops prs K os (.rd b::ss) m0 ((d,v)::fs) ps'):Wn E n ops prs K (⟨some d,.load ty' x,ty,p,af,g⟩::os) ss m0 fs ps :=
 Wn.xg (V:=fun _:Unit=>v) (N:=fun _=>ps') (c:=.rd b) (fun t m hf hm _=>⟨(h t m hf hm).1,fun K hK=>(h t m hf hm).2 K fun m' h1=>hK () m' h1 (by show aD E t (.load ty' x)=some b; simp only[aD,hf.ev hx]; rfl)⟩) hg (some d) (fun d' e=>by cases e; exact hd) fun _=>k
theorem Wn.DO {x:Operand} {b off:Nat} {ty':TypeId} (hx:ev E fs x=some (ptr b off)) (h:Od E m0 fs ps (.load ty' x) v ps') (hd:Nat.blt d n=true) (k:Wn E n ops prs K os (.rd b::ss) m0 ((d,v)::fs) ps'):Wn E n ops prs K (⟨some d,.load ty' x,ty,p,af,none⟩::os) ss m0 fs ps:=Wn.GJ hx h gn hd k
theorem Wn.Fl {x y:Operand} {b off:Nat} {ty':TypeId} (hx:ev E fs x=some (ptr b off)) (h:Od E m0 fs ps (.store ty' x y) v ps') (hg:rK ops fs g true) (k:Wn E n ops prs K os (.wr b::ss) m0 fs ps'):Wn E n ops prs K (⟨none,.store ty' x y,ty,p,af,g⟩::os) ss m0 fs ps :=
 Wn.xg (V:=fun _:Unit=>v) (N:=fun _=>ps') (c:=.wr b) (fun t m hf hm _=>⟨(h t m hf hm).1,fun K hK=>(h t m hf hm).2 K fun m' h1=>hK () m' h1 (by show dq E t (.store ty' x y)=some b; simp only[dq,hf.ev hx]; rfl)⟩) hg none (fun d' e=>by cases e) fun _=>k
theorem Wn.EX {x y:Operand} {b off:Nat} {ty':TypeId} (hx:ev E fs x=some (ptr b off)) (h:Od E m0 fs ps (.store ty' x y) v ps') (k:Wn E n ops prs K os (.wr b::ss) m0 fs ps'):Wn E n ops prs K (⟨none,.store ty' x y,ty,p,af,none⟩::os) ss m0 fs ps:=Wn.Fl hx h gn k
theorem Wn.eF (h:ab m0 ps ps') (k:Wn E n ops prs K os ss m0 fs ps'):Wn E n ops prs K os ss m0 fs ps:=fun t m ns hf hm hn=>k t m ns hf (h m hm) hn
theorem Wn.len {α:Type} {f:α→List Value} {k w l:Nat} {a:Option Addr} {xs:List α} (hp:pk ps k=some (.sl a w l (xs.map f))) (h:l=xs.length→Wn E n ops prs K os ss m0 fs ps):Wn E n ops prs K os ss m0 fs ps:=fun t m ns hf hm hn=>by
 refine h ?_ t m ns hf hm hn;rcases hm.get hp with⟨h0,h1,_⟩|⟨b,tg,_,h1⟩
 ·rw[h0,List.map_eq_nil_iff.1 h1]; rfl
 ·have:=h1.2.2.2.1; rw[List.length_map] at this; exact this.symm
theorem Wk.fW {fn:FuncId} {ro:Option Nat} {Q:AExit→Tm→AMem→Prop} {id:Nat} (hp:cd ops=some prs) (h:Wn E n ops prs (Q .normal) ops.toList [] m0 fs ps):Wk E n fn ro (.region id ops true) Q m0 fs ps:=fun t m hf hm=>.draw hp (h t m [] hf hm trivial)
end
section
variable {E : Env} {n : Nat} {fn : FuncId} {m0 : AMem} {fs : Fs} {ps : List Pc} {Q : AExit → Tm → AMem → Prop}
def hI (fn:FuncId) (t:Tm) (n:Nat) (params:Array Tmp) (assign body:Code) (s:LoopState) (p:Option Code):AObj:=.loop { state:=s,pending:=p,fn:=fn,tmps:=t,n:=n,params:=params,assign:=assign,body:=body}
structure Rn where
 st:LoopState
 pe:Option Code
 ps:List Pc
theorem Wk.yr {ro:Option Nat} {f:Operand} {params:Array Tmp} {assign body:Code} {g:FuncId} {first cap:Array Value} {F:Func} {c:Code} {rs:List ResultVar} {N:Nat} {γ:Type} {X:γ→Rn}
  (hf:ev E fs f=some (.func (.func g) first cap)) (hp:E.bT g=none) (hfn:E.P.funcs[g]? = some F) (hb:F.body=some c) (hrs:F.results.toList=rs) (hN:max (first.toList.length+1+cap.toList.length) F.ntmps=N)
  (hro:∀m,Hp m0 m ps→match ro with|none=>True|some l=>∃r,m.get l=some (.loop r))
  (h:∀t l rc,Fr t fs→rc=hI fn t n params assign body→Wk E N g none c (nh E rs (fun _ m'=>∃y,Hp m0 m' (.obj l (rc (X y).st (X y).pe)::(X y).ps))) m0 (pt (first.toList++[.func (.yield l) #[] #[]]++cap.toList) 0 []) (.obj l (rc .ready none)::ps))
  (hst:∀y,(X y).st≠.busy) (k:∀y,(match (X y).pe with|none=>At Q .normal m0 fs (X y).ps|some c=>Wk E n fn ro c Q m0 fs (X y).ps)):Wk E n fn ro (.rangeFunc f params assign body) Q m0 fs ps:=by
 intro t m hfr hm;have hl:Hp m0 (m.alloc (hI fn t n params assign body .ready none)) (.obj m.next (hI fn t n params assign body .ready none)::ps) :=
  hm.cons (by rw[AMem.next_alloc]; omega) (hm.ext.alloc _) (fun b hb=>by rw[AMem.aU,if_neg (by omega)]) ⟨hm.ext.next,by rw[AMem.next_alloc]; omega,by rw[AMem.aU,if_pos rfl]⟩ fun b hb=>by cases hb; exact Nat.le_refl _
 have hlen:(first.toList++[Value.func (.yield m.next) #[] #[]]++cap.toList).length=first.toList.length+1+cap.toList.length:=by simp; omega
 obtain⟨v,m2,⟨k1,hk1⟩,y,h2⟩:=av (N:=N) hp hfn hb hrs (by rw[hlen]; exact hN) hl (h t m.next _ hfr rfl)
 have hg0:=h2.get (k:=0) rfl;have hg:m2.get m.next=some (hI fn t n params assign body (X y).st (X y).pe):=hg0.2.2
 have hlo:m0.next≤m.next:=hm.ext.next
 have h3:Hp m0 (m2.set m.next (hI fn t n params assign body .exhausted (X y).pe)) (X y).ps:=by
  have:=h2.write (k:=0) (o':=hI fn t n params assign body .exhausted (X y).pe) (p':=.obj m.next (hI fn t n params assign body .exhausted (X y).pe)) rfl rfl rfl rfl rfl ⟨hlo,by rw[AMem.next_set]; exact hg0.2.1,by rw[AMem.aY,if_pos rfl]⟩
  refine⟨this.ext,fun p hp=>this.ok p (by simp[bH,hp]),?_⟩
  have hpw:=this.apart;rw[fq,List.pairwise_cons] at hpw;exact hpw.2
 have hev:an E t f=some (.func (.func g) first cap):=by
  cases f with
  | tmp i=>exact hfr.ev hf
  | const c=>exact hfr.ev hf
  | global g=>exact hfr.ev hf
  | func g=>exact hfr.ev hf
 have hao:ef E ⟨t,n,fn,ro⟩ m f=true:=by
  have:=hro m hm;cases ro with
  | none=>simp only[ef,hev,hp]; rfl
  | some l0 =>
   obtain⟨r0,hr0⟩:=this;simp only[ef,hev,hp,hr0]; rfl
 have hk:=k y;cases hpe:(X y).pe with
 | none =>
  rw[hpe] at hk hg h3;refine⟨.normal,t,_,aO (k:=k1) ?_,hk t _ hfr h3⟩;have hst':=hst y;simp only[step,hev,hao];have hk1':run E k1 (.call g (first.toList++[Value.func (.yield m.next) #[] #[]]++cap.toList) (m.alloc (.loop { state:=.ready,pending:=none,fn:=fn,tmps:=t,n:=n,params:=params,assign:=assign,body:=body})))=some (.val v m2):=hk1
  rw[hk1'];have hg':m2.get m.next=some (.loop { state:=(X y).st,pending:=none,fn:=fn,tmps:=t,n:=n,params:=params,assign:=assign,body:=body}):=hg
  simp only[hg'];cases hs:(X y).st with
  | busy=>exact absurd hs hst'
  | _=>rfl
 | some c' =>
  rw[hpe] at hk hg h3;obtain⟨e2,t2,m3,⟨k2,hk2⟩,q⟩:=hk t _ hfr h3;refine⟨e2,t2,m3,aO (k:=max k1 k2) ?_,q⟩;have hst':=hst y;simp only[step,hev,hao];have hk1':run E (max k1 k2) (.call g (first.toList++[Value.func (.yield m.next) #[] #[]]++cap.toList) (m.alloc (.loop { state:=.ready,pending:=none,fn:=fn,tmps:=t,n:=n,params:=params,assign:=assign,body:=body})))=some (.val v m2):=eD (Nat.le_max_left k1 k2) hk1
  rw[hk1'];have hg':m2.get m.next=some (.loop { state:=(X y).st,pending:=some c',fn:=fn,tmps:=t,n:=n,params:=params,assign:=assign,body:=body}):=hg
  simp only[hg'];have hk2':run E (max k1 k2) (.code c' ⟨t,n,fn,ro⟩ (m2.set m.next (.loop { state:=.exhausted,pending:=some c',fn:=fn,tmps:=t,n:=n,params:=params,assign:=assign,body:=body})))=some (.code e2 t2 m3):=eD (Nat.le_max_right k1 k2) hk2
  cases hs:(X y).st with
  | busy=>exact absurd hs hst'
  | _=>simp only[hk2']
theorem Wk.range {f:Operand} {params:Array Tmp} {assign body:Code} {g:FuncId} {first cap:Array Value} {F:Func} {c:Code} {rs:List ResultVar} {N:Nat} {γ:Type} {X:γ→Rn}
  (hf:ev E fs f=some (.func (.func g) first cap)) (hp:E.bT g=none) (hfn:E.P.funcs[g]? = some F) (hb:F.body=some c) (hrs:F.results.toList=rs) (hN:max (first.toList.length+1+cap.toList.length) F.ntmps=N)
  (h:∀t l rc,Fr t fs→rc=hI fn t n params assign body→Wk E N g none c (nh E rs (fun _ m'=>∃y,Hp m0 m' (.obj l (rc (X y).st (X y).pe)::(X y).ps))) m0 (pt (first.toList++[.func (.yield l) #[] #[]]++cap.toList) 0 []) (.obj l (rc .ready none)::ps))
  (hst:∀y,(X y).st≠.busy) (k:∀y,(match (X y).pe with|none=>At Q .normal m0 fs (X y).ps|some c=>Wk E n fn none c Q m0 fs (X y).ps)):Wk E n fn none (.rangeFunc f params assign body) Q m0 fs ps :=
 Wk.yr hf hp hfn hb hrs hN (fun _ _=>trivial) h hst k
theorem Wk.B8 {l0 k0 f0 n0:Nat} {t0:Tm} {params0:Array Tmp} {assign0 body0:Code} {r0:LoopState→Option Code→AObj} {s0:LoopState} {p0:Option Code} {f:Operand} {params:Array Tmp} {assign body:Code} {g:FuncId} {first cap:Array Value} {F:Func} {c:Code} {rs:List ResultVar} {N:Nat} {γ:Type} {X:γ→Rn}
  (hf:ev E fs f=some (.func (.func g) first cap)) (hp:E.bT g=none) (hfn:E.P.funcs[g]? = some F) (hb:F.body=some c) (hrs:F.results.toList=rs) (hN:max (first.toList.length+1+cap.toList.length) F.ntmps=N)
  (h0:r0=hI f0 t0 n0 params0 assign0 body0) (h1:pk ps k0=some (.obj l0 (r0 s0 p0)))
  (h:∀t l rc,Fr t fs→rc=hI fn t n params assign body→Wk E N g none c (nh E rs (fun _ m'=>∃y,Hp m0 m' (.obj l (rc (X y).st (X y).pe)::(X y).ps))) m0 (pt (first.toList++[.func (.yield l) #[] #[]]++cap.toList) 0 []) (.obj l (rc .ready none)::ps))
  (hst:∀y,(X y).st≠.busy) (k:∀y,(match (X y).pe with|none=>At Q .normal m0 fs (X y).ps|some c=>Wk E n fn (some l0) c Q m0 fs (X y).ps)):Wk E n fn (some l0) (.rangeFunc f params assign body) Q m0 fs ps :=
 Wk.yr hf hp hfn hb hrs hN (fun m hm=>by subst h0; exact⟨_,(hm.get h1).2.2⟩) h hst k
def yS:List Tmp→List Value→Fs→Fs
 | p::ps,v::vs,fs=>yS ps vs ((p,v)::fs)
 | _,_,fs=>fs
def uB (n:Nat):List Tmp→List Value→Bool
 | p::ps,_::vs=>Nat.blt p n && uB n ps vs
 | [],[]=>true
 | _,_=>false
theorem ub {n:Nat}:∀{ps:List Tmp} {vs:List Value} {t:Tm} {fs:Fs},uB n ps vs=true→Fr t fs→∃t',dv n t ps vs=some t'∧Fr t' (yS ps vs fs)∧ps.length=vs.length
 | p::ps,v::vs,t,fs,h,hf=>by
  simp only[uB,Bool.and_eq_true] at h;obtain⟨t',h1,h2,h3⟩:=ub (ps:=ps) (vs:=vs) (t:=t.set p v) (fs:=(p,v)::fs) h.2 hf.set;exact⟨t',by simp only[dv,h.1]; exact h1,h2,by simp[h3]⟩
 | [],[],t,fs,_,hf=>⟨t,rfl,hf,rfl⟩
 | [],_::_,_,_,h,_=>by cases h
 | _::_,[],_,_,h,_=>by cases h
theorem qZ {f:Operand} {l:Nat} {first cap:Array Value} {ars:Array Operand} {ts:Array TypeId} {args:List Value} {k k1 fn' n':Nat} {rc:LoopState→Option Code→AObj} {t0:Tm} {params:Array Tmp} {assign body:Code} {f0:Fs} {γA γ:Type} {GA:γA→En} {G:γ→En}
  (hf:ev E fs f=some (.func (.yield l) first cap)) (ha:e8 E fs ars.toList=some args) (hp:pk ps k=some (.obj l (rc .ready none))) (hrc:rc=hI fn' t0 n' params assign body) (h3:Fr t0 f0) (hpar:uB n' params.toList (first.toList++args)=true)
  (hA:Wk E n' fn' (some l) assign (nE m0 GA) m0 (yS params.toList (first.toList++args) f0) ps) (hAe:∀y,(GA y).e = .normal) (h0:∀y,pk (GA y).ps k1=some (.obj l (rc .ready none)))
  (hB:∀y,Wk E n' fn' (some l) body (nE m0 G) m0 (GA y).fs (bH (GA y).ps k1 (.obj l (rc .busy none)))) (hG:∀y,pk (G y).ps 0=some (.obj l (rc .busy none))) :
  Ox E m0 fs ps (.call ⟨.value f,ars,ts⟩) (fun y:γ=>.bool (ee (G y).e).isNone) (fun y=>bH (G y).ps 0 (.obj l (rc (if (ee (G y).e).isNone then .ready else .done) (ee (G y).e)))):=by
 subst hrc;intro t m hfr hm;refine⟨fun b hb=>(by simp[aD] at hb),fun K hK=>?_⟩
 have hev:an E t f=some (.func (.yield l) first cap):=by
  cases f with
  | tmp i=>exact hfr.ev hf
  | const c=>exact hfr.ev hf
  | global g=>exact hfr.ev hf
  | func g=>exact hfr.ev hf
 show iz E (an E t f) (aV E t ars.toList) m K
 rw[hev,hfr.e8 ha]
 show nV E l (first.toList++args) m K
 obtain⟨t2,hset,h4,hlen⟩:=ub (t:=t0) hpar h3;obtain⟨e1,t1,m1,⟨ka,hka⟩,ya,h2,h5,h3'⟩:=hA t2 m h4 hm;rw[hAe] at h2;subst h2;have h6:m.get l=some (hI fn' t0 n' params assign body .ready none):=(hm.get hp).2.2;have h7:m1.get l=some (hI fn' t0 n' params assign body .ready none):=(h3'.get (h0 ya)).2.2;have hbusy:Hp m0 (m1.set l (hI fn' t0 n' params assign body .busy none)) (bH (GA ya).ps k1 (.obj l (hI fn' t0 n' params assign body .busy none))) :=
  h3'.write (h0 ya) rfl rfl rfl rfl ⟨(h3'.get (h0 ya)).1,by rw[AMem.next_set]; exact(h3'.get (h0 ya)).2.1,by rw[AMem.aY,if_pos rfl]⟩
 obtain⟨e0,t3,m2,⟨kb,hkb⟩,y,h8,h10,h1⟩:=hB ya t1 _ h5 hbusy;have h9:m2.get l=some (hI fn' t0 n' params assign body .busy none):=(h1.get (hG y)).2.2;have hfin:Hp m0 (m2.set l (hI fn' t0 n' params assign body (if (ee e0).isNone then .ready else .done) (ee e0))) (bH (G y).ps 0 (.obj l (hI fn' t0 n' params assign body (if (ee e0).isNone then .ready else .done) (ee e0)))) :=
  h1.write (hG y) rfl rfl rfl rfl ⟨(h1.get (hG y)).1,by rw[AMem.next_set]; exact(h1.get (hG y)).2.1,by rw[AMem.aY,if_pos rfl]⟩
 refine⟨.bool (ee e0).isNone,m2.set l (hI fn' t0 n' params assign body (if (ee e0).isNone then .ready else .done) (ee e0)),aO (k:=max ka kb) ?_,?_⟩
 ·have hka':run E (max ka kb) (.code assign ⟨t2,n',fn',some l⟩ m)=some (.code .normal t1 m1):=eD (Nat.le_max_left ka kb) hka;have hkb':run E (max ka kb) (.code body ⟨t1,n',fn',some l⟩ (m1.set l (.loop { state:=.busy,pending:=none,fn:=fn',tmps:=t0,n:=n',params:=params,assign:=assign,body:=body})))=some (.code e0 t3 m2):=eD (Nat.le_max_right ka kb) hkb;have hg0':m.get l=some (.loop { state:=.ready,pending:=none,fn:=fn',tmps:=t0,n:=n',params:=params,assign:=assign,body:=body}):=h6;have hg1':m1.get l=some (.loop { state:=.ready,pending:=none,fn:=fn',tmps:=t0,n:=n',params:=params,assign:=assign,body:=body}):=h7;have hg2':m2.get l=some (.loop { state:=.busy,pending:=none,fn:=fn',tmps:=t0,n:=n',params:=params,assign:=assign,body:=body}):=h9;have hsz:¬((first.toList++args).length≠params.size):=by rw[←hlen]; simp
  simp only[step,hg0',if_neg hsz,hset,hka',hg1',hkb',hg2']
  rfl
 ·subst h8;exact hK y _ hfin
end
section
variable {E : Env} {n : Nat} {m0 m1 m m' : AMem} {fs : Fs} {ps : List Pc} {ops : Array Oper} {os : List Oper} {K : Tm → AMem → Prop} {x y : Operand} {ty : TypeId}
end
section
variable {α β : Type} [DecidableEq α]
def dR (k:α):List (α × β)→Nat→Option (Nat × β)
 | [],_=>none
 | e::es,i=>if k=e.1 then some (i,e.2) else dR k es (i+1)
def iA (xs:List (α × β)) (k:α):Option β:=(dR k xs 0).map (·.2)
def kB (xs:List (α × β)) (k:α) (v:β):List (α × β) :=
 match dR k xs 0 with
 | some p=>xs.set p.1 (k,v)
 | none=>xs++[(k,v)]
def eM (kE:α→Value) (vE:β→Value) (p:α × β):Value × Value:=(kE p.1,vE p.2)
structure KeyE (P:Program) (kt:TypeId) (kE:α→Value):Prop where
 eq:∀a b,gB P Op.maxDepth kt (kE a) (kE b)=some (decide (a=b))
 ok:∀a,fc P kt (kE a)=true
 plain:∀a,bc (kE a)=true
 same:∀a,Instr.sameBits 10000 (kE a) (kE a)=true
theorem je {P:Program} {kt:TypeId} {kE:α→Value} {vE:β→Value} (hk:KeyE P kt kE) (k:α):∀(xs:List (α × β)) (i:Nat),fe P kt (kE k) (xs.map (eM kE vE)) i=some ((dR k xs i).map fun p=>(p.1,vE p.2))
 | [],_=>rfl
 | e::es,i=>by
  simp only[List.map_cons,fe,eM,hk.eq,dR]
  by_cases h:k=e.1
  ·rw[decide_eq_true h,if_pos h]; rfl
  ·rw[decide_eq_false h,if_neg h];exact je hk k es (i+1)
omit [DecidableEq α] in
theorem jR {kE:α→Value} {vE:β→Value} (k:α) (v:β):∀(xs:List (α × β)) (i:Nat),i<xs.length→hU (xs.map (eM kE vE)) i (kE k) (vE v)=(xs.set i (k,v)).map (eM kE vE)
 | [],i,h=>by cases h
 | e::es,0,_=>rfl
 | e::es,i+1,h=>by
  simp only[List.map_cons,hU,List.set_cons_succ];rw[jR k v es i (by simpa using h)]
theorem gK (k:α):∀(xs:List (α × β)) (i:Nat) (p:Nat × β),dR k xs i=some p→i≤p.1∧p.1<i+xs.length∧xs[p.1-i]? = some (k,p.2)
 | [],_,_,h=>by cases h
 | e::es,i,p,h=>by
  unfold dR at h
  split at h
  ·rename_i hk; cases h; subst hk; simp
  ·obtain⟨h1,h2,h3⟩:=gK k es (i+1) p h;refine⟨by omega,by simp; omega,?_⟩
   obtain⟨d,hd⟩:∃d,p.1-i=d+1:=⟨p.1-i-1,by omega⟩
   rw[hd,List.getElem?_cons_succ,←h3]
   congr 1; omega
end
section
variable {E : Env} {n : Nat} {m0 m : AMem} {fs : Fs} {ps : List Pc} {x y z : Operand} {ty : TypeId}
variable {α β : Type} [DecidableEq α]
theorem xz {P:Program} {kt et b:Nat} {kE:α→Value} {vE:β→Value} {z0:β} {xs:List (α × β)} {k:α} {c:Bool} (hu:P.underlying ty=some (.map kt et)) (hk:KeyE P kt kE) (hz:bh P et=some (vE z0)) (hzp:bc (vE z0)=true) (hg:m.get b=some (.map (xs.map (eM kE vE)))) :
  cJ P ty (.map (some b)) (kE k) c m=some (if c then .tuple #[vE ((iA xs k).getD z0),.bool (iA xs k).isSome] else vE ((iA xs k).getD z0)):=by
 simp only[cJ,hu,mapOf,hg,hz,hk.ok,if_true,je hk,iA];cases dR k xs 0 with
 | none=>simp only[Option.map_none,hzp,if_true,Option.getD_none,Option.isSome_none]
 | some p=>simp only[Option.map_some,Option.getD_some,Option.isSome_some]
theorem FZ {kt et b q:Nat} {kE:α→Value} {vE:β→Value} {xs:List (α × β)} {k:α} {v:β} (hu:E.P.underlying ty=some (.map kt et)) (hk:KeyE E.P kt kE) (hx:ev E fs x=some (.map (some b))) (hy:ev E fs y=some (kE k)) (hz:ev E fs z=some (vE v)) (hp:pk ps q=some (.obj b (.map (xs.map (eM kE vE))))) :
  Od E m0 fs ps (.mapUpdate ty x y z) undef (bH ps q (.obj b (.map ((kB xs k v).map (eM kE vE))))) :=
 fun t m hf h=>⟨fun b' hb'=>by simp[aD] at hb',fun K hK=>by
  have hg:=(h.get hp).2.2;have hup:bY E.P ty (.map (some b)) (kE k) (vE v) m=some (m.set b (.map ((kB xs k v).map (eM kE vE)))):=by
   simp only[bY,hu,hg,hk.ok,if_true,je hk,kB];cases hfd:dR k xs 0 with
   | none=>simp only[Option.map_none,List.map_append,List.map_cons,List.map_nil]; rfl
   | some p =>
    obtain⟨h1,h2,h3⟩:=gK k xs 0 p hfd;simp only[Nat.sub_zero] at h3;have hst:fj (xs.map (eM kE vE)) p.1 (kE k)=true:=by
     simp only[fj,List.getElem?_map,h3,Option.map_some,eM,hk.plain,hk.same,Bool.and_self]
    simp only[Option.map_some,hst,if_true];rw[jR k v xs p.1 (by omega)]
  unfold bf;simp only[j6,cf,hf.ev hx,hf.ev hy,hf.ev hz,hup,Option.map_some];exact hK _ (h.write hp rfl rfl rfl rfl ⟨(h.get hp).1,by rw[AMem.next_set]; exact(h.get hp).2.1,by rw[AMem.aY,if_pos rfl]⟩)⟩
theorem Wk.label {fn:FuncId} {ro:Option Nat} {Q:AExit→Tm→AMem→Prop} {l:Nat} (h:At Q .normal m0 fs ps):Wk E n fn ro (.label l) Q m0 fs ps:=fun t m hf hm=>.label (h t m hf hm)
theorem w9 {γ:Type} {f:γ→List Value} {xs:List γ} {k cap w l:Nat} {a:Option Addr} (h:Hp m0 m ps) (hp:pk ps k=some (.rd a cap w l (xs.map f))):l=xs.length:=by
 have:=(h.get hp).1;rw[List.length_map] at this;exact this.symm
theorem CB {P:Program} {kt:TypeId} {k:IntKind} (hu:P.underlying kt=some (.int k)):KeyE P kt (fun n:Int=>.int k n) where
 eq:=fun a b=>by
  simp only[Op.maxDepth,gB,hu,if_true]
  by_cases h:a=b
  ·subst h; simp
  ·simp[h]
 ok:=fun a=>by simp only[fc,hu]
 plain:=fun a=>rfl
 same:=fun a=>by simp[Instr.sameBits]
end
section
variable {E : Env} {n : Nat} {m0 m : AMem} {fs : Fs} {ps ps' : List Pc} {x y z : Operand} {ty : TypeId}
theorem DW {b q:Nat} {kt et:TypeId} {es:List (Value × Value)} {ars:Array Operand} (hu:E.P.underlying ty=some (.map kt et)) (ha:e8 E fs ars.toList=some [.map (some b)]) (hp:pk ps q=some (.obj b (.map es))) :
  Od E m0 fs ps (.call ⟨.builtin .len,ars,#[ty]⟩) (.int .i64 (es.length:Int)) ps :=
 fun t m hf h=>⟨fun b' hb'=>by
  simp only[aD,hf.e8 ha] at hb';cases hb'; exact(h.get hp).2.1,fun K hK=>by
  have:aL E.P .len #[ty] [.map (some b)] m=some (.int .i64 (es.length:Int),m):=by
   have ht:(#[ty]:Array TypeId)[0]? = some ty:=rfl;simp only[aL,ht,Option.bind_some,hu,mapOf,(h.get hp).2.2,Option.map_some]
  rw[Go.Ab.cC (hf.e8 ha) this]; exact hK m h⟩
theorem yP {α:Type} {b q l:Nat} {kt et:TypeId} {xs:List α} {f:α→Value × Value} {ars:Array Operand} (hu:E.P.underlying ty=some (.map kt et)) (ha:e8 E fs ars.toList=some [.map (some b)]) (hp:pk ps q=some (.obj b (.map (xs.map f)))) (hl:xs.length=l) :
  Od E m0 fs ps (.call ⟨.builtin .len,ars,#[ty]⟩) (.int .i64 (l:Int)) ps:=by
 have:=DW (m0:=m0) hu ha hp;rw[List.length_map,hl] at this;exact this
end
end Go.Ab.W
end

section
namespace Go.Ab.W
open Go Go.Ab
set_option maxRecDepth 10000
attribute [local irreducible] Tm.at Trie.set Trie.get AMem.get AMem.set AMem.alloc AMem.ww
theorem ve (ps:List Pc):∀(k:Nat) (p:Pc),pk ps k=some p→bH ps k p=ps:=by
 induction ps with
 | nil=>intro k p h; exact nomatch h
 | cons q l ih =>
  intro k p h;cases k with
  | zero=>rw[fU] at h; cases h; rfl
  | succ k=>rw[ep] at h; simp only[bH,ih k p h]
section
variable {E : Env} {n : Nat} {m0 : AMem} {fs : Fs} {ps : List Pc} {x y z : Operand} {v : Value} {ty ty2 : TypeId}
end
end Go.Ab.W
end

section
namespace Go.Ab.W
open Go Go.Ab
attribute [local irreducible] Tm.at Trie.set Trie.get AMem.get AMem.set AMem.alloc AMem.ww AMem.kill
section
variable {α : Type}
def DP:List α→Option (α × α × α × α × α × α × α × α)
 | [a,b,c,d,e,f,g,h]=>some (a,b,c,d,e,f,g,h)
 | _=>none
theorem nv {xs:List α} {a b c d e f g h:α} (hx:DP xs=some (a,b,c,d,e,f,g,h)):xs = [a,b,c,d,e,f,g,h]:=by
 unfold DP at hx
 split at hx
 ·cases hx; rfl
 ·cases hx
end
section
variable {E : Env} {n : Nat} {m0 m : AMem} {fs : Fs} {ps : List Pc} {x y z : Operand} {ty : TypeId}
theorem ab.nR {α:Type} {xs:List α} {f:α→List Value} {k b w l:Nat} {cs:List Value} (hp:pk ps k=some (.obj b (.cells cs .own))) (hx:cs=(xs.map f).flatten) (hl:xs.length=l) (he:Enc f w) (h0:Nat.blt 0 w=true):ab m0 ps (bH ps k (.arr b w l (xs.map f) .own)):=fun m h=>by
 subst hx;exact h.put hp rfl rfl rfl (Nat.le_refl _) h.ext ⟨(h.get hp).1,(h.get hp).2.1,(h.get hp).2.2,by rw[List.length_map]; exact hl,fun e hm=>by obtain⟨x,_,rfl⟩:=List.mem_map.1 hm; exact he.1 x,.inl rfl,by rwa[Nat.blt_eq] at h0⟩ fun _ _ _=>rfl
theorem ab.qi {α:Type} {xs ys:List α} {f:α→List Value} {k b w l:Nat} {cs:List Value} {tg:Tag} (hp:pk ps k=some (.arr b w l (xs.map f) tg)) (hx:xs=ys) (hc:(ys.map f).flatten=cs):ab m0 ps (bH ps k (.obj b (.cells cs tg))):=fun m h=>by
 subst hx hc;exact h.put hp rfl rfl rfl (Nat.le_refl _) h.ext ⟨(h.get hp).1,(h.get hp).2.1,(h.get hp).2.2.1⟩ fun _ _ _=>rfl
theorem kJ {el:TypeId} {b len w:Nat} {i:Int} {kd:IntKind} (h:ArT E.P ty el len w) (hx:ev E fs x=some (ptr b 0)) (hy:ev E fs y=some (.int kd i)) (hi:0≤i∧i.toNat<len):Od E m0 fs ps (.indexAddr ty x y) (ptr b (i.toNat*w+0)) ps:=by
 obtain⟨j,rfl⟩:=Int.eq_ofNat_of_zero_le hi.1;have hj:j<len:=by simpa using hi.2
 refine vq hx hy ?_;rw[yb h (b:=b) (o:=0) hj];simp
end
section
variable {E : Env} {n : Nat} {m0 m : AMem} {fs : Fs} {ps : List Pc}
theorem Hp.vh {m0 m:AMem} {l0:List Pc} {H:Nat→Prop} {a:Option Addr} {cap w l:Nat} {es:List (List Value)} (h:Hp m0 m (l0++[.gen (bu H)])) (ho:(l0.all Pc.Da)=true) (hr:Rd m a cap w l es) (ha:∀b,iE a=some b→¬H b):Hp m0 m (.rd a cap w l es::(l0++[.gen (bu H)])) :=
 ⟨h.ext,fun p hp=>by
  rcases List.mem_cons.1 hp with rfl|hp
  ·exact hr
  ·exact h.ok p hp,List.pairwise_cons.2 ⟨fun q hq=>⟨fun b a=>a.elim (fun a=>by cases a.1) fun a=>a.elim,fun b h1 h2=>by
   rcases List.mem_append.1 hq with hq|hq
   ·exact absurd h1 (Pc.uE (List.all_eq_true.1 ho q hq) b)
   ·rw[List.mem_singleton.1 hq] at h1;rcases h1 with h1|h1
    ·cases h1.1
    ·exact ha b (h2.elim id fun h=>h.elim) h1⟩,h.apart⟩⟩
def sf (l:List Pc):Bool:=l.all Pc.bound
theorem ov {α:Type} {V:α→Value} {N:α→List Pc} {f:Operand} {g:FuncId} {ars:Array Operand} {ts:Array TypeId} {args:List Value} (hf:ev E fs f=some (.func (.func g) #[] #[])) (ha:e8 E fs ars.toList=some args) (hc:∀m,Hp m0 m ps→aC E g args m (fun v m'=>∃x,v=V x∧Hp m m' (N x++[.gen (bu (owns ps))]))) (ho:∀x,sf (N x)=true):Ox E m0 fs ps (.call ⟨.value f,ars,ts⟩) V (fun x=>N x++ps) :=
 fS hf ha fun m hm=>by
  simp only[List.nil_append,List.append_nil];exact(hc m hm).mono fun v m' ⟨x,e,h⟩=>⟨x,e,hm.yR h fun p hp=>List.all_eq_true.1 (ho x) p hp⟩
theorem lT {α:Type} {V:α→Value} {N:α→List Pc} {f:Operand} {g:FuncId} {ars:Array Operand} {ts:Array TypeId} {args:List Value} (hf:ev E fs f=some (.func (.func g) #[] #[])) (ha:e8 E fs ars.toList=some args) (hc:∀m,Hp m0 m ps→aC E g args m (fun v m'=>∃x,v=V x∧Hp m m' (N x++[.gen (bu (owns ps))]))) (ho:∀x,sf (N x)=true):Oc E m0 fs ps (.call ⟨.value f,ars,ts⟩) V (fun x=>N x++ps) :=
 fun t m hfr hm hwl=>⟨fun b hb=>(by simp[aD] at hb),fun K hK=>by
  show iz E (an E t f) (aV E t ars.toList) m _
  rw[hfr.ev hf,hfr.e8 ha,nd];refine(hc m hm).mono fun v m' ⟨x,e,h⟩=>?_;rw[e];refine hK x m' (hm.yR h fun p hp=>List.all_eq_true.1 (ho x) p hp) ?_;have:=h.ext.wl;omega⟩
theorem wb {H:Nat→Prop}:∀b,iE none=some b→¬H b:=fun b h=>by cases h
end
section
variable {E : Env} {n : Nat} {m0 : AMem} {fs : Fs} {ps : List Pc} {ops : Array Oper} {os : List Oper} {dr : Bool}
theorem Wo.jv {K:Tm→AMem→Prop} {α:Type} {f:α→List Value} {k w l cap:Nat} {a:Option Addr} {xs:List α} (hp:pk ps k=some (.rd a cap w l (xs.map f))) (h:l=xs.length→Wo dr E n ops K os m0 fs ps):Wo dr E n ops K os m0 fs ps:=by
 have key:∀m,Hp m0 m ps→l=xs.length:=fun m hm=>w9 hm hp;cases dr with
 | false=>exact fun t m hf hm=>h (key m hm) t m hf hm
 | true=>exact fun t m w hf hm hw=>h (key m hm) t m w hf hm hw
theorem Wn.jv {prs:List (Nat × Nat)} {K:Tm→AMem→Prop} {ss:List Nk} {α:Type} {f:α→List Value} {k w l cap:Nat} {a:Option Addr} {xs:List α} (hp:pk ps k=some (.rd a cap w l (xs.map f))) (h:l=xs.length→Wn E n ops prs K os ss m0 fs ps):Wn E n ops prs K os ss m0 fs ps :=
 fun t m ns hf hm hn=>h (w9 hm hp) t m ns hf hm hn
end
section
variable {E : Env} {m0 : AMem} {fs : Fs} {ps : List Pc} {ty : TypeId}
theorem D4 {α:Type} {f:α→List Value} {elem ty2:TypeId} {w k c0 l l1:Nat} {a a0:Option Addr} {xs ys:List α} {ars:Array Operand} (he:Enc f w) (ht:SlT E.P ty elem w) (h2:∃e0,E.P.underlying ty2=some (.slice e0)) (ha:e8 E fs ars.toList=some [.slice a l l,.slice a0 l1 c0]) (hp:pk ps k=some (.sl a w l (xs.map f))) (hr:∀m,Hp m0 m ps→Rd m a0 c0 w l1 (ys.map f)) (hl:lim (xs++ys).length=true) :
  Ox E m0 fs ps (.call ⟨.builtin .append,ars,#[ty,ty2]⟩) (fun a':Option Addr=>.slice a' (xs++ys).length (xs++ys).length) (fun a'=>bH ps k (.sl a' w (xs++ys).length ((xs++ys).map f))):=fun t m hf hm=>⟨fun b hb=>(by simp[aD] at hb),fun K hK=>by
 have h0:l=xs.length:=by
  have:=hm.get hp;rcases this with⟨h3,h0,_⟩|⟨b,tg,_,h0⟩
  ·rw[h3,List.map_eq_nil_iff.1 h0]; rfl
  ·have:=h0.2.2.2.1; rw[List.length_map] at this; exact this.symm
 have h4:l1=ys.length:=by
  have:=(hr m hm).1; rw[List.length_map] at this; exact this.symm
 have e0:l+l1=(xs++ys).length:=by rw[h0,h4,List.length_append]
 obtain⟨a',m',h5,h1⟩:=px (n:=l) ht h2 hm hp (hr m hm) (he.mO ys) (he.fw ys) (by rw[e0]; exact hl)
 have:aL E.P .append #[ty,ty2] [.slice a l l,.slice a0 l1 c0] m=some (.slice a' (l+l1) (l+l1),m'):=h5;rw[Go.Ab.cC (hf.e8 ha) this];have e1:xs.map f++ys.map f=(xs++ys).map f:=List.map_append.symm;rw[e1,e0] at h1;rw[e0];exact hK a' m' h1⟩
end
section
theorem kD (c:Value) (cs:List Value) (o:Nat) (vs:List Value):az (c::cs) (o+1) vs=c::az cs o vs:=by cases vs<;>rfl
theorem dU:∀(cs:List Value) (o:Nat),az cs o []=cs
 | [],0=>rfl
 | _::_,0=>rfl
 | [],_+1=>rfl
 | c::cs,o+1=>by rw[kD,dU cs o]
theorem lR {f:Nat→List Value} {v:Nat→Value} (hf:∀x,f x = [v x]):∀{ys xs zs:List Nat},ys++xs.drop ys.length=zs→ys.length≤xs.length→az (xs.map f).flatten 0 (ys.map f).flatten=(zs.map f).flatten
 | [],xs,zs,h,_=>by
  rw[List.nil_append,List.length_nil,List.drop_zero] at h;rw[h];exact dU _ 0
 | y::ys,[],zs,_,hl=>by simp at hl
 | y::ys,x::xs,zs,h,hl=>by
  have ih:=lR hf (ys:=ys) (xs:=xs) (zs:=ys++xs.drop ys.length) rfl (by simpa using hl)
  subst h;simp only[List.map_cons,List.flatten_cons,hf,List.cons_append,List.nil_append,List.length_cons,List.drop_succ_cons] at ih ⊢
  show v y::az _ 0 _=_
  rw[ih]
theorem Et {f:Nat→List Value} {v:Nat→Value} (hf:∀x,f x = [v x]) {c:Value} {ys xs zs:List Nat} (h:ys++xs.drop ys.length=zs) (hl:ys.length≤xs.length):az (c::(xs.map f).flatten) 1 (ys.map f).flatten=c::(zs.map f).flatten:=by
 rw[show(1:Nat)=0+1 from rfl,kD,lR hf h hl]
variable {E : Env} {m0 : AMem} {fs : Fs} {ps : List Pc} {ty : TypeId}
theorem D6 {f:Nat→List Value} {elem ty2:TypeId} {k b o q c0 l1:Nat} {a0:Option Addr} {cs cs':List Value} {ys:List Nat} {ars:Array Operand} (he:Enc f 1) (ht:SlT E.P ty elem 1) (ha:e8 E fs ars.toList=some [.slice (some ⟨b,o,none⟩) q q,.slice a0 l1 c0]) (hp:pk ps k=some (.obj b (.cells cs .own))) (hr:∀m,Hp m0 m ps→Rd m a0 c0 1 l1 (ys.map f)) (hq:decide (ys.length≤q)=true) (ho:Nat.ble (o+q) cs.length=true) (hs:az cs o (ys.map f).flatten=cs') :
  Od E m0 fs ps (.call ⟨.builtin .copy,ars,#[ty,ty2]⟩) (.int .i64 (ys.length:Int)) (bH ps k (.obj b (.cells cs' .own))):=fun t m hf hm=>⟨fun b hb=>(by simp[aD] at hb),fun K hK=>by
 have h0:l1=ys.length:=by
  have:=(hr m hm).1; rw[List.length_map] at this; exact this.symm
 have hq':=of_decide_eq_true hq;have ho':=Nat.le_of_ble_eq_true ho;have hc:=(hr m hm).cells;have hmin:min l1 q=l1:=by omega
 have hone:aJ (ys.map f).flatten=true:=by
  unfold aJ;rw[List.all_eq_true];intro x hx;obtain⟨e,h3,h4⟩:=List.mem_flatten.1 hx;exact List.all_eq_true.1 (he.fw ys e h3) x h4
 have hlen:(ys.map f).flatten.length=ys.length:=by
  clear hs hr hq hK h0 hq' hc hone
  induction ys with
  | nil=>rfl
  | cons x l ih=>rw[List.map_cons,List.flatten_cons,List.length_append,ih,he.1 x,List.length_cons]; omega
 have hg:=(hm.get hp).2.2;have hsrc:ca (aq E.P elem) (.slice a0 l1 c0) (min l1 q) m=some (ys.map f).flatten:=by rw[ht.size,hmin]; exact hc
 cases hy:ys with
 | nil =>
  subst hy;have e0:cs'=cs:=by rw[←hs]; exact dU cs o
  have h1:min l1 q=0:=by rw[hmin,h0]; rfl
  have:aL E.P .copy #[ty,ty2] [.slice (some ⟨b,o,none⟩) q q,.slice a0 l1 c0] m=some (.int .i64 0,m):=by
   show nF E.P ty _ _ m=_
   unfold nF;rw[h1] at hsrc;simp only[ht.und,ht.known,Bool.not_true,Bool.false_eq_true,if_false,h1,hsrc,hone]
  rw[Go.Ab.cC (hf.e8 ha) this];exact hK m (by rw[e0]; exact hm.put hp rfl rfl rfl (Nat.le_refl _) hm.ext (hm.get hp) fun _ _ _=>rfl)
 | cons y y0 =>
  have h2:min l1 q=y0.length+1:=by rw[hmin,h0,hy]; rfl
  have hst:m.bS b o (ys.map f).flatten=some (m.set b (.cells cs' .own)):=by
   have hne:(ys.map f).flatten≠[]:=fun e=>by rw[e,hy] at hlen; cases hlen
   unfold AMem.bS
   split
   ·rename_i e; exact absurd e hne
   ·rw[hg];simp only[hlen];rw[if_pos (by omega),hs]
  have:aL E.P .copy #[ty,ty2] [.slice (some ⟨b,o,none⟩) q q,.slice a0 l1 c0] m=some (.int .i64 (ys.length:Int),m.set b (.cells cs' .own)):=by
   show nF E.P ty _ _ m=_
   unfold nF;rw[h2] at hsrc;simp only[ht.und,ht.known,Bool.not_true,Bool.false_eq_true,if_false,h2,hsrc,hone,hst,Option.map_some];rw[hy]; rfl
  rw[Go.Ab.cC (hf.e8 ha) this];have hw:Hp m0 (m.set b (.cells cs' .own)) (bH ps k (.obj b (.cells cs' .own))):=hm.write (o':=.cells cs' .own) (p':=.obj b (.cells cs' .own)) hp rfl rfl rfl rfl ⟨(hm.get hp).1,by rw[AMem.next_set]; exact(hm.get hp).2.1,by rw[AMem.aY,if_pos rfl]⟩
  exact hK _ hw⟩
end
end Go.Ab.W
end

section
namespace Go.Ab.W
open Go Go.Ab
section
variable {α : Type}
end
section
variable {α : Type} {E : Env} {m0 m : AMem} {fs : Fs} {ps : List Pc} {f : α → List Value} {w : Nat}
variable {x : Operand} {ty : TypeId}
variable {N : Nat} {ops : Array Oper} {os : List Oper} {dr : Bool}
end
end Go.Ab.W
end

section
namespace Go.Ab.W
open Go Go.Ab
attribute [local irreducible] Tm.at Trie.set Trie.get AMem.get AMem.set AMem.alloc AMem.ww AMem.kill
theorem vN:∀(l:List Pc) (k:Nat) (p q:Pc),bH (bH l k p) k q=bH l k q:=by
 intro l
 induction l with
 | nil=>intro k p q; rfl
 | cons a l ih =>
  intro k p q;cases k with
  | zero=>rfl
  | succ k=>rw[dF,dF,dF,ih]
theorem Az:∀{l:List Pc} {k:Nat} {p:Pc} (q:Pc),pk l k=some p→pk (bH l k q) k=some q:=by
 intro l
 induction l with
 | nil=>intro k p q h; simp[pk] at h
 | cons a l ih =>
  intro k p q h;cases k with
  | zero=>rfl
  | succ k=>rw[dF,ep]; rw[ep] at h; exact ih q h
section
variable {α : Type} {E : Env} {m0 m : AMem} {fs : Fs} {ps : List Pc} {f : α → List Value} {w : Nat} {ty : TypeId}
theorem mL {β:Type} {V:β→Value} {N:β→List Pc} {x:Operand} {b off:Nat} (hx:ev E fs x=some (ptr b off)) (hb:∀m,Hp m0 m ps→b<m.next) (h:∀m,Hp m0 m ps→∃z,cT E.P ty (ptr b off) m=some (V z)∧Hp m0 m (N z)):Ox E m0 fs ps (.load ty x) V N :=
 fun t m hf hm=>⟨fun b' hb'=>by
  have hx':an E t x=some (ptr b off):=hf.ev hx;simp only[aD,hx',Option.bind_some] at hb';cases hb'; exact hb m hm,fun K hK=>by
  obtain⟨z,h1,h2⟩:=h m hm;rw[Go.Ab.yI (hf.ev hx) h1]; exact hK z m h2⟩
theorem EF {elem:TypeId} {len:Nat} {parts:Array (Nat × Operand)} {vs:List (Nat × Value)} {es:List (List Value)} (ht:SlT E.P ty elem w) (h:xJ E fs parts.toList=some vs) (hf:D1 E.P elem w len vs=some es.flatten) (hl:Nat.beq es.length len=true) (hw:zv w es=true) :
  Ox E m0 fs ps (.buildSlice ty len parts) (fun b=>.slice (some ⟨b,0,none⟩) len len) (fun b=>.obj b (.cells es.flatten .own)::ps):=fun t m hfr hm=>⟨(e6 ht h hf hl hw t m hfr hm).1,fun K hK=>(e6 ht h hf hl hw t m hfr hm).2 K fun b m' hm'=>hK b m' ⟨hm'.ext,fun p hp=>by
  have h0:=hm'.ok _ (List.mem_cons_self ..);rcases List.mem_cons.1 hp with rfl|hp
  ·exact⟨h0.1,h0.2.1,h0.2.2.1⟩
  ·exact hm'.ok p (List.mem_cons_of_mem _ hp),List.pairwise_cons.2 ⟨fun r hr=>(List.pairwise_cons.1 hm'.apart).1 r hr,(List.pairwise_cons.1 hm'.apart).2⟩⟩⟩
theorem ab.GH {k b n:Nat} {cs:List Value} {es:List (List Value)} (hp:pk ps k=some (.obj b (.cells cs .own))) (hcs:es.flatten=cs) (hn:Nat.beq es.length n=true) (hw:zv w es=true) (h0:Nat.blt 0 w=true):ab m0 ps (bH ps k (.sl (some ⟨b,0,none⟩) w n es)):=fun m h=>by
 have hk:=h.get hp;exact h.put hp rfl rfl rfl (Nat.le_refl _) h.ext (.inr ⟨b,.own,rfl,hk.1,hk.2.1,by rw[hcs]; exact hk.2.2,Nat.eq_of_beq_eq_true hn,tZ hw,.inl rfl,by rwa[Nat.blt_eq] at h0⟩) fun _ _ _=>rfl
end
section
variable {α : Type} {E : Env} {n : Nat} {m0 m : AMem} {fs : Fs} {ps : List Pc} {f : α → List Value} {w : Nat} {ops : Array Oper} {os : List Oper} {prs : List (Nat × Nat)} {K : Tm → AMem → Prop} {ss : List Nk}
end
def Ek (m:AMem) (RW:Nat→Prop) (rb:Nat) (row:List (Bool × List Nat)):Prop :=
 rb<m.next∧∃vs,m.get rb=some (.cells vs .own)∧vs.length=row.length*2∧∀(j:Nat) (x:Bool × List Nat),row[j]? = some x→vs[j*2]? = some (.bool x.1)∧∃a c,vs[j*2+1]? = some (.slice a x.2.length c)∧Rd m a c 1 x.2.length (x.2.map (eN .u64))∧∀b,iE a=some b→RW b
def F5 (ρ:Nat→Nat) (L:List (List (Bool × List Nat))) (x:Nat):Prop:=∃i row,L[i]? = some row∧row≠[]∧x=ρ i
structure MatAt (m:AMem) (b n:Nat) (ρ:Nat→Nat) (RW:Nat→Prop) (L:List (List (Bool × List Nat))):Prop where
 lt:b<m.next
 len:n=L.length
 cells:∃cs,m.get b=some (.cells cs .own)∧cs.length=n∧∀(i:Nat) (row:List (Bool × List Nat)),L[i]? = some row→(row = []∧cs[i]? = some (.slice none 0 0))∨(row≠[]∧cs[i]? = some (.slice (some ⟨ρ i,0,none⟩) row.length row.length))
 rows:∀(i:Nat) (row:List (Bool × List Nat)),L[i]? = some row→row≠[]→Ek m RW (ρ i) row
 rw:∀x,RW x→x<m.next∧x≠b∧¬F5 ρ L x
 out:∀(i:Nat) (row:List (Bool × List Nat)),L[i]? = some row→row≠[]→ρ i≠b
 inj:∀(i j:Nat) (row row':List (Bool × List Nat)),L[i]? = some row→L[j]? = some row'→row≠[]→row'≠[]→ρ i=ρ j→i=j
section
variable {E : Env} {m0 m : AMem} {fs : Fs} {ps : List Pc} {x y : Operand} {ty : TypeId} {b n : Nat} {ρ : Nat → Nat} {RW : Nat → Prop} {L : List (List (Bool × List Nat))}
end
section
variable {E : Env} {m0 m : AMem} {fs : Fs} {ps : List Pc} {x y z : Operand} {ty : TypeId} {H : Nat → Prop} {M : List (Option Nat × List (Int × Bool))}
end
end Go.Ab.W
end

section
namespace Go.Ab.W
open Go Go.Ab
section
variable {P : Program} {ty el : TypeId}
theorem eR {eq:TypeId→Value→Value→Option Bool} {xs ys:Array Value} {t off:Nat} {rest:List (TypeId × Nat)} {x y:Value} {b r:Bool} (h1:dI P t xs off=some x) (h2:dI P t ys off=some y) (h3:eq t x y=some b) (h4:fo eq P xs ys rest=some r):fo eq P xs ys ((t,off)::rest)=some (b && r):=by
 unfold fo;rw[h1,h2]
 dsimp only
 rw[h3];cases b with
 | true=>exact h4
 | false=>rfl
theorem mg {k:IntKind} (he:P.underlying el=some (.int k)) (d:Nat) (x y:Nat):gB P (d+1) el (.int k ((x:Nat):Int)) (.int k ((y:Nat):Int))=some (decide (x=y)):=by
 simp only[gB,he,if_true]
 congr 1
 rw[Bool.eq_iff_iff];simp only[beq_iff_eq,decide_eq_true_eq];omega
theorem Cg {k:IntKind} (hu:P.underlying ty=some (.array 8 el)) (hk:known P el=true) (hs:aq P el=1) (ha:cZ P el=false) (he:P.underlying el=some (.int k)) (d:Nat) (x0 y0 x1 y1 x2 y2 x3 y3 x4 y4 x5 y5 x6 y6 x7 y7:Nat) :
  gB P (d+2) ty (.agg #[.int k ((x0:Nat):Int),.int k ((x1:Nat):Int),.int k ((x2:Nat):Int),.int k ((x3:Nat):Int),.int k ((x4:Nat):Int),.int k ((x5:Nat):Int),.int k ((x6:Nat):Int),.int k ((x7:Nat):Int)])
   (.agg #[.int k ((y0:Nat):Int),.int k ((y1:Nat):Int),.int k ((y2:Nat):Int),.int k ((y3:Nat):Int),.int k ((y4:Nat):Int),.int k ((y5:Nat):Int),.int k ((y6:Nat):Int),.int k ((y7:Nat):Int)]) =
   some (decide (x0=y0) && decide (x1=y1) && decide (x2=y2) && decide (x3=y3) && decide (x4=y4) && decide (x5=y5) && decide (x6=y6) && decide (x7=y7)):=by
 have hp:∀(cs:Array Value) (i:Nat) (v:Value),cs[i]? = some v→dI P el cs i=some v:=fun cs i v h=>by
  unfold dI;rw[hk,ha,h]; rfl
 show gB P ((d+1)+1) ty _ _=_
 unfold gB;simp only[hu,hk,if_true,hs]
 show fo _ P _ _ [(el,0),(el,1),(el,2),(el,3),(el,4),(el,5),(el,6),(el,7)]=_
 simp only[Bool.and_assoc];rw[eR (hp _ 0 _ rfl) (hp _ 0 _ rfl) (mg he d x0 y0) (eR (hp _ 1 _ rfl) (hp _ 1 _ rfl) (mg he d x1 y1) (eR (hp _ 2 _ rfl) (hp _ 2 _ rfl) (mg he d x2 y2) (eR (hp _ 3 _ rfl) (hp _ 3 _ rfl) (mg he d x3 y3) (eR (hp _ 4 _ rfl) (hp _ 4 _ rfl) (mg he d x4 y4) (eR (hp _ 5 _ rfl) (hp _ 5 _ rfl) (mg he d x5 y5) (eR (hp _ 6 _ rfl) (hp _ 6 _ rfl) (mg he d x6 y6) (eR (hp _ 7 _ rfl) (hp _ 7 _ rfl) (mg he d x7 y7) rfl)))))))];simp only[Bool.and_true]
theorem DI {k:IntKind} (hu:P.underlying ty=some (.array 8 el)) (hk:known P el=true) (hs:aq P el=1) (ha:cZ P el=false) (he:P.underlying el=some (.int k)) (x0 y0 x1 y1 x2 y2 x3 y3 x4 y4 x5 y5 x6 y6 x7 y7:Nat) :
  gB P Op.maxDepth ty (.agg #[.int k ((x0:Nat):Int),.int k ((x1:Nat):Int),.int k ((x2:Nat):Int),.int k ((x3:Nat):Int),.int k ((x4:Nat):Int),.int k ((x5:Nat):Int),.int k ((x6:Nat):Int),.int k ((x7:Nat):Int)])
   (.agg #[.int k ((y0:Nat):Int),.int k ((y1:Nat):Int),.int k ((y2:Nat):Int),.int k ((y3:Nat):Int),.int k ((y4:Nat):Int),.int k ((y5:Nat):Int),.int k ((y6:Nat):Int),.int k ((y7:Nat):Int)]) =
   some (decide (x0=y0) && decide (x1=y1) && decide (x2=y2) && decide (x3=y3) && decide (x4=y4) && decide (x5=y5) && decide (x6=y6) && decide (x7=y7)) :=
 Cg hu hk hs ha he 9998 x0 y0 x1 y1 x2 y2 x3 y3 x4 y4 x5 y5 x6 y6 x7 y7
end
def E5 {α:Type}:List α→Option (α × α × α)
 | [a,b,c]=>some (a,b,c)
 | _=>none
theorem yv {α:Type} {xs:List α} {a b c:α} (hx:E5 xs=some (a,b,c)):xs = [a,b,c]:=by
 unfold E5 at hx
 split at hx
 ·cases hx; rfl
 ·cases hx
section
variable {P : Program} {ty : TypeId}
def wo (P:Program) (ty u v:TypeId) (k l:IntKind):Bool:=match P.underlying ty with
 | some (.struct fs) => !(P.stoodInHeld ty || fs.any (·.name == "_")) && (fs.toList.map (fun f => (f.type, f.offset)) == [(u, 0), (v, 1)]) && known P u && known P v && (match P.underlying u, P.underlying v with | some (.int k'), some (.int l') => k' == k && l' == l | _, _ => false)
 | _=>false
theorem pD {u v : TypeId} {k l : IntKind} (h : wo P ty u v k l = true) : ∃ fs, P.underlying ty = some (.struct fs) ∧ (P.stoodInHeld ty || fs.any (·.name == "_")) = false ∧ fs.toList.map (fun f => (f.type, f.offset)) = [(u, 0), (v, 1)] ∧
  known P u=true∧known P v=true∧P.underlying u=some (.int k)∧P.underlying v=some (.int l):=by
 unfold wo at h
 split at h
 ·rename_i fs hf;simp only[Bool.and_eq_true,Bool.not_eq_true',beq_iff_eq] at h;obtain⟨⟨⟨⟨h1,h2⟩,h3⟩,h4⟩,h5⟩:=h
  split at h5
  ·rename_i k' l' e1 e2;simp only[Bool.and_eq_true,beq_iff_eq] at h5;obtain⟨rfl,rfl⟩:=h5;exact⟨fs,hf,h1,h2,h3,h4,e1,e2⟩
  ·cases h5
 ·cases h
theorem Bs {el:TypeId} {k:IntKind} (he:P.underlying el=some (.int k)) (d:Nat) (x y:Int):gB P (d+1) el (.int k x) (.int k y)=some (decide (x=y)):=by
 simp only[gB,he,if_true]
 rfl
theorem yZ {u v:TypeId} {k l:IntKind} (h:wo P ty u v k l=true) (a c b d:Int) :
  gB P Op.maxDepth ty (.agg #[.int k a,.int l b]) (.agg #[.int k c,.int l d])=some (decide (a=c) && decide (b=d)):=by
 obtain⟨fs,hf,h1,h2,h3,h4,h5,h6⟩:=pD h;have a1:cZ P u=false:=by simp only[cZ,h5]
 have a2:cZ P v=false:=by simp only[cZ,h6]
 have p0:∀x y:Value,dI P u #[x,y] 0=some x:=fun x y=>by simp only[dI,h3,a1]; rfl
 have p1:∀x y:Value,dI P v #[x,y] 1=some y:=fun x y=>by simp only[dI,h4,a2]; rfl
 show gB P (9999+1) ty _ _=_
 unfold gB;simp only[hf,h1,Bool.false_eq_true,if_false,h2];rw[eR (p0 _ _) (p0 _ _) (Bs h5 9998 a c) (eR (p1 _ _) (p1 _ _) (Bs h6 9998 b d) rfl)];simp only[Bool.and_true]
theorem DJ {u v:TypeId} {k l:IntKind} (h:wo P ty u v k l=true):KeyE P ty (fun p:Int × Int=>.agg #[.int k p.1,.int l p.2]) where
 eq:=fun a b=>by
  rw[yZ h]
  congr 1
  by_cases h:a=b
  ·subst h; simp
  ·have:¬(a.1=b.1∧a.2=b.2):=fun⟨h1,h2⟩=>h (Prod.ext h1 h2);rw[decide_eq_false h,←Bool.decide_and,decide_eq_false this]
 ok:=fun a=>by
  obtain⟨fs,hf,h1,h2,h3,h4,h5,h6⟩:=pD h;have k1:cV P u=true:=by simp only[cV,h5]
  have k2:cV P v=true:=by simp only[cV,h6]
  have e:fs.toList.all (fun f=>cV P f.type && known P f.type && decide (f.offset<(#[Value.int k a.1,.int l a.2]:Array Value).size)) =
    (fs.toList.map fun f=>(f.type,f.offset)).all fun x=>cV P x.1 && known P x.1 && decide (x.2<(#[Value.int k a.1,.int l a.2]:Array Value).size):=by rw[List.all_map]; rfl
  simp only[fc,hf];rw[e,h2];simp only[List.all_cons,List.all_nil,k1,k2,h3,h4]
  rfl
 plain:=fun a=>rfl
 same:=fun a=>by simp[Instr.sameBits]
theorem CU {k:IntKind} (a b c d:Int) {ts:Array TypeId} (m:AMem):aL P .max ts [.int k a,.int k b,.int k c,.int k d] m=some (.int k (ma (ma (ma a b) c) d),m):=rfl
end
section
variable {E : Env} {n : Nat} {m0 : AMem} {fs : Fs} {ps : List Pc} {x : Operand} {v : Value} {ty : TypeId}
end
class TyC (P:Program) (ty:TypeId) (ag:outParam Bool) (sz:outParam Nat):Prop where
 t:TyI P ty ag sz
class FaC (P:Program) (ty:TypeId) (f:Nat) (off:outParam Nat):Prop where
 t:∀b o:Nat,aN P ty (ptr b o) f=some (ptr b (o+off))
class SlC (P:Program) (ty:TypeId) (el:outParam TypeId) (w:outParam Nat):Prop where
 t:SlT P ty el w
class ArC (P:Program) (ty:TypeId) (el:outParam TypeId) (len w:outParam Nat):Prop where
 t:ArT P ty el len w
class UsC (P:Program) (ty:TypeId) (el:outParam TypeId):Prop where
 t:P.underlying ty=some (.slice el)
section
variable {E : Env} {n : Nat} {m0 : AMem} {fs : Fs} {ps ps' : List Pc} {ops : Array Oper} {os : List Oper} {K : Tm → AMem → Prop} {dr : Bool}
variable {ty : TypeId} {p : String} {af : Array Edge} {d : Option Nat} {o : Op} {g : Option (Nat × Bool)} {v : Value}
end
section
variable {k : IntKind} {P : Program} {ty : TypeId}
end
section
variable {E : Env} {n : Nat} {m0 : AMem} {fs : Fs} {ps ps' : List Pc} {ops : Array Oper} {os : List Oper} {K : Tm → AMem → Prop} {dr : Bool}
variable {ty ty' oty : TypeId} {p : String} {af : Array Edge} {d : Nat} {dd : Option Nat} {o : Op} {a b r v : Value} {x y c : Operand}
def Fm (ps:List Pc) (q q':Pc) (ps':List Pc):Prop:=∃k,pk ps k=some q∧bH ps k q'=ps'
end
structure Bx (Q:Prop):Prop where
 v:Q
section
variable {E : Env} {n : Nat} {m0 : AMem} {fs : Fs} {ps : List Pc} {fn : FuncId} {ro : Option Nat} {c : Code} {Q : AExit → Tm → AMem → Prop}
def Wl (E:Env) (n:Nat) (fn:FuncId) (ro:Option Nat) (c:Code) (Q:AExit→Tm→AMem→Prop) (m0:AMem) (fs:Fs) (ps:List Pc):Prop:=∀t m,Fr t fs→Hp m0 m ps→ml E n fn ro c Q t m
theorem Wk.Bp (h:Wl E n fn ro c Q m0 fs ps):Wk E n fn ro (.loop c) Q m0 fs ps:=fun t m hf hm=>.loop (h t m hf hm)
theorem Wl.round (h:Wk E n fn ro c (lM (ml E n fn ro c Q) Q) m0 fs ps):Wl E n fn ro c Q m0 fs ps:=fun t m hf hm=>.round (h t m hf hm)
theorem At.tl (h:Wl E n fn ro c Q m0 fs ps):At (lM (ml E n fn ro c Q) Q) .normal m0 fs ps:=h
end
section
variable {E : Env} {n : Nat} {m0 : AMem} {fs fs' : Fs} {ps ps' : List Pc} {ops : Array Oper} {os : List Oper} {K : Tm → AMem → Prop} {dr : Bool} {fn : FuncId} {ro : Option Nat} {c : Code} {Q : AExit → Tm → AMem → Prop}
variable {ty oty : TypeId} {p : String} {af : Array Edge} {d : Nat} {g : Option (Nat × Bool)} {x : Operand} {v : Value}
def ap {ρ:Type} {δ:ρ→Type} (X:(r:ρ)→δ r→En) (r:ρ):δ r→En:=X r
theorem lo {σ ρ γ:Type} {δ:ρ→Type} {body:σ→Option (σ ⊕ ρ)} {X:(r:ρ)→δ r→En} {N:Nat} {s:σ} {r:ρ} (h:cY body N s=some r) (g:γ) (ks:List Nat) (I:σ→γ→En)
  (hb:∀s g r,body s=some r→Wk E n fn ro c (match r with | .inl s'=>nE m0 (I s') | .inr r=>nE m0 (X r)) m0 (I s g).fs (I s g).ps)
  (hs:sub fs (I s g).fs:=by repeat first|exact sn|refine sc rfl ?_) (hd:k7 ks=true:=by rfl) (hp:aa ps ks=some (I s g).ps:=by rfl)
  (hn:∀s g,(I s g).e = .normal:=by exact fun _ _=>rfl) (hx:∀r g,(X r g).e≠.normal:=by intro r d; first | (intro e; cases e; done) | (rcases r with r|r<;>first | (intro e; cases e; done) | (rcases r with r|r<;>first | (intro e; cases e; done) | (rcases r with r|r<;>intro e<;>cases e)))):Wk E n fn ro (.loop c) (nE m0 (ap X r)) m0 fs ps:=.db hs (ab.aa ks hd hp) (Wk.loop body I X hb hn hx N s r h g)
variable {m : AMem} {a : Option Addr} {cap w l : Nat} {es : List (List Value)}
variable {α : Type} {V : α → Value} {N : α → List Pc} {R : α → Pc} {f : Operand} {q : FuncId} {ars : Array Operand} {ts : Array TypeId} {args : List Value} {prs : List (Nat × Nat)} {ss : List Nk}
theorem wc (hg:rK ops fs g true) (hc:∀m,Hp m0 m ps→aC E q args m (fun v m'=>∃x,v=V x∧Hp m m' (N x))) (k:∀x,Wo dr E n ops K os m0 ((d,V x)::fs) (N x++ps)) (hf:ev E fs f=some (.func (.func q) #[] #[]):=by rfl) (ha:e8 E fs ars.toList=some args:=by rfl) (ho:∀x,qh (N x)=true:=by exact fun _=>rfl) (hd:Nat.blt d n=true:=by rfl):Wo dr E n ops K (⟨some d,.call ⟨.value f,ars,ts⟩,ty,p,af,g⟩::os) m0 fs ps:=Wo.x (aM hf ha hc ho) hg hd k
theorem nc (hg:rK ops fs g true) (hc:∀m,Hp m0 m ps→aC E q args m (fun v m'=>∃x,v=V x∧Hp m m' (N x))) (k:∀x,Wn E n ops prs K os (.call::ss) m0 ((d,V x)::fs) (N x++ps)) (hf:ev E fs f=some (.func (.func q) #[] #[]):=by rfl) (ha:e8 E fs ars.toList=some args:=by rfl) (ho:∀x,qh (N x)=true:=by exact fun _=>rfl) (hd:Nat.blt d n=true:=by rfl):Wn E n ops prs K (⟨some d,.call ⟨.value f,ars,ts⟩,ty,p,af,g⟩::os) ss m0 fs ps:=Wn.c (jL hf ha hc ho) hg hd k
theorem rf {P:Program} {b n j k w:Nat} {es:List (List Value)} {tg:Tag} {e:List Value} {v:Value} (hm:Hp m0 m ps) (ht:TyI P ty false 1) (hp:pk ps k=some (.arr b w n es tg)) (he:es[j]? = some e) (hv:vQ false 1 e 0=some v) (hs:vp false 1 0 w=true):cT P ty (ptr b (j*w+0)) m=some v:=by
 have hs:=mG hs;have:=jl (P:=P) ht (Own.C2 (hm.get hp)) he hv hs.1 hs.2;rwa[Nat.zero_add] at this
end
end Go.Ab.W
end

section
namespace Go.Proofs.YthmekkhpddehjaaGreat
open Go Go.Ab Go.Ab.W
def EY (_:Nat):Option Bool:=some true
theorem Cc (n:Nat) (r:Bool) (hF:EY n=some r) (m:AMem):aC aE 18 [] m (fun v m'=>∃_:Unit,v = .bool r∧Hp m m' []):=by
 cases hF;exact aC.bT (p:=⟨kS⟩) rfl (v:=.bool true) (m':=m) rfl ⟨(),rfl,Hp.start m⟩
def zZ (_:Nat) (x y c:Nat):Option (Nat × Nat):=gd (decide (c≤1)) (some ((x+y+c)%18446744073709551616,(x+y+c)/18446744073709551616))
def Cj (_:Nat) (x y c:Nat):Option (Nat × Nat):=gd (decide (c≤1)) (some ((x+18446744073709551616-y-c)%18446744073709551616,if x<y+c then 1 else 0))
theorem pv {V:Nat→Nat→Nat→Value} {x y c:Nat} (hc:c≤1) (m:AMem):dD V [.int .u64 ((x:Nat):Int),.int .u64 ((y:Nat):Int),.int .u64 ((c:Nat):Int)] m=some (V x y c,m):=by
 show(if Nat.ble c 1 then some (V x y c,m) else none)=_
 rw[Nat.ble_eq_true_of_le hc]; rfl
theorem qn (n:Nat) (x y c:Nat) (r:Nat × Nat) (hF:zZ n x y c=some r) (m:AMem) :
  aC aE 144 [.int .u64 ((x:Nat):Int),.int .u64 ((y:Nat):Int),.int .u64 ((c:Nat):Int)] m (fun v m'=>∃_:Unit,v = .tuple #[.int .u64 ((r.1:Nat):Int),.int .u64 ((r.2:Nat):Int)]∧Hp m m' []):=by
 obtain⟨hc,hF⟩:=ai hF;have hr:=Option.some.inj hF;subst hr;exact aC.bT (p:=⟨dD rY⟩) rfl (pv (of_decide_eq_true hc) m) ⟨(),rfl,.start m⟩
theorem u6 (n:Nat) (x y c:Nat) (r:Nat × Nat) (hF:Cj n x y c=some r) (m:AMem) :
  aC aE 145 [.int .u64 ((x:Nat):Int),.int .u64 ((y:Nat):Int),.int .u64 ((c:Nat):Int)] m (fun v m'=>∃_:Unit,v = .tuple #[.int .u64 ((r.1:Nat):Int),.int .u64 ((r.2:Nat):Int)]∧Hp m m' []):=by
 obtain⟨hc,hF⟩:=ai hF;have hr:=Option.some.inj hF;subst hr;exact aC.bT (p:=⟨dD qK⟩) rfl (pv (of_decide_eq_true hc) m) ⟨(),by
  show qK x y c=_
  unfold qK
  split<;>rfl,.start m⟩
end Go.Proofs.YthmekkhpddehjaaGreat
end
