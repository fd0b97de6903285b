/- A part of the proof. -/
import Derived.Test.YtpkadoocdgdcfaaGreatDoorKc2
import Derived.ChangeStays
import Derived.ChangeShapes
import Derived.OpenShut
import Derived.RowKit
import Derived.Shelf.Spec.BitsCarry
import Derived.Test.YtpkadoocdgdcfaaGreatDoorRows
import Derived.Test.YtpkadoocdgdcfaaGreatDoorTie
import Derived.Test.YtpkadoocdgdcfaaGreatDoorCards
import Derived.ProofKit
import Derived.LaidMore
import Derived.Stop.Joined
import Derived.SevenTiedAt
set_option linter.all false
section
namespace Go.Ab
open Go
structure Sem where
 run:Hand→Option Nat→Tm→AMem→(AExit→Tm→AMem→Bool)→Bool
noncomputable def eZ (e:AExit) (a:Bool) (b:Nat→Bool) (c:Bool):Bool:=AExit.rec (motive:=fun _=>Bool) a b c e
noncomputable def CU (S:Sem):Nat→Hand→Option Nat→Tm→AMem→(AExit→Tm→AMem→Bool)→Bool :=
 Nat.rec (fun _ _ _ _ _=>false) fun _ ih H ro t m K=>S.run H ro t m fun e t m=>eZ e (ih H ro t m K) (fun id=>K (.exit id) t m) (K .ret t m)
noncomputable def o7 (s:LoopState) (ready busy other:Bool):Bool:=LoopState.rec (motive:=fun _=>Bool) ready busy other other s
noncomputable def qk (ro:Option Nat) (m:AMem) (x:Bool):Bool:=Option.rec (motive:=fun _=>Bool) x (fun l=>pW m l fun _=>x) ro
noncomputable def Fv {α:Type} (o:Option α):Bool:=Option.rec (motive:=fun _=>Bool) true (fun _=>false) o
noncomputable def H0 (E:Env) (H:Hand) (f:Fn) (first captured:Array Value) (l:Nat) (m:AMem) (K:Value→AMem→Bool):Bool :=
 Fn.rec (motive:=fun _=>Bool) (fun g=>dC (Fv (E.cR g)) (kG first.toList [.func (.yield l) #[] #[]] fun ars=>kG ars captured.toList fun ars=>H.call g ars m K) false) (fun _=>false) (fun _ _=>false) (fun _ _ _ _=>false) (fun _=>false) f
noncomputable def ie (E:Env) (n:Nat) (fn:FuncId):Code→Sem
 | .skip=>⟨fun _ _ t m K=>K .normal t m⟩
 | .label _=>⟨fun _ _ t m K=>K .normal t m⟩
 | .exit id=>⟨fun _ _ t m K=>K (.exit id) t m⟩
 | .ret=>⟨fun _ _ t m K=>K .ret t m⟩
 | .seq a b=>⟨fun H ro t m K=>(ie E n fn a).run H ro t m fun e t m=>eZ e ((ie E n fn b).run H ro t m K) (fun id=>K (.exit id) t m) (K .ret t m)⟩
 | .cond x a b=>⟨fun H ro t m K=>(cS E x).run t fun v=>ou v (fun c=>dC c ((ie E n fn a).run H ro t m K) ((ie E n fn b).run H ro t m K)) false⟩
 | .block id a=>⟨fun H ro t m K=>(ie E n fn a).run H ro t m fun e t m=>eZ e (K .normal t m) (fun id'=>dC (Nat.beq id' id) (K .normal t m) (K (.exit id') t m)) (K .ret t m)⟩
 | .scope a=>⟨fun H ro t m K=>(ie E n fn a).run H ro t m K⟩
 | .loop a=>⟨fun H ro t m K=>CU (ie E n fn a) 1000000 H ro t m K⟩
 | .region _ ops draw=>⟨fun H _ t m K=>(ES E n ops draw).run H t m fun t m=>K .normal t m⟩
 | .rangeFunc f params assign body=>⟨fun H ro t m K=>qk ro m ((cS E f).run t fun fv=>CD fv fun g first captured =>
   cY m (.loop { state:=.ready,pending:=none,fn:=fn,tmps:=t,n:=n,params:=params,assign:=assign,body:=body}) fun l m1=>H0 E H g first captured l m1 fun _ m2 =>
    pW m2 l fun r=>ALoop.rec (motive:=fun _=>Bool) (fun state pending fn' tmps' n' params' assign' body'=>o7 state
     (cQ m2 l (.loop ⟨.exhausted,pending,fn',tmps',n',params',assign',body'⟩) fun m3=>Option.rec (motive:=fun _=>Bool) (K .normal t m3) (fun c=>Code.rec (motive:=fun _=>Bool) false (fun _ _ _=>false) (fun _ _ _ _=>false) (fun _ _ _ _ _=>false) (fun _ _ _=>false) (fun _ _=>false) (fun _ _ _ _ _ _=>false) (fun id=>K (.exit id) t m3) (fun _ _=>false) (fun _=>false) (fun _=>false) (K .ret t m3) (fun _=>false) c) pending)
     false
     (cQ m2 l (.loop ⟨.exhausted,pending,fn',tmps',n',params',assign',body'⟩) fun m3=>Option.rec (motive:=fun _=>Bool) (K .normal t m3) (fun c=>Code.rec (motive:=fun _=>Bool) false (fun _ _ _=>false) (fun _ _ _ _=>false) (fun _ _ _ _ _=>false) (fun _ _ _=>false) (fun _ _=>false) (fun _ _ _ _ _ _=>false) (fun id=>K (.exit id) t m3) (fun _ _=>false) (fun _=>false) (fun _=>false) (K .ret t m3) (fun _=>false) c) pending)) r)⟩
 | .goto _=>⟨fun _ _ _ _ _=>false⟩
 | .refuse _=>⟨fun _ _ _ _ _=>false⟩
section
variable {E : Env} {n : Nat} {fn : FuncId} {ro : Option Nat} {Q : AExit → Tm → AMem → Prop} {t : Tm} {m : AMem}
def Hx (E:Env) (n:Nat) (fn:FuncId) (ro:Option Nat) (t:Tm) (l:Nat) (Q:AExit→Tm→AMem→Prop) (m2:AMem):Prop :=
 ∃r,m2.get l=some (.loop r)∧r.state≠.busy∧((r.pending=none∧Q .normal t (m2.set l (.loop { r with state:=.exhausted})))∨(∃c,r.pending=some c∧bo E n fn ro c Q t (m2.set l (.loop { r with state:=.exhausted}))))
theorem bo.rangeFunc {f:Operand} {params:Array Tmp} {assign body:Code} {g:FuncId} {first captured:Array Value} (hf:aq E t f=some (.func (.func g) first captured)) (ha:iN E ⟨t,n,fn,ro⟩ m f=true)
  (h:aC E g (first.toList++[.func (.yield m.next) #[] #[]]++captured.toList) (m.alloc (.loop { state:=.ready,pending:=none,fn:=fn,tmps:=t,n:=n,params:=params,assign:=assign,body:=body})) (fun _ m2=>Hx E n fn ro t m.next Q m2)) :
  bo E n fn ro (.rangeFunc f params assign body) Q t m:=by
 obtain⟨v,m2,⟨k1,h1⟩,r,hr,hb,hq⟩:=h;rcases hq with⟨hp,hq⟩|⟨c,hp,e,t',m',⟨k2,h2⟩,hq⟩
 ·refine⟨_,_,_,aW (k:=k1) ?_,hq⟩;cases hs:r.state with
  | busy=>exact absurd hs hb
  | _=>simp only[step,hf,ha,h1,hr,hs,hp]
 ·refine⟨_,_,_,aW (k:=max k1 k2) ?_,hq⟩;obtain⟨state,pending,fn',tmps',n',params',assign',body'⟩:=r;have hp':pending=some c:=hp;subst hp';have h2':=jk (Nat.le_max_right k1 k2) h2;cases state with
  | busy=>exact absurd rfl hb
  | _=>simp only[step,hf,ha,jk (Nat.le_max_left k1 k2) h1,hr,h2']
def KW (ro:Option Nat) (m:AMem):Bool :=
 match ro with
 | none=>true
 | some l=>match m.get l with
  | some (.loop _)=>true
  | _=>false
theorem oQ {x:Bool} (h:qk ro m x=true):x=true∧KW ro m=true:=by
 cases ro with
 | none=>exact⟨h,rfl⟩
 | some l =>
  obtain⟨r,h1,h2⟩:=gU h;exact⟨h2,by simp only[KW,h1]⟩
theorem cF {e:AExit} {a:Bool} {b:Nat→Bool} {c:Bool} (h:eZ e a b c=true):(e = .normal∧a=true)∨(∃id,e = .exit id∧b id=true)∨(e = .ret∧c=true):=by
 cases e with
 | normal=>exact .inl ⟨rfl,h⟩
 | exit id=>exact .inr (.inl ⟨id,rfl,h⟩)
 | ret=>exact .inr (.inr ⟨rfl,h⟩)
theorem uP {H:Hand} {a:Code} {S:Sem} (hS:∀{t:Tm} {m:AMem} {K:AExit→Tm→AMem→Bool},S.run H ro t m K=true→bo E n fn ro a (fun e t m=>K e t m=true) t m) {K:AExit→Tm→AMem→Bool} :
  ∀(k:Nat) {t:Tm} {m:AMem},CU S k H ro t m K=true→ru E n fn ro a (fun e t m=>K e t m=true) t m
 | 0,t,m,h=>by cases h
 | k+1,t,m,h=>by
  have h':(S.run H ro t m fun e t m=>eZ e (CU S k H ro t m K) (fun id=>K (.exit id) t m) (K .ret t m))=true:=h;refine .round ((hS h').mono fun e t m h=>?_);rcases cF h with⟨rfl,h⟩|⟨id,rfl,h⟩|⟨rfl,h⟩
  ·exact uP hS k h
  ·exact h
  ·exact h
theorem wV {c:Code} {a:Nat→Bool} {b:Bool} (h:Code.rec (motive:=fun _=>Bool) false (fun _ _ _=>false) (fun _ _ _ _=>false) (fun _ _ _ _ _=>false) (fun _ _ _=>false) (fun _ _=>false) (fun _ _ _ _ _ _=>false) a (fun _ _=>false) (fun _=>false) (fun _=>false) b (fun _=>false) c=true) :
  (∃id,c = .exit id∧a id=true)∨(c = .ret∧b=true):=by
 cases c<;>first|exact .inl ⟨_,rfl,h⟩|exact .inr ⟨rfl,h⟩|cases h
theorem kh {H:Hand} (hH:xF E H):∀(c:Code) {ro:Option Nat} {t:Tm} {m:AMem} {K:AExit→Tm→AMem→Bool},(ie E n fn c).run H ro t m K=true→bo E n fn ro c (fun e t m=>K e t m=true) t m:=by
 intro c
 induction c with
 | skip=>intro ro t m K h; exact .skip h
 | label l=>intro ro t m K h; exact .label h
 | exit id=>intro ro t m K h; exact .exit h
 | ret=>intro ro t m K h; exact .ret h
 | seq a b iha ihb =>
  intro ro t m K h;refine .seq ((iha (K:=fun e t m=>eZ e ((ie E n fn b).run H ro t m K) (fun id=>K (.exit id) t m) (K .ret t m)) h).mono fun e t m h=>?_);rcases cF h with⟨rfl,h⟩|⟨id,rfl,h⟩|⟨rfl,h⟩
  ·exact ihb h
  ·exact h
  ·exact h
 | cond x a b iha ihb =>
  intro ro t m K h;obtain⟨v,h1,h⟩:=aS (x:=x) h;obtain⟨c,rfl,h⟩:=gV h;refine .cond h1 (fun hc=>?_) (fun hc=>?_)
  ·subst hc; exact iha h
  ·subst hc; exact ihb h
 | block id a ih =>
  intro ro t m K h;refine .block ((ih (K:=fun e t m=>eZ e (K .normal t m) (fun id'=>dC (Nat.beq id' id) (K .normal t m) (K (.exit id') t m)) (K .ret t m)) h).mono fun e t m h=>?_);rcases cF h with⟨rfl,h⟩|⟨id',rfl,h⟩|⟨rfl,h⟩
  ·exact h
  ·simp only[dT];rcases cr h with⟨h1,h⟩|⟨h1,h⟩
   ·rw[if_pos (Nat.eq_of_beq_eq_true h1)]; exact h
   ·rw[if_neg (Nat.ne_of_beq_eq_false h1)]; exact h
  ·exact h
 | scope a ih=>intro ro t m K h; exact .scope (ih h)
 | loop a ih=>intro ro t m K h; exact .loop (uP (fun h=>ih h) 1000000 h)
 | region id ops draw=>intro ro t m K h; exact zc hH (fun t m h=>h) h
 | rangeFunc f params assign body iha ihb =>
  intro ro t m K h;obtain⟨h,hro⟩:=oQ h;obtain⟨fv,h1,h⟩:=aS (x:=f) h;have g:=qj h; clear h; obtain⟨g,first,captured,rfl,h⟩:=g
  rw[bU] at h;cases g with
  | func g =>
   have g':=aU h; clear h; obtain⟨hp,h⟩:=g';rw[fq,fq] at h;have hp':(E.cR g).isNone=true:=by cases hg:E.cR g with
    | none=>rfl
    | some p=>rw[hg] at hp; cases hp
   have hro':iN E ⟨t,n,fn,ro⟩ m f=true:=by
    unfold iN;simp only[h1,hp',Bool.true_and];exact hro
   refine .rangeFunc h1 hro' ((hH.1 h).mono fun v m2 h=>?_);obtain⟨r,hr,h⟩:=gU h;refine⟨r,hr,?_⟩;obtain⟨state,pending,fn',tmps',n',params',assign',body'⟩:=r;have key:∀{x:Bool},(x=cQ m2 m.next (.loop ⟨.exhausted,pending,fn',tmps',n',params',assign',body'⟩) fun m3=>Option.rec (motive:=fun _=>Bool) (K .normal t m3) (fun c=>Code.rec (motive:=fun _=>Bool) false (fun _ _ _=>false) (fun _ _ _ _=>false) (fun _ _ _ _ _=>false) (fun _ _ _=>false) (fun _ _=>false) (fun _ _ _ _ _ _=>false) (fun id=>K (.exit id) t m3) (fun _ _=>false) (fun _=>false) (fun _=>false) (K .ret t m3) (fun _=>false) c) pending)→x=true →
     ((pending=none∧K .normal t (m2.set m.next (.loop ⟨.exhausted,pending,fn',tmps',n',params',assign',body'⟩))=true)∨(∃c,pending=some c∧bo E n fn ro c (fun e t m=>K e t m=true) t (m2.set m.next (.loop ⟨.exhausted,pending,fn',tmps',n',params',assign',body'⟩)))):=by
    intro x hx hx';rw[hx,cL] at hx';cases pending with
    | none=>exact .inl ⟨rfl,hx'⟩
    | some c =>
     rcases wV hx' with⟨id,rfl,h⟩|⟨rfl,h⟩
     ·exact .inr ⟨_,rfl,.exit h⟩
     ·exact .inr ⟨_,rfl,.ret h⟩
   cases state with
   | busy=>cases h
   | ready=>exact⟨(by intro e; cases e),key rfl h⟩
   | done=>exact⟨(by intro e; cases e),key rfl h⟩
   | exhausted=>exact⟨(by intro e; cases e),key rfl h⟩
  | _=>cases h
 | goto l=>intro ro t m K h; cases h
 | refuse w=>intro ro t m K h; cases h
end
structure ResSem where
 run:Tm→AMem→(List Value→Bool)→Bool
noncomputable def wK (E:Env):List ResultVar→ResSem
 | []=>⟨fun _ _ k=>k []⟩
 | .tmp i::rs=>⟨fun t m k=>(vu i).run t fun v=>(wK E rs).run t m fun vs=>k (v::vs)⟩
 | .cell a ty::rs=>⟨fun t m k=>(vu a).run t fun p=>(wq E.P ty).run p m fun v=>(wK E rs).run t m fun vs=>k (v::vs)⟩
theorem kT {E:Env} {t:Tm} {m:AMem}:∀{rs:List ResultVar} {k:List Value→Bool},(wK E rs).run t m k=true→∃vs,bP E t m rs=some vs∧k vs=true
 | [],k,h=>⟨[],rfl,h⟩
 | .tmp i::rs,k,h=>by
  have h':=qH (d:=i) h;obtain⟨vs,h1,h2⟩:=kT h';exact⟨_,by simp only[bP,h1,Option.map_some],h2⟩
 | .cell a ty::rs,k,h=>by
  have h':=qH (d:=a) h;obtain⟨v,h1,h'⟩:=qn h';obtain⟨vs,h2,h3⟩:=kT h';exact⟨_,by simp only[bP,h1,h2],h3⟩
noncomputable def Ce (vs:List Value) (k:Value→Bool):Bool :=
 List.rec (motive:=fun _=>Bool) (k (.tuple #[])) (fun v rest _=>List.rec (motive:=fun _=>Bool) (k v) (fun w rest' _=>k (.tuple ⟨v::w::rest'⟩)) rest) vs
theorem pf (vs:List Value) (k:Value→Bool):Ce vs k=k (fK vs):=by
 match vs with
 | []=>rfl
 | [v]=>rfl
 | v::w::rest=>rfl
noncomputable def td (args:List Value):Nat→Tm→(Tm→Bool)→Bool :=
 List.rec (motive:=fun _=>Nat→Tm→(Tm→Bool)→Bool) (fun _ t k=>k t) (fun v _ ih i t k=>(gC i).run t v fun t=>fN (Nat.succ i) fun i=>ih i t k) args
theorem nv:∀(args:List Value) (i:Nat) (t:Tm) (k:Tm→Bool),i+args.length≤512→td args i t k=k (Trie.ofList args i t)
 | [],i,t,k,_=>rfl
 | v::vs,i,t,k,h=>by
  have hi:i<512:=by simp at h; omega
  show(gC i).run t v (fun t=>fN (Nat.succ i) fun i=>td vs i t k)=_
  rw[fm i hi,cU,nv vs (i+1) _ k (by simp at h; omega)]
  rfl
structure FunSem where
 run:Hand→List Value→AMem→(Value→AMem→Bool)→Bool
structure PSem where
 run:List Value→AMem→(Value→AMem→Bool)→Bool
def HL (E:Env) (F:FuncId→Option PSem):Prop:=∀{f:FuncId} {S:PSem},F f=some S→∃p,E.cR f=some p∧∀{args:List Value} {m:AMem} {K:Value→AMem→Bool},S.run args m K=true→∃v m',p.run args m=some (v,m')∧K v m'=true
noncomputable def zB (E:Env) (f:FuncId):FunSem :=
 match E.P.funcs[f]? with
 | some fn=>match fn.body,Nat.ble fn.ntmps 512 with
  | some c,true=>⟨fun H args m K=>dC (Nat.ble args.length fn.ntmps) (td args 0 .nil fun t=>(ie E fn.ntmps f c).run H none t m fun e t m=>eZ e ((wK E fn.results.toList).run t m fun vs=>Ce vs fun v=>K v m) (fun _=>false) ((wK E fn.results.toList).run t m fun vs=>Ce vs fun v=>K v m)) false⟩
  | _,_=>⟨fun _ _ _ _=>false⟩
 | none=>⟨fun _ _ _ _=>false⟩
noncomputable def He (E:Env) (F:FuncId→Option PSem) (f:FuncId):FunSem :=
 match F f with
 | some S=>⟨fun _ args m K=>S.run args m K⟩
 | none=>match E.cR f with
  | some p=>⟨fun H args m K=>Option.rec (motive:=fun _=>Bool) ((zB E f).run H args m K) (fun r=>Prod.rec (motive:=fun _=>Bool) (fun v m'=>fV v fun v=>fM m' fun m'=>K v m') r) (p.run args m)⟩
  | none=>zB E f
theorem aC.cR {E:Env} {f:FuncId} {p:Prim} {args:List Value} {m m':AMem} {v:Value} {R:Value→AMem→Prop} (hp:E.cR f=some p) (h:p.run args m=some (v,m')) (hR:R v m'):aC E f args m R:=by
 have hpa:lQ E f args m=some (v,m'):=by
  unfold lQ;rw[hp];exact h
 exact⟨v,m',aW (k:=0) (by simp only[step,hpa]),hR⟩
theorem uT {E:Env} {H:Hand} (hH:xF E H) {f:FuncId} {args:List Value} {m:AMem} (hpa:lQ E f args m=none) {K:Value→AMem→Bool} (h:(zB E f).run H args m K=true):aC E f args m fun v m'=>K v m'=true:=by
 unfold zB at h
 split at h
 ·rename_i F hf
  split at h
  ·rename_i c hb hn;have g:=aU h; clear h; obtain⟨h1,h⟩:=g;have hle:=Nat.le_of_ble_eq_true h1;have hn':=Nat.le_of_ble_eq_true hn;rw[nv args 0 _ _ (by omega)] at h
   have hmax:max args.length F.ntmps=F.ntmps:=Nat.max_eq_right hle;refine .GX hpa hf hb ?_;rw[hmax];refine(kh hH c h).mono fun e t m h=>?_;rcases cF h with⟨rfl,h⟩|⟨id,rfl,h⟩|⟨rfl,h⟩
   ·obtain⟨vs,h2,h⟩:=kT h;rw[pf] at h;exact⟨fun id e=>(by cases e),vs,h2,h⟩
   ·cases h
   ·obtain⟨vs,h2,h⟩:=kT h;rw[pf] at h;exact⟨fun id e=>(by cases e),vs,h2,h⟩
  ·cases h
 ·cases h
theorem D8 {E:Env} {F:FuncId→Option PSem} (hF:HL E F) {H:Hand} (hH:xF E H) {f:FuncId} {args:List Value} {m:AMem} {K:Value→AMem→Bool} (h:(He E F f).run H args m K=true):aC E f args m fun v m'=>K v m'=true:=by
 unfold He at h
 split at h
 ·rename_i S hS;obtain⟨p,hp,hS'⟩:=hF hS;obtain⟨v,m',h1,h2⟩:=hS' h;exact .cR hp h1 h2
 split at h
 ·rename_i p hp;simp only at h;cases he:p.run args m with
  | none =>
   rw[he] at h;exact uT hH (by unfold lQ; rw[hp]; exact he) h
  | some r =>
   obtain⟨v,m'⟩:=r;rw[he] at h;simp only[zy,wH] at h;exact .cR hp he h
 ·rename_i hp;exact uT hH (by unfold lQ; rw[hp]; rfl) h
noncomputable def jw (n:Nat):List Tmp→List Value→Tm→(Tm→Bool)→Bool
 | p::ps,v::vs,t,k=>(jz n (some p)).run t v fun t=>jw n ps vs t k
 | _,_,t,k=>k t
theorem mU {n:Nat}:∀{ps:List Tmp} {vs:List Value} {t:Tm} {k:Tm→Bool},jw n ps vs t k=true→∃t',e9 n t ps vs=some t'∧k t'=true
 | p::ps,v::vs,t,k,h=>by
  have h':((jz n (some p)).run t v fun t=>jw n ps vs t k)=true:=by rw[jw] at h; exact h
  obtain⟨t',hp,h2⟩:=eV h';obtain⟨t'',h3,h4⟩:=mU h2;refine⟨t'',?_,h4⟩;unfold e9;unfold fH at hp;simp only at hp
  split at hp
  ·rename_i hb; cases hp; exact h3
  ·cases hp
 | [],vs,t,k,h=>⟨t,by unfold e9; rfl,by rw[jw] at h; exact h; intros; simp_all⟩
 | p::ps,[],t,k,h=>⟨t,by unfold e9; rfl,by rw[jw] at h; exact h; intros; simp_all⟩
noncomputable def DM (E:Env) (H:Hand) (l:Nat) (args:List Value) (m:AMem) (K:Value→AMem→Bool):Bool :=
 pW m l fun r=>ALoop.rec (motive:=fun _=>Bool) (fun state _ fn tmps n params assign body=>o7 state
  (dC (Nat.beq args.length params.size) (jw n params.toList args tmps fun t0=>(ie E n fn assign).run H (some l) t0 m fun e t1 m1=>eZ e
   (pW m1 l fun r1=>ALoop.rec (motive:=fun _=>Bool) (fun state1 pending1 fn1 tmps1 n1 params1 assign1 body1=>o7 state1
    (cQ m1 l (.loop ⟨.busy,pending1,fn1,tmps1,n1,params1,assign1,body1⟩) fun m1'=>(ie E n fn body).run H (some l) t1 m1' fun e _ m2=>pW m2 l fun r2=>ALoop.rec (motive:=fun _=>Bool) (fun _ _ fn2 tmps2 n2 params2 assign2 body2 =>
     eZ e (cQ m2 l (.loop ⟨.ready,none,fn2,tmps2,n2,params2,assign2,body2⟩) fun m3=>K (.bool true) m3)
      (fun id=>cQ m2 l (.loop ⟨.done,some (.exit id),fn2,tmps2,n2,params2,assign2,body2⟩) fun m3=>K (.bool false) m3)
      (cQ m2 l (.loop ⟨.done,some .ret,fn2,tmps2,n2,params2,assign2,body2⟩) fun m3=>K (.bool false) m3)) r2)
    false false) r1)
   (fun _=>false) false) false)
  false false) r
theorem lD {s:LoopState} {a:Bool} (h:o7 s a false false=true):s = .ready∧a=true:=by
 cases s<;>first|exact⟨rfl,h⟩|cases h
theorem AD {E:Env} {H:Hand} (hH:xF E H) {l:Nat} {args:List Value} {m:AMem} {K:Value→AMem→Bool} (h:DM E H l args m K=true):sD E l args m fun v m'=>K v m'=true:=by
 obtain⟨r,hr,h⟩:=gU h;obtain⟨state,pending,fn,tmps,n,params,assign,body⟩:=r;have g:=lD h; clear h; obtain⟨rfl,h⟩:=g;obtain⟨h1,h⟩:=aU h;obtain⟨t0,h2,h⟩:=mU h;obtain⟨e,t1,m1,⟨k1,h3⟩,h⟩:=kh hH assign h;rcases cF h with⟨rfl,h⟩|⟨id,rfl,h⟩|⟨rfl,h⟩
 ·obtain⟨r1,hr1,h⟩:=gU h;obtain⟨state1,pending1,fn1,tmps1,n1,params1,assign1,body1⟩:=r1;have g:=lD h; clear h; obtain⟨rfl,h⟩:=g;rw[cL] at h;obtain⟨e,t2,m2,⟨k2,h4⟩,h⟩:=kh hH body h;obtain⟨r2,hr2,h⟩:=gU h;obtain⟨state2,pending2,fn2,tmps2,n2,params2,assign2,body2⟩:=r2;have hlen:¬args.length≠params.size:=by have:=Nat.eq_of_beq_eq_true h1; omega
  have hb:step E (run E (max k1 k2)) (.round l args m)=some (.val (.bool (sB e).isNone) (m2.set l (.loop ⟨if (sB e).isNone then .ready else .done,sB e,fn2,tmps2,n2,params2,assign2,body2⟩))):=by
   simp only[step,hr,if_neg hlen,h2,jk (Nat.le_max_left k1 k2) h3,hr1,jk (Nat.le_max_right k1 k2) h4,hr2]
  rcases cF h with⟨rfl,hz⟩|⟨id,rfl,hz⟩|⟨rfl,hz⟩
  ·rw[cL] at hz;exact⟨_,_,aW (k:=max k1 k2) hb,hz⟩
  ·rw[cL] at hz;exact⟨_,_,aW (k:=max k1 k2) hb,hz⟩
  ·rw[cL] at hz;exact⟨_,_,aW (k:=max k1 k2) hb,hz⟩
 ·cases h
 ·cases h
noncomputable def hand (E:Env) (F:FuncId→Option PSem):Nat→Hand :=
 Nat.rec ⟨fun _ _ _ _=>false,fun _ _ _ _=>false⟩ fun _ ih=>⟨fun f args m K=>(He E F f).run ih args m K,fun l args m K=>DM E ih l args m K⟩
theorem mY {E:Env} {F:FuncId→Option PSem} (hF:HL E F):∀n,xF E (hand E F n)
 | 0=>⟨fun h=>(by cases h),fun h=>(by cases h)⟩
 | n+1=>⟨fun h=>D8 hF (mY hF n) h,fun h=>AD (mY hF n) h⟩
theorem sH {E:Env} {F:FuncId→Option PSem} (hF:HL E F) {n:Nat} {f:FuncId} {args:List Value} {m:AMem} {K:Value→AMem→Bool} (h:(hand E F n).call f args m K=true):∃fuel v m',run E fuel (.call f args m)=some (.val v m')∧K v m'=true:=by
 obtain⟨v,m',⟨k,h1⟩,h2⟩:=(mY hF n).1 h;exact⟨k,v,m',h1,h2⟩
noncomputable def Jx (n:Nat) (v:Value) (m:AMem):Bool:=ou v (fun b=>dC b (Nat.ble n m.wl) false) false
theorem uG {E:Env} {F:FuncId→Option PSem} (hF:HL E F) {n g:Nat} {f:FuncId} {args:List Value} {m:AMem} (h:(hand E F n).call f args m (Jx g)=true):∃fuel m',run E fuel (.call f args m)=some (.val (.bool true) m')∧g≤m'.wl:=by
 obtain⟨k,v,m',h1,h2⟩:=sH hF h;obtain⟨b,rfl,h2⟩:=gV h2;obtain⟨rfl,h2⟩:=aU h2;exact⟨k,m',h1,Nat.le_of_ble_eq_true h2⟩
section
variable {E : Env} {n : Nat} {t : Tm} {m : AMem} {K : Tm → AMem → Prop} {ops : Array Oper} {os : List Oper} {ty : TypeId} {p : String} {af : Array Edge} {d : Nat}
variable {L : Tm → AMem → List Note → Prop} {ns : List Note}
variable {a b r v : Value} {x y : Operand} {e e' : TypeId}
theorem Hb (h:aq E t x=some v) (K':Value→AMem→Prop):bh E t m (.move x) K'=K' v m:=by rw[Fe,h]; rfl
theorem Ch (h:aq E t x=some v) (K':Value→AMem→Prop):bh E t m (.assign x) K'=K' v m:=by rw[Ai,h]; rfl
theorem EP {c:Operand} (hc:aq E t c=some (.bool true)) (h:aq E t x=some v) (K':Value→AMem→Prop):bh E t m (.pick c x y) K'=K' v m:=by rw[zM,hc,xn,h]; rfl
theorem F1 {c:Operand} (hc:aq E t c=some (.bool false)) (h:aq E t y=some v) (K':Value→AMem→Prop):bh E t m (.pick c x y) K'=K' v m:=by rw[zM,hc,we,h]; rfl
theorem I9 (h:aq E t x=some v) (K':Value→AMem→Prop):bh E t m (.box e x) K'=K' (ptr m.next 0) (m.alloc (.cells v.cells.toList .own)):=by rw[Ih,h]; rfl
theorem Jp {op:BinOp} (h:aq E t x=some a) (h':aq E t y=some b) (hr:bA op e E.P a b=some r) (K':Value→AMem→Prop):bh E t m (.binOp op e x y e') K'=K' r m:=by rw[BN,h,dW,h',dW,hr]; rfl
theorem qQ {op:UnOp} (h:aq E t x=some a) (hr:xA op a=some r) (K':Value→AMem→Prop):bh E t m (.unOp op e x) K'=K' r m:=by rw[E5,h,dW,hr]; rfl
theorem Im (h:aq E t x=some a) (hr:fg E.P e e' a=some r) (K':Value→AMem→Prop):bh E t m (.convert e e' x) K'=K' r m:=by rw[xm,h,dW,hr]; rfl
theorem Co (h:aq E t x=some a) (hr:dx E.P e a m=some r) (K':Value→AMem→Prop):bh E t m (.load e x) K'=K' r m:=by rw[Fw,h,dW,hr]; rfl
theorem Ge {m':AMem} (h:aq E t x=some a) (h':aq E t y=some b) (hr:eY E.P e a b m=some m') (K':Value→AMem→Prop):bh E t m (.store e x y) K'=K' undef m':=by rw[BU,h,dW,h',dW,hr]; rfl
theorem wA {f:Nat} (h:aq E t x=some a) (hr:aR E.P e a f=some r) (K':Value→AMem→Prop):bh E t m (.fieldAddr e x f) K'=K' r m:=by rw[sJ,h,dW,hr]; rfl
theorem EH {f:Nat} (h:aq E t x=some a) (hr:eH E.P e a f=some r) (K':Value→AMem→Prop):bh E t m (.field e x f) K'=K' r m:=by rw[Dt,h,dW,hr]; rfl
theorem vY (h:aq E t x=some a) (h':aq E t y=some b) (hr:bG E.P e a b=some r) (K':Value→AMem→Prop):bh E t m (.indexAddr e x y) K'=K' r m:=by rw[th,h,dW,h',dW,hr]; rfl
theorem Gg (h:aq E t x=some a) (h':aq E t y=some b) (hr:fI E.P e a b=some r) (K':Value→AMem→Prop):bh E t m (.index e x y) K'=K' r m:=by rw[CG,h,dW,h',dW,hr]; rfl
theorem Ap {i:Nat} {vs:Array Value} (h:aq E t x=some (.tuple vs)) (hr:vs[i]? = some r) (K':Value→AMem→Prop):bh E t m (.extract x i) K'=K' r m:=by rw[ya h,hr]; rfl
theorem zA {l h k:Option Operand} {l' h' k':Option Value} (h1:aq E t x=some a) (h2:dk E t l=some l') (h3:dk E t h=some h') (h4:dk E t k=some k') (hr:cz E.P e a l' h' k' m=some r) (K':Value→AMem→Prop):bh E t m (.slice e x l h k) K'=K' r m:=by rw[Dw h1 h2 h3 h4,hr]; rfl
theorem Ey {z:Value} (hz:bI E.P e=some z) (hp:bg z=true) (K':Value→AMem→Prop):bh E t m (.alloc e) K'=K' (ptr m.next 0) (m.alloc (.cells z.cells.toList .own)):=by
 rw[BP]; simp only[cA,hz,hp,if_true]; rfl
theorem fF {bi:Builtin} {ars:Array Operand} {ts:Array TypeId} {vs:List Value} {m':AMem} (h:bB E t ars.toList=some vs) (hr:bj E.P bi ts vs m=some (r,m')) (K':Value→AMem→Prop):bh E t m (.call ⟨.builtin bi,ars,ts⟩) K'=K' r m':=by rw[xc,h,dW,hr]; rfl
theorem DN {op:Op} {m':AMem} (hc:mB op=none) (hr:cA E t m op=some (r,m')) (K':Value→AMem→Prop):bh E t m op K'=K' r m':=by
 unfold bh; rw[hc]; simp only[hr]; rfl
theorem Kw {ops:Array Oper} {t:Tm} {dst:Option Tmp} {o:Op} {ty:TypeId} {p:String} {a:Array Edge} {j d:Nat} {b c:Bool} (hd:(ops[j]?).bind (·.dst)=some d) (h:t.at d = .bool c):aT ops ⟨dst,o,ty,p,a,some (j,b)⟩ t=(c == b):=by
 rw[DW]; unfold cJ; rw[hd]; simp only[yR h]
end
section
variable {E : Env} {n : Nat} {fn : FuncId} {ro : Option Nat} {Q : AExit → Tm → AMem → Prop} {t : Tm} {m : AMem} {w : Nat}
def iY (E:Env) (n:Nat) (ops:Array Oper) (K:Tm→AMem→Prop):List Oper→Tm→AMem→Nat→Prop
 | [],t,m,w=>K t (m.ww w)
 | o::os,t,m,w =>
  if aT ops o t then(∀b,aN E t o.op=some b→b<m.next)∧bh E t (m.ww m.next) o.op fun v m'=>Dm (fH n t o.dst v) fun t'=>iY E n ops K os t' m' (min w m'.wl)
  else Dm (fH n t o.dst undef) fun t'=>iY E n ops K os t' m w
theorem rv {r:Option Nat} {x y:Nat} {z:Option Nat} {u:Nat→Bool} (h:∀b,r=some b→b<y):cW { read:=r,wl:=x,next:=y,wrote:=z,kept:=u}=true:=by
 cases r with
 | none=>rfl
 | some b =>
  have:=h b rfl
  show Nat.blt b y=true
  rw[Nat.blt_eq]; exact this
theorem md {ops:Array Oper} {K:Tm→AMem→Prop}:∀{os:List Oper} {t:Tm} {m:AMem} {w:Nat} {ns:List Note},iY E n ops K os t m w→ns.all cW=true→dH E n ops (fun t m ns=>ns.all cW=true∧K t m) os t (m.ww w) ns
 | [],t,m,w,ns,h,hn=>⟨by simpa using hn,h⟩
 | o::os,t,m,w,ns,h,hn=>by
  simp only[iY] at h;simp only[dH]
  split at h
  ·rename_i hw;rw[if_pos hw];obtain⟨h1,h2⟩:=h;refine h2.A.mono fun v m' hv=>?_;obtain⟨t',hp,h3⟩:=hv.A;refine⟨t',hp,?_⟩;have:=md (ns:={ read:=aN E t o.op,wl:=m'.wl,next:=m.next,wrote:=dQ E t o.op,kept:=gB m m'}::ns) h3 (by rw[List.all_cons,hn,Bool.and_true]; exact rv h1)
   exact this
  ·rename_i hw;rw[if_neg hw];obtain⟨t',hp,h2⟩:=h.A;exact⟨t',hp,md h2 (by rw[List.all_cons,hn]; rfl)⟩
theorem bo.JG {id:Nat} {ops:Array Oper} (hp:iB ops=some []) (h:∀K:Tm→AMem→Prop,(∀t m,Q .normal t m→K t m)→iY E n ops K ops.toList t m m.wl):bo E n fn ro (.region id ops true) Q t m:=by
 refine .draw hp ?_;have h1:=md (ns:=[]) (h (fun t m=>Q .normal t m) fun _ _ h=>h) rfl;have mono:∀{os:List Oper} {t:Tm} {m:AMem} {ns:List Note},dH E n ops (fun t m ns=>ns.all cW=true∧Q .normal t m) os t m ns→dH E n ops (fun t m ns=>(([]:List (Nat × Nat)).all (dg ns ops) && ns.all cW)=true∧Q .normal t m) os t m ns:=by
  intro os t m ns h
  simpa using h
 exact mono h1
variable {K : Tm → AMem → Prop} {ops : Array Oper} {os : List Oper} {ty : TypeId} {p : String} {af : Array Edge} {d : Nat} {g : Option (Nat × Bool)} {v a b r : Value} {x y : Operand} {e : TypeId}
theorem Fu {xs:List Operand} {vs:List Value} (h:aq E t x=some v) (hs:bB E t xs=some vs):bB E t (x::xs)=some (v::vs):=by simp only[bB,h,hs]
end
end Go.Ab
end

section
namespace Go.Ab.W
open Go Go.Ab
abbrev Fs:=List (Nat × Value)
def lk:Fs→Nat→Option Value
 | [],_=>none
 | p::l,i=>match Nat.beq p.1 i with
  | true=>some p.2
  | false=>lk l i
def Fr (t:Tm) (fs:Fs):Prop:=∀i v,lk fs i=some v→t.at i=v
theorem Fr.nil (t:Tm):Fr t []:=fun i v h=>by cases h
theorem Fr.set {t:Tm} {fs:Fs} {d:Nat} {v:Value} (h:Fr t fs):Fr (Trie.set t d v) ((d,v)::fs):=by
 intro i x hx;unfold lk at hx;rw[at_set]
 split at hx
 ·rename_i e;have:d=i:=Nat.eq_of_beq_eq_true e;rw[if_pos this.symm]; exact Option.some.inj hx
 ·rename_i e;have:d≠i:=Nat.ne_of_beq_eq_false e;rw[if_neg (Ne.symm this)]; exact h i x hx
def sub (fs:Fs):Fs→Prop
 | []=>True
 | p::l=>lk fs p.1=some p.2∧sub fs l
theorem Fr.sub {t:Tm} {fs:Fs}:∀{fs':Fs},Fr t fs→sub fs fs'→Fr t fs'
 | [],_,_=>Fr.nil t
 | p::l,h,hs=>by
  intro i v hv;unfold lk at hv
  split at hv
  ·rename_i e;have:p.1=i:=Nat.eq_of_beq_eq_true e;subst this;cases hv;exact h _ _ hs.1
  ·exact Fr.sub h hs.2 i v hv
def ev (E:Env) (fs:Fs):Operand→Option Value
 | .tmp i=>lk fs i
 | .const v=>match bg v with
  | true=>some v
  | false=>none
 | .global g=>match Nat.blt g E.glob with
  | true=>some (ptr g 0)
  | false=>none
 | .func f=>some (.func (.func f) #[] #[])
def mi (E:Env) (fs:Fs):List Operand→Option (List Value)
 | []=>some []
 | x::xs=>match ev E fs x with
  | some v=>match mi E fs xs with
   | some vs=>some (v::vs)
   | none=>none
  | none=>none
def D2 (E:Env) (fs:Fs):Option Operand→Option (Option Value)
 | none=>some none
 | some x=>match ev E fs x with
  | some v=>some (some v)
  | none=>none
def D0 (E:Env) (fs:Fs):List (Nat × Operand)→Option (List (Nat × Value))
 | []=>some []
 | x::xs=>match ev E fs x.2 with
  | some v=>match D0 E fs xs with
   | some vs=>some ((x.1,v)::vs)
   | none=>none
  | none=>none
section
variable {E : Env} {t : Tm} {fs : Fs}
theorem Fr.ev (h:Fr t fs):∀{x:Operand} {v:Value},ev E fs x=some v→aq E t x=some v
 | .tmp i,v,e=>by show some (t.at i)=some v; rw[h i v e]
 | .const c,v,e=>by
  simp only[Go.Ab.W.ev] at e
  split at e
  ·rename_i hp; cases e; simp only[aq]; rw[if_pos hp]
  ·cases e
 | .global g,v,e=>by
  simp only[Go.Ab.W.ev] at e
  split at e
  ·rename_i hp; cases e; simp only[aq]; rw[if_pos (by rwa[Nat.blt_eq] at hp)]
  ·cases e
 | .func f,v,e=>by simp only[Go.Ab.W.ev] at e; exact e
theorem Fr.mi (h:Fr t fs):∀{xs:List Operand} {vs:List Value},mi E fs xs=some vs→bB E t xs=some vs
 | [],vs,e=>by simp only[Go.Ab.W.mi] at e; exact e
 | x::xs,vs,e=>by
  simp only[Go.Ab.W.mi] at e
  split at e
  ·rename_i v hv
   split at e
   ·rename_i ws hw;cases e;exact Fu (h.ev hv) (Fr.mi h hw)
   ·cases e
  ·cases e
theorem Fr.D2 (h:Fr t fs):∀{x:Option Operand} {v:Option Value},D2 E fs x=some v→dk E t x=some v
 | none,v,e=>by simp only[Go.Ab.W.D2] at e; exact e
 | some x,v,e=>by
  simp only[Go.Ab.W.D2] at e
  split at e
  ·rename_i w hw; cases e; simp only[dk]; rw[h.ev hw]; rfl
  ·cases e
theorem Fr.D0 (h:Fr t fs):∀{xs:List (Nat × Operand)} {vs:List (Nat × Value)},D0 E fs xs=some vs→cZ E t xs=some vs
 | [],vs,e=>by simp only[Go.Ab.W.D0] at e; exact e
 | x::xs,vs,e=>by
  simp only[Go.Ab.W.D0] at e
  split at e
  ·rename_i v hv
   split at e
   ·rename_i ws hw;cases e;obtain⟨i,y⟩:=x;unfold cZ;rw[h.ev hv,Fr.D0 h hw]
   ·cases e
  ·cases e
end
def oU (m:AMem) (b o w:Nat) (es:List (List Value)):Prop :=
 b<m.next∧∃all tg,m.get b=some (.cells all tg)∧(∀sz,tg = .more sz→sz=w)∧∀i e,es[i]? = some e→(all.drop (o+i*w)).take w=e∧e.length=w
def ff:Option Addr→Option Nat
 | some a=>some a.block
 | none=>none
def Rd (m:AMem) (a:Option Addr) (cap w n:Nat) (es:List (List Value)):Prop :=
 es.length=n∧n≤cap∧((a=none∧n=0)∨(∃b sp,a=some ⟨b,0,some sp⟩∧n=0∧cap=0∧b<m.next)∨∃b o,a=some ⟨b,o,none⟩∧oU m b o w es)
theorem Rd.lt {m:AMem} {a:Option Addr} {cap w n:Nat} {es:List (List Value)} (h:Rd m a cap w n es) {b:Nat} (hb:ff a=some b):b<m.next:=by
 rcases h.2.2 with⟨rfl,_⟩|⟨b',sp,rfl,_,_,h4⟩|⟨b',o,rfl,h4⟩
 ·cases hb
 ·cases hb; exact h4
 ·cases hb; exact h4.1
def zg (lo:Nat) (m:AMem) (b w n:Nat) (es:List (List Value)) (tg:Tag):Prop :=
 lo≤b∧b<m.next∧m.get b=some (.cells es.flatten tg)∧es.length=n∧(∀e ∈ es,e.length=w)∧(tg = .own∨tg = .more w)∧0<w
structure GPc where
 ow:Nat→Prop
 rd:Nat→Prop
 P:AMem→Prop
 st:∀m m':AMem,P m→m.next≤m'.next→(∀b,ow b∨rd b→b<m.next→m'.get b=m.get b)→P m'
 lt:∀(m:AMem) b,P m→ow b∨rd b→b<m.next
 fr:Bool:=false
inductive Pc
 | obj (b:Nat) (o:AObj)
 | arr (b w n:Nat) (es:List (List Value)) (tg:Tag)
 | sl (a:Option Addr) (w n:Nat) (es:List (List Value))
 | rd (a:Option Addr) (cap w n:Nat) (es:List (List Value))
 | ro (b o w n:Nat) (es:List (List Value))
 | gen (g:GPc)
def Pc.qO:Pc→Option Nat
 | .obj b _=>some b
 | .arr b _ _ _ _=>some b
 | .sl a _ _ _=>ff a
 | .rd a _ _ _ _=>ff a
 | .ro b _ _ _ _=>some b
 | .gen _=>none
def Pc.own:Pc→Bool
 | .obj _ _ | .arr _ _ _ _ _ | .sl _ _ _ _=>true
 | _=>false
def Pc.KZ:Pc→Nat→Prop
 | .gen g=>g.ow
 | _=>fun _=>False
def Pc.AY:Pc→Nat→Prop
 | .gen g=>fun b=>g.ow b∨g.rd b
 | _=>fun _=>False
def Pc.ow (p:Pc) (b:Nat):Prop:=(p.own=true∧p.qO=some b)∨p.KZ b
def Pc.any (p:Pc) (b:Nat):Prop:=p.qO=some b∨p.AY b
theorem Pc.mE {p:Pc} {b:Nat} (h:p.ow b):p.any b:=by
 rcases h with h|h
 ·exact .inl h.2
 ·cases p with
  | gen g=>exact .inr (.inl h)
  | _=>exact h.elim
theorem Pc.Ju {p:Pc} {b:Nat} (ho:p.own=true) (hb:p.qO=some b):p.ow b:=.inl ⟨ho,hb⟩
theorem Pc.xd {p:Pc} {b:Nat} (ho:p.own=true) (h:p.any b):p.qO=some b:=by
 rcases h with h|h
 ·exact h
 ·cases p with
  | gen g=>cases ho
  | _=>exact h.elim
def Pc.ok (lo:Nat) (m:AMem):Pc→Prop
 | .obj b o=>lo≤b∧b<m.next∧m.get b=some o
 | .arr b w n es tg=>zg lo m b w n es tg
 | .sl a w n es=>(n=0∧es = []∧a=none∧0<w)∨∃b tg,a=some ⟨b,0,none⟩∧zg lo m b w n es tg
 | .rd a cap w n es=>Rd m a cap w n es
 | .ro b o w n es=>es.length=n∧oU m b o w es
 | .gen g=>g.P m∧(g.fr=false→∀b,g.ow b→lo≤b)
def Pc.bound:Pc→Bool
 | .gen g=>!g.fr
 | _=>true
def Pc.apart (p q:Pc):Prop:=(∀b,p.ow b→q.any b→False)∧∀b,q.ow b→p.any b→False
structure Hp (m0 m:AMem) (ps:List Pc):Prop where
 ext:Ext m0 m
 ok:∀p ∈ ps,p.ok m0.next m
 apart:ps.Pairwise Pc.apart
def pk:List Pc→Nat→Option Pc
 | [],_=>none
 | p::_,0=>some p
 | _::l,k+1=>pk l k
def dA:List Pc→Nat→Pc→List Pc
 | [],_,_=>[]
 | _::l,0,p=>p::l
 | q::l,k+1,p=>q::dA l k p
theorem jm (p:Pc) (l:List Pc):pk (p::l) 0=some p:=rfl
theorem fj (p:Pc) (l:List Pc) (k:Nat):pk (p::l) (k+1)=pk l k:=rfl
theorem kg:∀{ps:List Pc} {k:Nat} {p:Pc},pk ps k=some p→p ∈ ps:=by
 intro ps
 induction ps with
 | nil=>intro k p h; simp[pk] at h
 | cons q l ih =>
  intro k p h;cases k with
  | zero=>rw[jm] at h; have:=Option.some.inj h; simp[this]
  | succ k=>rw[fj] at h; have:=ih h; simp[this]
theorem iU (q:Pc) (l:List Pc) (p:Pc):dA (q::l) 0 p=p::l:=rfl
theorem gP (q:Pc) (l:List Pc) (k:Nat) (p:Pc):dA (q::l) (k+1) p=q::dA l k p:=rfl
theorem rD:∀{l:List Pc} {k:Nat} {p r:Pc},r ∈ dA l k p→r ∈ l∨r=p:=by
 intro l
 induction l with
 | nil=>intro k p r h; simp[dA] at h
 | cons a l ih =>
  intro k p r h;cases k with
  | zero =>
   rw[iU,List.mem_cons] at h;rcases h with h|h
   ·exact .inr h
   ·exact .inl (by simp[h])
  | succ k =>
   rw[gP,List.mem_cons] at h;rcases h with h|h
   ·exact .inl (by simp[h])
   ·rcases ih h with h1|h1
    ·exact .inl (by simp[h1])
    ·exact .inr h1
theorem oU.jW {m m':AMem} {b o w:Nat} {es:List (List Value)} (h:oU m b o w es) (hn:m.next≤m'.next) (hg:m'.get b=m.get b):oU m' b o w es:=by
 obtain⟨h1,all,tg,h2,h3⟩:=h;exact⟨by omega,all,tg,by rw[hg]; exact h2,h3⟩
theorem zg.jW {lo:Nat} {m m':AMem} {b w n:Nat} {es:List (List Value)} {tg:Tag} (h:zg lo m b w n es tg) (hn:m.next≤m'.next) (hg:m'.get b=m.get b):zg lo m' b w n es tg:=by
 obtain⟨h1,h2,h3,h4⟩:=h;exact⟨h1,by omega,by rw[hg]; exact h3,h4⟩
theorem Rd.jW {m m':AMem} {a:Option Addr} {cap w n:Nat} {es:List (List Value)} (h:Rd m a cap w n es) (hn:m.next≤m'.next) (hg:∀b,ff a=some b→b<m.next→m'.get b=m.get b):Rd m' a cap w n es:=by
 obtain⟨h1,h2,h4⟩:=h;refine⟨h1,h2,?_⟩;rcases h4 with h4|⟨b,sp,rfl,a1,a2,a3⟩|⟨b,o,rfl,h⟩
 ·exact .inl h4
 ·exact .inr (.inl ⟨b,sp,rfl,a1,a2,Nat.lt_of_lt_of_le a3 hn⟩)
 ·exact .inr (.inr ⟨b,o,rfl,h.jW hn (hg b rfl h.1)⟩)
theorem Pc.iQ {lo:Nat} {m m':AMem} {p:Pc} (h:p.ok lo m) (hn:m.next≤m'.next) (hg:∀b,p.any b→b<m.next→m'.get b=m.get b):p.ok lo m':=by
 cases p with
 | obj b o=>exact⟨h.1,by have:=h.2.1; omega,by rw[hg b (.inl rfl) h.2.1]; exact h.2.2⟩
 | arr b w n es tg=>exact zg.jW h hn (hg b (.inl rfl) h.2.1)
 | sl a w n es =>
  rcases h with h|⟨b,tg,rfl,h⟩
  ·exact .inl h
  ·exact .inr ⟨b,tg,rfl,h.jW hn (hg b (.inl rfl) h.2.1)⟩
 | rd a cap w n es=>exact Rd.jW h hn fun b hb=>hg b (.inl hb)
 | ro b o w n es=>exact⟨h.1,h.2.jW hn (hg b (.inl rfl) h.2.1)⟩
 | gen g=>exact⟨g.st m m' h.1 hn fun b hb=>hg b (.inr hb),h.2⟩
theorem Pc.ig {lo:Nat} {m:AMem} {p:Pc} (h:p.ok lo m) {b:Nat} (hb:p.any b):b<m.next:=by
 cases p with
 | obj b' o=>rcases hb with hb|hb; cases hb; exact h.2.1; exact hb.elim
 | arr b' w n es tg=>rcases hb with hb|hb; cases hb; exact h.2.1; exact hb.elim
 | sl a w n es =>
  rcases hb with hb|hb
  ·rcases h with⟨_,_,rfl,_⟩|⟨b',tg,rfl,h⟩
   ·cases hb
   ·cases hb; exact h.2.1
  ·exact hb.elim
 | rd a cap w n es=>rcases hb with hb|hb; exact Rd.lt h hb; exact hb.elim
 | ro b' o w n es=>rcases hb with hb|hb; cases hb; exact h.2.1; exact hb.elim
 | gen g=>rcases hb with hb|hb; cases hb; exact g.lt m b h.1 hb
theorem Pc.Hr {lo:Nat} {m:AMem} {p:Pc} (h:p.ok lo m) {b:Nat} (hb:p.qO=some b):b<m.next:=Pc.ig h (.inl hb)
theorem Pc.Dl {lo:Nat} {m:AMem} {p:Pc} (h:p.ok lo m) (hf:p.bound=true) {b:Nat} (hb:p.ow b):lo≤b:=by
 rcases hb with⟨ho,hb⟩|hb
 ·cases p with
  | obj b' o=>cases hb; exact h.1
  | arr b' w n es tg=>cases hb; exact h.1
  | sl a w n es =>
   rcases h with⟨_,_,rfl,_⟩|⟨b',tg,rfl,h⟩
   ·cases hb
   ·cases hb; exact h.1
  | rd a cap w n es=>cases ho
  | ro b' o w n es=>cases ho
  | gen g=>cases ho
 ·cases p with
  | gen g=>exact h.2 (by simpa [Pc.bound] using hf) b hb
  | _=>exact hb.elim
theorem Pc.Dc {lo:Nat} {m:AMem} {p:Pc} (h:p.ok lo m) (ho:p.own=true) {b:Nat} (hb:p.qO=some b):lo≤b:=Pc.Dl h (by cases p<;>first|rfl|cases ho) (.inl ⟨ho,hb⟩)
section
variable {m0 m m' : AMem} {ps : List Pc}
theorem Hp.get (h:Hp m0 m ps) {k:Nat} {p:Pc} (hp:pk ps k=some p):p.ok m0.next m:=h.ok p (kg hp)
theorem Pc.jA {p r:Pc} (h:Pc.apart p r):Pc.apart r p:=⟨h.2,h.1⟩
theorem hC:∀{ps:List Pc} {k:Nat} {p p':Pc},pk ps k=some p→(∀r ∈ ps,Pc.apart p r→Pc.apart p' r)→ps.Pairwise Pc.apart→(dA ps k p').Pairwise Pc.apart:=by
 intro ps
 induction ps with
 | nil=>intro k p p' hk; simp[pk] at hk
 | cons q l ih =>
  intro k p p' hk hr h;rw[List.pairwise_cons] at h;cases k with
  | zero =>
   rw[jm] at hk;have hk:=Option.some.inj hk;subst hk;rw[iU];exact List.pairwise_cons.2 ⟨fun r hm=>hr r (by simp[hm]) (h.1 r hm),h.2⟩
  | succ k =>
   rw[fj] at hk;rw[gP];refine List.pairwise_cons.2 ⟨fun r hm=>?_,ih hk (fun r hm=>hr r (by simp[hm])) h.2⟩
   rcases rD hm with hm|hm
   ·exact h.1 r hm
   ·rw[hm]; exact Pc.jA (hr q (by simp) (Pc.jA (h.1 p (kg hk))))
theorem vF:∀{ps:List Pc} {k:Nat} {p p' r:Pc},pk ps k=some p→ps.Pairwise Pc.apart→r ∈ dA ps k p'→r=p'∨(r ∈ ps∧Pc.apart r p):=by
 intro ps
 induction ps with
 | nil=>intro k p p' r hk; simp[pk] at hk
 | cons q l ih =>
  intro k p p' r hk h hr;rw[List.pairwise_cons] at h;cases k with
  | zero =>
   rw[jm] at hk;have hk:=Option.some.inj hk;subst hk;rw[iU,List.mem_cons] at hr;rcases hr with hr|hr
   ·exact .inl hr
   ·exact .inr ⟨by simp[hr],Pc.jA (h.1 r hr)⟩
  | succ k =>
   rw[fj] at hk;rw[gP,List.mem_cons] at hr;rcases hr with hr|hr
   ·rw[hr]; exact .inr ⟨by simp,h.1 p (kg hk)⟩
   ·rcases ih hk h.2 hr with h1|⟨h1,h2⟩
    ·exact .inl h1
    ·exact .inr ⟨by simp[h1],h2⟩
theorem Hp.KY (h:Hp m0 m ps) {k:Nat} {p p':Pc} (hp:pk ps k=some p) (how:∀b,p'.ow b→p.ow b∨m.next≤b) (hany:∀b,p'.any b→p.any b∨m.next≤b) (hn:m.next≤m'.next) (hext:Ext m0 m')
  (hok:p'.ok m0.next m') (hg:∀b,¬p.ow b→b<m.next→m'.get b=m.get b):Hp m0 m' (dA ps k p') where
 ext:=hext
 apart:=hC hp (fun r hr ha=>⟨fun b a c=>(how b a).elim (fun a=>ha.1 b a c) fun a=>by have:=Pc.ig (h.ok r hr) c; omega,fun b a c=>(hany b c).elim (fun c=>ha.2 b a c) fun c=>by have:=Pc.ig (h.ok r hr) (Pc.mE a); omega⟩) h.apart
 ok:=fun r hr=>by
  rcases vF hp h.apart hr with rfl|⟨h1,h2⟩
  ·exact hok
  ·exact Pc.iQ (h.ok r h1) hn fun b hb' hlt=>hg b (fun e=>h2.2 b e hb') hlt
theorem Hp.put (h:Hp m0 m ps) {k:Nat} {p p':Pc} (hp:pk ps k=some p) (ho:p.own=true) (hb:p'.qO=p.qO) (ho':p'.own=true) (hn:m.next≤m'.next) (hext:Ext m0 m')
  (hok:p'.ok m0.next m') (hg:∀b,p.qO≠some b→b<m.next→m'.get b=m.get b):Hp m0 m' (dA ps k p') :=
 h.KY hp (fun b a=>.inl (.inl ⟨ho,by rw[←hb]; exact Pc.xd ho' (Pc.mE a)⟩)) (fun b a=>.inl (.inl (by rw[←hb]; exact Pc.xd ho' a))) hn hext hok fun b hb' hlt=>hg b (fun e=>hb' (.inl ⟨ho,e⟩)) hlt
theorem Hp.JK (h:Hp m0 m ps) {p:Pc} (hn:m.next≤m'.next) (hext:Ext m0 m') (hsame:∀b,b<m.next→m'.get b=m.get b) (hp:p.ok m0.next m') (hb:∀b,p.any b→m.next≤b):Hp m0 m' (p::ps) where
 ext:=hext
 ok:=fun q hq=>by
  rcases List.mem_cons.1 hq with rfl|hq
  ·exact hp
  ·exact Pc.iQ (h.ok q hq) hn fun b hb' hlt=>hsame b hlt
 apart:=List.pairwise_cons.2 ⟨fun q hq=>⟨fun b h1 h2=>by
  have:=Pc.ig (h.ok q hq) h2;have:=hb b (Pc.mE h1);omega,fun b h1 h2=>by
  have:=Pc.ig (h.ok q hq) (Pc.mE h1);have:=hb b h2;omega⟩,h.apart⟩
theorem Hp.cons (h:Hp m0 m ps) {p:Pc} (hn:m.next≤m'.next) (hext:Ext m0 m') (hsame:∀b,b<m.next→m'.get b=m.get b) (hp:p.ok m0.next m') (hb:∀b,p.qO=some b→m.next≤b) (hng:∀b,¬p.AY b:=by exact fun _ h=>h):Hp m0 m' (p::ps) :=
 h.JK hn hext hsame hp fun b hb'=>hb'.elim (hb b) fun h=>absurd h (hng b)
def ae (ps:List Pc):List Nat→Option (List Pc)
 | []=>some []
 | k::ks=>match pk ps k with
  | some p=>match ae ps ks with
   | some qs=>some (p::qs)
   | none=>none
  | none=>none
def nF:List Nat→Bool
 | []=>true
 | k::ks=>!(ks.any (Nat.beq k)) && nF ks
theorem rG:∀{ks:List Nat} {qs:List Pc},ae ps ks=some qs→∀q ∈ qs,∃k ∈ ks,pk ps k=some q:=by
 intro ks
 induction ks with
 | nil=>intro qs h q hq; simp only[ae,Option.some.injEq] at h; subst h; cases hq
 | cons k ks ih =>
  intro qs h q hq;simp only[ae] at h
  split at h
  ·rename_i p hp
   split at h
   ·rename_i qs' hqs;simp only[Option.some.injEq] at h;subst h;rcases List.mem_cons.1 hq with rfl|hq
    ·exact⟨k,by simp,hp⟩
    ·obtain⟨k',h1,h2⟩:=ih hqs q hq;exact⟨k',by simp[h1],h2⟩
   ·cases h
  ·cases h
theorem gQ:∀{ps:List Pc} {i j:Nat} {p q:Pc},ps.Pairwise Pc.apart→pk ps i=some p→pk ps j=some q→i≠j→Pc.apart p q:=by
 intro ps
 induction ps with
 | nil=>intro i j p q _ h; simp[pk] at h
 | cons r l ih =>
  intro i j p q h hi hj hne;rw[List.pairwise_cons] at h;cases i with
  | zero =>
   cases j with
   | zero=>exact absurd rfl hne
   | succ j =>
    rw[jm] at hi;rw[fj] at hj;rw[←Option.some.inj hi];exact h.1 q (kg hj)
  | succ i =>
   cases j with
   | zero =>
    rw[jm] at hj;rw[fj] at hi;rw[←Option.some.inj hj];exact Pc.jA (h.1 p (kg hi))
   | succ j=>rw[fj] at hi hj; exact ih h.2 hi hj (fun e=>hne (by rw[e]))
theorem kC:∀{ps:List Pc} {r:Pc},r ∈ ps→∃k,pk ps k=some r:=by
 intro ps
 induction ps with
 | nil=>intro r h; cases h
 | cons p l ih =>
  intro r h;rcases List.mem_cons.1 h with rfl|h
  ·exact⟨0,rfl⟩
  ·obtain⟨k,hk⟩:=ih h; exact⟨k+1,hk⟩
theorem Hp.GF (h:Hp m0 m ps) {k:Nat} {p q:Pc} (hp:pk ps k=some p) (hpo:∀b,¬p.ow b) (hq:q.ok m0.next m) (hqo:∀b,¬q.ow b) (hb:∀b,q.any b→p.any b):Hp m0 m (q::ps) where
 ext:=h.ext
 ok:=fun r hr=>by
  rcases List.mem_cons.1 hr with rfl|hr
  ·exact hq
  ·exact h.ok r hr
 apart:=List.pairwise_cons.2 ⟨fun r hr=>⟨fun b h1 _=>hqo b h1,fun b h1 h2=>by
  obtain⟨k',hk'⟩:=kC hr;have hne:k≠k':=fun e=>by
   rw[←e,hp] at hk';exact hpo b (by rw[Option.some.inj hk']; exact h1)
  exact(gQ h.apart hp hk' hne).2 b h1 (hb b h2)⟩,h.apart⟩
theorem Hp.more (h:Hp m0 m ps) {k:Nat} {p q:Pc} (hp:pk ps k=some p) (hpo:p.own=false) (hq:q.ok m0.next m) (hqo:q.own=false) (hb:∀b,q.qO=some b→p.qO=some b) (hpg:∀b,¬p.KZ b:=by exact fun _ h=>h) (hqg:∀b,¬q.AY b:=by exact fun _ h=>h):Hp m0 m (q::ps) :=
 h.GF hp (fun b h=>h.elim (fun h=>by rw[hpo] at h; cases h.1) (hpg b)) hq (fun b h=>h.elim (fun h=>by rw[hqo] at h; cases h.1) fun h=>hqg b (by cases q with|gen g=>exact .inl h|_=>exact h)) fun b h=>h.elim (fun h=>.inl (hb b h)) fun h=>absurd h (hqg b)
theorem vD (h:ps.Pairwise Pc.apart):∀{ks:List Nat} {qs:List Pc},nF ks=true→ae ps ks=some qs→qs.Pairwise Pc.apart:=by
 intro ks
 induction ks with
 | nil=>intro qs _ e; simp only[ae,Option.some.injEq] at e; subst e; exact .nil
 | cons k ks ih =>
  intro qs hnd e;simp only[nF,Bool.and_eq_true,Bool.not_eq_true',List.any_eq_false] at hnd;simp only[ae] at e
  split at e
  ·rename_i p hp
   split at e
   ·rename_i qs' hqs;simp only[Option.some.injEq] at e;subst e;refine List.pairwise_cons.2 ⟨fun q hq=>?_,ih hnd.2 hqs⟩;obtain⟨k',h1,h2⟩:=rG hqs q hq;exact gQ h hp h2 fun e=>hnd.1 k' h1 (by rw[e]; exact Nat.beq_refl _)
   ·cases e
  ·cases e
theorem Hp.ae (h:Hp m0 m ps) (ks:List Nat) {qs:List Pc} (hnd:nF ks=true) (e:W.ae ps ks=some qs):Hp m0 m qs where
 ext:=h.ext
 ok:=fun q hq=>by
  obtain⟨k,_,hk⟩:=rG e q hq;exact h.ok q (kg hk)
 apart:=vD h.apart hnd e
theorem Pc.Gu {lo lo':Nat} {m:AMem} {p:Pc} (h:p.ok lo m) (hle:lo'≤lo):p.ok lo' m:=by
 have up:∀{b w n es tg},zg lo m b w n es tg→zg lo' m b w n es tg:=fun ho=>⟨Nat.le_trans hle ho.1,ho.2⟩;cases p with
 | obj b o=>exact⟨Nat.le_trans hle h.1,h.2⟩
 | arr b w n es tg=>exact up h
 | sl a w n es =>
  rcases h with h1|⟨b,tg,e,h1⟩
  ·exact .inl h1
  ·exact .inr ⟨b,tg,e,up h1⟩
 | rd a cap w n es=>exact h
 | ro b o w n es=>exact h
 | gen g=>exact⟨h.1,fun hf b hb=>Nat.le_trans hle (h.2 hf b hb)⟩
theorem Hp.Hh (h:Hp m0 m ps) {new:List Pc} (h':Hp m m' new) (hbd:∀p ∈ new,p.bound=true) (hro:∀p ∈ new,∀b,p.any b→m.next≤b∨(¬p.ow b∧∃q ∈ ps,(∀b,¬q.ow b)∧q.any b)):Hp m0 m' (new++ps) where
 ext:=h.ext.trans h'.ext
 ok:=fun q hq=>by
  rcases List.mem_append.1 hq with hq|hq
  ·exact Pc.Gu (h'.ok q hq) h.ext.next
  ·exact Pc.iQ (h.ok q hq) h'.ext.next fun b _ hlt=>h'.ext.same b hlt
 apart:=List.pairwise_append.2 ⟨h'.apart,h.apart,fun p hp q hq=>⟨fun b h1 h2=>by
  have:=Pc.Dl (h'.ok p hp) (hbd p hp) h1;have:=Pc.ig (h.ok q hq) h2;omega,fun b h1 h2=>by
  rcases hro p hp b h2 with h3|⟨_,r,hr,hr1,hr2⟩
  ·have:=Pc.ig (h.ok q hq) (Pc.mE h1);omega
  ·obtain⟨i,hi⟩:=kC hq;obtain⟨j,hj⟩:=kC hr;have hne:i≠j:=fun e=>by
    rw[e,hj] at hi;exact hr1 b (by rw[Option.some.inj hi]; exact h1)
   exact(gQ h.apart hi hj hne).1 b h1 hr2⟩⟩
theorem Hp.after (h:Hp m0 m ps) {new:List Pc} (h':Hp m m' new) (hro:∀p ∈ new,p.own=true):Hp m0 m' (new++ps) :=
 h.Hh h' (fun p hp=>by have:=hro p hp; cases p<;>first|rfl|cases this) fun p hp b hb=>.inl (Pc.Dc (h'.ok p hp) (hro p hp) (Pc.xd (hro p hp) hb))
def BG (ps:List Pc) (b:Nat):Prop:=∃p ∈ ps,p.ow b
theorem Hp.aw (h:Hp m0 m ps):∀b,BG ps b→b<m.next:=fun _ ⟨p,hp,hb⟩=>Pc.ig (h.ok p hp) (Pc.mE hb)
def aJ (H:Nat→Prop):GPc:={ ow:=H,rd:=fun _=>False,P:=fun m=>∀b,H b→b<m.next,fr:=true,st:=fun _ _ h hn _ b hb=>Nat.lt_of_lt_of_le (h b hb) hn,lt:=fun _ b h hb=>hb.elim (h b) fun h=>h.elim}
theorem Hp.bT (m:AMem) {H:Nat→Prop} (hH:∀b,H b→b<m.next):Hp m m [.gen (aJ H)]:=⟨.refl m,fun p h=>by rw[List.mem_singleton.1 h]; exact⟨hH,fun h=>by cases h⟩,List.pairwise_singleton ..⟩
theorem Hp.DP (h:Hp m0 m ps) {new:List Pc} (h':Hp m m' (new++[.gen (aJ (BG ps))])) (hbd:∀p ∈ new,p.bound=true):Hp m0 m' (new++ps) where
 ext:=h.ext.trans h'.ext
 ok:=fun q hq=>by
  rcases List.mem_append.1 hq with hq|hq
  ·exact Pc.Gu (h'.ok q (List.mem_append_left _ hq)) h.ext.next
  ·exact Pc.iQ (h.ok q hq) h'.ext.next fun b _ hlt=>h'.ext.same b hlt
 apart:=List.pairwise_append.2 ⟨(List.pairwise_append.1 h'.apart).1,h.apart,fun p hp q hq=>⟨fun b h1 h2=>by
  have:=Pc.Dl (h'.ok p (List.mem_append_left _ hp)) (hbd p hp) h1;have:=Pc.ig (h.ok q hq) h2;omega,fun b h1 h2=>((List.pairwise_append.1 h'.apart).2.2 p hp _ (List.mem_singleton.2 rfl)).2 b (.inr ⟨q,hq,h1⟩) h2⟩⟩
theorem Hp.aE (h:Hp m0 m ps) {k cap w n:Nat} {a:Option Addr} {es:List (List Value)} (hp:pk ps k=some (.rd a cap w n es)):∀b,ff a=some b→¬BG ps b:=fun b hb ⟨q,hq,h1⟩=>by
 obtain⟨i,hi⟩:=kC hq;have hne:i≠k:=fun e=>by
  rw[e,hp] at hi;cases hi;exact h1.elim (fun h=>by cases h.1) fun h=>h.elim
 exact(gQ h.apart hi hp hne).1 b h1 (.inl hb)
end
structure TyI (P:Program) (ty:TypeId) (ag:Bool) (sz:Nat):Prop where
 known:known P ty=true
 agg:dI P ty=ag
 size:au P ty=sz
structure SlT (P:Program) (ty elem:TypeId) (w:Nat):Prop where
 und:P.underlying ty=some (.slice elem)
 known:known P elem=true
 size:au P elem=w
 pos:0<w
 zero:(bI P elem).any (fun z=>z.cells.size == w && z.cells.toList.all aL)=true
 bytes:∃i,P.info? elem=some i∧i.bytes≠0∧i.bytes≤1024
structure ArT (P:Program) (ty elem:TypeId) (len w:Nat):Prop where
 und:P.underlying ty=some (.array len elem)
 known:known P elem=true
 size:au P elem=w
def Jk (P:Program) (ty elem:TypeId) (w:Nat):Bool :=
 (match P.underlying ty with|some (.slice e)=>Nat.beq e elem|_=>false) && known P elem && Nat.beq (au P elem) w && Nat.blt 0 w && (bI P elem).any (fun z=>z.cells.size == w && z.cells.toList.all aL) && (match P.info? elem with|some i=>!(Nat.beq i.bytes 0) && Nat.ble i.bytes 1024|none=>false)
theorem SlT.of {P:Program} {ty elem:TypeId} {w:Nat} (h:Jk P ty elem w=true):SlT P ty elem w:=by
 simp only[Jk,Bool.and_eq_true] at h;obtain⟨⟨⟨⟨⟨h1,h2⟩,h3⟩,h4⟩,h5⟩,h6⟩:=h;refine⟨?_,h2,Nat.eq_of_beq_eq_true h3,by rwa[Nat.blt_eq] at h4,h5,?_⟩
 ·split at h1
  ·rename_i e he; rw[he,Nat.eq_of_beq_eq_true h1]
  ·cases h1
 ·split at h6
  ·rename_i i hi;simp only[Bool.and_eq_true,Bool.not_eq_true'] at h6;exact⟨i,hi,Nat.ne_of_beq_eq_false h6.1,Nat.le_of_ble_eq_true h6.2⟩
  ·cases h6
section
variable {E : Env} {n : Nat} {m0 : AMem} {fs : Fs} {ps : List Pc}
def Od (E:Env) (m0:AMem) (fs:Fs) (ps:List Pc) (o:Op) (v:Value) (ps':List Pc):Prop :=
 ∀t m,Fr t fs→Hp m0 m ps→(∀b,aN E t o=some b→b<m.next)∧∀K:Value→AMem→Prop,(∀m',Hp m0 m' ps'→K v m')→bh E t m o K
def Ox (E:Env) (m0:AMem) (fs:Fs) (ps:List Pc) (o:Op) {α:Type} (V:α→Value) (N:α→List Pc):Prop :=
 ∀t m,Fr t fs→Hp m0 m ps→(∀b,aN E t o=some b→b<m.next)∧∀K:Value→AMem→Prop,(∀x m',Hp m0 m' (N x)→K (V x) m')→bh E t m o K
theorem Od.pure {o:Op} {v:Value} (hr:∀t,aN E t o=none) (h:∀t m,Fr t fs→∀K,bh E t m o K=K v m):Od E m0 fs ps o v ps :=
 fun t m hf hp=>⟨fun b hb=>(by rw[hr] at hb; cases hb),fun K hK=>by rw[h t m hf]; exact hK m hp⟩
variable {x y z : Operand} {a b r v : Value} {ty ty' : TypeId}
theorem ab (h:ev E fs x=some v):Od E m0 fs ps (.move x) v ps:=.pure (fun _=>rfl) fun _ _ hf=>Go.Ab.Hb (hf.ev h)
theorem ak (h:ev E fs x=some v):Od E m0 fs ps (.assign x) v ps:=.pure (fun _=>rfl) fun _ _ hf=>Go.Ab.Ch (hf.ev h)
theorem HI {c:Operand} (hc:ev E fs c=some (.bool true)) (h:ev E fs x=some v):Od E m0 fs ps (.pick c x y) v ps:=.pure (fun _=>rfl) fun _ _ hf=>Go.Ab.EP (hf.ev hc) (hf.ev h)
theorem KH {c:Operand} (hc:ev E fs c=some (.bool false)) (h:ev E fs y=some v):Od E m0 fs ps (.pick c x y) v ps:=.pure (fun _=>rfl) fun _ _ hf=>Go.Ab.F1 (hf.ev hc) (hf.ev h)
theorem al {op:BinOp} (h:ev E fs x=some a) (h':ev E fs y=some b) (hr:bA op ty E.P a b=some r):Od E m0 fs ps (.binOp op ty x y ty') r ps:=.pure (fun _=>rfl) fun _ _ hf=>Go.Ab.Jp (hf.ev h) (hf.ev h') hr
theorem qQ {op:UnOp} (h:ev E fs x=some a) (hr:xA op a=some r):Od E m0 fs ps (.unOp op ty x) r ps:=.pure (fun _=>rfl) fun _ _ hf=>Go.Ab.qQ (hf.ev h) hr
theorem qt (h:ev E fs x=some a) (hr:fg E.P ty ty' a=some r):Od E m0 fs ps (.convert ty ty' x) r ps:=.pure (fun _=>rfl) fun _ _ hf=>Go.Ab.Im (hf.ev h) hr
theorem aY {f:Nat} (h:ev E fs x=some a) (hr:aR E.P ty a f=some r):Od E m0 fs ps (.fieldAddr ty x f) r ps:=.pure (fun _=>rfl) fun _ _ hf=>Go.Ab.wA (hf.ev h) hr
theorem BL {f:Nat} (h:ev E fs x=some a) (hr:eH E.P ty a f=some r):Od E m0 fs ps (.field ty x f) r ps:=.pure (fun _=>rfl) fun _ _ hf=>Go.Ab.EH (hf.ev h) hr
theorem HZ (h:ev E fs x=some a) (h':ev E fs y=some b) (hr:bG E.P ty a b=some r):Od E m0 fs ps (.indexAddr ty x y) r ps:=.pure (fun _=>rfl) fun _ _ hf=>Go.Ab.vY (hf.ev h) (hf.ev h') hr
theorem KA (h:ev E fs x=some a) (h':ev E fs y=some b) (hr:fI E.P ty a b=some r):Od E m0 fs ps (.index ty x y) r ps:=.pure (fun _=>rfl) fun _ _ hf=>Go.Ab.Gg (hf.ev h) (hf.ev h') hr
theorem cc {i:Nat} {vs:Array Value} (h:ev E fs x=some (.tuple vs)) (hr:vs[i]? = some r):Od E m0 fs ps (.extract x i) r ps:=.pure (fun _=>rfl) fun _ _ hf=>Go.Ab.Ap (hf.ev h) hr
theorem KE {bi:Builtin} {ars:Array Operand} {ts:Array TypeId} {vs:List Value} (h:mi E fs ars.toList=some vs) (hn:(match bi with | .len | .cap=>false|_=>true)=true) (hr:∀m,bj E.P bi ts vs m=some (r,m)):Od E m0 fs ps (.call ⟨.builtin bi,ars,ts⟩) r ps :=
 .pure (fun _=>by cases bi<;>first|rfl|cases hn) fun _ _ hf K=>Go.Ab.fF (hf.mi h) (hr _) K
theorem fu {parts:Array (Nat × Operand)} {vs:List (Nat × Value)} {z:Value} (h:D0 E fs parts.toList=some vs) (hz:bI E.P ty=some z) (hpz:bg z=true) (hr:ju E.P ty vs=some r):Od E m0 fs ps (.build ty parts) r ps :=
 .pure (fun _=>rfl) fun t m hf K=>by
  have:cA E t m (.build ty parts)=some (r,m):=by simp only[cA,hf.D0 h,hz,hpz,if_true,hr,Option.map_some]
  exact Go.Ab.DN rfl this K
def A7 (ag:Bool) (sz:Nat) (cs:List Value) (o:Nat):Option Value :=
 match ag with
 | true=>match Nat.beq ((cs.drop o).take sz).length sz with
  | true=>some (.agg ((cs.drop o).take sz).toArray)
  | false=>none
 | false=>cs[o]?
theorem um {P:Program} {m:AMem} {ag:Bool} {sz b o:Nat} {cs:List Value} {tg:Tag} (ht:TyI P ty ag sz) (hg:m.get b=some (.cells cs tg)) (h:A7 ag sz cs o=some v):dx P ty (ptr b o) m=some v:=by
 cases ag with
 | false=>exact Fp ht.known ht.agg hg h
 | true =>
  simp only[A7] at h
  split at h
  ·rename_i e;cases h;exact F5 ht.known ht.agg ht.size hg rfl (Nat.eq_of_beq_eq_true e)
  ·cases h
def BC (ag:Bool) (sz c w:Nat):Bool:=(match ag with|true=>true|false=>Nat.beq sz 1) && Nat.ble (c+sz) w
theorem ua {ag:Bool} {sz c w:Nat} (h:BC ag sz c w=true):(ag=false→sz=1)∧c+sz≤w:=by
 simp only[BC,Bool.and_eq_true] at h;exact⟨fun e=>by subst e; exact Nat.eq_of_beq_eq_true h.1,Nat.le_of_ble_eq_true h.2⟩
theorem Od.load {b o:Nat} (hx:ev E fs x=some (ptr b o)) (h:∀m,Hp m0 m ps→b<m.next∧dx E.P ty (ptr b o) m=some v):Od E m0 fs ps (.load ty x) v ps :=
 fun t m hf hp=>⟨fun b' hb=>by
  simp only[aN,hf.ev hx] at hb;cases hb; exact(h m hp).1,fun K hK=>by
  rw[Go.Ab.Co (hf.ev hx) (h m hp).2]; exact hK m hp⟩
theorem aB {ag:Bool} {sz b o k:Nat} {cs:List Value} {tg:Tag} (ht:TyI E.P ty ag sz) (hx:ev E fs x=some (ptr b o)) (hp:pk ps k=some (.obj b (.cells cs tg))) (hv:A7 ag sz cs o=some v):Od E m0 fs ps (.load ty x) v ps :=
 .load hx fun m h=>⟨(h.get hp).2.1,um ht (h.get hp).2.2 hv⟩
theorem D9 {ag:Bool} {sz o w c:Nat} {all e:List Value} (he:(all.drop o).take w=e) (hsz:ag=false→sz=1) (hc:c+sz≤w) (h:A7 ag sz e c=some v):A7 ag sz all (o+c)=some v:=by
 subst he;have key:((List.take w (List.drop o all)).drop c).take sz=(all.drop (o+c)).take sz:=by
  rw[List.drop_take,List.take_take,List.drop_drop,Nat.min_eq_left (by omega)]
 cases ag with
 | true=>simp only[A7,key] at h ⊢; exact h
 | false =>
  simp only[A7,List.getElem?_take,List.getElem?_drop] at h ⊢
  split at h
  ·exact h
  ·cases h
theorem oi {P:Program} {m:AMem} {ag:Bool} {sz b o w j c:Nat} {es:List (List Value)} {e:List Value} (ht:TyI P ty ag sz) (hl:oU m b o w es) (he:es[j]? = some e) (hv:A7 ag sz e c=some v) (hsz:ag=false→sz=1) (hc:c+sz≤w):dx P ty (ptr b (o+j*w+c)) m=some v:=by
 obtain⟨_,all,tg,hg,_,h⟩:=hl;exact um ht hg (D9 (h j e he).1 hsz hc hv)
theorem ze {w:Nat}:∀{es:List (List Value)} {j:Nat} {e:List Value},(∀e ∈ es,e.length=w)→es[j]? = some e→(es.flatten.drop (j*w)).take w=e:=by
 intro es
 induction es with
 | nil=>intro j e _ h; simp at h
 | cons x es ih =>
  intro j e hw h;have hx:=hw x (by simp)
  cases j with
  | zero =>
   simp only[List.getElem?_cons_zero,Option.some.injEq] at h;subst h;rw[List.flatten_cons,Nat.zero_mul,List.drop_zero,List.take_left' hx]
  | succ j =>
   rw[List.getElem?_cons_succ] at h;rw[List.flatten_cons,Nat.succ_mul,Nat.add_comm,←List.drop_drop,List.drop_left' hx];exact ih (fun e he=>hw e (by simp[he])) h
theorem zg.Ja {lo:Nat} {m:AMem} {b w n:Nat} {es:List (List Value)} {tg:Tag} (h:zg lo m b w n es tg):oU m b 0 w es :=
 ⟨h.2.1,_,tg,h.2.2.1,fun sz e=>(by rcases h.2.2.2.2.2.1 with h1|h1<;>rw[h1] at e<;>cases e; rfl),fun i e he=>⟨by rw[Nat.zero_add]; exact ze h.2.2.2.2.1 he,h.2.2.2.2.1 e (List.mem_of_getElem? he)⟩⟩
theorem dF {ag:Bool} {sz b w n j c k:Nat} {es:List (List Value)} {tg:Tag} {e:List Value} (ht:TyI E.P ty ag sz) (hx:ev E fs x=some (ptr b (j*w+c))) (hp:pk ps k=some (.arr b w n es tg)) (he:es[j]? = some e) (hv:A7 ag sz e c=some v) (hs:BC ag sz c w=true):Od E m0 fs ps (.load ty x) v ps:=by
 have hs:=ua hs;refine .load hx fun m h=>⟨(h.get hp).2.1,?_⟩;have:=oi (P:=E.P) ht (zg.Ja (h.get hp)) he hv hs.1 hs.2;rwa[Nat.zero_add] at this
theorem cB {ag:Bool} {sz b o w n j c k:Nat} {es:List (List Value)} {e:List Value} (ht:TyI E.P ty ag sz) (hx:ev E fs x=some (ptr b (o+j*w+c))) (hp:pk ps k=some (.ro b o w n es)) (he:es[j]? = some e) (hv:A7 ag sz e c=some v) (hs:BC ag sz c w=true):Od E m0 fs ps (.load ty x) v ps:=by
 have hs:=ua hs;exact .load hx fun m h=>⟨(h.get hp).2.1,oi (P:=E.P) ht (h.get hp).2 he hv hs.1 hs.2⟩
theorem cb {elem:TypeId} {b o w n cap:Nat} {i:Int} {kd:IntKind} (ht:SlT E.P ty elem w) (hx:ev E fs x=some (.slice (some ⟨b,o,none⟩) n cap)) (hy:ev E fs y=some (.int kd i)) (hi:0≤i∧i.toNat<n):Od E m0 fs ps (.indexAddr ty x y) (ptr b (o+i.toNat*w+0)) ps:=by
 refine HZ hx hy ?_;have hd:decide ((0:Int)≤i∧i<(n:Nat))=true:=by simp; omega
 simp only[bG,ht.und,ht.known,hd,Bool.and_self,if_true,ht.size,Nat.add_zero]
theorem ca {elem:TypeId} {b w n cap:Nat} {i:Int} {kd:IntKind} (ht:SlT E.P ty elem w) (hx:ev E fs x=some (.slice (some ⟨b,0,none⟩) n cap)) (hy:ev E fs y=some (.int kd i)) (hi:0≤i∧i.toNat<n):Od E m0 fs ps (.indexAddr ty x y) (ptr b (i.toNat*w+0)) ps:=by
 have:=cb (m0:=m0) (ps:=ps) ht hx hy hi;rwa[Nat.zero_add] at this
theorem Hp.write {m:AMem} (h:Hp m0 m ps) {k b:Nat} {p p':Pc} {o':AObj} (hp:pk ps k=some p) (ho:p.own=true) (hb:p.qO=some b) (hb':p'.qO=some b) (ho':p'.own=true) (hok:p'.ok m0.next (m.set b o')):Hp m0 (m.set b o') (dA ps k p') :=
 h.put hp ho (hb'.trans hb.symm) ho' (Nat.le_refl _) (h.ext.set (Pc.Dc (h.get hp) ho hb) _) hok fun x hx _=>by
  rw[AMem.bO,if_neg (fun e=>hx (by rw[e]; exact hb))]
def GD (cs:List Value) (o:Nat) (v:Value) (sz:Nat):Option (List Value) :=
 match Nat.beq v.cells.toList.length sz && Nat.blt 0 sz && bf v.cells.toList && Nat.ble (o+sz) cs.length with
 | true=>some (aG cs o v.cells.toList)
 | false=>none
theorem gR:∀(cs:List Value) (o:Nat) (vs:List Value),o+vs.length≤cs.length→(aG cs o vs).length=cs.length
 | cs,0,[],_=>by cases cs<;>rfl
 | [],0,v::vs,h=>by simp at h
 | c::cs,0,v::vs,h=>by simp only[aG,List.length_cons]; rw[gR cs 0 vs (by simpa using h)]
 | [],o+1,vs,h=>by simp at h
 | c::cs,o+1,vs,h=>by simp only[aG,List.length_cons]; rw[gR cs o vs (by simp at h; omega)]
theorem wv {P:Program} {m:AMem} {ag:Bool} {sz b o:Nat} {cs cs':List Value} {tg:Tag} (ht:TyI P ty ag sz) (hg:m.get b=some (.cells cs tg)) (htg:tg≠.ro) (h:GD cs o v sz=some cs'):eY P ty (ptr b o) v m=some (m.set b (.cells cs' tg)):=by
 simp only[GD] at h
 split at h
 ·rename_i e;cases h;simp only[Bool.and_eq_true] at e;obtain⟨⟨⟨h1,h2⟩,h3⟩,h4⟩:=e;have h1:=Nat.eq_of_beq_eq_true h1;have h2:0<sz:=by rwa[Nat.blt_eq] at h2
  have h4:=Nat.le_of_ble_eq_true h4;have hs:(v.cells.size == au P ty)=true:=by rw[ht.size,←h1]; simp
  simp only[eY,ptr,ht.known,hs,h3,Bool.and_self,if_true,AMem.dh];cases hc:v.cells.toList with
  | nil=>rw[hc] at h1; simp at h1; omega
  | cons x xs =>
   rw[hc] at h1;simp only[hg];cases tg with
   | ro=>exact absurd rfl htg
   | own=>rw[if_pos (by rw[h1]; exact h4)]
   | more s=>rw[if_pos (by rw[h1]; exact h4)]
 ·cases h
theorem Od.store {bk o:Nat} {p':List Pc} (hx:ev E fs x=some (ptr bk o)) (hy:ev E fs y=some v) (h:∀m,Hp m0 m ps→∃m',eY E.P ty (ptr bk o) v m=some m'∧Hp m0 m' p'):Od E m0 fs ps (.store ty x y) undef p' :=
 fun t m hf hp=>⟨fun b hb=>by simp[aN] at hb,fun K hK=>by
  obtain⟨m',h1,h2⟩:=h m hp;rw[Go.Ab.Ge (hf.ev hx) (hf.ev hy) h1]; exact hK m' h2⟩
def Cx:Tag→Bool
 | .ro=>false
 | _=>true
theorem aZ {ag:Bool} {sz b o k:Nat} {cs cs':List Value} {tg:Tag} (ht:TyI E.P ty ag sz) (hx:ev E fs x=some (ptr b o)) (hy:ev E fs y=some v) (hp:pk ps k=some (.obj b (.cells cs tg))) (htg:Cx tg=true) (hv:GD cs o v sz=some cs'):Od E m0 fs ps (.store ty x y) undef (dA ps k (.obj b (.cells cs' tg))) :=
 .store hx hy fun m h=>⟨_,wv ht (h.get hp).2.2 (fun e=>by rw[e] at htg; cases htg) hv,h.write hp rfl rfl rfl rfl ⟨(h.get hp).1,(h.get hp).2.1,by rw[AMem.bO,if_pos rfl]⟩⟩
theorem w8:∀(l r vs:List Value) (c:Nat),c+vs.length≤l.length→aG (l++r) c vs=aG l c vs++r:=by
 intro l r
 induction l with
 | nil =>
  intro vs c h;have h0:c+vs.length≤0:=h;have h1:c=0:=by omega
  have h2:vs = []:=List.length_eq_zero_iff.1 (by omega)
  subst h1 h2;cases r<;>rfl
 | cons a l ihl =>
  intro vs c h;cases c with
  | zero=>cases vs with
   | nil=>rfl
   | cons v vs=>simp only[List.cons_append,aG]; rw[ihl vs 0 (by simpa using h)]
  | succ c=>simp only[List.cons_append,aG]; rw[ihl vs c (by simp at h; omega)]
theorem vL:∀(l r vs:List Value) (o:Nat),aG (l++r) (l.length+o) vs=l++aG r o vs:=by
 intro l r vs
 induction l with
 | nil=>intro o; simp
 | cons a l ihl=>intro o; rw[List.cons_append,List.length_cons,show l.length+1+o=(l.length+o)+1 by omega,aG,ihl o]; rfl
theorem vC {w c:Nat} {vs:List Value}:∀{es:List (List Value)} {j:Nat} {e:List Value},(∀e ∈ es,e.length=w)→es[j]? = some e→c+vs.length≤w→aG es.flatten (j*w+c) vs=(es.set j (aG e c vs)).flatten:=by
 intro es
 induction es with
 | nil=>intro j e _ h; simp at h
 | cons x es ih =>
  intro j e hw h hc;have hx:=hw x (by simp)
  cases j with
  | zero =>
   simp only[List.getElem?_cons_zero,Option.some.injEq] at h;subst h;rw[List.flatten_cons,Nat.zero_mul,Nat.zero_add,w8 _ _ _ _ (by omega)]
   simp[List.flatten_cons]
  | succ j =>
   rw[List.getElem?_cons_succ] at h;rw[List.flatten_cons,Nat.succ_mul,show j*w+w+c=x.length+(j*w+c) by omega,vL,ih (fun e he=>hw e (by simp[he])) h hc]
   simp[List.flatten_cons]
theorem JV {ag:Bool} {sz b w n j c k:Nat} {es:List (List Value)} {e e':List Value} {tg:Tag} (ht:TyI E.P ty ag sz) (hx:ev E fs x=some (ptr b (j*w+c))) (hy:ev E fs y=some v) (hp:pk ps k=some (.arr b w n es tg)) (he:es[j]? = some e) (hv:GD e c v sz=some e'):Od E m0 fs ps (.store ty x y) undef (dA ps k (.arr b w n (es.set j e') tg)):=by
 refine .store hx hy fun m h=>?_;obtain⟨g1,g2,g3,g4,g5,g6,g7⟩:=h.get hp;have hew:=g5 e (List.mem_of_getElem? he);simp only[GD] at hv
 split at hv
 ·rename_i e1;cases hv;simp only[Bool.and_eq_true] at e1;obtain⟨⟨⟨h1,h2⟩,h3⟩,h4⟩:=e1;have h1:=Nat.eq_of_beq_eq_true h1;have h2':0<sz:=by rwa[Nat.blt_eq] at h2
  have h4:=Nat.le_of_ble_eq_true h4;have hj:j<es.length:=(List.getElem?_eq_some_iff.1 he).1;have hfl:∀(l:List (List Value)),(∀e ∈ l,e.length=w)→l.flatten.length=l.length*w:=by
   intro l
   induction l with
   | nil=>intro _; simp
   | cons x l ih=>intro hl; rw[List.flatten_cons,List.length_append,ih (fun e he=>hl e (by simp[he])),hl x (by simp),List.length_cons,Nat.succ_mul]; omega
  have hmul:(j+1)*w≤es.length*w:=Nat.mul_le_mul_right w hj;rw[Nat.succ_mul] at hmul;have hst:GD es.flatten (j*w+c) v sz=some (aG es.flatten (j*w+c) v.cells.toList):=by
   have:(Nat.beq v.cells.toList.length sz && Nat.blt 0 sz && bf v.cells.toList && Nat.ble (j*w+c+sz) es.flatten.length)=true:=by
    simp only[Bool.and_eq_true];exact⟨⟨⟨by rw[h1]; exact Nat.beq_refl _,h2⟩,h3⟩,Nat.ble_eq_true_of_le (by rw[hfl es g5]; omega)⟩
   simp only[GD,this]
  refine⟨_,wv ht g3 (by rcases g6 with rfl|rfl<;>simp) hst,h.write hp rfl rfl rfl rfl ?_⟩
  refine⟨g1,g2,?_,by simpa using g4,fun e'' he''=>?_,g6,g7⟩
  ·rw[AMem.bO,if_pos rfl,vC g5 he (by omega)]
  ·rcases List.mem_or_eq_of_mem_set he'' with h5|h5
   ·exact g5 _ h5
   ·rw[h5,gR _ _ _ (by omega)]; exact hew
 ·cases hv
theorem Ox.made {o:Op} {ob:Nat→AObj} {p:Nat→Pc} {V:Nat→Value} (hr:∀t,aN E t o=none) (h:∀t m,Fr t fs→∀K,bh E t m o K=K (V m.next) (m.alloc (ob m.next)))
  (hb:∀b,(p b).qO=some b) (hp:∀lo m b,lo≤b→b<m.next→m.get b=some (ob b)→(p b).ok lo m) (hpg:∀b x,¬(p b).AY x:=by exact fun _ _ h=>h):Ox E m0 fs ps o V (fun b=>p b::ps) :=
 fun t m hf hm=>⟨fun b hb=>(by rw[hr] at hb; cases hb),fun K hK=>by
  rw[h t m hf];refine hK m.next _ (hm.cons (Nat.le_succ _) (hm.ext.alloc _) (fun b hlt=>by rw[AMem.aX,if_neg (by omega)]) (hp _ _ _ hm.ext.next (Nat.lt_succ_self _) (by rw[AMem.aX,if_pos rfl])) (fun b' h'=>?_) (hpg _))
  rw[hb] at h'; cases h'; exact Nat.le_refl _⟩
theorem bK {z:Value} (hz:bI E.P ty=some z) (hp:bg z=true):Ox E m0 fs ps (.alloc ty) (fun b=>ptr b 0) (fun b=>.obj b (.cells z.cells.toList .own)::ps) :=
 .made (ob:=fun _=>.cells z.cells.toList .own) (p:=fun b=>.obj b (.cells z.cells.toList .own)) (fun _=>rfl) (fun _ _ _ K=>Go.Ab.Ey hz hp K) (fun _=>rfl) fun _ _ _ h1 h2 h3=>⟨h1,h2,h3⟩
theorem cD (h:ev E fs x=some v):Ox E m0 fs ps (.box ty x) (fun b=>ptr b 0) (fun b=>.obj b (.cells v.cells.toList .own)::ps) :=
 .made (ob:=fun _=>.cells v.cells.toList .own) (p:=fun b=>.obj b (.cells v.cells.toList .own)) (fun _=>rfl) (fun _ _ hf K=>Go.Ab.I9 (hf.ev h) K) (fun _=>rfl) fun _ _ _ h1 h2 h3=>⟨h1,h2,h3⟩
theorem Ke:Ox E m0 fs ps (.makeMap ty none) (fun b=>.map (some b)) (fun b=>.obj b (.map [])::ps) :=
 .made (ob:=fun _=>.map []) (p:=fun b=>.obj b (.map [])) (fun _=>rfl) (fun _ _ _ _=>Go.Ab.xM) (fun _=>rfl) fun _ _ _ h1 h2 h3=>⟨h1,h2,h3⟩
def Kb (P:Program) (elem:TypeId) (w len:Nat) (vs:List (Nat × Value)):Option (List Value) :=
 match fi P elem len with
 | some zs=>match zs.all aL && Nat.ble (len*w) 16777216 with
  | true=>gz (fun i=>some (i*w,w)) zs vs
  | false=>none
 | none=>none
def JM (w:Nat) (es:List (List Value)):Bool:=es.all fun e=>Nat.beq e.length w
theorem Eu {w:Nat} {es:List (List Value)} (h:JM w es=true):∀e ∈ es,e.length=w:=fun e he=>Nat.eq_of_beq_eq_true (List.all_eq_true.1 h e he)
theorem nY {elem:TypeId} {w len:Nat} {parts:Array (Nat × Operand)} {vs:List (Nat × Value)} {es:List (List Value)} (ht:SlT E.P ty elem w) (h:D0 E fs parts.toList=some vs) (hf:Kb E.P elem w len vs=some es.flatten) (hl:Nat.beq es.length len=true) (hw:JM w es=true) :
  Ox E m0 fs ps (.buildSlice ty len parts) (fun b=>.slice (some ⟨b,0,none⟩) len len) (fun b=>.arr b w len es .own::ps):=by
 refine .made (ob:=fun _=>.cells es.flatten .own) (p:=fun b=>.arr b w len es .own) (fun _=>rfl) (fun t m hfr K=>?_) (fun _=>rfl) fun _ _ _ h1 h2 h3=>⟨h1,h2,h3,Nat.eq_of_beq_eq_true hl,Eu hw,.inl rfl,ht.pos⟩;simp only[Kb] at hf
 split at hf
 ·rename_i zs hz
  split at hf
  ·rename_i hc;simp only[Bool.and_eq_true] at hc;have:cA E t m (.buildSlice ty len parts)=some (.slice (some ⟨m.next,0,none⟩) len len,m.alloc (.cells es.flatten .own)):=by
    have h2:¬(len*w>2 ^ 24):=by have:=Nat.le_of_ble_eq_true hc.2; omega
    simp only[cA,ht.und,hfr.D0 h,ht.known,ht.size,hz,hc.1,hf,Bool.not_true,Bool.false_or,decide_eq_false h2,if_true,Option.map_some]
    rfl
   exact Go.Ab.DN rfl this K
  ·cases hf
 ·cases hf
def lim (n:Nat):Bool:=Nat.ble n 1073741824
theorem oz {z:List Value}:∀n,bW z n=(List.replicate n z).flatten
 | 0=>rfl
 | n+1=>by rw[bW,oz n,List.replicate_succ,List.flatten_cons]
theorem Kx {elem:TypeId} {w n:Nat} {i:Int} {z:Value} (ht:SlT E.P ty elem w) (hx:ev E fs x=some (.int .i64 i)) (hi:i=(n:Int)) (hl:lim n=true) (hz:bI E.P elem=some z) (hp:z.cells.toList.all aL=true) :
  Ox E m0 fs ps (.makeSlice ty x x) (fun b=>.slice (some ⟨b,0,none⟩) n n) (fun b=>.arr b w n (List.replicate n z.cells.toList) .own::ps):=by
 subst hi;have hzs:z.cells.size=w:=by have:=ht.zero; rw[hz] at this; simp only[Option.any_some,Bool.and_eq_true,beq_iff_eq] at this; exact this.1
 refine .made (ob:=fun _=>.cells (List.replicate n z.cells.toList).flatten .own) (p:=fun b=>.arr b w n (List.replicate n z.cells.toList) .own) (fun _=>rfl) (fun t m hfr K=>?_) (fun _=>rfl) fun _ _ _ h1 h2 h3=>⟨h1,h2,h3,by simp,fun e he=>by rw[List.eq_of_mem_replicate he]; simpa using hzs,.inl rfl,ht.pos⟩
 have hln:n≤1073741824:=Nat.le_of_ble_eq_true hl;obtain⟨inf,hi1,hi2,hi3⟩:=ht.bytes;have hzz:fi E.P elem n=some (List.replicate n z.cells.toList).flatten:=by
  simp only[fi,hz,ht.size];rw[if_pos hzs,oz]
 have ha:(List.replicate n z.cells.toList).flatten.all aL=true:=by
  rw[List.all_eq_true];intro v hv;obtain⟨l,h1,h2⟩:=List.mem_flatten.1 hv;rw[List.eq_of_mem_replicate h1] at h2;exact List.all_eq_true.1 hp v h2
 have hmul:inf.bytes*n≤1024*1073741824:=Nat.mul_le_mul hi3 hln;have:cA E t m (.makeSlice ty x x)=some (.slice (some ⟨m.next,0,none⟩) n n,m.alloc (.cells (List.replicate n z.cells.toList).flatten .own)):=by
  have hc:(0:Int)≤(n:Int)∧(n:Int)≤(n:Int)∧(E.P.info? elem).any (fun i=>i.bytes*(n:Int)≤2 ^ 40 && i.bytes != 0)=true∧known E.P elem=true:=by
   refine⟨by omega,by omega,?_,ht.known⟩
   rw[hi1];have h5:((inf.bytes*n:Nat):Int)≤(1024*1073741824:Nat):=Int.ofNat_le.2 hmul;have h6:((inf.bytes*n:Nat):Int)=(inf.bytes:Int)*(n:Int):=Int.natCast_mul _ _;simp only[Option.any_some,Bool.and_eq_true,decide_eq_true_eq,bne_iff_ne,ne_eq];exact⟨by rw[←h6]; omega,hi2⟩
  simp only[cA,ht.und,hfr.ev hx,Int.toNat_natCast,hzz];rw[if_pos hc,if_pos ha]
 exact Go.Ab.DN rfl this K
end
end Go.Ab.W
end

section
namespace Go.Ab.W
open Go Go.Ab
attribute [local irreducible] Tm.at Trie.set Trie.get AMem.get AMem.set AMem.alloc AMem.ww AMem.kill
section
variable {E : Env} {n : Nat} {m0 m m' : AMem} {fs : Fs} {ps : List Pc} {x y : Operand} {v : Value} {ty : TypeId}
theorem zg.rd {lo b w n:Nat} {es:List (List Value)} {tg:Tag} (h:zg lo m b w n es tg):Rd m (some ⟨b,0,none⟩) n w n es :=
 ⟨h.2.2.2.1,Nat.le_refl _,.inr (.inr ⟨b,0,rfl,h.Ja⟩)⟩
inductive IsRd:Pc→Option Addr→Nat→Nat→Nat→List (List Value)→Prop
 | arr (b w n:Nat) (es:List (List Value)) (tg:Tag):IsRd (.arr b w n es tg) (some ⟨b,0,none⟩) n w n es
 | sl (a:Option Addr) (w n:Nat) (es:List (List Value)):IsRd (.sl a w n es) a n w n es
 | rd (a:Option Addr) (cap w n:Nat) (es:List (List Value)):IsRd (.rd a cap w n es) a cap w n es
 | nil {p:Pc} (w:Nat):IsRd p none 0 w 0 []
theorem Pc.Jg {p:Pc} {a:Option Addr} {lo cap w n:Nat} {es:List (List Value)} (h:p.ok lo m) (hi:IsRd p a cap w n es):Rd m a cap w n es:=by
 cases hi with
 | arr b w n es tg=>exact zg.rd h
 | sl a w n es =>
  rcases h with⟨rfl,rfl,rfl,_⟩|⟨b,tg,rfl,h⟩
  ·exact⟨rfl,Nat.le_refl _,.inl ⟨rfl,rfl⟩⟩
  ·exact h.rd
 | rd a cap w n es=>exact h
 | nil w=>exact⟨rfl,Nat.le_refl _,.inl ⟨rfl,rfl⟩⟩
theorem Hp.rd (h:Hp m0 m ps) {k:Nat} {p:Pc} {a:Option Addr} {cap w n:Nat} {es:List (List Value)} (hp:pk ps k=some p) (hi:IsRd p a cap w n es):Rd m a cap w n es:=Pc.Jg (h.get hp) hi
theorem Rd.nil (m:AMem) (w:Nat):Rd m none 0 w 0 []:=⟨rfl,Nat.le_refl _,.inl ⟨rfl,rfl⟩⟩
theorem Rd.cells {a:Option Addr} {cap w n:Nat} {es:List (List Value)} (h:Rd m a cap w n es):bV w (.slice a n cap) n m=some es.flatten:=by
 obtain⟨h1,h2,h4⟩:=h
 by_cases hn:n=0
 ·subst hn;have:es = []:=List.length_eq_zero_iff.1 h1;subst this;cases a with
  | none=>rfl
  | some a=>obtain⟨b,o,sp⟩:=a; cases sp<;>rfl
 ·rcases h4 with h4|⟨b,sp,rfl,h4,_⟩|⟨b,o,rfl,_,all,tg,hg,_,hl⟩
  ·exact absurd h4.2 hn
  ·exact absurd h4 hn
  ·simp only[bV,if_neg hn,AMem.dD,hg];have key:∀(es:List (List Value)) (k:Nat),(∀i e,es[i]? = some e→(all.drop (o+(k+i)*w)).take w=e∧e.length=w)→(all.drop (o+k*w)).take (es.length*w)=es.flatten∧es.flatten.length=es.length*w:=by
    intro es
    induction es with
    | nil=>intro k _; simp
    | cons e es ih =>
     intro k hk;obtain⟨a1,a2⟩:=hk 0 e rfl;obtain⟨b1,b2⟩:=ih (k+1) fun i e' he'=>by
      have:=hk (i+1) e' (by simpa using he')
      rwa[show k+(i+1)=k+1+i by omega] at this
     rw[Nat.add_zero] at a1;refine⟨?_,by rw[List.flatten_cons,List.length_append,a2,b2,List.length_cons,Nat.succ_mul]; omega⟩
     rw[List.length_cons,Nat.succ_mul,Nat.add_comm,List.take_add,a1,List.drop_drop,List.flatten_cons,←b1,Nat.succ_mul,Nat.add_assoc]
   have:=key es 0 (fun i e he=>by rw[Nat.zero_add]; exact hl i e he)
   rw[Nat.zero_mul,Nat.add_zero,h1] at this;rw[this.1,if_pos this.2]
theorem Hp.renew (h:Hp m0 m ps) {k:Nat} {p p':Pc} (hp:pk ps k=some p) (hn:m.next≤m'.next) (hext:Ext m0 m') (hok:p'.ok m0.next m') (hb:∀b,p'.qO=some b→m.next≤b) (hpo:p.own=true) (hg:∀b,p.qO≠some b→b<m.next→m'.get b=m.get b) (hng:∀b,¬p'.AY b:=by exact fun _ h=>h):Hp m0 m' (dA ps k p') :=
 h.KY hp (fun b a=>.inr ((Pc.mE a).elim (hb b) fun h=>absurd h (hng b))) (fun b a=>.inr (a.elim (hb b) fun h=>absurd h (hng b))) hn hext hok fun b hb' hlt=>hg b (fun e=>hb' (.inl ⟨hpo,e⟩)) hlt
def gw (es:List (List Value)):Prop:=∀e ∈ es,e.all lA=true
theorem xJ {α:Type} {f:α→List Value} (h:∀x,(f x).all lA=true) (xs:List α):gw (xs.map f):=fun e he=>by
 obtain⟨x,_,rfl⟩:=List.mem_map.1 he; exact h x
theorem vQ {es:List (List Value)} (h:gw es):bf es.flatten=true:=by
 unfold bf;rw[List.all_eq_true];intro v hv;obtain⟨l,h1,h2⟩:=List.mem_flatten.1 hv;exact List.all_eq_true.1 (h l h1) v h2
theorem wE {w:Nat}:∀{l:List (List Value)},(∀e ∈ l,e.length=w)→l.flatten.length=l.length*w:=by
 intro l
 induction l with
 | nil=>intro _; simp
 | cons x l ih=>intro hl; rw[List.flatten_cons,List.length_append,ih (fun e he=>hl e (by simp[he])),hl x (by simp),List.length_cons,Nat.succ_mul]; omega
theorem nW {P:Program} {elem ty2:TypeId} {w k n1 c0:Nat} {a a0:Option Addr} {es e0:List (List Value)} (ht:SlT P ty elem w) (h5:∃e2,P.underlying ty2=some (.slice e2)) (h:Hp m0 m ps) (hp:pk ps k=some (.sl a w n es)) (hr:Rd m a0 c0 w n1 e0) (h4:∀e ∈ e0,e.length=w) (ho:gw e0) (hl:lim (n+n1)=true) :
  ∃a' m',dn P ty (some ty2) (.slice a n n) (.slice a0 n1 c0) m=some (.slice a' (n+n1) (n+n1),m')∧Hp m0 m' (dA ps k (.sl a' w (n+n1) (es++e0))):=by
 obtain⟨e2,h6⟩:=h5;obtain⟨inf,h7,h8,h9⟩:=ht.bytes;have hln:n+n1≤1073741824:=Nat.le_of_ble_eq_true hl;have hc:=hr.cells;have hlen2:e0.flatten.length=n1*w:=by rw[wE h4,hr.1]
 have hnew:hJ P elem (some ty2) (.slice a0 n1 c0) m=some (n1,e0.flatten):=by
  simp only[hJ,Option.bind_some,h6,ht.size];have:bV w (.slice a0 n1 c0) n1 m=some e0.flatten:=hc;rw[this]; rfl
 have hfit:(P.info? elem).any (fun i=>fR i.bytes (n+n1) && i.bytes != 0)=true:=by
  rw[h7];have hmul:(2*(n+n1)+2000)*inf.bytes≤(2*1073741824+2000)*1024:=Nat.mul_le_mul (by omega) h9
  simp only[Option.any_some,fR,Bool.and_eq_true,decide_eq_true_eq,bne_iff_ne,ne_eq];exact⟨by omega,h8⟩
 have hzero:(bI P elem).any (fun z=>z.cells.size == w && z.cells.toList.all aL)=true:=ht.zero;have hpos:=ht.pos;have h10:(w == 0)=false:=by simp; omega
 have hguard:(!(known P elem) || au P elem == 0 || !bf e0.flatten || !(P.info? elem).any (fun i=>fR i.bytes (n+n1) && i.bytes != 0) || e0.flatten.length != n1*au P elem || !(bI P elem).any (fun z=>z.cells.size == au P elem && z.cells.toList.all aL))=false:=by
  rw[ht.size,ht.known,hfit,hzero,vQ ho,h10,hlen2]; simp
 have hres:∀a',(∃m',(.slice a' (n+n1) (n+n1),m')=((.slice a' (n+n1) (n+n1),m'):Value × AMem)):=fun a'=>⟨m,rfl⟩;have hpc:=h.get hp;have hext:=h.ext;rcases hpc with⟨rfl,rfl,rfl,_⟩|⟨b,tg,rfl,hb⟩
 ·
  by_cases h0:n1=0
  ·subst h0;have hes:e0 = []:=List.length_eq_zero_iff.1 hr.1;subst hes;refine⟨none,m,?_,?_⟩
   ·unfold dn;simp only[ht.und,hnew];rw[if_neg (by rw[hguard]; exact Bool.false_ne_true)]
    rfl
   ·have:dA ps k (.sl none w (0+0) ([]++[]))=ps:=by
     have:∀(l:List Pc) (k:Nat) (p:Pc),pk l k=some p→dA l k p=l:=by
      intro l
      induction l with
      | nil=>intro k p h; simp[pk] at h
      | cons q l ih =>
       intro k p h;cases k with
       | zero=>rw[jm] at h; rw[iU,Option.some.inj h]
       | succ k=>rw[fj] at h; rw[gP,ih k p h]
     exact this ps k _ hp
    rw[this]; exact h
  ·refine⟨some ⟨m.next,0,none⟩,m.alloc (.cells e0.flatten (.more w)),?_,?_⟩
   ·unfold dn;simp only[ht.und,hnew];rw[if_neg (by rw[hguard]; exact Bool.false_ne_true)]
    simp only[ht.size];rw[if_neg (by simp),if_neg h0,Nat.zero_add]
   ·refine h.renew hp (by simp only[AMem.next_alloc]; omega) (hext.alloc _) (.inr ⟨m.next,.more w,rfl,hext.next,(by rw[AMem.next_alloc]; omega),?_,?_,?_,.inr rfl,hpos⟩) (fun b' hb'=>?_) rfl fun b' _ hlt=>?_
    ·rw[AMem.aX,if_pos rfl,List.nil_append]
    ·rw[List.nil_append,hr.1,Nat.zero_add]
    ·rw[List.nil_append]; exact h4
    ·cases hb'; exact Nat.le_refl _
    ·rw[AMem.aX,if_neg (by omega)]
 ·obtain⟨g4,g5,g0,g1,g2,g3,g6⟩:=hb;have hlen:es.flatten.length=n*w:=by rw[wE g2,g1]
  by_cases h0:n1=0
  ·subst h0;have hes:e0 = []:=List.length_eq_zero_iff.1 hr.1;subst hes;refine⟨some ⟨b,0,none⟩,m,?_,?_⟩
   ·unfold dn;simp only[ht.und,hnew];rw[if_neg (by rw[hguard]; exact Bool.false_ne_true)]
    simp only[g0];rw[if_pos (Nat.le_of_eq (Nat.add_zero n))];simp[AMem.dh]
   ·rw[List.append_nil,Nat.add_zero];have:dA ps k (.sl (some ⟨b,0,none⟩) w n es)=ps:=by
     have:∀(l:List Pc) (k:Nat) (p:Pc),pk l k=some p→dA l k p=l:=by
      intro l
      induction l with
      | nil=>intro k p h; simp[pk] at h
      | cons q l ih =>
       intro k p h;cases k with
       | zero=>rw[jm] at h; rw[iU,Option.some.inj h]
       | succ k=>rw[fj] at h; rw[gP,ih k p h]
     exact this ps k _ hp
    rw[this]; exact h
  ·have hcap:¬(n+n1≤n):=by omega
   have htake:es.flatten.take (n*w)=es.flatten:=List.take_of_length_le (by omega)
   have hok:∀(mm:AMem),m.next≤mm.next→Pc.ok m0.next (mm.alloc (.cells (es.flatten++e0.flatten) (.more w))) (.sl (some ⟨mm.next,0,none⟩) w (n+n1) (es++e0)):=fun mm hmm =>
    .inr ⟨mm.next,.more w,rfl,Nat.le_trans hext.next hmm,(by rw[AMem.next_alloc]; omega),by rw[AMem.aX,if_pos rfl,List.flatten_append],by rw[List.length_append,g1,hr.1],fun e he=>by
     rcases List.mem_append.1 he with he|he
     ·exact g2 e he
     ·exact h4 e he,.inr rfl,hpos⟩
   rcases g3 with rfl|rfl
   ·refine⟨some ⟨m.next,0,none⟩,m.alloc (.cells (es.flatten++e0.flatten) (.more w)),?_,?_⟩
    ·unfold dn;simp only[ht.und,hnew];rw[if_neg (by rw[hguard]; exact Bool.false_ne_true)]
     simp only[ht.size,g0];rw[if_neg hcap];have hld:m.dD b 0 (n*w)=some es.flatten:=by
      simp only[AMem.dD,g0,List.drop_zero,htake];rw[if_pos hlen]
     simp only[hld]
    ·refine h.renew hp (by simp only[AMem.next_alloc]; omega) (hext.alloc _) (hok m (Nat.le_refl _)) (fun b' hb'=>?_) rfl fun b' _ hlt=>?_
     ·cases hb'; exact Nat.le_refl _
     ·rw[AMem.aX,if_neg (by omega)]
   ·refine⟨some ⟨(m.kill b).next,0,none⟩,(m.kill b).alloc (.cells (es.flatten++e0.flatten) (.more w)),?_,?_⟩
    ·unfold dn;simp only[ht.und,hnew];rw[if_neg (by rw[hguard]; exact Bool.false_ne_true)]
     simp only[ht.size,g0];rw[if_neg hcap];simp only[and_self,if_true,htake,hlen,AMem.next_kill]
    ·have hk:Ext m0 (m.kill b):=⟨by rw[AMem.next_kill]; exact hext.next,fun x hx=>by rw[AMem.fx,if_neg (by omega)]; exact hext.same x hx,by
      rw[AMem.wl_kill];have:=hext.wl; omega⟩
     refine h.renew hp (by simp only[AMem.next_alloc,AMem.next_kill]; omega) (hk.alloc _) (hok (m.kill b) (by rw[AMem.next_kill]; exact Nat.le_refl _)) (fun b' hb'=>?_) rfl fun b' hb' hlt=>?_
     ·cases hb'; rw[AMem.next_kill]; exact Nat.le_refl _
     ·rw[AMem.aX,if_neg (by simp; omega),AMem.fx,if_neg (fun e=>hb' (by rw[e]; rfl))]
theorem Kp {elem ty2:TypeId} {w k k2 n1 c0:Nat} {a a0:Option Addr} {es e0:List (List Value)} {ars:Array Operand} {p0:Pc} (ht:SlT E.P ty elem w) (h0:∃e2,E.P.underlying ty2=some (.slice e2)) (ha:mi E fs ars.toList=some [.slice a n n,.slice a0 n1 c0]) (hp:pk ps k=some (.sl a w n es)) (h4:pk ps k2=some p0) (hr:IsRd p0 a0 c0 w n1 e0) (h5:∀e ∈ e0,e.length=w) (ho:gw e0) (hl:lim (n+n1)=true) :
  Ox E m0 fs ps (.call ⟨.builtin .append,ars,#[ty,ty2]⟩) (fun a':Option Addr=>.slice a' (n+n1) (n+n1)) (fun a'=>dA ps k (.sl a' w (n+n1) (es++e0))) :=
 fun t m hf h=>⟨fun b hb=>(by simp[aN] at hb),fun K hK=>by
  obtain⟨a',m',h1,h2⟩:=nW (n:=n) ht h0 h hp (h.rd h4 hr) h5 ho hl;have:bj E.P .append #[ty,ty2] [.slice a n n,.slice a0 n1 c0] m=some (.slice a' (n+n1) (n+n1),m'):=h1;rw[Go.Ab.fF (hf.mi ha) this];exact hK a' m' h2⟩
theorem bE {k cap:Nat} {a:Option Addr} {ars:Array Operand} {p:Pc} {elem:TypeId} (hu:E.P.underlying ty=some (.slice elem)) (ha:mi E fs ars.toList=some [.slice a n cap]) (hp:pk ps k=some p) (hb:ff a=p.qO∨a=none) :
  Od E m0 fs ps (.call ⟨.builtin .len,ars,#[ty]⟩) (.int .i64 (n:Int)) ps :=
 fun t m hf h=>⟨fun b hb'=>by
  simp only[aN,hf.mi ha] at hb';have hab:fh (.slice a n cap)=ff a:=by cases a<;>rfl
  rw[hab] at hb';exact hb.elim (fun hb=>Pc.Hr (h.get hp) (hb ▸ hb')) (fun hb=>by rw[hb] at hb'; exact nomatch hb'),fun K hK=>by
  have:bj E.P .len #[ty] [.slice a n cap] m=some (.int .i64 (n:Int),m):=by
   have ht:(#[ty]:Array TypeId)[0]? = some ty:=rfl;simp only[bj,ht,Option.bind_some,hu]
  rw[Go.Ab.fF (hf.mi ha) this]; exact hK m h⟩
theorem nB {n cap lo hi:Nat} (h1:lo≤hi) (h2:hi≤cap) {l h:Option Value} (hl:l=none∧lo=0∨∃k,l=some (.int k (lo:Int))) (hh:h=none∧hi=n∨∃k,h=some (.int k (hi:Int))):eA n cap l h none=some (lo,hi,cap):=by
 have hb:∀(k:IntKind) (x y:Nat),x≤y→jB (.int k (x:Int)) y=some x:=fun k x y hxy=>by
  simp only[jB]; rw[if_pos ⟨by omega,by omega⟩,Int.toNat_natCast]
 rcases hl with⟨rfl,rfl⟩|⟨k1,rfl⟩<;>rcases hh with⟨rfl,rfl⟩|⟨k2,rfl⟩<;>(unfold eA; simp only[hb _ _ _ h1,hb _ _ _ h2])
theorem oU.drop {b o w:Nat} {es:List (List Value)} (h:oU m b o w es) (lo k:Nat):oU m b (o+lo*w) w ((es.drop lo).take k):=by
 obtain⟨h1,all,tg,h2,hs,h3⟩:=h;refine⟨h1,all,tg,h2,hs,fun i e he=>?_⟩;rw[List.getElem?_take] at he
 split at he
 ·rw[List.getElem?_drop] at he;have:=h3 (lo+i) e he;rwa[Nat.add_mul,←Nat.add_assoc] at this
 ·cases he
theorem Cj {P:Program} {elem:TypeId} {cap w lo hi:Nat} {a:Option Addr} {es:List (List Value)} {l h:Option Value} (ht:SlT P ty elem w) (hr:Rd m a cap w n es) (h1:lo≤hi) (h2:hi≤n) (hl:l=none∧lo=0∨∃k,l=some (.int k (lo:Int))) (hh:h=none∧hi=n∨∃k,h=some (.int k (hi:Int))) :
  ∃a' cap',cz P ty (.slice a n cap) l h none m=some (.slice a' (hi-lo) cap')∧Rd m a' cap' w (hi-lo) ((es.drop lo).take (hi-lo))∧(ff a'=ff a):=by
 obtain⟨r1,r2,r4⟩:=hr;have hlen:((es.drop lo).take (hi-lo)).length=hi-lo:=by rw[List.length_take,List.length_drop,r1]; omega
 have hb:=nB (n:=n) (cap:=cap) h1 (Nat.le_trans h2 r2) hl hh;rcases r4 with⟨rfl,rfl⟩|⟨b,sp,rfl,rfl,rfl,hlt⟩|⟨b,o,rfl,hli⟩
 ·refine⟨none,cap-lo,?_,⟨hlen,by omega,.inl ⟨rfl,by omega⟩⟩,rfl⟩
  simp only[cz,ht.und,ht.known,if_true,hb]
 ·have e1:lo=0:=by omega
  have e2:hi=0:=by omega
  subst e1 e2;refine⟨some ⟨b,0,some sp⟩,0,?_,⟨hlen,Nat.le_refl _,.inr (.inl ⟨b,sp,rfl,rfl,rfl,hlt⟩)⟩,rfl⟩;simp only[cz,ht.und,ht.known,if_true,hb,Nat.sub_zero]
 ·have hli':=hli.drop lo (hi-lo);obtain⟨hlt,all,tg,hg,hs,hall⟩:=hli;have plain:(∀sz,tg≠.more sz)→∃a' cap',cz P ty (.slice (some ⟨b,o,none⟩) n cap) l h none m=some (.slice a' (hi-lo) cap')∧Rd m a' cap' w (hi-lo) ((es.drop lo).take (hi-lo))∧(ff a'=ff (some ⟨b,o,none⟩)):=by
   intro hne;have:cz P ty (.slice (some ⟨b,o,none⟩) n cap) l h none m=some (.slice (some (if cap=lo then⟨b,o,none⟩ else⟨b,o+lo*w,none⟩)) (hi-lo) (cap-lo)):=by
    cases tg with
    | more sz=>exact absurd rfl (hne sz)
    | ro=>simp only[cz,ht.und,ht.known,if_true,hg,hb,ht.size]
    | own=>simp only[cz,ht.und,ht.known,if_true,hg,hb,ht.size]
   by_cases hc:cap=lo
   ·rw[if_pos hc] at this;have e0:hi-lo=0:=by omega
    refine⟨_,_,this,⟨hlen,by omega,.inr (.inr ⟨b,o,rfl,hlt,all,tg,hg,hs,fun i e he=>?_⟩)⟩,rfl⟩
    rw[e0,List.take_zero] at he; simp at he
   ·rw[if_neg hc] at this;exact⟨_,_,this,⟨hlen,by omega,.inr (.inr ⟨b,_,rfl,hli'⟩)⟩,rfl⟩
  cases tg with
  | ro=>exact plain fun sz e=>(by cases e)
  | own=>exact plain fun sz e=>(by cases e)
  | more sz =>
   have hsz:=hs sz rfl;subst hsz;have hb':=nB (n:=n) (cap:=cap) h1 (Nat.le_trans h2 r2) hl hh
   by_cases hc:cap=lo
   ·have e0:hi-lo=0:=by omega
    have e1:((es.drop lo).take (hi-lo)) = []:=by rw[e0]; rfl
    refine⟨some ⟨b,0,some 0⟩,0,?_,⟨hlen,by omega,.inr (.inl ⟨b,0,rfl,e0,rfl,hlt⟩)⟩,rfl⟩
    simp only[cz,ht.und,ht.known,if_true,hg,hb',ht.size,ne_eq,not_true_eq_false,if_false,e0,gq];rw[if_pos hc]
   ·refine⟨some ⟨b,o+lo*sz,none⟩,cap-lo,?_,⟨hlen,by omega,.inr (.inr ⟨b,_,rfl,hli'⟩)⟩,rfl⟩
    simp only[cz,ht.und,ht.known,if_true,hg,hb',ht.size,hc,ne_eq,not_true_eq_false,if_false]
theorem KN {elem:TypeId} {k cap w lo hi:Nat} {a:Option Addr} {es:List (List Value)} {x:Operand} {lx hx:Option Operand} {l h:Option Value} (ht:SlT E.P ty elem w) (hv:ev E fs x=some (.slice a n cap)) (e1:D2 E fs lx=some l) (e2:D2 E fs hx=some h) (hp:pk ps k=some (.rd a cap w n es)) (h1:lo≤hi) (h2:hi≤n) (hl:l=none∧lo=0∨∃k,l=some (.int k (lo:Int))) (hh:h=none∧hi=n∨∃k,h=some (.int k (hi:Int))) :
  Ox E m0 fs ps (.slice ty x lx hx none) (fun r:Option Addr × Nat=>.slice r.1 (hi-lo) r.2) (fun r=>.rd r.1 r.2 w (hi-lo) ((es.drop lo).take (hi-lo))::ps) :=
 fun t m hf hm=>by
  obtain⟨a',cap',s1,s2,s3⟩:=Cj ht (hm.get hp) h1 h2 hl hh;refine⟨fun b hb=>?_,fun K hK=>?_⟩
  ·have hab:fh (.slice a n cap)=ff a:=by cases a<;>rfl
   simp only[aN,hf.ev hv,Option.bind_some,hab] at hb;exact Rd.lt (hm.get hp) hb
  ·rw[Go.Ab.zA (hf.ev hv) (hf.D2 e1) (hf.D2 e2) rfl s1];exact hK (a',cap') m (hm.more hp rfl s2 rfl fun b hb=>by
    have:ff a'=some b:=hb;rw[s3] at this; exact this)
def ur (ps:List Pc):Bool:=ps.all Pc.own
theorem Bh {α:Type} {V:α→Value} {N:α→List Pc} {f:Operand} {g:FuncId} {first cap:Array Value} {ars:Array Operand} {ts:Array TypeId} {args:List Value} (hf:ev E fs f=some (.func (.func g) first cap)) (ha:mi E fs ars.toList=some args) (hc:∀m,Hp m0 m ps→aC E g (first.toList++args++cap.toList) m (fun v m'=>∃x,v=V x∧Hp m0 m' (N x))):Ox E m0 fs ps (.call ⟨.value f,ars,ts⟩) V N :=
 fun t m hfr hm=>⟨fun b hb=>(by simp[aN] at hb),fun K hK=>by
  have hev:aq E t f=some (.func (.func g) first cap):=by
   cases f with
   | tmp i=>exact hfr.ev hf
   | const c=>exact hfr.ev hf
   | global g=>exact hfr.ev hf
   | func g=>exact hfr.ev hf
  show kj E (aq E t f) (bB E t ars.toList) m _
  rw[hev,hfr.mi ha]
  show aC E g (first.toList++args++cap.toList) m K
  exact(hc m hm).mono fun v m' ⟨x,e,h⟩=>by rw[e]; exact hK x m' h⟩
theorem cV {α:Type} {V:α→Value} {N:α→List Pc} {f:Operand} {g:FuncId} {ars:Array Operand} {ts:Array TypeId} {args:List Value} (hf:ev E fs f=some (.func (.func g) #[] #[])) (ha:mi E fs ars.toList=some args) (hc:∀m,Hp m0 m ps→aC E g args m (fun v m'=>∃x,v=V x∧Hp m m' (N x))) (ho:∀x,ur (N x)=true):Ox E m0 fs ps (.call ⟨.value f,ars,ts⟩) V (fun x=>N x++ps) :=
 Bh hf ha fun m hm=>by
  simp only[List.nil_append,List.append_nil];exact(hc m hm).mono fun v m' ⟨x,e,h⟩=>⟨x,e,hm.after h fun p hp=>List.all_eq_true.1 (ho x) p hp⟩
end
theorem Ext.IX {m0 m:AMem} (h:Ext m0 m) {w:Nat} (hw:min m0.wl m0.next≤w):Ext m0 (m.ww w):=⟨by rw[AMem.next_ww]; exact h.next,fun b hb=>by rw[AMem.get_ww]; exact h.same b hb,by rw[AMem.wl_ww]; exact hw⟩
theorem Hp.ww {m0 m:AMem} {ps:List Pc} (h:Hp m0 m ps) {w:Nat} (hw:min m0.wl m0.next≤w):Hp m0 (m.ww w) ps :=
 ⟨Ext.IX h.ext hw,fun p hp=>Pc.iQ (h.ok p hp) (by rw[AMem.next_ww]; exact Nat.le_refl _) (fun b _ _=>by rw[AMem.get_ww]),h.apart⟩
section
variable {E : Env} {n : Nat} {m0 : AMem} {fs : Fs} {ps ps' : List Pc} {ops : Array Oper} {os : List Oper} {K : Tm → AMem → Prop} {dr : Bool}
def Wo (dr:Bool) (E:Env) (n:Nat) (ops:Array Oper) (K:Tm→AMem→Prop) (os:List Oper) (m0:AMem) (fs:Fs) (ps:List Pc):Prop :=
 match dr with
 | false=>∀t m,Fr t fs→Hp m0 m ps→qE E n ops K os t m
 | true=>∀t m w,Fr t fs→Hp m0 m ps→min m0.wl m0.next≤w→iY E n ops K os t m w
variable {ty : TypeId} {p : String} {af : Array Edge} {d : Nat} {o : Op} {g : Option (Nat × Bool)} {v : Value}
def uD (ops:Array Oper) (fs:Fs) (g:Option (Nat × Bool)) (b:Bool):Prop:=∀t d o ty p af,Fr t fs→aT ops ⟨d,o,ty,p,af,g⟩ t=b
theorem gn:uD ops fs none true:=fun _ _ _ _ _ _ _=>rfl
theorem gg {j d:Nat} {b c r:Bool} (hd:(ops[j]?).bind (·.dst)=some d) (h:lk fs d=some (.bool c)) (hr:(c == b)=r):uD ops fs (some (j,b)) r:=fun t d' o ty p af hf=>by
 rw[←hr]; exact Kw hd (hf d _ h)
theorem Wo.x {α:Type} {V:α→Value} {N:α→List Pc} (h:Ox E m0 fs ps o V N) (hg:uD ops fs g true) (hd:Nat.blt d n=true) (k:∀x,Wo dr E n ops K os m0 ((d,V x)::fs) (N x)):Wo dr E n ops K (⟨some d,o,ty,p,af,g⟩::os) m0 fs ps:=by
 have hd':d<n:=by rwa[Nat.blt_eq] at hd
 cases dr with
 | false =>
  intro t m hf hm;simp only[qE,hg t _ _ _ _ _ hf,if_true];refine(h t m hf hm).2 _ fun x m' hm'=>?_;rw[cw,if_pos hd'];exact k x _ m' hf.set hm'
 | true =>
  intro t m w hf hm hw;simp only[iY,hg t _ _ _ _ _ hf,if_true];have hx:=hm.ext.next
  have hm':Hp m0 (m.ww m.next) ps:=hm.ww (by omega)
  refine⟨fun b hb=>?_,?_⟩
  ·have:=(h t _ hf hm').1 b hb;rwa[AMem.next_ww] at this
  ·refine(h t _ hf hm').2 _ fun x m' hm''=>?_;rw[cw,if_pos hd'];have:=hm''.ext.wl;exact k x _ m' _ hf.set hm'' (by omega)
theorem Wo.x0 {α:Type} {V:α→Value} {N:α→List Pc} (h:Ox E m0 fs ps o V N) (hg:uD ops fs g true) (k:∀x,Wo dr E n ops K os m0 fs (N x)):Wo dr E n ops K (⟨none,o,ty,p,af,g⟩::os) m0 fs ps:=by
 cases dr with
 | false =>
  intro t m hf hm;simp only[qE,hg t _ _ _ _ _ hf,if_true];refine(h t m hf hm).2 _ fun x m' hm'=>?_;exact k x _ m' hf hm'
 | true =>
  intro t m w hf hm hw;simp only[iY,hg t _ _ _ _ _ hf,if_true];have hx:=hm.ext.next
  have hm':Hp m0 (m.ww m.next) ps:=hm.ww (by omega)
  refine⟨fun b hb=>?_,?_⟩
  ·have:=(h t _ hf hm').1 b hb;rwa[AMem.next_ww] at this
  ·refine(h t _ hf hm').2 _ fun x m' hm''=>?_;have:=hm''.ext.wl;exact k x _ m' _ hf hm'' (by omega)
theorem Od.x (h:Od E m0 fs ps o v ps'):Ox E m0 fs ps o (fun _:Unit=>v) (fun _=>ps'):=fun t m hf hm=>⟨(h t m hf hm).1,fun K hK=>(h t m hf hm).2 K fun m' hm'=>hK () m' hm'⟩
theorem Wo.od (h:Od E m0 fs ps o v ps') (hd:Nat.blt d n=true) (k:Wo dr E n ops K os m0 ((d,v)::fs) ps'):Wo dr E n ops K (⟨some d,o,ty,p,af,none⟩::os) m0 fs ps:=Wo.x h.x gn hd fun _=>k
theorem Wo.o0 (h:Od E m0 fs ps o v ps') (k:Wo dr E n ops K os m0 fs ps'):Wo dr E n ops K (⟨none,o,ty,p,af,none⟩::os) m0 fs ps:=Wo.x0 h.x gn fun _=>k
theorem Wo.og (h:Od E m0 fs ps o v ps') (hg:uD ops fs g true) (hd:Nat.blt d n=true) (k:Wo dr E n ops K os m0 ((d,v)::fs) ps'):Wo dr E n ops K (⟨some d,o,ty,p,af,g⟩::os) m0 fs ps:=Wo.x h.x hg hd fun _=>k
theorem Wo.s (hg:uD ops fs g false) (hd:Nat.blt d n=true) (k:Wo dr E n ops K os m0 ((d,undef)::fs) ps):Wo dr E n ops K (⟨some d,o,ty,p,af,g⟩::os) m0 fs ps:=by
 have hd':d<n:=by rwa[Nat.blt_eq] at hd
 cases dr with
 | false =>
  intro t m hf hm;simp only[qE,hg t _ _ _ _ _ hf,Bool.false_eq_true,if_false];rw[cw,if_pos hd'];exact k _ m hf.set hm
 | true =>
  intro t m w hf hm hw;simp only[iY,hg t _ _ _ _ _ hf,Bool.false_eq_true,if_false];rw[cw,if_pos hd'];exact k _ m w hf.set hm hw
def ah (m0:AMem) (ps:List Pc) (qs:List Pc):Prop:=∀m,Hp m0 m ps→Hp m0 m qs
theorem Wo.fA (h:ah m0 ps ps') (k:Wo dr E n ops K os m0 fs ps'):Wo dr E n ops K os m0 fs ps:=by
 cases dr with
 | false=>exact fun t m hf hm=>k t m hf (h m hm)
 | true=>exact fun t m w hf hm hw=>k t m w hf (h m hm) hw
theorem Wo.open {k w l:Nat} {a:Option Addr} {es:List (List Value)} (hp:pk ps k=some (.sl a w l es)) (hl:0<l) (h:∀b tg,a=some ⟨b,0,none⟩→Cx tg=true→Wo dr E n ops K os m0 fs (dA ps k (.arr b w l es tg))):Wo dr E n ops K os m0 fs ps:=by
 have key:∀m,Hp m0 m ps→∃b tg,a=some ⟨b,0,none⟩∧Cx tg=true∧Hp m0 m (dA ps k (.arr b w l es tg)):=by
  intro m hm;have h0:=hm.get hp;rcases h0 with⟨h1,_⟩|⟨b,tg,rfl,h1⟩
  ·omega
  ·refine⟨b,tg,rfl,by rcases h1.2.2.2.2.2.1 with rfl|rfl<;>rfl,hm.put hp rfl rfl rfl (Nat.le_refl _) hm.ext h1 fun _ _ _=>rfl⟩
 cases dr with
 | false=>intro t m hf hm; obtain⟨b,tg,h1,h2,h3⟩:=key m hm; exact h b tg h1 h2 t m hf h3
 | true=>intro t m w' hf hm hw; obtain⟨b,tg,h1,h2,h3⟩:=key m hm; exact h b tg h1 h2 t m w' hf h3 hw
theorem Wo.cC {k w l cap:Nat} {a:Option Addr} {es:List (List Value)} (hp:pk ps k=some (.rd a cap w l es)) (hl:0<l) (h:∀b o,a=some ⟨b,o,none⟩→Wo dr E n ops K os m0 fs (.ro b o w l es::ps)):Wo dr E n ops K os m0 fs ps:=by
 have key:∀m,Hp m0 m ps→∃b o,a=some ⟨b,o,none⟩∧Hp m0 m (.ro b o w l es::ps):=by
  intro m hm;obtain⟨h1,h2,h3⟩:=hm.get hp;rcases h3 with⟨_,h3⟩|⟨_,_,_,h3,_⟩|⟨b,o,rfl,h3⟩
  ·omega
  ·omega
  ·exact⟨b,o,rfl,hm.more hp rfl ⟨h1,h3⟩ rfl fun b' hb=>hb⟩
 cases dr with
 | false=>intro t m hf hm; obtain⟨b,o,h1,h3⟩:=key m hm; exact h b o h1 t m hf h3
 | true=>intro t m w' hf hm hw; obtain⟨b,o,h1,h3⟩:=key m hm; exact h b o h1 t m w' hf h3 hw
theorem ah.trans {ps'':List Pc} (h:ah m0 ps ps') (h':ah m0 ps' ps''):ah m0 ps ps'':=fun m hm=>h' m (h m hm)
theorem ah.ae (ks:List Nat) (hnd:nF ks=true) (e:W.ae ps ks=some ps'):ah m0 ps ps':=fun _ h=>h.ae ks hnd e
theorem ah.close {k b w l:Nat} {es:List (List Value)} {tg:Tag} (hp:pk ps k=some (.arr b w l es tg)):ah m0 ps (dA ps k (.sl (some ⟨b,0,none⟩) w l es)):=fun _ h =>
 h.put hp rfl rfl rfl (Nat.le_refl _) h.ext (.inr ⟨b,tg,rfl,h.get hp⟩) fun _ _ _=>rfl
theorem ah.nil (w:Nat) (hw:Nat.blt 0 w=true):ah m0 ps (.sl none w 0 []::ps):=fun m h =>
 h.cons (Nat.le_refl _) h.ext (fun _ _=>rfl) (.inl ⟨rfl,rfl,rfl,by rwa[Nat.blt_eq] at hw⟩) fun b hb=>(by cases hb)
theorem qP {ps:List Pc} {k:Nat} {p p':Pc} (hk:pk ps k=some p) (ho:p'.own=false) (hb:∀b,p'.qO=some b→p.qO=some b∧p.own=true) (h:ps.Pairwise Pc.apart) (hng:∀b,¬p'.AY b:=by exact fun _ h=>h):(dA ps k p').Pairwise Pc.apart :=
 hC hk (fun r _ ha=>⟨fun b a c=>a.elim (fun a=>by rw[ho] at a; cases a.1) fun a=>hng b (by cases p' with|gen g=>exact .inl a|_=>exact a),fun b a c=>ha.2 b a (c.elim (fun c=>.inl (hb b c).1) fun c=>absurd c (hng b))⟩) h
theorem ah.freeze {k w l:Nat} {a:Option Addr} {es:List (List Value)} (hp:pk ps k=some (.sl a w l es)):ah m0 ps (dA ps k (.rd a l w l es)):=fun m h =>
 ⟨h.ext,fun q hq=>by
  rcases vF hp h.apart hq with rfl|⟨h1,_⟩
  ·exact Pc.Jg (h.get hp) (.sl a w l es)
  ·exact h.ok q h1,qP hp rfl (fun b hb=>⟨hb,rfl⟩) h.apart⟩
variable {fn : FuncId} {ro : Option Nat} {Q : AExit → Tm → AMem → Prop}
def Wk (E:Env) (n:Nat) (fn:FuncId) (ro:Option Nat) (c:Code) (Q:AExit→Tm→AMem→Prop) (m0:AMem) (fs:Fs) (ps:List Pc):Prop:=∀t m,Fr t fs→Hp m0 m ps→bo E n fn ro c Q t m
def At (Q:AExit→Tm→AMem→Prop) (e:AExit) (m0:AMem) (fs:Fs) (ps:List Pc):Prop:=∀t m,Fr t fs→Hp m0 m ps→Q e t m
variable {a b c : Code} {id id' : Nat}
theorem Wk.seq (h:Wk E n fn ro a (kq (bo E n fn ro b Q) Q) m0 fs ps):Wk E n fn ro (.seq a b) Q m0 fs ps:=fun t m hf hm=>.seq (h t m hf hm)
theorem Wk.skip (h:At Q .normal m0 fs ps):Wk E n fn ro .skip Q m0 fs ps:=fun t m hf hm=>.skip (h t m hf hm)
theorem Wk.exit (h:At Q (.exit id) m0 fs ps):Wk E n fn ro (.exit id) Q m0 fs ps:=fun t m hf hm=>.exit (h t m hf hm)
theorem Wk.ret (h:At Q .ret m0 fs ps):Wk E n fn ro .ret Q m0 fs ps:=fun t m hf hm=>.ret (h t m hf hm)
theorem Wk.cond {x:Operand} {r:Bool} (hx:ev E fs x=some (.bool r)) (ht:r=true→Wk E n fn ro a Q m0 fs ps) (hf:r=false→Wk E n fn ro b Q m0 fs ps):Wk E n fn ro (.cond x a b) Q m0 fs ps:=fun t m hfr hm=>.cond (hfr.ev hx) (fun h=>ht h t m hfr hm) (fun h=>hf h t m hfr hm)
theorem Wk.aA {x:Operand} {r:Bool} (hx:ev E fs x=some (.bool r)) (hr:r=true) (ht:Wk E n fn ro a Q m0 fs ps):Wk E n fn ro (.cond x a b) Q m0 fs ps:=.cond hx (fun _=>ht) (fun h=>by rw[hr] at h; cases h)
theorem Wk.az {x:Operand} {r:Bool} (hx:ev E fs x=some (.bool r)) (hr:r=false) (ht:Wk E n fn ro b Q m0 fs ps):Wk E n fn ro (.cond x a b) Q m0 fs ps:=.cond hx (fun h=>by rw[hr] at h; cases h) (fun _=>ht)
theorem Wk.block (h:Wk E n fn ro a (dT id Q) m0 fs ps):Wk E n fn ro (.block id a) Q m0 fs ps:=fun t m hf hm=>.block (h t m hf hm)
theorem Wk.region (h:Wo false E n ops (Q .normal) ops.toList m0 fs ps):Wk E n fn ro (.region id ops false) Q m0 fs ps:=fun t m hf hm=>.EN (h t m hf hm)
theorem xW {t:Tm} {m:AMem} {o:Op} {K K':Value→AMem→Prop} (h:bh E t m o K) (hk:∀v m',K v m'→K' v m'):bh E t m o K':=by
 unfold bh at h ⊢;cases hc:mB o with
 | some p =>
  obtain⟨f,ars⟩:=p;rw[hc] at h;simp only at h ⊢;cases hf:aq E t f with
  | none=>rw[hf] at h; exact h.elim
  | some v =>
   cases ha:bB E t ars with
   | none=>rw[hf,ha] at h; unfold kj at h; split at h<;>first | (rename_i h1 h2; cases h2) | exact h.elim
   | some vs =>
    rw[hf,ha] at h;unfold kj at h ⊢
    split at h
    ·rename_i h1 h2;cases h1; cases h2;exact h.mono hk
    ·rename_i h1 h2;cases h1; cases h2;obtain⟨v,m',h5,hv⟩:=h;exact⟨v,m',h5,hk v m' hv⟩
    ·exact h.elim
 | none =>
  rw[hc] at h;simp only at h ⊢;cases he:cA E t m o with
  | none=>rw[he] at h; exact h.elim
  | some r=>rw[he] at h; exact hk r.1 r.2 h
theorem wS {K K':Tm→AMem→Prop} (hK:∀t m,K t m→K' t m):∀(os:List Oper) (t:Tm) (m:AMem) (w:Nat),iY E n ops K os t m w→iY E n ops K' os t m w:=by
 intro os
 induction os with
 | nil=>intro t m w hk; exact hK _ _ hk
 | cons o os ih =>
  intro t m w hk;simp only[iY] at hk ⊢
  split at hk
  ·rename_i hw;rw[if_pos hw];refine⟨hk.1,xW hk.2 fun v m' hv=>?_⟩;obtain⟨t',e,h4⟩:=hv.A
   show Dm (fH n t o.dst v) fun t'=>iY E n ops K' os t' m' (min w m'.wl)
   rw[e]; exact ih _ _ _ h4
  ·rename_i hw;rw[if_neg hw];obtain⟨t',e,h4⟩:=hk.A;rw[e]; exact ih _ _ _ h4
theorem Wk.draw (hp:iB ops=some []) (h:Wo true E n ops (Q .normal) ops.toList m0 fs ps):Wk E n fn ro (.region id ops true) Q m0 fs ps:=fun t m hf hm=>.JG hp fun K hK=>by
 exact wS hK _ _ _ _ (h t m m.wl hf hm hm.ext.wl)
theorem Wo.nil (h:At Q .normal m0 fs ps):Wo dr E n ops (Q .normal) [] m0 fs ps:=by
 cases dr with
 | false=>exact fun t m hf hm=>h t m hf hm
 | true=>exact fun t m w hf hm hw=>h t _ hf (hm.ww hw)
theorem At.tn (h:Wk E n fn ro b Q m0 fs ps):At (kq (bo E n fn ro b Q) Q) .normal m0 fs ps:=h
theorem At.te {K:Tm→AMem→Prop} (h:At Q (.exit id) m0 fs ps):At (kq K Q) (.exit id) m0 fs ps:=h
theorem At.tr {K:Tm→AMem→Prop} (h:At Q .ret m0 fs ps):At (kq K Q) .ret m0 fs ps:=h
theorem At.bn (h:At Q .normal m0 fs ps):At (dT id Q) .normal m0 fs ps:=h
theorem At.be (h:At Q .normal m0 fs ps):At (dT id Q) (.exit id) m0 fs ps:=fun t m hf hm=>by rw[yQ,if_pos rfl]; exact h t m hf hm
theorem At.bx (hne:Nat.beq id' id=false) (h:At Q (.exit id') m0 fs ps):At (dT id Q) (.exit id') m0 fs ps:=fun t m hf hm=>by rw[yQ,if_neg (Nat.ne_of_beq_eq_false hne)]; exact h t m hf hm
theorem At.br (h:At Q .ret m0 fs ps):At (dT id Q) .ret m0 fs ps:=h
theorem Wk.cX {fs':Fs} (hs:sub fs fs') (h:ah m0 ps ps') (k:Wk E n fn ro c Q m0 fs' ps'):Wk E n fn ro c Q m0 fs ps:=fun t m hf hm=>k t m (hf.sub hs) (h m hm)
structure En where
 e:AExit
 fs:Fs
 ps:List Pc
def tO (m0:AMem) {γ:Type} (G:γ→En) (e:AExit) (t:Tm) (m:AMem):Prop:=∃g,e=(G g).e∧Fr t (G g).fs∧Hp m0 m (G g).ps
theorem At.en {γ:Type} {G:γ→En} {e:AExit} (g:γ) (he:e=(G g).e) (hs:sub fs (G g).fs) (ht:ah m0 ps (G g).ps):At (tO m0 G) e m0 fs ps:=fun _ m hf hm=>⟨g,he,hf.sub hs,ht m hm⟩
theorem Wk.cut {γ:Type} {G:γ→En} (h:Wk E n fn ro c (tO m0 G) m0 fs ps) (k:∀g,At Q (G g).e m0 (G g).fs (G g).ps):Wk E n fn ro c Q m0 fs ps:=fun t m hf hm =>
 (h t m hf hm).mono fun e t' m' ⟨g,h1,h2,h3⟩=>by rw[h1]; exact k g t' m' h2 h3
def cT {σ ρ:Type} (body:σ→Option (σ ⊕ ρ)):Nat→σ→Option ρ
 | 0,_=>none
 | k+1,s=>match body s with
  | some (.inl s')=>cT body k s'
  | some (.inr r)=>some r
  | none=>none
theorem Wk.loop {σ ρ γ:Type} {δ:ρ→Type} (body:σ→Option (σ ⊕ ρ)) (I:σ→γ→En) (X:(r:ρ)→δ r→En)
  (hb:∀s g r,body s=some r→Wk E n fn ro c (match r with | .inl s'=>tO m0 (I s') | .inr r=>tO m0 (X r)) m0 (I s g).fs (I s g).ps)
  (hn:∀s g,(I s g).e = .normal) (hx:∀r g,(X r g).e≠.normal) :
  ∀(N:Nat) (s:σ) (r:ρ),cT body N s=some r→∀g,Wk E n fn ro (.loop c) (tO m0 (X r)) m0 (I s g).fs (I s g).ps:=by
 intro N
 induction N with
 | zero=>intro s r h; cases h
 | succ N ih =>
  intro s r h g t m hf hm;refine .loop (.round ?_);simp only[cT] at h
  split at h
  ·rename_i s' hs;refine(hb s g _ hs t m hf hm).mono fun e t' m' ⟨g',h1,h2,h3⟩=>?_;rw[h1,hn];have:=ih s' r h g' t' m' h2 h3;obtain⟨e2,t2,m2,⟨k2,hk2⟩,q2⟩:=this;cases k2 with
   | zero=>cases hk2
   | succ k2=>exact⟨e2,t2,m2,⟨k2,hk2⟩,q2⟩
  ·rename_i r' hs;simp only[Option.some.injEq] at h;subst h;refine(hb s g _ hs t m hf hm).mono fun e t' m' ⟨g',h1,h2,h3⟩=>?_;have hq:tO m0 (X r') e t' m':=⟨g',h1,h2,h3⟩;cases he:e with
   | normal=>rw[h1] at he; exact absurd he (hx _ _)
   | exit id=>rw[he] at hq; exact hq
   | ret=>rw[he] at hq; exact hq
  ·cases h
def uI:List Value→Nat→Fs→Fs
 | [],_,fs=>fs
 | v::vs,i,fs=>uI vs (i+1) ((i,v)::fs)
theorem Fr.args:∀(vs:List Value) (i:Nat) (fs:Fs) (t:Tm),Fr t fs→Fr (Trie.ofList vs i t) (uI vs i fs)
 | [],_,_,_,h=>h
 | _::vs,i,_,_,h=>Fr.args vs (i+1) _ _ h.set
theorem ay {f:FuncId} {F:Func} {c:Code} {args:List Value} {rs:List ResultVar} {N:Nat} {R:Value→AMem→Prop} (hp:E.cR f=none) (hf:E.P.funcs[f]? = some F) (hb:F.body=some c) (hrs:F.results.toList=rs) (hN:max args.length F.ntmps=N)
  {m:AMem} (hm:Hp m0 m ps) (h:Wk E N f none c (mM E rs R) m0 (uI args 0 []) ps):aC E f args m R :=
 aC.Hf hp hf hb hrs hN (h _ m (Fr.args args 0 [] _ (Fr.nil _)) hm)
theorem Hp.start (m:AMem):Hp m m []:=⟨.refl m,fun p h=>(by cases h),.nil⟩
inductive Res1 (E:Env) (fs:Fs) (ps:List Pc):List ResultVar→List Value→Prop
 | nil:Res1 E fs ps [] []
 | tmp {i:Nat} {v:Value} {rs:List ResultVar} {vs:List Value} (h:lk fs i=some v) (k:Res1 E fs ps rs vs):Res1 E fs ps (.tmp i::rs) (v::vs)
 | cell {i k b o sz:Nat} {ty:TypeId} {v:Value} {rs:List ResultVar} {vs:List Value} {cs:List Value} {tg:Tag} {ag:Bool} (ht:TyI E.P ty ag sz) (h:lk fs i=some (ptr b o)) (hp:pk ps k=some (.obj b (.cells cs tg))) (hv:A7 ag sz cs o=some v) (k:Res1 E fs ps rs vs):Res1 E fs ps (.cell i ty::rs) (v::vs)
theorem Res1.ok {fs:Fs} {ps:List Pc} {t:Tm} {m:AMem} (hf:Fr t fs) (hm:Hp m0 m ps):∀{rs:List ResultVar} {vs:List Value},Res1 E fs ps rs vs→bP E t m rs=some vs:=by
 intro rs vs h
 induction h with
 | nil=>rfl
 | tmp h _ ih=>simp only[bP,ih,hf _ _ h,Option.map_some]
 | cell ht h hp hv _ ih=>simp only[bP,hf _ _ h,um ht (hm.get hp).2.2 hv,ih]
theorem At.ret {rs:List ResultVar} {vs:List Value} {R:Value→AMem→Prop} (h:Res1 E fs ps rs vs) (k:∀m,Hp m0 m ps→R (fK vs) m):At (mM E rs R) .ret m0 fs ps:=fun t m hf hm=>by
 rw[Bm,h.ok hf hm]; exact k m hm
end
end Go.Ab.W
end

section
namespace Go.Ab.W
open Go Go.Ab
def ob {α β:Type} (o:Option α) (f:α→Option β):Option β :=
 match o with
 | some x=>f x
 | none=>none
def gd {β:Type} (b:Bool) (k:Option β):Option β :=
 match b with
 | true=>k
 | false=>none
def br {β:Type} (b:Bool) (k l:Option β):Option β :=
 match b with
 | true=>k
 | false=>l
section
variable {α β : Type}
theorem aa {o:Option α} {f:α→Option β} {r:β} (h:ob o f=some r):∃x,o=some x∧f x=some r:=by
 cases o with
 | none=>cases h
 | some x=>exact⟨x,rfl,h⟩
theorem ai {b:Bool} {k:Option β} {r:β} (h:gd b k=some r):b=true∧k=some r:=by
 cases b with
 | false=>cases h
 | true=>exact⟨rfl,h⟩
theorem aj {b:Bool} {k l:Option β} {r:β} (h:br b k l=some r):(b=true∧k=some r)∨(b=false∧l=some r):=by
 cases b with
 | false=>exact .inr ⟨rfl,h⟩
 | true=>exact .inl ⟨rfl,h⟩
def cG (i:Int) (n:Nat):Bool:=decide (0≤i∧i.toNat<n)
theorem an {i:Int} {n:Nat} (h:cG i n=true):0≤i∧i.toNat<n:=of_decide_eq_true h
theorem aP {f:α→β} {xs:List α} {i:Nat} {x:α} (h:xs[i]? = some x):(xs.map f)[i]? = some (f x):=by
 rw[List.getElem?_map,h]; rfl
theorem bt {i:Int} {n:Nat} (h:0≤i∧i.toNat<n):0<n:=by omega
def okB (lo hi:Int) (n:Nat):Bool:=decide (0≤lo∧lo≤hi∧hi≤(n:Int))
theorem BW {lo hi:Int} {n:Nat} (h:okB lo hi n=true):0≤lo∧lo≤hi∧hi≤(n:Int):=of_decide_eq_true h
end
def eI (k:IntKind) (x:Int):List Value:=[.int k x]
def eN (k:IntKind) (x:Nat):List Value:=[.int k (x:Int)]
def eP {α β:Type} (f:α→List Value) (g:β→List Value) (p:α × β):List Value:=f p.1++g p.2
structure Enc {α:Type} (f:α→List Value) (w:Nat):Prop where
 len:∀x,(f x).length=w
 one:∀x,(f x).all lA=true
theorem Hc (k:IntKind):Enc (eI k) 1:=⟨fun _=>rfl,fun _=>rfl⟩
theorem oq (k:IntKind):Enc (eN k) 1:=⟨fun _=>rfl,fun _=>rfl⟩
theorem xD {α β:Type} {f:α→List Value} {g:β→List Value} {w v:Nat} (h:Enc f w) (h':Enc g v):Enc (eP f g) (w+v) :=
 ⟨fun x=>by simp[eP,h.len,h'.len],fun x=>by simp only[eP,List.all_append,h.one,h'.one,Bool.and_self]⟩
theorem Enc.tP {α:Type} {f:α→List Value} {w:Nat} (h:Enc f w) (xs:List α):∀e ∈ xs.map f,e.length=w:=fun e he=>by
 obtain⟨x,_,rfl⟩:=List.mem_map.1 he; exact h.len x
theorem Enc.gw {α:Type} {f:α→List Value} {w:Nat} (h:Enc f w) (xs:List α):W.gw (xs.map f):=xJ h.one xs
theorem FD {α:Type} {f:α→List Value} {xs:List α} {i:Nat} {x:α}:(xs.map f).set i (f x)=(xs.set i x).map f:=(List.map_set).symm
theorem EW {α:Type} {f:α→List Value} {xs:List α} {i k:Nat}:((xs.map f).drop i).take k=((xs.drop i).take k).map f:=by rw[←List.map_drop,←List.map_take]
theorem EZ {α:Type} {f:α→List Value} {n:Nat} {x:α}:List.replicate n (f x)=(List.replicate n x).map f:=by simp
def uM (k:IntKind):Nat:=2 ^ k.bits
def uw (k:IntKind) (n:Nat):Nat:=n%uM k
def ui (k:IntKind) (i:Int):Nat:=(i%(uM k:Int)).toNat
def gJ (k:IntKind) (a b:Nat):Nat:=uw k (a+(uM k-uw k b))
def Fl (k:IntKind) (a:Nat):Nat:=uw k (uM k-uw k a)
def dN (k:IntKind) (a b:Nat):Nat:=uw k (a*2 ^ (min b k.bits))
def cK (k:IntKind) (a b:Nat):Nat:=a/2 ^ (min b k.bits)
def Es (k:IntKind) (a:Int) (b:Nat):Int:=k.wrap (a*2 ^ (min b k.bits))
def Eh (k:IntKind) (a:Int) (b:Nat):Int:=a.fdiv (2 ^ (min b k.bits))
def ma {α:Type} [LT α] [DecidableRel (α:=α) (· < ·)] (a b:α):α:=if a<b then b else a
theorem Dg (k:IntKind):0<uM k:=Nat.two_pow_pos _
theorem Jd (k:IntKind) (n:Nat):uw k n<uM k:=Nat.mod_lt _ (Dg k)
theorem pF {k:IntKind} (h:k.signed=false) (n:Int):k.wrap n=((ui k n:Nat):Int):=by
 have h0:(0:Int)≤n%(uM k:Int):=Int.emod_nonneg _ (by have:=Dg k; omega)
 simp only[IntKind.wrap,h,Bool.false_and,Bool.false_eq_true,if_false,ui];rw[Int.toNat_of_nonneg h0];simp[uM]
theorem Bg (k:IntKind) (n:Nat):ui k (n:Int)=uw k n:=by
 unfold ui uw;rw[←Int.natCast_emod,Int.toNat_natCast]
theorem iX {k:IntKind} (h:k.signed=false) (n:Nat):k.wrap (n:Int)=((uw k n:Nat):Int):=by rw[pF h,Bg]
section
variable {k kd : IntKind} {ty : TypeId} {P : Program}
theorem fy (h:k.signed=false) (a b:Nat):bA .add ty P (.int k (a:Int)) (.int k (b:Int))=some (.int k ((uw k (a+b):Nat):Int)):=by
 rw[aI,←Int.natCast_add,iX h]
theorem eL (h:k.signed=false) (a b:Nat):bA .mul ty P (.int k (a:Int)) (.int k (b:Int))=some (.int k ((uw k (a*b):Nat):Int)):=by
 rw[lh,←Int.natCast_mul,iX h]
theorem kv (h:k.signed=false) (a b:Nat):bA .sub ty P (.int k (a:Int)) (.int k (b:Int))=some (.int k ((gJ k a b:Nat):Int)):=by
 rw[bC,pF h];have hlt:=Jd k b;have e:((a:Int)-(b:Int))%(uM k:Int)=(((a+(uM k-uw k b)):Nat):Int)%(uM k:Int):=by
  have h1:(b:Int)=(uM k:Int)*((b/uM k:Nat):Int)+((uw k b:Nat):Int):=by
   have:=Nat.div_add_mod b (uM k);unfold uw;rw[←Int.natCast_mul,←Int.natCast_add]; exact congrArg Int.ofNat this.symm
  have h2:(((a+(uM k-uw k b)):Nat):Int)=((a:Int)-(b:Int))+(uM k:Int)*(1+((b/uM k:Nat):Int)):=by
   rw[Int.natCast_add,Int.natCast_sub (Nat.le_of_lt hlt),Int.mul_add]; omega
  rw[h2,Int.add_mul_emod_self_left]
 have e2:ui k ((a:Int)-(b:Int))=gJ k a b:=by
  unfold ui;rw[e,←Int.natCast_emod,Int.toNat_natCast]; rfl
 rw[e2]
theorem tV (h:k.signed=false) (a b:Nat) (hb:(0<b)):bA .quo ty P (.int k (a:Int)) (.int k (b:Int))=some (.int k ((uw k (a/b):Nat):Int)):=by
 rw[zd _ _ _ (by omega),Int.tdiv_eq_ediv_of_nonneg (Int.natCast_nonneg _),←Int.natCast_ediv,iX h]
theorem tl (a b:Nat) (hb:0<b):bA .rem ty P (.int k (a:Int)) (.int k (b:Int))=some (.int k ((a%b:Nat):Int)):=by
 rw[zm _ _ _ (by omega),Int.tmod_eq_emod_of_nonneg (Int.natCast_nonneg _),←Int.natCast_emod]
theorem nm (k:IntKind) (a:Nat):(BitVec.ofInt k.bits (a:Int)).toNat=uw k a:=by simp[uw,uM]
theorem jY (h:k.signed=false) (a b:Nat):bA .and ty P (.int k (a:Int)) (.int k (b:Int))=some (.int k ((uw k (uw k a &&& uw k b):Nat):Int)):=by
 simp only[bA,if_true]; rw[BitVec.toNat_and,nm,nm,iX h]
theorem wD (h:k.signed=false) (a b:Nat):bA .or ty P (.int k (a:Int)) (.int k (b:Int))=some (.int k ((uw k (uw k a ||| uw k b):Nat):Int)):=by
 simp only[bA,if_true]; rw[BitVec.toNat_or,nm,nm,iX h]
theorem Db (a b:Nat):bA .lss ty P (.int k (a:Int)) (.int k (b:Int))=some (.bool (decide (a<b))):=by rw[aQ]; congr 2; exact decide_eq_decide.2 Int.ofNat_lt
theorem Hq (a b:Nat):bA .leq ty P (.int k (a:Int)) (.int k (b:Int))=some (.bool (decide (a≤b))):=by rw[py]; congr 2; exact decide_eq_decide.2 Int.ofNat_le
theorem xH (a b:Nat):bA .gtr ty P (.int k (a:Int)) (.int k (b:Int))=some (.bool (decide (b<a))):=by rw[dt]; congr 2; exact decide_eq_decide.2 Int.ofNat_lt
theorem mh (a b:Nat):bA .geq ty P (.int k (a:Int)) (.int k (b:Int))=some (.bool (decide (b≤a))):=by rw[eC]; congr 2; exact decide_eq_decide.2 Int.ofNat_le
theorem lW (a b:Nat):bA .eql ty P (.int k (a:Int)) (.int k (b:Int))=some (.bool (decide (a=b))):=by rw[eX]; congr 2; exact decide_eq_decide.2 Int.ofNat_inj
theorem GW (a b:Nat):bA .neq ty P (.int k (a:Int)) (.int k (b:Int))=some (.bool (!decide (a=b))):=by
 rw[zu]; congr 2
 by_cases h:a=b
 ·simp[h]
 ·have:¬((a:Int)=(b:Int)):=by omega
  simp[h,this]
theorem fp (a b:Int):bA .neq ty P (.int k a) (.int k b)=some (.bool (!decide (a=b))):=by
 rw[zu]; congr 2; by_cases h:a=b<;>simp[h]
theorem ku (h:k.signed=false) (a:Nat) (b:Int) (hb:decide (0≤b)=true):bA .shl ty P (.int k (a:Int)) (.int kd b)=some (.int k ((dN k a b.toNat:Nat):Int)):=by
 have h0:¬(b<0):=by have:=of_decide_eq_true hb; omega
 simp only[bA,if_neg h0];have h2:((a:Int)*2 ^ (min b.toNat k.bits))=((a*2 ^ (min b.toNat k.bits):Nat):Int):=by simp
 rw[h2,iX h]; rfl
theorem eh (a:Nat) (b:Int) (hb:decide (0≤b)=true):bA .shr ty P (.int k (a:Int)) (.int kd b)=some (.int k ((cK k a b.toNat:Nat):Int)):=by
 have h0:¬(b<0):=by have:=of_decide_eq_true hb; omega
 simp only[bA,if_neg h0,cK]
 congr 2
 have h2:((2:Int) ^ (min b.toNat k.bits))=((2 ^ (min b.toNat k.bits):Nat):Int):=by simp
 rw[h2,Int.fdiv_eq_ediv_of_nonneg _ (Int.natCast_nonneg _)];exact(Int.natCast_ediv a _).symm
theorem Hz (a:Int) (b:Int) (hb:decide (0≤b)=true):bA .shl ty P (.int k a) (.int kd b)=some (.int k (Es k a b.toNat)):=by
 have h0:¬(b<0):=by have:=of_decide_eq_true hb; omega
 simp only[bA,if_neg h0,Es]
theorem Iq (a:Int) (b:Int) (hb:decide (0≤b)=true):bA .shr ty P (.int k a) (.int kd b)=some (.int k (Eh k a b.toNat)):=by
 have h0:¬(b<0):=by have:=of_decide_eq_true hb; omega
 simp only[bA,if_neg h0,Eh]
theorem jX (a b:Int) (h:decide (b≠0)=true):bA .quo ty P (.int k a) (.int k b)=some (.int k (k.wrap (a.tdiv b))):=zd k a b (of_decide_eq_true h)
theorem kB (a b:Int) (h:decide (b≠0)=true):bA .rem ty P (.int k a) (.int k b)=some (.int k (a.tmod b)):=zm k a b (of_decide_eq_true h)
theorem HF (h:k.signed=false) (a:Nat):xA .neg (.int k (a:Int))=some (.int k ((Fl k a:Nat):Int)):=by
 have:=kv (ty:=0) (P:=default) h 0 a;rw[bC] at this;simp only[xA];have e:gJ k 0 a=Fl k a:=by unfold gJ Fl; rw[Nat.zero_add]
 rw[e] at this; exact this
theorem Ao {s d:TypeId} {x:Int} (hs:(P.underlying s).isSome=true) (hd:P.underlying d=some (.int k)):fg P s d (.int kd x)=some (.int k (k.wrap x)):=by
 cases h:P.underlying s with
 | none=>rw[h] at hs; cases hs
 | some u=>simp only[fg,h,hd]
theorem AT {s d:TypeId} {x:Int} (hs:(P.underlying s).isSome=true) (hd:P.underlying d=some (.int k)) (hk:k.signed=false):fg P s d (.int kd x)=some (.int k ((ui k x:Nat):Int)):=by
 rw[Ao hs hd,pF hk]
theorem I1 {s d:TypeId} {x:Nat} (hs:(P.underlying s).isSome=true) (hd:P.underlying d=some (.int k)) (hk:k.signed=false):fg P s d (.int kd (x:Int))=some (.int k ((uw k x:Nat):Int)):=by
 rw[AT hs hd hk,Bg]
theorem JA (a b:Int) {ts:Array TypeId} (m:AMem):bj P .max ts [.int k a,.int k b] m=some (.int k (ma a b),m):=rfl
theorem Gy {a b:Bool} (hu:P.underlying ty=some .bool):bA .eql ty P (.bool a) (.bool b)=some (.bool (a == b)):=by
 simp only[bA,Op.maxDepth,jv,hu,Option.map_some]
theorem vB {a b:Bool} (hu:P.underlying ty=some .bool):bA .neq ty P (.bool a) (.bool b)=some (.bool (!(a == b))):=by
 simp only[bA,Op.maxDepth,jv,hu,Option.map_some]
end
theorem iH {c:Bool} (h:c=true):(c == true)=true:=by rw[h]; rfl
theorem ee {c:Bool} (h:c=false):(c == false)=true:=by rw[h]; rfl
theorem ew {c:Bool} (h:c=true):(c == false)=false:=by rw[h]; rfl
theorem iw {c:Bool} (h:c=false):(c == true)=false:=by rw[h]; rfl
section
variable {E : Env} {n : Nat} {m0 : AMem} {fs : Fs} {ps : List Pc} {x y : Operand} {v : Value} {ty : TypeId}
theorem gH {c:Operand} {b:Bool} (hc:ev E fs c=some (.bool b)) (hb:b=true) (h:ev E fs x=some v):Od E m0 fs ps (.pick c x y) v ps:=HI (by rw[hc,hb]) h
theorem gk {c:Operand} {b:Bool} (hc:ev E fs c=some (.bool b)) (hb:b=false) (h:ev E fs y=some v):Od E m0 fs ps (.pick c x y) v ps:=KH (by rw[hc,hb]) h
theorem oG {α:Type} {f:α→List Value} {elem ty2:TypeId} {w k k2 c0 l l1:Nat} {a a0:Option Addr} {xs ys:List α} {ars:Array Operand} {p0:Pc} (he:Enc f w) (ht:SlT E.P ty elem w) (h4:∃e2,E.P.underlying ty2=some (.slice e2)) (ha:mi E fs ars.toList=some [.slice a l l,.slice a0 l1 c0]) (hp:pk ps k=some (.sl a w l (xs.map f))) (h0:pk ps k2=some p0) (hr:IsRd p0 a0 c0 w l1 (ys.map f)) (hl:lim (xs++ys).length=true) :
  Ox E m0 fs ps (.call ⟨.builtin .append,ars,#[ty,ty2]⟩) (fun a':Option Addr=>.slice a' (xs++ys).length (xs++ys).length) (fun a'=>dA ps k (.sl a' w (xs++ys).length ((xs++ys).map f))):=by
 intro t m hf hm;have h1:l=xs.length:=by
  have:=hm.get hp;rcases this with⟨h5,h1,_⟩|⟨b,tg,_,h1⟩
  ·rw[h5,List.map_eq_nil_iff.1 h1]; rfl
  ·have:=h1.2.2.2.1; rw[List.length_map] at this; exact this.symm
 have h2:l1=ys.length:=by
  have:=(hm.rd h0 hr).1; rw[List.length_map] at this; exact this.symm
 have:=Kp (m0:=m0) ht h4 ha hp h0 hr (he.tP ys) (he.gw ys) (by rw[h1,h2,←List.length_append]; exact hl) t m hf hm
 have e1:xs.map f++ys.map f=(xs++ys).map f:=List.map_append.symm;have e2:l+l1=(xs++ys).length:=by rw[h1,h2,List.length_append]
 rw[e1,e2] at this;exact this
theorem yU {α:Type} {f:α→List Value} {elem:TypeId} {k cap w l:Nat} {lo hi:Int} {a:Option Addr} {xs:List α} {lx hx:Option Operand} {lv hv:Option Value} (ht:SlT E.P ty elem w) (hv':ev E fs x=some (.slice a l cap)) (e1:D2 E fs lx=some lv) (e2:D2 E fs hx=some hv) (hp:pk ps k=some (.rd a cap w l (xs.map f))) (hb:okB lo hi l=true) (hl:lv=none∧lo=0∨∃k,lv=some (.int k lo)) (hh:hv=none∧hi=(l:Int)∨∃k,hv=some (.int k hi)) :
  Ox E m0 fs ps (.slice ty x lx hx none) (fun r:Option Addr × Nat=>.slice r.1 ((xs.drop lo.toNat).take (hi.toNat-lo.toNat)).length r.2) (fun r=>.rd r.1 r.2 w ((xs.drop lo.toNat).take (hi.toNat-lo.toNat)).length (((xs.drop lo.toNat).take (hi.toNat-lo.toNat)).map f)::ps):=by
 intro t m hf hm;obtain⟨b1,b2,b3⟩:=BW hb;have h1:xs.length=l:=by have:=(hm.get hp).1; rw[List.length_map] at this; exact this
 have elo:((lo.toNat:Nat):Int)=lo:=Int.toNat_of_nonneg b1;have ehi:((hi.toNat:Nat):Int)=hi:=Int.toNat_of_nonneg (by omega)
 have hlen:((xs.drop lo.toNat).take (hi.toNat-lo.toNat)).length=hi.toNat-lo.toNat:=by rw[List.length_take,List.length_drop,h1]; omega
 have:=KN (m0:=m0) (lo:=lo.toNat) (hi:=hi.toNat) ht hv' e1 e2 hp (by omega) (by omega) (by
  rcases hl with⟨h,h'⟩|⟨k,h⟩
  ·exact .inl ⟨h,by omega⟩
  ·exact .inr ⟨k,by rw[elo]; exact h⟩) (by
  rcases hh with⟨h,h'⟩|⟨k,h⟩
  ·exact .inl ⟨h,by omega⟩
  ·exact .inr ⟨k,by rw[ehi]; exact h⟩) t m hf hm
 rw[EW] at this;rw[hlen];exact this
theorem kQ {α:Type} {f:α→List Value} {z0:α} {elem:TypeId} {w:Nat} {i:Int} {z:Value} (ht:SlT E.P ty elem w) (hx:ev E fs x=some (.int .i64 i)) (hi:decide (0≤i)=true) (hl:lim i.toNat=true) (hz:bI E.P elem=some z) (hp:z.cells.toList.all aL=true) (hzf:z.cells.toList=f z0) :
  Ox E m0 fs ps (.makeSlice ty x x) (fun b=>.slice (some ⟨b,0,none⟩) i.toNat i.toNat) (fun b=>.arr b w i.toNat ((List.replicate i.toNat z0).map f) .own::ps):=by
 have:=Kx (m0:=m0) (ps:=ps) ht hx (Int.toNat_of_nonneg (of_decide_eq_true hi)).symm hl hz hp;rw[hzf,EZ] at this;exact this
theorem eF {α:Type} {f:α→List Value} {ag:Bool} {sz b w l j c k:Nat} {xs:List α} {x1 x2:α} {tg:Tag} (ht:TyI E.P ty ag sz) (hx:ev E fs x=some (ptr b (j*w+c))) (hy:ev E fs y=some v) (hp:pk ps k=some (.arr b w l (xs.map f) tg)) (he:xs[j]? = some x1) (hv:GD (f x1) c v sz=some (f x2)):Od E m0 fs ps (.store ty x y) undef (dA ps k (.arr b w l ((xs.set j x2).map f) tg)):=by
 have:=JV (m0:=m0) ht hx hy hp (aP he) hv;rwa[FD] at this
end
def FG:Tag→Bool
 | .more _=>false
 | _=>true
def G6:Tag→Bool
 | .own=>true
 | _=>false
theorem sn {fs:Fs}:sub fs []:=trivial
theorem sc {fs l:Fs} {i:Nat} {v:Value} (h:lk fs i=some v) (k:sub fs l):sub fs ((i,v)::l):=⟨h,k⟩
theorem cI {k:IntKind} {e y:Int} (h:some e=some y):some (Value.int k e)=some (.int k y):=by rw[Option.some.inj h]
theorem cN {k:IntKind} {e y:Nat} (h:some e=some y):some (Value.int k (e:Int))=some (.int k (y:Int)):=by rw[Option.some.inj h]
theorem nn (b:Nat):decide (0≤(b:Int))=true:=decide_eq_true (Int.natCast_nonneg b)
section
variable {P : Program} {ty el : TypeId} {w len : Nat}
theorem JX (h:ArT P ty el len w) {b o i:Nat} {kd:IntKind} (hi:i<len):bG P ty (ptr b o) (.int kd (i:Int))=some (ptr b (o+i*w)):=Hu h.und h.known h.size hi
theorem CH {cs:Array Value} {off sz:Nat} {v:Value} (h:TyI P ty true sz) (hv:(Value.agg (cs.extract off (off+sz)))=v):eE P ty cs off=some v:=by
 simp only[eE,h.known,h.agg,h.size,Bool.not_true,Bool.false_eq_true,if_false,if_true,hv]
theorem xS {cs:Array Value} {off sz:Nat} {v:Value} (h:TyI P ty false sz) (hv:cs[off]? = some v):eE P ty cs off=some v:=by
 simp only[eE,h.known,h.agg,Bool.not_true,Bool.false_eq_true,if_false,hv]
structure BdT (P:Program) (ty:TypeId) (z:Value) (offs:List (Nat × Nat)):Prop where
 bd:∀parts,(parts.all fun p=>Nat.blt p.1 offs.length)=true→ju P ty parts=(gz (fun i=>offs[i]?) z.cells.toList parts).map fun cs=>.agg cs.toArray
def K7 (P:Program) (ty:TypeId) (z:Value) (offs:List (Nat × Nat)):Prop :=
 bI P ty=some z∧match P.underlying ty with
  | some (.struct fields)=>fields.toList.all (fun f=>known P f.type)=true∧fields.toList.map (fun f=>(f.offset,au P f.type))=offs
  | some (.array n elem)=>known P elem=true∧(List.range n).map (fun i=>(i*au P elem,au P elem))=offs
  | _=>False
theorem kf {p q:Nat→Option (Nat × Nat)} {n:Nat} (h:∀i,i<n→p i=q i):∀(parts:List (Nat × Value)) (cs:List Value),(parts.all fun p=>Nat.blt p.1 n)=true→gz p cs parts=gz q cs parts
 | [],_,_=>rfl
 | (i,v)::rest,cs,hp=>by
  rw[List.all_cons,Bool.and_eq_true] at hp;have hi:i<n:=by have:=hp.1; rwa[Nat.blt_eq] at this
  simp only[gz,h i hi];cases q i with
  | none=>rfl
  | some r=>simp only[]; split; rfl; exact kf h rest _ hp.2
theorem BdT.of {z:Value} {offs:List (Nat × Nat)} (h:K7 P ty z offs):BdT P ty z offs:=⟨fun parts hp=>by
 obtain⟨hz,h⟩:=h;unfold ju;rw[hz];cases hu:P.underlying ty with
 | none=>rw[hu] at h; exact h.elim
 | some u =>
  rw[hu] at h;cases u with
  | struct fields =>
   simp only at h ⊢;rw[if_pos h.1]
   congr 1
   refine kf (n:=offs.length) (fun i hi=>?_) parts _ hp;rw[←h.2,List.getElem?_map]; simp
  | array n elem =>
   simp only at h ⊢;rw[if_pos h.1]
   congr 1
   refine kf (n:=offs.length) (fun i hi=>?_) parts _ hp;have hl:offs.length=n:=by rw[←h.2]; simp
   rw[←h.2,List.getElem?_map,List.getElem?_range (by omega)]; rfl
  | _=>exact h.elim⟩
def KT (P:Program) (ty:TypeId) (offs:List (Nat × Nat)):Bool :=
 match P.underlying ty with
 | some (.struct fields)=>fields.toList.all (fun f=>known P f.type) && decide (fields.toList.map (fun f=>(f.offset,au P f.type))=offs)
 | some (.array n elem)=>known P elem && decide ((List.range n).map (fun i=>(i*au P elem,au P elem))=offs)
 | _=>false
theorem BdT.mk' {z:Value} {offs:List (Nat × Nat)} (hz:bI P ty=some z) (h:KT P ty offs=true):BdT P ty z offs:=by
 refine .of ⟨hz,?_⟩;unfold KT at h;cases hu:P.underlying ty with
 | none=>rw[hu] at h; cases h
 | some u =>
  rw[hu] at h;cases u with
  | struct fields=>simp only[Bool.and_eq_true,decide_eq_true_eq] at h ⊢; exact h
  | array n elem=>simp only[Bool.and_eq_true,decide_eq_true_eq] at h ⊢; exact h
  | _=>cases h
theorem fw {z r:Value} {offs:List (Nat × Nat)} {parts:List (Nat × Value)} {cs:List Value} (h:BdT P ty z offs) (hp:(parts.all fun p=>Nat.blt p.1 offs.length)=true) (hr:gz (fun i=>offs[i]?) z.cells.toList parts=some cs) (e:Value.agg cs.toArray=r):ju P ty parts=some r:=by
 rw[h.bd parts hp,hr]; exact congrArg some e
theorem nC {n:Nat} {vs:List (Nat × Value)} {z:Value} {cs:List Value} (ht:SlT P ty el w) (hz:bI P el=some z) (h1:((bW z.cells.toList n).all aL && Nat.ble (n*w) 16777216)=true) (hr:gz (fun i=>some (i*w,w)) (bW z.cells.toList n) vs=some cs):Kb P el w n vs=some cs:=by
 have hzs:z.cells.size=w:=by have:=ht.zero; rw[hz] at this; simp only[Option.any_some,Bool.and_eq_true,beq_iff_eq] at this; exact this.1
 have:fi P el n=some (bW z.cells.toList n):=by simp only[fi,hz,ht.size]; rw[if_pos hzs]
 simp only[Kb,this,h1]; exact hr
theorem JQ {xs ys:Array Value} {b:Bool} (h:P.eqGuardType P.depth ty=false) (hb:jv P Op.maxDepth ty (.agg xs) (.agg ys)=some b):bA .eql ty P (.agg xs) (.agg ys)=some (.bool b):=by
 simp only[bA,h,Bool.false_eq_true,if_false,hb,Option.map_some]
theorem J2 {xs ys:Array Value} {b:Bool} (h:P.eqGuardType P.depth ty=false) (hb:jv P Op.maxDepth ty (.agg xs) (.agg ys)=some b):bA .neq ty P (.agg xs) (.agg ys)=some (.bool (!b)):=by
 simp only[bA,h,Bool.false_eq_true,if_false,hb,Option.map_some]
end
section
variable {E : Env} {n : Nat} {m0 : AMem} {fs : Fs} {ps : List Pc} {x y : Operand} {v : Value} {ty : TypeId}
theorem I4 {el:TypeId} {len w b o k:Nat} {cs:List Value} {tg:Tag} (ht:ArT E.P ty el len w) (hx:ev E fs x=some (ptr b o)) (hp:pk ps k=some (.obj b (.cells cs tg))) (htg:FG tg=true) (hlen:Nat.blt 0 len=true):Od E m0 fs ps (.slice ty x none none none) (.slice (some ⟨b,o,none⟩) len len) ps :=
 fun t m hf h=>⟨fun b' hb=>by
  have:fh (ptr b o)=some b:=rfl;simp only[aN,hf.ev hx,Option.bind_some,this] at hb;cases hb; exact(h.get hp).2.1,fun K hK=>by
  have hg:=(h.get hp).2.2;have hb:eA len len none none none=some (0,len,len):=nB (Nat.zero_le _) (Nat.le_refl _) (.inl ⟨rfl,rfl⟩) (.inl ⟨rfl,rfl⟩);have hl:len≠0:=by rw[Nat.blt_eq] at hlen; omega
  have:cz E.P ty (ptr b o) none none none m=some (.slice (some ⟨b,o,none⟩) len len):=by
   cases tg with
   | more s=>cases htg
   | ro=>simp only[cz,ptr,ht.und,ht.known,if_true,hg,hb,Nat.sub_zero,if_neg hl,Nat.zero_mul,Nat.add_zero]
   | own=>simp only[cz,ptr,ht.und,ht.known,if_true,hg,hb,Nat.sub_zero,if_neg hl,Nat.zero_mul,Nat.add_zero]
  rw[Go.Ab.zA (hf.ev hx) rfl rfl rfl this]; exact hK m h⟩
variable {ops : Array Oper} {os : List Oper} {K : Tm → AMem → Prop} {dr : Bool}
theorem Wo.len {α:Type} {f:α→List Value} {k w l:Nat} {a:Option Addr} {xs:List α} (hp:pk ps k=some (.sl a w l (xs.map f))) (h:l=xs.length→Wo dr E n ops K os m0 fs ps):Wo dr E n ops K os m0 fs ps:=by
 have key:∀m,Hp m0 m ps→l=xs.length:=fun m hm=>by
  rcases hm.get hp with⟨h0,h1,_⟩|⟨b,tg,_,h1⟩
  ·rw[h0,List.map_eq_nil_iff.1 h1]; rfl
  ·have:=h1.2.2.2.1; rw[List.length_map] at this; exact this.symm
 cases dr with
 | false=>exact fun t m hf hm=>h (key m hm) t m hf hm
 | true=>exact fun t m w hf hm hw=>h (key m hm) t m w hf hm hw
end
theorem ah.Kv {m0:AMem} {ps:List Pc} (w:Nat):ah m0 ps (.rd none 0 w 0 []::ps):=fun m h =>
 h.cons (Nat.le_refl _) h.ext (fun _ _=>rfl) (Rd.nil m w) fun b hb=>(by cases hb)
theorem Hp.K0 {m0 m:AMem} {ps:List Pc} {α:Type} {xs:List α} {f:α→List Value} {k b o w l:Nat} {cs:List Value} {tg:Tag} (h:Hp m0 m ps) (hp:pk ps k=some (.obj b (.cells cs tg))) (htg:G6 tg=true) (hl:Nat.beq xs.length l=true) (hc:(cs.drop o).take (l*w)=(xs.map f).flatten) (he:Enc f w):Rd m (some ⟨b,o,none⟩) l w l (xs.map f):=by
 have hl:=Nat.eq_of_beq_eq_true hl;have hnm:∀sz,tg = .more sz→sz=w:=fun sz e=>by rw[e] at htg; cases htg
 have hg:=(h.get hp).2.2;refine⟨by rw[List.length_map]; exact hl,Nat.le_refl _,.inr (.inr ⟨b,o,rfl,(h.get hp).2.1,cs,tg,hg,hnm,fun i e hi=>?_⟩)⟩
 have hw:=he.tP xs;have h1:=ze hw hi;have hlt:i<l:=by have:=(List.getElem?_eq_some_iff.1 hi).1; rw[List.length_map,hl] at this; exact this
 refine⟨?_,hw e (List.mem_of_getElem? hi)⟩;rw[←hc] at h1;rw[←h1,List.drop_take,List.take_take,List.drop_drop];have:w≤l*w-i*w:=by
  have:(i+1)*w≤l*w:=Nat.mul_le_mul_right w hlt;rw[Nat.succ_mul] at this; omega
 rw[Nat.min_eq_left this]
theorem gu {ops:Array Oper} {fs:Fs} {j d:Nat} {b:Bool} (hd:(ops[j]?).bind (·.dst)=some d) (h:lk fs d=some undef):uD ops fs (some (j,b)) false:=fun t d' o ty p af hf=>by
 rw[DW];have hat:=hf d _ h;unfold cJ;rw[hd];unfold Tm.at at hat;cases hg:Trie.get t d with
 | none=>simp only[hg]
 | some v=>rw[hg] at hat; have hv:v=undef:=hat; subst hv; simp only[hg]; rfl
section
variable {P : Program} {ty : TypeId} {k : IntKind}
end
section
variable {E : Env} {n : Nat} {m0 : AMem} {fs : Fs} {ps : List Pc} {x y : Operand} {v : Value} {ty : TypeId}
theorem JP {s:ByteArray} {kd:IntKind} {i:Int} {b:Nat} (tab:List Nat) (hu:E.P.underlying ty=some .string) (hx:ev E fs x=some (.string s)) (hs:s.data.toList.map (·.toNat)=tab) (hy:ev E fs y=some (.int kd i)) (hi:cG i tab.length=true) (hb:tab[i.toNat]? = some b):Od E m0 fs ps (.index ty x y) (.int .u8 (b:Int)) ps:=by
 refine KA hx hy ?_;have h0:=(an hi).1;simp only[fI,hu];rw[if_pos h0];subst hs;rw[List.getElem?_map] at hb;have:s[i.toNat]? = s.data.toList[i.toNat]?:=by
  cases hs:s.data.toList[i.toNat]? with
  | none =>
   have:=List.getElem?_eq_none_iff.1 hs;exact getElem?_neg s i.toNat (by have e:s.size=s.data.toList.length:=Array.length_toList.symm; omega)
  | some u =>
   obtain⟨h1,h2⟩:=List.getElem?_eq_some_iff.1 hs;have h3:i.toNat<s.size:=by have e:s.size=s.data.toList.length:=Array.length_toList.symm; omega
   rw[getElem?_pos s i.toNat h3]
   congr 1
 rw[this];cases hs:s.data.toList[i.toNat]? with
 | none=>rw[hs] at hb; cases hb
 | some u=>rw[hs] at hb; simp only[Option.map_some,Option.some.injEq] at hb ⊢; rw[hb]
end
end Go.Ab.W
end

section
namespace Go.Ab
open Go Go.Ab.W
theorem IH (j:aH) (u:Value):∃v,VR j v u:=by
 match h:u with
 | .agg cs =>
  have:∀i (hi:i<cs.size),∃v,VR j v cs[i]:=fun i hi=>IH j cs[i];refine⟨.agg (Array.ofFn fun i:Fin cs.size=>Classical.choose (this i.1 i.2)),.agg (by simp) fun i a b=>?_⟩
  have hi:i<cs.size:=b;have:=Classical.choose_spec (this i hi)
  simpa using this
 | .tuple cs =>
  have:∀i (hi:i<cs.size),∃v,VR j v cs[i]:=fun i hi=>IH j cs[i];refine⟨.tuple (Array.ofFn fun i:Fin cs.size=>Classical.choose (this i.1 i.2)),.tuple (by simp) fun i a b=>?_⟩
  have hi:i<cs.size:=b;have:=Classical.choose_spec (this i hi)
  simpa using this
 | .bool b=>exact⟨_,.bool b⟩
 | .int k n=>exact⟨_,.int k n⟩
 | .float k b=>exact⟨_,.junk rfl⟩
 | .complex k a b=>exact⟨_,.junk rfl⟩
 | .string s=>exact⟨_,.string s⟩
 | .pointer none=>exact⟨_,.pnil⟩
 | .pointer (some a)=>exact⟨_,.junk rfl⟩
 | .slice none l c=>exact⟨_,.snil l c⟩
 | .slice (some a) l c=>exact⟨_,.junk rfl⟩
 | .map none=>exact⟨_,.mnil⟩
 | .map (some r)=>exact⟨_,.junk rfl⟩
 | .chan r=>exact⟨_,.junk rfl⟩
 | .func f a b=>exact⟨_,.junk rfl⟩
 | .nilFunc=>exact⟨_,.nilFunc⟩
 | .iface t v=>exact⟨_,.junk rfl⟩
 | .nilIface=>exact⟨_,.nilIface⟩
termination_by SizeOf.sizeOf u
decreasing_by
 all_goals
  subst h;have:=Array.sizeOf_getElem cs i hi;simp only[Value.agg.sizeOf_spec,Value.tuple.sizeOf_spec];omega
open Classical in
noncomputable def seen (j:aH) (v':Value):Value:=if aL v' then v' else match v' with
 | .slice (some _) 0 _=>.slice (some ⟨0,0,some 0⟩) 0 0
 | .slice (some a) (l+1) c=>if a.spot=none∧j a.block=some ⟨a.block,none⟩ then .slice (some a) (l+1) c else Classical.choose (IH j (.slice (some a) (l+1) c))
 | v'=>Classical.choose (IH j v')
theorem zL (j:aH) (v':Value):VR j (seen j v') v':=by
 unfold seen
 split
 ·rename_i h; exact .aL h
 ·split
  ·exact .gq
  ·rename_i a l c _
   split
   ·rename_i h;obtain⟨b,o,s⟩:=a;obtain⟨h1,h2⟩:=h;cases h1;exact .slice (k:=⟨b,none⟩) h2 rfl
   ·exact Classical.choose_spec (IH j _)
  ·exact Classical.choose_spec (IH j _)
theorem EU {j:aH} {a:Addr} {l c:Nat} (h0:l≠0) (h1:a.spot=none) (h2:j a.block=some ⟨a.block,none⟩):seen j (.slice (some a) l c) = .slice (some a) l c:=by
 obtain⟨l,rfl⟩:∃k,l=k+1:=⟨l-1,by omega⟩
 unfold seen;rw[if_neg (fun h=>by cases h)]
 dsimp only
 rw[if_pos ⟨h1,h2⟩]
theorem Bs {j:aH} {a:Addr} {c:Nat}:seen j (.slice (some a) 0 c) = .slice (some ⟨0,0,some 0⟩) 0 0:=by
 unfold seen;rw[if_neg (fun h=>by cases h)]
theorem pR {j:aH} {v':Value} (h:aL v'=true):seen j v'=v':=by unfold seen; rw[if_pos h]
def dX (W:World):aH:=fun b=>if b<W.heap.size then some ⟨b,none⟩ else none
noncomputable def eK (W:World):AMem:={ next:=W.heap.size,wl:=W.heap.size,bM:=.nil,base:=fun b=>match W.heap[b]? with
 | some (.cells c _ _)=>some (.cells (c.toList.map (seen (dX W))) .ro)
 | _=>none}
theorem pC (W:World) (b:Nat):(eK W).get b=match W.heap[b]? with
 | some (.cells c _ _)=>some (.cells (c.toList.map (seen (dX W))) .ro)
 | _=>none:=by
 simp[AMem.get,eK,Heap.get_nil]
theorem mH {W:World} {b:Nat} {c:Array Value} {t:TypeId} {fz:Nat × Nat} (h:W.heap[b]? = some (.cells c t fz)):(eK W).get b=some (.cells (c.toList.map (seen (dX W))) .ro):=by
 rw[pC,h]
theorem GV {E:Env} {W:World} (hg:E.glob≤W.heap.size):MR E (dX W) (eK W) W:=by
 have hj:∀b k,dX W b=some k→b<W.heap.size∧k=⟨b,none⟩:=by
  intro b k h;unfold dX at h
  split at h
  ·rename_i hb; cases h; exact⟨hb,rfl⟩
  ·cases h
 refine⟨fun b k h=>?_,fun b o k ho h=>?_,fun b b' k k' h h' _ _ hc=>?_,fun g hgl=>?_⟩
 ·obtain⟨h1,rfl⟩:=hj b k h;exact⟨h1,h1⟩
 ·obtain⟨h1,rfl⟩:=hj b k h;rw[pC] at ho
  split at ho
  ·rename_i c t fz hc;cases ho;refine⟨_,hc,⟨rfl,by simp⟩,fun i v hi=>?_⟩
   rw[List.getElem?_map] at hi;obtain⟨x,hx,rfl⟩:=Option.map_eq_some_iff.1 hi;exact⟨x,by simpa using hx,zL _ _⟩
  ·cases ho
 ·obtain⟨_,rfl⟩:=hj b k h;obtain⟨_,rfl⟩:=hj b' k' h';exact hc
 ·unfold dX;rw[if_pos (by omega)]
inductive Lf where
 | int (k:IntKind)
 | bool
 | sl (e:TypeId)
 deriving DecidableEq
def zD (Bj:TypeId→Option (List Lf)) (P:Program):List Field→Nat→Option (List Lf)
 | [],_=>some []
 | f::fs,off=>match Bj f.type,zD Bj P fs (off+P.cellsOf f.type) with
  | some l,some r=>if f.offset=off∧l.length=P.cellsOf f.type then some (l++r) else none
  | _,_=>none
def Bj (P:Program):Nat→TypeId→Option (List Lf)
 | 0,_=>none
 | d+1,t=>match P.underlying t with
  | some (.int k)=>some [.int k]
  | some .bool=>some [.bool]
  | some (.slice e)=>some [.sl e]
  | some (.array n e)=>match Bj P d e with
   | some l=>if l.length=P.cellsOf e∧P.cellsOf t=n*P.cellsOf e then some (List.replicate n l).flatten else none
   | none=>none
  | some (.struct fs)=>match zD (Bj P d) P fs.toList 0 with
   | some l=>if l.length=P.cellsOf t then some l else none
   | none=>none
  | _=>none
def si {H:Type} (enc:TypeId × Value→H) (P:Program) (W:World) (base:Nat) (sp:Nat→Bool) (held:Bool):Lf→Value→Prop
 | .int k,v=>∃n,v = .int k n∧(Lit.int k n).wf=true
 | .bool,v=>∃b,v = .bool b
 | .sl e,v=>(v = .slice none 0 0)∨∃(a:Addr) (len cap:Nat) (n:Nat),v = .slice (some a) len cap∧len≤cap∧cap≤maxLen∧base≤a.block ∧
   ∀i,i<len→∃cs x,W.cells? base (a.add (i*P.cellsOf e)) (P.cellsOf e)=some cs∧DataW.trod enc P W base sp held n e cs=some x
inductive All2 {α β:Type} (R:α→β→Prop):List α→List β→Prop
 | nil:All2 R [] []
 | cons {a:α} {b:β} {l:List α} {r:List β} (h:R a b) (t:All2 R l r):All2 R (a::l) (b::r)
theorem All2.append {α β:Type} {R:α→β→Prop} {l l':List α} {r r':List β} (h:All2 R l r) (h':All2 R l' r'):All2 R (l++l') (r++r'):=by
 induction h with
 | nil=>exact h'
 | cons h _ ih=>exact .cons h ih
section
variable {H : Type} {enc : TypeId × Value → H} {P : Program} {W : World} {base : Nat} {sp : Nat → Bool} {held : Bool}
theorem sx {R:Lf→Value→Prop} {l:List Lf}:∀(n w:Nat) (cs:List Value),cs.length=n*w→(∀i,i<n→All2 R l ((cs.drop (i*w)).take w))→All2 R (List.replicate n l).flatten cs
 | 0,w,cs,hl,_=>by
  have:cs = []:=List.length_eq_zero_iff.1 (by simpa using hl)
  subst this; exact .nil
 | n+1,w,cs,hl,h=>by
  rw[List.replicate_succ,List.flatten_cons];have h0:=h 0 (by omega)
  simp only[Nat.zero_mul,List.drop_zero] at h0;have hw:w≤cs.length:=by rw[hl,Nat.add_mul]; omega
  rw[←List.take_append_drop w cs];refine All2.append h0 (sx n w _ (by rw[List.length_drop,hl,Nat.add_mul]; omega) fun i hi=>?_)
  have:=h (i+1) (by omega)
  rw[List.drop_drop];have e:w+i*w=(i+1)*w:=by rw[Nat.add_mul]; omega
  rw[e]; exact this
theorem uN:∀(d:Nat) (t:TypeId) (L:List Lf),Bj P d t=some L→∀(n:Nat) (cs:List Value) (x:DataW H × List MemPlace),DataW.trod enc P W base sp held n t cs=some x→All2 (si enc P W base sp held) L cs:=by
 intro d
 induction d with
 | zero=>intro t L h; cases h
 | succ d ih =>
  intro t L hL n cs x hx;unfold Bj at hL
  split at hL
  ·rename_i k hu;cases hL;obtain⟨m,rfl,_,hwf⟩:=DataW.trod_int hu hx;exact .cons ⟨m,rfl,hwf⟩ .nil
  ·rename_i hu;cases hL;obtain⟨b,rfl,_⟩:=DataW.trod_bool hu hx;exact .cons ⟨b,rfl⟩ .nil
  ·rename_i e hu;cases hL;rcases DataW.trod_slice hu hx with⟨rfl,_⟩|⟨a,len,cap,elems,rest,m,rfl,rfl,_,hb,h1,h2,h3,h4,_⟩
   ·exact .cons (.inl rfl) .nil
   ·refine .cons (.inr ⟨a,len,cap,m,rfl,h1,h2,hb,fun i hi=>?_⟩) .nil;have:=h4 i hi;have hi':i<elems.length:=by omega
    rw[List.getElem?_eq_getElem hi'] at this;obtain⟨cs,h5,h6⟩:=Option.bind_eq_some_iff.1 this;exact⟨cs,_,h5,h6⟩
  ·rename_i m e hu
   split at hL
   ·rename_i l hl
    split at hL
    ·rename_i hc;cases hL;obtain⟨xs,m',rfl,_,hcl,hxl,hel⟩:=DataW.trod_array hu hx;refine sx m (P.cellsOf e) cs (hcl.trans hc.2) fun i hi=>?_;have:=hel i hi;rw[List.getElem?_eq_getElem (by omega)] at this
     exact ih e l hl m' _ _ this
    ·cases hL
   ·cases hL
  ·rename_i fs hu
   split at hL
   ·rename_i l hl
    split at hL
    ·rename_i hc;cases hL;obtain⟨xs,m',rfl,_,hcl,hxl,hel⟩:=DataW.trod_struct hu hx;have hfield:∀f ∈ fs.toList,∃y,DataW.trod enc P W base sp held m' f.type ((cs.drop f.offset).take (P.cellsOf f.type))=some y:=by
      intro f hf;obtain⟨i,hi,hif⟩:=List.getElem_of_mem hf;have hi':i<fs.size:=by simpa using hi
      have:=hel i f (by rw[←hif]; simp[hi'])
      rw[List.getElem?_eq_getElem (by omega)] at this
      exact⟨_,this⟩
     have key:∀(l1:List Field) (off:Nat) (r:List Lf),zD (Bj P d) P l1 off=some r→(∀f ∈ l1,∃y,DataW.trod enc P W base sp held m' f.type ((cs.drop f.offset).take (P.cellsOf f.type))=some y)→All2 (si enc P W base sp held) r ((cs.drop off).take r.length):=by
      intro l1
      induction l1 with
      | nil=>intro off r hr _; cases hr; simp only[List.length_nil,List.take_zero]; exact .nil
      | cons f l1 ih1 =>
       intro off r hr hf;unfold zD at hr
       split at hr
       ·rename_i l2 r2 hl2 hr2
        split at hr
        ·rename_i ho;cases hr;obtain⟨y,hy⟩:=hf f (by simp)
         have h1:=ih f.type l2 hl2 m' _ _ hy;have h2:=ih1 _ _ hr2 fun g hg=>hf g (by simp[hg])
         rw[ho.1,←ho.2] at h1;rw[←ho.2] at h2;have:=All2.append h1 h2;rw[List.length_append,List.take_add,List.drop_drop];exact this
        ·cases hr
       ·cases hr
     have:=key fs.toList 0 _ hl hfield;rw[List.drop_zero,hc,←hcl,List.take_length] at this;exact this
    ·cases hL
   ·cases hL
  ·cases hL
end
end Go.Ab
end

section
namespace Go.Ab
open Go Go.Ab.W Go.ChangeShapes Go.WideShapes Go.RowKit
section
variable {H : Type} {enc : TypeId × Value → H} {P : Program} {W : World} {sp : Nat → Bool} {held : Bool}
theorem wb {a:Addr} (h:a.spot=none) (n:Nat):a.add n=⟨a.block,a.off+n,none⟩:=by
 unfold Addr.add
 split
 ·rename_i e; subst e; cases a; cases h; rfl
 ·rfl
theorem oa {W:World} {a:Addr} {v:Value} (h:W.cell? a=some v):a.spot=none∧∃c t fz,W.heap[a.block]? = some (.cells c t fz)∧c[a.off]? = some v:=by
 unfold World.cell? at h
 split at h
 ·rename_i c t fz hc
  split at h
  ·cases h
  ·rename_i hs;refine⟨by simpa using hs,c,t,fz,hc,h⟩
 ·cases h
theorem EY {α:Type} {f:α→List Value} {R:α→Prop} {e w:Nat} (hw:P.cellsOf e=w) (hw0:0<w) (hsz:0<W.heap.size)
  (hdec:∀n cs x,DataW.trod enc P W 0 sp held n e cs=some x→∃p,cs.map (seen (dX W))=f p∧R p) {v:Value} (h:si enc P W 0 sp held (.sl e) v) :
  ∃(a:Option Addr) (cap:Nat) (l:List α),seen (dX W) v = .slice a l.length cap∧(∀b,ff a=some b→b<W.heap.size)∧Rd (eK W) a cap w l.length (l.map f)∧(∀p ∈ l,R p)∧l.length≤maxLen:=by
 rcases h with rfl|⟨a,len,cap,n,rfl,h1,h2,_,h3⟩
 ·exact⟨none,0,[],pR rfl,fun b h=>(by cases h),Rd.nil _ _,fun p hp=>(by cases hp),Nat.zero_le _⟩
 ·by_cases h0:len=0
  ·subst h0;exact⟨some ⟨0,0,some 0⟩,0,[],Bs,fun b h=>(by cases h; exact hsz),⟨rfl,Nat.le_refl _,.inr (.inl ⟨0,0,rfl,rfl,rfl,hsz⟩)⟩,fun p hp=>(by cases hp),Nat.zero_le _⟩
  ·rw[hw] at h3;have hg:∀i:Fin len,∃(p:α) (cs:List Value),W.cells? 0 (a.add (i.1*w)) w=some cs∧cs.map (seen (dX W))=f p∧R p:=by
    intro i;obtain⟨cs,x,h4,h5⟩:=h3 i.1 i.2;obtain⟨p,he,hR⟩:=hdec _ _ _ h5;exact⟨p,cs,h4,he,hR⟩
   obtain⟨g,q,hg⟩:∃(g:Fin len→α) (q:Fin len→List Value),∀i,W.cells? 0 (a.add (i.1*w)) w=some (q i)∧(q i).map (seen (dX W))=f (g i)∧R (g i):=⟨fun i=>Classical.choose (hg i),fun i=>Classical.choose (Classical.choose_spec (hg i)),fun i=>Classical.choose_spec (Classical.choose_spec (hg i))⟩;have hat:∀(i:Fin len) (k:Nat),k<w→W.cell? ((a.add (i.1*w)).add k)=(q i)[k]?:=fun i k hk=>(World.cells?_some (hg i).1).2.2 k hk;have hql:∀i,(q i).length=w:=fun i=>(World.cells?_some (hg i).1).2.1;have hfl:∀i,(f (g i)).length=w:=fun i=>by rw[←(hg i).2.1,List.length_map,hql]
   have hsm:∀(i:Fin len) (k:Nat),k<w→∃x,(q i)[k]? = some x:=fun i k hk=>⟨_,List.getElem?_eq_getElem (by rw[hql]; exact hk)⟩
   have hspot:a.spot=none:=by
    obtain⟨x,hx⟩:=hsm ⟨0,by omega⟩ 0 hw0
    have:=hat ⟨0,by omega⟩ 0 hw0
    rw[hx] at this;have:=(oa this).1
    simpa [Addr.add] using this
   obtain⟨c,t,fz,hc⟩:∃c t fz,W.heap[a.block]? = some (.cells c t fz):=by
    obtain⟨x,hx⟩:=hsm ⟨0,by omega⟩ 0 hw0
    have:=hat ⟨0,by omega⟩ 0 hw0
    rw[hx] at this;obtain⟨_,c,t,fz,hc,_⟩:=oa this;refine⟨c,t,fz,?_⟩
    simpa [Addr.add] using hc
   have hcell:∀(i:Fin len) (k:Nat),k<w→c[a.off+i.1*w+k]? = (q i)[k]?:=by
    intro i k hk;obtain⟨x,hx⟩:=hsm i k hk;have:=hat i k hk;rw[hx] at this;rw[hx];rw[wb hspot,wb rfl] at this;obtain⟨_,c',t',fz',hc',h6⟩:=oa this;rw[hc] at hc';cases hc';exact h6
   have hb:a.block<W.heap.size:=by
    rcases Nat.lt_or_ge a.block W.heap.size with h|h
    ·exact h
    ·rw[Array.getElem?_eq_none h] at hc; cases hc
   have ha:a=⟨a.block,a.off,none⟩:=by cases a; cases hspot; rfl
   refine⟨some a,cap,List.ofFn g,?_,fun b h=>?_,?_,fun p hp=>?_,?_⟩
   ·rw[List.length_ofFn];exact EU h0 hspot (by unfold dX; rw[if_pos hb])
   ·cases h; exact hb
   ·refine⟨by simp,by simpa using h1,.inr (.inr ⟨a.block,a.off,by rw[←ha],hb,_,_,mH hc,fun sz e=>(by cases e),fun i e he=>?_⟩)⟩
    rw[List.getElem?_map] at he;obtain⟨p,hp,rfl⟩:=Option.map_eq_some_iff.1 he;have hi:i<len:=by
     have:=(List.getElem?_eq_some_iff.1 hp).1
     simpa using this
    have hpg:p=g ⟨i,hi⟩:=by
     rw[List.getElem?_ofFn] at hp;simp[hi] at hp;exact hp.symm
    subst hpg;refine⟨?_,hfl _⟩;apply List.ext_getElem?;intro k
    by_cases hk:k<w
    ·rw[List.getElem?_take_of_lt hk,List.getElem?_drop,List.getElem?_map];have h7:=hcell ⟨i,hi⟩ k hk;obtain⟨x,hx⟩:=hsm ⟨i,hi⟩ k hk;rw[hx] at h7;have h8:c.toList[a.off+i*w+k]? = some x:=by simpa using h7
     rw[h8,←(hg ⟨i,hi⟩).2.1,List.getElem?_map,hx]
    ·rw[List.getElem?_eq_none (by rw[List.length_take]; omega),List.getElem?_eq_none (by rw[hfl]; omega)]
   ·obtain⟨i,hi,rfl⟩:=List.getElem_of_mem hp;simp only[List.getElem_ofFn];exact(hg _).2.2
   ·rw[List.length_ofFn]; omega
theorem G4 {α:Type} {f:α→List Value} {R:α→Prop} {e w:Nat} (hw:P.cellsOf e=w) (hw0:0<w) (hsz:0<W.heap.size) (hf:∀p,(f p).all aL=true)
  (hdec:∀n cs x,DataW.trod enc P W 0 sp held n e cs=some x→∃p,cs=f p∧R p) {v:Value} (h:si enc P W 0 sp held (.sl e) v) :
  ∃(a:Option Addr) (cap:Nat) (l:List α),VR (dX W) (.slice a l.length cap) v∧Rd (eK W) a cap w l.length (l.map f)∧(∀p ∈ l,R p)∧l.length≤maxLen:=by
 obtain⟨a,cap,l,h1,_,h2,h3,h4⟩:=EY (f:=f) (R:=R) hw hw0 hsz (fun n cs x hx=>by
  obtain⟨p,rfl,hR⟩:=hdec n cs x hx;refine⟨p,?_,hR⟩;have:∀(l:List Value),l.all aL=true→l.map (seen (dX W))=l:=fun l hl=>by
   induction l with
   | nil=>rfl
   | cons x l ih =>
    rw[List.all_cons,Bool.and_eq_true] at hl;rw[List.map_cons,pR hl.1,ih hl.2]
  exact this _ (hf p)) h
 exact⟨a,cap,l,by rw[←h1]; exact zL _ _,h2,h3,h4⟩
theorem Cg {base:Nat} {v:Value} (h:si enc P W base sp held (.int .u8) v):∃n:Nat,v = .int .u8 (n:Int)∧n<256:=by
 obtain⟨n,rfl,hw⟩:=h;have:=bounds_u8 hw;exact⟨n.toNat,by rw[Int.toNat_of_nonneg this.1],by omega⟩
theorem nI {α β:Type} {R:α→β→Prop} {a:α} {l:List α} {r:List β} (h:All2 R (a::l) r):∃b r',r=b::r'∧R a b∧All2 R l r':=by
 cases h with
 | cons h t=>exact⟨_,_,rfl,h,t⟩
theorem uY {α β:Type} {R:α→β→Prop} {r:List β} (h:All2 R [] r):r = []:=by cases h; rfl
theorem yc {base d t n:Nat} {cs:Array Value} {L:List Lf} {x:DataW H × List MemPlace} (hl:Bj P d t=some L) (h:DataW.trod enc P W base sp held n t (Value.agg cs).cells.toList=some x):All2 (si enc P W base sp held) L cs.toList:=uN d t L hl n _ x h
theorem Ib {j:aH} {l:List Value} {cs:Array Value} (h:LR j l cs.toList):VR j (.agg l.toArray) (.agg cs):=.xE (by simpa using h)
theorem lG {T:TypeId→Prop} (K:Kids P T) (hsz:∀{t e:TypeId},T t→P.underlying t=some (.slice e)→0<P.cellsOf e) {W':World} {sp':Nat→Bool}:∀{ts:List TypeId} {vs:List Value} {ds:List (DataW H)} {ps:List MemPlace},
  (∀t ∈ ts,T t)→DataW.TrodAll enc P W 0 (fun _=>true) true ts vs ds ps→(∀p ∈ ps,W.sameAt W' p)→(∀p ∈ ps,sp' p.block=true)→DataW.TrodAll enc P W' 0 sp' true ts vs ds ps
 | [],[],[],_,_,h,_,_=>h
 | t::ts,v::vs,d::ds,_,hT,⟨p,q,⟨n,hn⟩,hs,e⟩,h1,h2=>by
  subst e;refine⟨p,q,⟨n,DataW.trod_stays K hsz (fun h=>(by cases h)) (hT t (by simp)) hn (fun x hx=>h1 x (by simp[hx])) fun x hx=>h2 x (by simp[hx])⟩,lG K hsz (fun t' ht'=>hT t' (by simp[ht'])) hs (fun x hx=>h1 x (by simp[hx])) (fun x hx=>h2 x (by simp[hx])),rfl⟩
theorem A4 {w w':World} {p:MemPlace} (h:w'.heap[p.block]? = w.heap[p.block]?):w.sameAt w' p:=by
 cases p with
 | cell b o=>simp only[World.sameAt,World.cell?]; rw[show w'.heap[b]? = w.heap[b]? from h]
 | map b=>simp only[World.sameAt]; rw[show w'.heap[b]? = w.heap[b]? from h]
def sizedB (P:Program):Bool:=(List.range P.types.size).all fun t=>match P.underlying t with
 | some (.slice e)=>decide (0<P.cellsOf e)
 | _=>true
theorem AP (h:sizedB P=true) {t e:TypeId} (ht:t<P.types.size) (hu:P.underlying t=some (.slice e)):0<P.cellsOf e:=by
 have:=List.all_eq_true.1 h t (by simpa using ht)
 rw[hu] at this
 simpa using this
theorem Ci {f:Func} {s:ChangeSpec} {W':World} {args:Array Value} {ds:List (DataW H)} {before:List MemPlace} {tb:TypeId} {fresh handsOn:Bool} (hlo:laidOutB P=true) (hm:mapsRowed P=true) (hsz:sizedB P=true)
  (hvars:s.vars = []) (hres:f.resultTypes.toList = [tb]) (hrs:f.resultTypes.size=1) (htb:P.underlying tb=some .bool) (hpt:∀t ∈ f.params.toList,t<P.types.size) (hfn:s.fn H ds = { results:=[.lit (.bool true)],args:=ds,vars:=[]})
  (hW:DataW.Whole enc P f.params.toList s.vars false W args.toList ds [] before) {E:Env} (hcalm:ij E W W') (hg:∀c,c<W.heap.size→W'.heap[c]? = W.heap[c]?) :
  s.post enc P f false fresh handsOn false W args (.bool true) W':=by
 have hW':=hW;obtain⟨p,q,hA,hV,rfl,_,_⟩:=hW;rw[hvars] at hV;obtain⟨_,rfl⟩:=trodVars_none hV;have hlt:=hW'.lt;refine⟨ds,[],_,[],p,[],hW',?_,?_,?_,oR hcalm hg _,fun h=>by cases h⟩
 ·rw[List.append_nil,hfn,hres]
  show DataW.TrodAll enc P W' _ _ handsOn [tb] ((Value.bool true).resultList f.resultTypes.size) [.lit (.bool true)] []
  rw[hrs];exact trodAll_mk1 (shut_bool htb true)
 ·rw[List.append_nil,hfn];refine lG (kids_rows hlo hm) (fun ht hu=>AP hsz ht hu) hpt hA (fun x hx=>A4 (hg _ (hlt x (by simp[hx])))) fun x hx=>by
   have:=hlt x (by simp[hx])
   simpa using this
 ·rw[List.append_nil,hfn,hvars];exact rfl
end
end Go.Ab
end

section
namespace Go.Ab
open Go
def sE (x y c:Nat):Value:=.tuple #[.int .u64 (.ofNat ((x+y+c)%18446744073709551616)),.int .u64 (.ofNat ((x+y+c)/18446744073709551616))]
def qZ (x y c:Nat):Value:=.tuple #[.int .u64 (.ofNat ((x+18446744073709551616-y-c)%18446744073709551616)),.int .u64 (.ofNat (if x<y+c then 1 else 0))]
def dy (V:Nat→Nat→Nat→Value) (args:List Value) (m:AMem):Option (Value × AMem) :=
 match args with
 | [.int .u64 (.ofNat x),.int .u64 (.ofNat y),.int .u64 (.ofNat c)]=>if Nat.ble c 1 then some (V x y c,m) else none
 | _=>none
theorem qU {V:Nat→Nat→Nat→Value} {args:List Value} {m m':AMem} {v:Value} (h:dy V args m=some (v,m')) :
  ∃x y c:Nat,args = [.int .u64 x,.int .u64 y,.int .u64 c]∧c≤1∧v=V x y c∧m'=m:=by
 unfold dy at h
 split at h
 ·rename_i x y c
  split at h
  ·rename_i hc;cases h;exact⟨x,y,c,rfl,Nat.le_of_ble_eq_true hc,rfl,rfl⟩
  ·cases h
 ·cases h
section
variable {E : Env} {j : aH} {m : AMem} {w : World}
theorem LR.zj:∀{l l':List Value},l.all Ab.aL=true→LR j l l'→l'=l:=by
 intro l
 induction l with
 | nil=>intro l' _ h; exact h.db
 | cons v l ih =>
  intro l' hp h;obtain⟨v1,vs,rfl,h1,h2⟩:=h.cons_inv;rw[List.all_cons,Bool.and_eq_true] at hp;rw[ez hp.1 h1,ih hp.2 h2]
theorem nj {V:Nat→Nat→Nat→Value} {f:FuncId} (hV:∀x y c,bg (V x y c)=true) (hrun:∀(x y c:Nat) (w:World),c≤1→(callFunc f #[.int .u64 x,.int .u64 y,.int .u64 c]).run E.P w = .ok (.value (V x y c)) w) (hpr:(E.cR f).isSome=true)
  {args args':List Value} {v:Value} {m':AMem} (he:dy V args m=some (v,m')) (h:MR E j m w) (hl:LR j args args') :
  dL E.P (E.cR f).isSome f args'.toArray w (fe E j m w v m'):=by
 obtain⟨x,y,c,rfl,hc,rfl,rfl⟩:=qU he;rw[LR.zj rfl hl];exact .inr ⟨hpr,V x y c,w,hrun x y c w hc,j,.refl h,.bg (hV x y c)⟩
end
theorem xO (x y c:Nat):bg (sE x y c)=true:=rfl
theorem xu (x y c:Nat):bg (qZ x y c)=true:=rfl
section
variable {P : Program} {f : FuncId} {fn : Func}
theorem ED (hf : P.funcs[f]? = some fn) (hname : (fn.name == "runtime.NumGoroutine") = false) (hb : fn.body.isNone = true) (hn : Extern.findNext fn = none) (he : Extern.find fn = some add64Entry) (x y c : Nat) (w : World) (hc : c ≤ 1) :
  (callFunc f #[.int .u64 x,.int .u64 y,.int .u64 c]).run P w = .ok (.value (sE x y c)) w:=by
 rw[run_callFunc_extern hf hname hb hn he,run_add64 x y c (by omega) (by omega) (by omega) (by omega)]
 simp only[Result.andThen,sE]
 congr 5
theorem Gd (hf : P.funcs[f]? = some fn) (hname : (fn.name == "runtime.NumGoroutine") = false) (hb : fn.body.isNone = true) (hn : Extern.findNext fn = none) (he : Extern.find fn = some Go.Proofs.sub64Entry) (x y c : Nat) (w : World) (hc : c ≤ 1) :
  (callFunc f #[.int .u64 x,.int .u64 y,.int .u64 c]).run P w = .ok (.value (qZ x y c)) w:=by
 rw[run_callFunc_extern hf hname hb hn he,Go.Proofs.run_sub64 x y c hc]
 rfl
end
noncomputable def Fx (v:Value) (k:Nat→Bool):Bool:=ly v fun kd z=>dC (jh kd .u64) (AE z k false) false
theorem nL {v:Value} {k:Nat→Bool} (h:Fx v k=true):∃x:Nat,v = .int .u64 x∧k x=true:=by
 obtain⟨kd,z,rfl,h⟩:=cx h;obtain⟨h1,h⟩:=aU h;cases eg h1;rcases ia h with⟨x,rfl,h⟩|h
 ·exact⟨x,rfl,h⟩
 ·cases h
noncomputable def ub (W:Nat→Nat→Nat→(Value→Bool)→Bool) (args:List Value) (m:AMem) (K:Value→AMem→Bool):Bool :=
 dC (BR args 3) (vn 0 args fun a=>vn 1 args fun b=>vn 2 args fun d=>Fx a fun x=>Fx b fun y=>Fx d fun c=>dC (Nat.ble c 1) (W x y c fun v=>K v m) false) false
noncomputable def HK (x y c:Nat) (k:Value→Bool):Bool:=fN ((x+y+c)%18446744073709551616) fun s=>fN ((x+y+c)/18446744073709551616) fun d=>k (.tuple #[.int .u64 (.ofNat s),.int .u64 (.ofNat d)])
noncomputable def Ij (x y c:Nat) (k:Value→Bool):Bool:=fN ((x+18446744073709551616-y-c)%18446744073709551616) fun s=>dC (Nat.blt x (y+c)) (k (.tuple #[.int .u64 (.ofNat s),.int .u64 (.ofNat 1)])) (k (.tuple #[.int .u64 (.ofNat s),.int .u64 (.ofNat 0)]))
theorem yT (x y c:Nat) (k:Value→Bool):HK x y c k=k (sE x y c):=by unfold HK sE; rw[cU,cU]
theorem zG (x y c:Nat) (k:Value→Bool):Ij x y c k=k (qZ x y c):=by
 unfold Ij qZ;rw[cU]
 by_cases h:x<y+c
 ·have:Nat.blt x (y+c)=true:=by rw[Nat.blt_eq]; exact h
  rw[this,if_pos h]; rfl
 ·have:Nat.blt x (y+c)=false:=by
   cases hb:Nat.blt x (y+c) with
   | false=>rfl
   | true=>rw[Nat.blt_eq] at hb; exact absurd hb h
  rw[this,if_neg h]; rfl
theorem k8 {V:Nat→Nat→Nat→Value} {W:Nat→Nat→Nat→(Value→Bool)→Bool} (hW:∀x y c k,W x y c k=k (V x y c)) {args:List Value} {m:AMem} {K:Value→AMem→Bool} (h:ub W args m K=true):∃v m',dy V args m=some (v,m')∧K v m'=true:=by
 unfold ub at h;obtain⟨hl,h⟩:=aU h;obtain⟨a,ha,h⟩:=fD h;obtain⟨b,hb,h⟩:=fD h;obtain⟨d,hd,h⟩:=fD h;obtain⟨x,ea,h⟩:=nL h;obtain⟨y,eb,h⟩:=nL h;obtain⟨c,ed,h⟩:=nL h;rw[ea] at ha; rw[eb] at hb; rw[ed] at hd;obtain⟨hc,h⟩:=aU h;rw[hW] at h;have hargs:args = [.int .u64 x,.int .u64 y,.int .u64 c]:=by
  have:=k9 hl
  match args,this,ha,hb,hd with
  | [p,q,r],_,ha,hb,hd=>cases ha; cases hb; cases hd; rfl
 refine⟨_,_,?_,h⟩;rw[hargs]
 show(if Nat.ble c 1 then some (V x y c,m) else none)=_
 rw[hc]; rfl
end Go.Ab
end

section
namespace Go.Proofs.YtpkadoocdgdcfaaGreatDoor
open Go.ChangeShapes Go.WideShapes Go.ChangeAt Go.WideMaps Go.WideElems Go.RowKit Go.Ab
theorem Jw:ownKnob Tryz.prog.godebug=none:=by kernel_rfl
theorem Km : Tryz.prog.globalNamed "math/bits.deBruijn64tab" = some 0 := by kernel_rfl
def jt:List Int:=[0,1,56,2,57,49,28,3,61,58,42,50,38,29,17,4,62,47,59,36,45,43,51,22,53,39,33,30,24,18,12,5,63,55,48,27,60,41,37,16,46,35,44,21,52,32,23,11,54,26,40,15,34,20,31,10,25,14,19,9,13,8,7,6]
abbrev pB : List (String × DataW Unit) := [("math/bits.deBruijn64tab", Rows.laid_math_bits_deBruijn64tab)]
def fb:Nat→Option (List Value):=fun b=>if b=0 then some (jt.map (.int .u8)) else none
def KQ:AMem:=A1 1 fb
noncomputable def sY (p q r:Option Prim) (f:FuncId):Option Prim:=if f=234 then some ⟨dy sE⟩ else if f=251 then some ⟨dy qZ⟩ else if f=66 then p else if f=11 then q else if f=70 then r else none
noncomputable def dP (p q r:Option Prim):Env:={ P:=Tryz.prog,glob:=1,cR:=sY p q r,mono:=False}
noncomputable abbrev lF:Env:=dP none none none
theorem BZ:xR Tryz.prog=true:=by kernel_rfl
theorem pN {p q r:Option Prim} (hp:∀c,p=some c→∀args m v m',c.run args m=some (v,m')→∀(j:aH) (w:World) (args':List Value),MR (dP p q r) j m w→LR j args args'→dL Tryz.prog true 66 args'.toArray w (fe (dP p q r) j m w v m'))
  (hq:∀c,q=some c→∀args m v m',c.run args m=some (v,m')→∀(j:aH) (w:World) (args':List Value),MR (dP p q r) j m w→LR j args args'→dL Tryz.prog true 11 args'.toArray w (fe (dP p q r) j m w v m'))
  (hr:∀c,r=some c→∀args m v m',c.run args m=some (v,m')→∀(j:aH) (w:World) (args':List Value),MR (dP p q r) j m w→LR j args args'→dL Tryz.prog true 70 args'.toArray w (fe (dP p q r) j m w v m')):EnvOk (dP p q r):=C8 BZ fun f pc hf args m v m' hrun j w args' hm hl=>by
 have hp':sY p q r f=some pc:=hf;unfold sY at hp'
 split at hp'
 ·rename_i hf;subst hf;cases hp';exact nj (E:=dP p q r) xO (fun x y c w hc=>ED Tryz.func234 (by kernel_rfl) (by kernel_rfl) (by kernel_rfl) (by kernel_rfl) x y c w hc) rfl hrun hm hl
 split at hp'
 ·rename_i hf;subst hf;cases hp';exact nj (E:=dP p q r) xu (fun x y c w hc=>Gd Tryz.func251 (by kernel_rfl) (by kernel_rfl) (by kernel_rfl) (by kernel_rfl) x y c w hc) rfl hrun hm hl
 split at hp'
 ·rename_i hf;subst hf;have e:((dP p q r).cR 66).isSome=true:=by show(sY p q r 66).isSome=true; unfold sY; simp[hp']
  rw[e];exact hp pc hp' args m v m' hrun j w args' hm hl
 split at hp'
 ·rename_i hf;subst hf;have e:((dP p q r).cR 11).isSome=true:=by show(sY p q r 11).isSome=true; unfold sY; simp[hp']
  rw[e];exact hq pc hp' args m v m' hrun j w args' hm hl
 split at hp'
 ·rename_i hf;subst hf;have e:((dP p q r).cR 70).isSome=true:=by show(sY p q r 70).isSome=true; unfold sY; simp[hp']
  rw[e];exact hr pc hp' args m v m' hrun j w args' hm hl
 cases hp'
theorem nh:EnvOk lF:=pN (fun c h=>by cases h) (fun c h=>by cases h) (fun c h=>by cases h)
theorem w5 (os:Os) (args:Array Value):laidMetH Tryz.prog pB ((World.doorLaid Tryz.prog 400 os).forCall (fun _ _=>0) ⟨#[],args,[]⟩).memory :=
 laidMetH_of_parts3 (fuel:=8) (laidMet_of_run' 8 (by kernel_rfl) (by kernel_rfl)) (by kernel_rfl) (by kernel_rfl)
noncomputable def kJ (f:FuncId):Option PSem:=if f=234 then some ⟨ub HK⟩ else if f=251 then some ⟨ub Ij⟩ else none
theorem nP (p q r:Option Prim):HL (dP p q r) kJ:=by
 intro f S hS;unfold kJ at hS
 split at hS
 ·rename_i e; cases hS; subst e;exact⟨⟨dy sE⟩,rfl,fun h=>k8 yT h⟩
 ·split at hS
  ·rename_i e; cases hS; subst e;exact⟨⟨dy qZ⟩,rfl,fun h=>k8 zG h⟩
  ·cases hS
end Go.Proofs.YtpkadoocdgdcfaaGreatDoor
end

section
namespace Go.Ab.W
open Go Go.Ab
attribute [local irreducible] Tm.at Trie.set Trie.get AMem.get AMem.set AMem.alloc AMem.ww AMem.kill
section
variable {E : Env} {n : Nat} {m0 : AMem} {fs : Fs} {ps ps' : List Pc} {ops : Array Oper} {os : List Oper} {K : Tm → AMem → Prop} {prs : List (Nat × Nat)}
variable {ty : TypeId} {p : String} {af : Array Edge} {d : Nat} {o : Op} {g : Option (Nat × Bool)} {v : Value}
inductive Nk
 | any
 | call
 | rd (b:Nat)
 | wr (b:Nat)
 | low (b:Nat)
 | kp (l:List Nat)
 | rn (o:Option Nat)
 | ka (l:List (Option Nat))
def Nk.of:Nk→Note→Prop
 | .any,_=>True
 | .call,x=>x.next≤x.wl
 | .rd b,x=>x.read=some b
 | .wr b,x=>x.wrote=some b
 | .low b,x=>b<x.wl
 | .kp l,x=>∀b ∈ l,x.kept b=true
 | .rn o,x=>x.read=o
 | .ka l,x=>∀b,some b ∈ l→x.kept b=true
def NR:List Nk→List Note→Prop
 | [],[]=>True
 | b::bs,x::xs=>cW x=true∧b.of x∧NR bs xs
 | _,_=>False
theorem NR.at:∀{bs:List Nk} {ns:List Note} {i:Nat} {b:Nk},NR bs ns→bs[i]? = some b→∃x,ns[i]? = some x∧b.of x
 | b::bs,x::xs,0,c,h,e=>by simp only[List.getElem?_cons_zero,Option.some.injEq] at e; subst e; exact⟨x,rfl,h.2.1⟩
 | b::bs,x::xs,i+1,c,h,e=>by rw[List.getElem?_cons_succ] at e ⊢; exact NR.at h.2.2 e
 | [],[],i,c,h,e=>by simp at e
 | [],_::_,_,_,h,_=>h.elim
 | _::_,[],_,_,h,_=>h.elim
theorem NR.all:∀{bs:List Nk} {ns:List Note},NR bs ns→ns.all cW=true
 | [],[],_=>rfl
 | _::_,_::_,h=>by rw[List.all_cons,h.1,NR.all h.2.2]; rfl
 | [],_::_,h=>h.elim
 | _::_,[],h=>h.elim
theorem NR.snoc:∀{bs:List Nk} {ns:List Note} {b:Nk} {x:Note},NR bs ns→cW x=true→b.of x→NR (bs++[b]) (ns++[x])
 | [],[],_,_,_,h1,h2=>⟨h1,h2,trivial⟩
 | _::_,_::_,_,_,h,h1,h2=>⟨h.1,h.2.1,NR.snoc h.2.2 h1 h2⟩
 | [],_::_,_,_,h,_,_=>h.elim
 | _::_,[],_,_,h,_,_=>h.elim
def Nk.JN:Nk→Bool
 | .call=>true
 | _=>false
def B9 (ops:Array Oper) (ss:List Nk) (p:Nat × Nat):Prop :=
 match ss[p.1]?,ss[p.2]? with
  | some (.rd b),some (.wr b')=>b≠b'∧ax (ops.getD p.1 default).op=false
  | some (.wr b),some (.rd b')=>b'≠b∧ax (ops.getD p.2 default).op=false
  | some (.rd b),some (.low b')=>b≤b'∧ax (ops.getD p.1 default).op=false
  | some (.low b),some (.rd b')=>b'≤b∧ax (ops.getD p.2 default).op=false
  | some (.rd b),some (.kp l)=>b ∈ l∧ax (ops.getD p.1 default).op=false
  | some (.kp l),some (.rd b)=>b ∈ l∧ax (ops.getD p.2 default).op=false
  | some (.rd b),some (.ka l)=>some b ∈ l∧ax (ops.getD p.1 default).op=false
  | some (.ka l),some (.rd b)=>some b ∈ l∧ax (ops.getD p.2 default).op=false
  | some (.rn o),some (.ka l)=>o ∈ l∧ax (ops.getD p.1 default).op=false
  | some (.ka l),some (.rn o)=>o ∈ l∧ax (ops.getD p.2 default).op=false
  | some a,some b=>((a.JN || !(ax (ops.getD p.1 default).op)) && (b.JN || !(ax (ops.getD p.2 default).op)))=true
  | _,_=>False
def gK (ops:Array Oper) (ss:List Nk):List (Nat × Nat)→Prop
 | []=>True
 | p::ps=>B9 ops ss p∧gK ops ss ps
def GR (ops:Array Oper) (ss:List Nk):List (Nat × Nat)→Bool
 | []=>true
 | p::ps=>(match ss[p.1]?,ss[p.2]? with
  | some (.rd _),some (.wr _)=>false
  | some (.wr _),some (.rd _)=>false
  | some (.rd _),some (.low _)=>false
  | some (.low _),some (.rd _)=>false
  | some (.rd _),some (.kp _)=>false
  | some (.kp _),some (.rd _)=>false
  | some (.rd _),some (.ka _)=>false
  | some (.ka _),some (.rd _)=>false
  | some (.rn _),some (.ka _)=>false
  | some (.ka _),some (.rn _)=>false
  | some a,some b=>((a.JN || !(ax (ops.getD p.1 default).op)) && (b.JN || !(ax (ops.getD p.2 default).op)))
  | _,_=>false) && GR ops ss ps
theorem gK.all {ops:Array Oper} {ss:List Nk}:∀{ps:List (Nat × Nat)},GR ops ss ps=true→gK ops ss ps
 | [],_=>trivial
 | p::ps,h=>by
  simp only[GR,Bool.and_eq_true] at h;refine⟨?_,gK.all h.2⟩;have h1:=h.1;unfold B9
  split at h1
  ·cases h1
  ·cases h1
  ·cases h1
  ·cases h1
  ·cases h1
  ·cases h1
  ·cases h1
  ·cases h1
  ·cases h1
  ·cases h1
  ·rename_i a b ha hb hn1 hn2;exact h1
  ·cases h1
theorem gK.nil {ops:Array Oper} {ss:List Nk}:gK ops ss []:=trivial
section
variable {ops : Array Oper} {ss : List Nk} {ps : List (Nat × Nat)} {i j b b' : Nat} {l : List Nat} {o : Option Nat} {la : List (Option Nat)}
theorem gK.rw (h1:ss[i]? = some (.rd b)) (h2:ss[j]? = some (.wr b')) (he:ax (ops.getD i default).op=false) (hne:b≠b') (k:gK ops ss ps):gK ops ss ((i,j)::ps):=by
 refine⟨?_,k⟩;simp only[B9,h1,h2]; exact⟨hne,he⟩
theorem gK.rk (h1:ss[i]? = some (.rd b)) (h2:ss[j]? = some (.kp l)) (he:ax (ops.getD i default).op=false) (hm:b ∈ l) (k:gK ops ss ps):gK ops ss ((i,j)::ps):=by
 refine⟨?_,k⟩;simp only[B9,h1,h2]; exact⟨hm,he⟩
end
theorem Ff {r e:Note} (h:e.next≤e.wl):Note.ok r e=true:=by
 unfold Note.ok
 split
 ·rfl
 ·rename_i b _
  by_cases hb:b<e.wl
  ·simp[hb]
  ·have:e.next≤b:=by omega
   simp[this]
theorem yx {r e:Note} {b b':Nat} (h1:r.read=some b) (h2:e.wrote=some b') (hne:b≠b'):Note.ok r e=true:=by
 unfold Note.ok;rw[h1,h2];simp[hne]
theorem uO {r e:Note} {b b':Nat} (h1:r.read=some b) (h2:b'<e.wl) (hne:b≤b'):Note.ok r e=true:=by
 unfold Note.ok;rw[h1];simp[show b<e.wl by omega]
theorem zf {r e:Note} {b:Nat} {l:List Nat} (h1:r.read=some b) (h2:∀b ∈ l,e.kept b=true) (hm:b ∈ l):Note.ok r e=true:=by
 unfold Note.ok;rw[h1];simp[h2 b hm]
theorem uB {r e:Note} {b:Nat} {l:List (Option Nat)} (h1:r.read=some b) (h2:∀b,some b ∈ l→e.kept b=true) (hm:some b ∈ l):Note.ok r e=true:=by
 unfold Note.ok;rw[h1];simp[h2 b hm]
theorem yF {r e:Note} {o:Option Nat} {l:List (Option Nat)} (h1:r.read=o) (h2:∀b,some b ∈ l→e.kept b=true) (hm:o ∈ l):Note.ok r e=true:=by
 cases o with
 | none=>unfold Note.ok; rw[h1]
 | some b=>exact uB h1 h2 hm
theorem Nk.ok {a b:Nk} {x y:Note} (_:a.of x) (hy:b.of y) (h:b.JN=true):Note.ok x y=true:=by
 cases b with
 | call=>exact Ff hy
 | _=>cases h
theorem uL {ops:Array Oper} {ss:List Nk} {ns:List Note} (h:NR ss ns):∀{prs:List (Nat × Nat)},gK ops ss prs→prs.all (dg ns ops)=true
 | [],_=>rfl
 | p::prs,hk=>by
  rw[List.all_cons,uL h hk.2,Bool.and_true];have h1:=hk.1;unfold B9 at h1
  split at h1
  ·rename_i b b' ha hb;obtain⟨x,hx1,hx2⟩:=h.at ha;obtain⟨y,hy1,hy2⟩:=h.at hb;simp only[dg,hx1,hy1,yx hx2 hy2 h1.1,h1.2,Bool.or_true,Bool.not_false,Bool.true_or,Bool.and_self]
  ·rename_i b b' ha hb;obtain⟨x,hx1,hx2⟩:=h.at ha;obtain⟨y,hy1,hy2⟩:=h.at hb;simp only[dg,hx1,hy1,yx hy2 hx2 h1.1,h1.2,Bool.or_true,Bool.not_false,Bool.true_or,Bool.and_self]
  ·rename_i b b' ha hb;obtain⟨x,hx1,hx2⟩:=h.at ha;obtain⟨y,hy1,hy2⟩:=h.at hb;simp only[dg,hx1,hy1,uO hx2 hy2 h1.1,h1.2,Bool.or_true,Bool.not_false,Bool.true_or,Bool.and_self]
  ·rename_i b b' ha hb;obtain⟨x,hx1,hx2⟩:=h.at ha;obtain⟨y,hy1,hy2⟩:=h.at hb;simp only[dg,hx1,hy1,uO hy2 hx2 h1.1,h1.2,Bool.or_true,Bool.not_false,Bool.true_or,Bool.and_self]
  ·rename_i b b' ha hb;obtain⟨x,hx1,hx2⟩:=h.at ha;obtain⟨y,hy1,hy2⟩:=h.at hb;simp only[dg,hx1,hy1,zf hx2 hy2 h1.1,h1.2,Bool.or_true,Bool.not_false,Bool.true_or,Bool.and_self]
  ·rename_i b b' ha hb;obtain⟨x,hx1,hx2⟩:=h.at ha;obtain⟨y,hy1,hy2⟩:=h.at hb;simp only[dg,hx1,hy1,zf hy2 hx2 h1.1,h1.2,Bool.or_true,Bool.not_false,Bool.true_or,Bool.and_self]
  ·rename_i b l ha hb;obtain⟨x,hx1,hx2⟩:=h.at ha;obtain⟨y,hy1,hy2⟩:=h.at hb;simp only[dg,hx1,hy1,uB hx2 hy2 h1.1,h1.2,Bool.or_true,Bool.not_false,Bool.true_or,Bool.and_self]
  ·rename_i b l ha hb;obtain⟨x,hx1,hx2⟩:=h.at ha;obtain⟨y,hy1,hy2⟩:=h.at hb;simp only[dg,hx1,hy1,uB hy2 hx2 h1.1,h1.2,Bool.or_true,Bool.not_false,Bool.true_or,Bool.and_self]
  ·rename_i b l ha hb;obtain⟨x,hx1,hx2⟩:=h.at ha;obtain⟨y,hy1,hy2⟩:=h.at hb;simp only[dg,hx1,hy1,yF hx2 hy2 h1.1,h1.2,Bool.or_true,Bool.not_false,Bool.true_or,Bool.and_self]
  ·rename_i b l ha hb;obtain⟨x,hx1,hx2⟩:=h.at ha;obtain⟨y,hy1,hy2⟩:=h.at hb;simp only[dg,hx1,hy1,yF hy2 hx2 h1.1,h1.2,Bool.or_true,Bool.not_false,Bool.true_or,Bool.and_self]
  ·rename_i a b _ _ _ _ _ _ _ _ _ _ ha hb;obtain⟨x,hx1,hx2⟩:=h.at ha;obtain⟨y,hy1,hy2⟩:=h.at hb;simp only[Bool.and_eq_true,Bool.or_eq_true,Bool.not_eq_true'] at h1;simp only[dg,hx1,hy1,Bool.and_eq_true,Bool.or_eq_true,Bool.not_eq_true'];refine⟨?_,?_⟩
   ·rcases h1.2 with h2|h2
    ·exact .inr (Nk.ok hx2 hy2 h2)
    ·exact .inl h2
   ·rcases h1.1 with h2|h2
    ·exact .inr (Nk.ok hy2 hx2 h2)
    ·exact .inl h2
  ·exact h1.elim
theorem NR.rev:∀{bs:List Nk} {ns:List Note},NR bs ns→NR bs.reverse ns.reverse
 | [],[],_=>trivial
 | b::bs,x::xs,h=>by
  rw[List.reverse_cons,List.reverse_cons];exact(NR.rev h.2.2).snoc h.1 h.2.1
 | [],_::_,h=>h.elim
 | _::_,[],h=>h.elim
variable {ss : List Nk}
def Wn (E:Env) (n:Nat) (ops:Array Oper) (prs:List (Nat × Nat)) (K:Tm→AMem→Prop) (os:List Oper) (ss:List Nk) (m0:AMem) (fs:Fs) (ps:List Pc):Prop :=
 ∀t m ns,Fr t fs→Hp m0 m ps→NR ss ns→dH E n ops (fun t m ns=>(prs.all (dg ns ops) && ns.all cW)=true∧K t m) os t m ns
theorem Wn.nil {Q:AExit→Tm→AMem→Prop} (hk:∀m,Hp m0 m ps→gK ops ss.reverse prs) (h:At Q .normal m0 fs ps):Wn E n ops prs (Q .normal) [] ss m0 fs ps:=fun t m ns hf hm hn=>by
 refine⟨?_,h t m hf hm⟩;rw[uL hn.rev (hk m hm),hn.rev.all]; rfl
theorem Wn.xg {α:Type} {V:α→Value} {N:α→List Pc} {c:Nk} (h:∀t m,Fr t fs→Hp m0 m ps→m.wl=m.next→(∀b,aN E t o=some b→b<m.next)∧∀K:Value→AMem→Prop,(∀x m',Hp m0 m' (N x)→c.of { read:=aN E t o,wl:=m'.wl,next:=m.next,wrote:=dQ E t o,kept:=gB m m'}→K (V x) m')→bh E t m o K)
  (hg:uD ops fs g true) (dst:Option Nat) (hd:∀d,dst=some d→Nat.blt d n=true) (k:∀x,Wn E n ops prs K os (c::ss) m0 (match dst with|some d=>(d,V x)::fs|none=>fs) (N x)):Wn E n ops prs K (⟨dst,o,ty,p,af,g⟩::os) ss m0 fs ps:=by
 intro t m ns hf hm hn;simp only[dH,hg t _ _ _ _ _ hf,if_true];have hx:=hm.ext.next
 have hm':Hp m0 (m.ww m.next) ps:=hm.ww (by omega)
 have hwl:(m.ww m.next).wl=(m.ww m.next).next:=by rw[AMem.wl_ww,AMem.next_ww]
 have e0:({ next:=m.next,wl:=m.next,bM:=m.bM,base:=m.base}:AMem)=m.ww m.next:=by unfold AMem.ww; rfl
 rw[e0];obtain⟨h1,h2⟩:=h t _ hf hm' hwl;rw[AMem.next_ww] at h1;refine bh.A (h2 _ fun x m' hm'' hc=>?_);rw[AMem.next_ww] at hc;have hw:=hm''.ext.wl;have e1:({ next:=m'.next,wl:=min m.wl m'.wl,bM:=m'.bM,base:=m'.base}:AMem)=m'.ww (min m.wl m'.wl):=by unfold AMem.ww; rfl
 have hw0:=hm.ext.wl;have hfin:Hp m0 (m'.ww (min m.wl m'.wl)) (N x):=hm''.ww (by omega)
 have hkp:gB (m.ww m.next) m'=gB m m':=by
  funext b
  unfold gB;rw[AMem.get_ww]
 rw[hkp] at hc;have hnr:NR (c::ss) ({ read:=aN E t o,wl:=m'.wl,next:=m.next,wrote:=dQ E t o,kept:=gB m m'}::ns):=⟨rv h1,hc,hn⟩
 cases dst with
 | none=>exact⟨t,rfl,by rw[e1]; exact k x t _ _ hf hfin hnr⟩
 | some d =>
  have hd':d<n:=by have:=hd d rfl; rwa[Nat.blt_eq] at this
  exact⟨t.set d (V x),by rw[cw,if_pos hd'],by rw[e1]; exact k x _ _ _ hf.set hfin hnr⟩
theorem Wn.x {α:Type} {V:α→Value} {N:α→List Pc} (h:Ox E m0 fs ps o V N) (hg:uD ops fs g true) (hd:Nat.blt d n=true) (k:∀x,Wn E n ops prs K os (.any::ss) m0 ((d,V x)::fs) (N x)):Wn E n ops prs K (⟨some d,o,ty,p,af,g⟩::os) ss m0 fs ps :=
 Wn.xg (c:=.any) (fun t m hf hm _=>⟨(h t m hf hm).1,fun K hK=>(h t m hf hm).2 K fun x m' h1=>hK x m' h1 trivial⟩) hg (some d) (fun d' e=>by cases e; exact hd) k
theorem Wn.x0 {α:Type} {V:α→Value} {N:α→List Pc} (h:Ox E m0 fs ps o V N) (hg:uD ops fs g true) (k:∀x,Wn E n ops prs K os (.any::ss) m0 fs (N x)):Wn E n ops prs K (⟨none,o,ty,p,af,g⟩::os) ss m0 fs ps :=
 Wn.xg (c:=.any) (fun t m hf hm _=>⟨(h t m hf hm).1,fun K hK=>(h t m hf hm).2 K fun x m' h1=>hK x m' h1 trivial⟩) hg none (fun d' e=>by cases e) k
def xC:Value→Bool
 | .int _ _ | .bool _ | .slice _ _ _ | .map _ | .pointer _=>true
 | _=>false
def Jt:Value→Bool
 | .func (.func _) a c=>a.toList.all xC && c.toList.all xC
 | v=>xC v
def z7 {α:Type} (ps:List Pc) (N:α→List Pc):List Nat→Prop
 | []=>True
 | b::l=>(∃cs k,pk ps k=some (.obj b (.cells cs .own))∧cs.all Jt=true∧∀x,∃k',pk (N x) k'=some (.obj b (.cells cs .own)))∧z7 ps N l
theorem Ct {m m':AMem} {b:Nat} (h:m.get b=m'.get b):gB m m' b=true:=by
 unfold gB;rw[Bool.or_eq_true];exact .inr (@decide_eq_true _ (Classical.propDecidable _) h)
theorem z7.kept {α:Type} {N:α→List Pc} {m m':AMem} {x:α} (hm:Hp m0 m ps) (hm':Hp m0 m' (N x)):∀{l:List Nat},z7 ps N l→∀b ∈ l,gB m m' b=true
 | [],_,b,hb=>by cases hb
 | c::l,h,b,hb=>by
  rcases List.mem_cons.1 hb with rfl|hb
  ·obtain⟨cs,k,h1,h2,h3⟩:=h.1;obtain⟨k',h4⟩:=h3 x;exact Ct (by rw[(hm.get h1).2.2,(hm'.get h4).2.2])
  ·exact z7.kept hm hm' h.2 b hb
theorem Wn.xk {α:Type} {V:α→Value} {N:α→List Pc} {l:List Nat} (h:Ox E m0 fs ps o V N) (hl:z7 ps N l) (hg:uD ops fs g true) (hd:Nat.blt d n=true) (k:∀x,Wn E n ops prs K os (.kp l::ss) m0 ((d,V x)::fs) (N x)):Wn E n ops prs K (⟨some d,o,ty,p,af,g⟩::os) ss m0 fs ps :=
 Wn.xg (c:=.kp l) (fun t m hf hm _=>⟨(h t m hf hm).1,fun K hK=>(h t m hf hm).2 K fun x m' h1=>hK x m' h1 (z7.kept hm h1 hl)⟩) hg (some d) (fun d' e=>by cases e; exact hd) k
theorem Hp.ne {m:AMem} {i j b b':Nat} {x y:Pc} (h:Hp m0 m ps) (hx:pk ps i=some x) (hy:pk ps j=some y) (hb:x.qO=some b) (hb':y.qO=some b') (hne:i≠j) (ho:x.own=true):b≠b':=fun e=>(gQ h.apart hx hy hne).1 b (Pc.Ju ho hb) (.inl (by rw[e]; exact hb'))
def Oc (E:Env) (m0:AMem) (fs:Fs) (ps:List Pc) (o:Op) {α:Type} (V:α→Value) (N:α→List Pc):Prop :=
 ∀t m,Fr t fs→Hp m0 m ps→m.wl=m.next→(∀b,aN E t o=some b→b<m.next)∧∀K:Value→AMem→Prop,(∀x m',Hp m0 m' (N x)→m.next≤m'.wl→K (V x) m')→bh E t m o K
theorem oT {α:Type} {V:α→Value} {N:α→List Pc} {f:Operand} {g:FuncId} {ars:Array Operand} {ts:Array TypeId} {args:List Value} (hf:ev E fs f=some (.func (.func g) #[] #[])) (ha:mi E fs ars.toList=some args) (hc:∀m,Hp m0 m ps→aC E g args m (fun v m'=>∃x,v=V x∧Hp m m' (N x))) (ho:∀x,ur (N x)=true):Oc E m0 fs ps (.call ⟨.value f,ars,ts⟩) V (fun x=>N x++ps) :=
 fun t m hfr hm hwl=>⟨fun b hb=>(by simp[aN] at hb),fun K hK=>by
  show kj E (aq E t f) (bB E t ars.toList) m _
  rw[hfr.ev hf,hfr.mi ha,qp];refine(hc m hm).mono fun v m' ⟨x,e,h⟩=>?_;rw[e];refine hK x m' (hm.after h fun p hp=>List.all_eq_true.1 (ho x) p hp) ?_;have:=h.ext.wl;omega⟩
theorem Wn.c {α:Type} {V:α→Value} {N:α→List Pc} (h:Oc E m0 fs ps o V N) (hg:uD ops fs g true) (hd:Nat.blt d n=true) (k:∀x,Wn E n ops prs K os (.call::ss) m0 ((d,V x)::fs) (N x)):Wn E n ops prs K (⟨some d,o,ty,p,af,g⟩::os) ss m0 fs ps :=
 Wn.xg (c:=.call) (fun t m hf hm hw=>⟨(h t m hf hm hw).1,fun K hK=>(h t m hf hm hw).2 K fun x m' h1 h2=>hK x m' h1 h2⟩) hg (some d) (fun d' e=>by cases e; exact hd) k
theorem Wn.od (h:Od E m0 fs ps o v ps') (hd:Nat.blt d n=true) (k:Wn E n ops prs K os (.any::ss) m0 ((d,v)::fs) ps'):Wn E n ops prs K (⟨some d,o,ty,p,af,none⟩::os) ss m0 fs ps:=Wn.x h.x gn hd fun _=>k
theorem Wn.o0 (h:Od E m0 fs ps o v ps') (k:Wn E n ops prs K os (.any::ss) m0 fs ps'):Wn E n ops prs K (⟨none,o,ty,p,af,none⟩::os) ss m0 fs ps:=Wn.x0 h.x gn fun _=>k
theorem Wn.og (h:Od E m0 fs ps o v ps') (hg:uD ops fs g true) (hd:Nat.blt d n=true) (k:Wn E n ops prs K os (.any::ss) m0 ((d,v)::fs) ps'):Wn E n ops prs K (⟨some d,o,ty,p,af,g⟩::os) ss m0 fs ps:=Wn.x h.x hg hd fun _=>k
theorem Wn.K3 {x:Operand} {b off:Nat} {ty':TypeId} (hx:ev E fs x=some (ptr b off)) (h:Od E m0 fs ps (.load ty' x) v ps') (hg:uD ops fs g true) (hd:Nat.blt d n=true) (k:Wn E n ops prs K os (.rd b::ss) m0 ((d,v)::fs) ps'):Wn E n ops prs K (⟨some d,.load ty' x,ty,p,af,g⟩::os) ss m0 fs ps :=
 Wn.xg (V:=fun _:Unit=>v) (N:=fun _=>ps') (c:=.rd b) (fun t m hf hm _=>⟨(h t m hf hm).1,fun K hK=>(h t m hf hm).2 K fun m' h1=>hK () m' h1 (by show aN E t (.load ty' x)=some b; simp only[aN,hf.ev hx]; rfl)⟩) hg (some d) (fun d' e=>by cases e; exact hd) fun _=>k
theorem Wn.J9 {x:Operand} {b off:Nat} {ty':TypeId} (hx:ev E fs x=some (ptr b off)) (h:Od E m0 fs ps (.load ty' x) v ps') (hd:Nat.blt d n=true) (k:Wn E n ops prs K os (.rd b::ss) m0 ((d,v)::fs) ps'):Wn E n ops prs K (⟨some d,.load ty' x,ty,p,af,none⟩::os) ss m0 fs ps:=Wn.K3 hx h gn hd k
theorem Wn.KF {x y:Operand} {b off:Nat} {ty':TypeId} (hx:ev E fs x=some (ptr b off)) (h:Od E m0 fs ps (.store ty' x y) v ps') (hg:uD ops fs g true) (k:Wn E n ops prs K os (.wr b::ss) m0 fs ps'):Wn E n ops prs K (⟨none,.store ty' x y,ty,p,af,g⟩::os) ss m0 fs ps :=
 Wn.xg (V:=fun _:Unit=>v) (N:=fun _=>ps') (c:=.wr b) (fun t m hf hm _=>⟨(h t m hf hm).1,fun K hK=>(h t m hf hm).2 K fun m' h1=>hK () m' h1 (by show dQ E t (.store ty' x y)=some b; simp only[dQ,hf.ev hx]; rfl)⟩) hg none (fun d' e=>by cases e) fun _=>k
theorem Wn.KP {x y:Operand} {b off:Nat} {ty':TypeId} (hx:ev E fs x=some (ptr b off)) (h:Od E m0 fs ps (.store ty' x y) v ps') (k:Wn E n ops prs K os (.wr b::ss) m0 fs ps'):Wn E n ops prs K (⟨none,.store ty' x y,ty,p,af,none⟩::os) ss m0 fs ps:=Wn.KF hx h gn k
theorem Wn.s (hg:uD ops fs g false) (hd:Nat.blt d n=true) (k:Wn E n ops prs K os (.call::ss) m0 ((d,undef)::fs) ps):Wn E n ops prs K (⟨some d,o,ty,p,af,g⟩::os) ss m0 fs ps:=by
 have hd':d<n:=by rwa[Nat.blt_eq] at hd
 intro t m ns hf hm hn;simp only[dH,hg t _ _ _ _ _ hf,Bool.false_eq_true,if_false];exact⟨t.set d undef,by rw[cw,if_pos hd'],k _ _ _ hf.set hm ⟨rfl,Nat.le_refl _,hn⟩⟩
theorem Wn.fA (h:ah m0 ps ps') (k:Wn E n ops prs K os ss m0 fs ps'):Wn E n ops prs K os ss m0 fs ps:=fun t m ns hf hm hn=>k t m ns hf (h m hm) hn
theorem Wn.cC {k w l cap:Nat} {a:Option Addr} {es:List (List Value)} (hp:pk ps k=some (.rd a cap w l es)) (hl:0<l) (h:∀b o,a=some ⟨b,o,none⟩→Wn E n ops prs K os ss m0 fs (.ro b o w l es::ps)):Wn E n ops prs K os ss m0 fs ps:=by
 intro t m ns hf hm hn;obtain⟨h1,h2,h3⟩:=hm.get hp;rcases h3 with⟨_,h3⟩|⟨_,_,_,h3,_⟩|⟨b,o,rfl,h3⟩
 ·omega
 ·omega
 ·exact h b o rfl t m ns hf (hm.more hp rfl ⟨h1,h3⟩ rfl fun b' hb=>hb) hn
theorem Wn.len {α:Type} {f:α→List Value} {k w l:Nat} {a:Option Addr} {xs:List α} (hp:pk ps k=some (.sl a w l (xs.map f))) (h:l=xs.length→Wn E n ops prs K os ss m0 fs ps):Wn E n ops prs K os ss m0 fs ps:=fun t m ns hf hm hn=>by
 refine h ?_ t m ns hf hm hn;rcases hm.get hp with⟨h0,h1,_⟩|⟨b,tg,_,h1⟩
 ·rw[h0,List.map_eq_nil_iff.1 h1]; rfl
 ·have:=h1.2.2.2.1; rw[List.length_map] at this; exact this.symm
theorem Wk.dO {fn:FuncId} {ro:Option Nat} {Q:AExit→Tm→AMem→Prop} {id:Nat} (hp:iB ops=some prs) (h:Wn E n ops prs (Q .normal) ops.toList [] m0 fs ps):Wk E n fn ro (.region id ops true) Q m0 fs ps:=fun t m hf hm=>.draw hp (h t m [] hf hm trivial)
end
section
variable {E : Env} {n : Nat} {fn : FuncId} {m0 : AMem} {fs : Fs} {ps : List Pc} {Q : AExit → Tm → AMem → Prop}
structure Rn where
 st:LoopState
 pe:Option Code
 ps:List Pc
end
section
variable {E : Env} {n : Nat} {m0 m1 m m' : AMem} {fs : Fs} {ps : List Pc} {ops : Array Oper} {os : List Oper} {K : Tm → AMem → Prop} {x y : Operand} {ty : TypeId}
end
section
variable {α β : Type} [DecidableEq α]
def dm (k:α):List (α × β)→Nat→Option (Nat × β)
 | [],_=>none
 | e::es,i=>if k=e.1 then some (i,e.2) else dm k es (i+1)
def iI (xs:List (α × β)) (k:α):Option β:=(dm k xs 0).map (·.2)
def iZ (xs:List (α × β)) (k:α) (v:β):List (α × β) :=
 match dm k xs 0 with
 | some p=>xs.set p.1 (k,v)
 | none=>xs++[(k,v)]
def eM (kE:α→Value) (vE:β→Value) (p:α × β):Value × Value:=(kE p.1,vE p.2)
structure KeyE (P:Program) (kt:TypeId) (kE:α→Value):Prop where
 eq:∀a b,jv P Op.maxDepth kt (kE a) (kE b)=some (decide (a=b))
 ok:∀a,gW P kt (kE a)=true
 plain:∀a,bg (kE a)=true
 same:∀a,Instr.sameBits 10000 (kE a) (kE a)=true
theorem kV {P:Program} {kt:TypeId} {kE:α→Value} {vE:β→Value} (hk:KeyE P kt kE) (k:α):∀(xs:List (α × β)) (i:Nat),gA P kt (kE k) (xs.map (eM kE vE)) i=some ((dm k xs i).map fun p=>(p.1,vE p.2))
 | [],_=>rfl
 | e::es,i=>by
  simp only[List.map_cons,gA,eM,hk.eq,dm]
  by_cases h:k=e.1
  ·rw[decide_eq_true h,if_pos h]; rfl
  ·rw[decide_eq_false h,if_neg h];exact kV hk k es (i+1)
omit [DecidableEq α] in
theorem mC {kE:α→Value} {vE:β→Value} (k:α) (v:β):∀(xs:List (α × β)) (i:Nat),i<xs.length→jl (xs.map (eM kE vE)) i (kE k) (vE v)=(xs.set i (k,v)).map (eM kE vE)
 | [],i,h=>by cases h
 | e::es,0,_=>rfl
 | e::es,i+1,h=>by
  simp only[List.map_cons,jl,List.set_cons_succ];rw[mC k v es i (by simpa using h)]
theorem qo (k:α):∀(xs:List (α × β)) (i:Nat) (p:Nat × β),dm k xs i=some p→i≤p.1∧p.1<i+xs.length∧xs[p.1-i]? = some (k,p.2)
 | [],_,_,h=>by cases h
 | e::es,i,p,h=>by
  unfold dm at h
  split at h
  ·rename_i hk; cases h; subst hk; simp
  ·obtain⟨h1,h2,h3⟩:=qo k es (i+1) p h;refine⟨by omega,by simp; omega,?_⟩
   obtain⟨d,hd⟩:∃d,p.1-i=d+1:=⟨p.1-i-1,by omega⟩
   rw[hd,List.getElem?_cons_succ,←h3]
   congr 1; omega
end
section
variable {E : Env} {n : Nat} {m0 m : AMem} {fs : Fs} {ps : List Pc} {x y z : Operand} {ty : TypeId}
variable {α β : Type} [DecidableEq α]
theorem Cp {P:Program} {kt et b:Nat} {kE:α→Value} {vE:β→Value} {z0:β} {xs:List (α × β)} {k:α} {c:Bool} (hu:P.underlying ty=some (.map kt et)) (hk:KeyE P kt kE) (hz:bI P et=some (vE z0)) (hzp:bg (vE z0)=true) (hg:m.get b=some (.map (xs.map (eM kE vE)))) :
  da P ty (.map (some b)) (kE k) c m=some (if c then .tuple #[vE ((iI xs k).getD z0),.bool (iI xs k).isSome] else vE ((iI xs k).getD z0)):=by
 simp only[da,hu,mapOf,hg,hz,hk.ok,if_true,kV hk,iI];cases dm k xs 0 with
 | none=>simp only[Option.map_none,hzp,if_true,Option.getD_none,Option.isSome_none]
 | some p=>simp only[Option.map_some,Option.getD_some,Option.isSome_some]
theorem Kl {kt et b q:Nat} {kE:α→Value} {vE:β→Value} {z0:β} {xs:List (α × β)} {k:α} (hu:E.P.underlying ty=some (.map kt et)) (hk:KeyE E.P kt kE) (hz:bI E.P et=some (vE z0)) (hzp:bg (vE z0)=true) (hx:ev E fs x=some (.map (some b))) (hy:ev E fs y=some (kE k)) (hp:pk ps q=some (.obj b (.map (xs.map (eM kE vE))))) :
  Od E m0 fs ps (.lookup ty x y false) (vE ((iI xs k).getD z0)) ps :=
 fun t m hf h=>⟨fun b' hb'=>by
  simp only[aN,hf.ev hx] at hb';cases hb'; exact(h.get hp).2.1,fun K hK=>by
  have:=Cp (c:=false) (k:=k) hu hk hz hzp (h.get hp).2.2;unfold bh;simp only[mB,cA,hf.ev hx,hf.ev hy,this,Option.map_some];exact hK m h⟩
theorem Gn {kt et b q:Nat} {kE:α→Value} {vE:β→Value} {z0 v:β} {xs:List (α × β)} {k:α} (hu:E.P.underlying ty=some (.map kt et)) (hk:KeyE E.P kt kE) (hz:bI E.P et=some (vE z0)) (hzp:bg (vE z0)=true) (hx:ev E fs x=some (.map (some b))) (hy:ev E fs y=some (kE k)) (hp:pk ps q=some (.obj b (.map (xs.map (eM kE vE))))) (hv:some ((iI xs k).getD z0)=some v) :
  Od E m0 fs ps (.lookup ty x y false) (vE v) ps:=by
 cases hv;exact Kl hu hk hz hzp hx hy hp
theorem Kq {kt et b q:Nat} {kE:α→Value} {vE:β→Value} {xs:List (α × β)} {k:α} {v:β} (hu:E.P.underlying ty=some (.map kt et)) (hk:KeyE E.P kt kE) (hx:ev E fs x=some (.map (some b))) (hy:ev E fs y=some (kE k)) (hz:ev E fs z=some (vE v)) (hp:pk ps q=some (.obj b (.map (xs.map (eM kE vE))))) :
  Od E m0 fs ps (.mapUpdate ty x y z) undef (dA ps q (.obj b (.map ((iZ xs k v).map (eM kE vE))))) :=
 fun t m hf h=>⟨fun b' hb'=>by simp[aN] at hb',fun K hK=>by
  have hg:=(h.get hp).2.2;have hup:cy E.P ty (.map (some b)) (kE k) (vE v) m=some (m.set b (.map ((iZ xs k v).map (eM kE vE)))):=by
   simp only[cy,hu,hg,hk.ok,if_true,kV hk,iZ];cases hfd:dm k xs 0 with
   | none=>simp only[Option.map_none,List.map_append,List.map_cons,List.map_nil]; rfl
   | some p =>
    obtain⟨h1,h2,h3⟩:=qo k xs 0 p hfd;simp only[Nat.sub_zero] at h3;have hst:gG (xs.map (eM kE vE)) p.1 (kE k)=true:=by
     simp only[gG,List.getElem?_map,h3,Option.map_some,eM,hk.plain,hk.same,Bool.and_self]
    simp only[Option.map_some,hst,if_true];rw[mC k v xs p.1 (by omega)]
  unfold bh;simp only[mB,cA,hf.ev hx,hf.ev hy,hf.ev hz,hup,Option.map_some];exact hK _ (h.write hp rfl rfl rfl rfl ⟨(h.get hp).1,by rw[AMem.next_set]; exact(h.get hp).2.1,by rw[AMem.bO,if_pos rfl]⟩)⟩
theorem B4 {γ:Type} {f:γ→List Value} {xs:List γ} {k cap w l:Nat} {a:Option Addr} (h:Hp m0 m ps) (hp:pk ps k=some (.rd a cap w l (xs.map f))):l=xs.length:=by
 have:=(h.get hp).1;rw[List.length_map] at this;exact this.symm
theorem EJ {P:Program} {kt:TypeId} {k:IntKind} (hu:P.underlying kt=some (.int k)):KeyE P kt (fun n:Int=>.int k n) where
 eq:=fun a b=>by
  simp only[Op.maxDepth,jv,hu,if_true]
  by_cases h:a=b
  ·subst h; simp
  ·simp[h]
 ok:=fun a=>by simp only[gW,hu]
 plain:=fun a=>rfl
 same:=fun a=>by simp[Instr.sameBits]
end
section
variable {E : Env} {n : Nat} {m0 m : AMem} {fs : Fs} {ps ps' : List Pc} {x y z : Operand} {ty : TypeId}
end
end Go.Ab.W
end

section
namespace Go.Ab.W
open Go Go.Ab
set_option maxRecDepth 10000
attribute [local irreducible] Tm.at Trie.set Trie.get AMem.get AMem.set AMem.alloc AMem.ww
section
variable {E : Env} {n : Nat} {m0 : AMem} {fs : Fs} {ps : List Pc} {x y z : Operand} {v : Value} {ty ty2 : TypeId}
end
end Go.Ab.W
end

section
namespace Go.Ab.W
open Go Go.Ab
attribute [local irreducible] Tm.at Trie.set Trie.get AMem.get AMem.set AMem.alloc AMem.ww AMem.kill
section
variable {α : Type}
def IC:List α→Option (α × α × α × α × α × α × α × α)
 | [a,b,c,d,e,f,g,h]=>some (a,b,c,d,e,f,g,h)
 | _=>none
theorem np {xs:List α} {a b c d e f g h:α} (hx:IC xs=some (a,b,c,d,e,f,g,h)):xs = [a,b,c,d,e,f,g,h]:=by
 unfold IC at hx
 split at hx
 ·cases hx; rfl
 ·cases hx
end
section
variable {E : Env} {n : Nat} {m0 m : AMem} {fs : Fs} {ps : List Pc} {x y z : Operand} {ty : TypeId}
theorem ah.p9 {α:Type} {xs:List α} {f:α→List Value} {k b w l:Nat} {cs:List Value} (hp:pk ps k=some (.obj b (.cells cs .own))) (hx:cs=(xs.map f).flatten) (hl:xs.length=l) (he:Enc f w) (h0:Nat.blt 0 w=true):ah m0 ps (dA ps k (.arr b w l (xs.map f) .own)):=fun m h=>by
 subst hx;exact h.put hp rfl rfl rfl (Nat.le_refl _) h.ext ⟨(h.get hp).1,(h.get hp).2.1,(h.get hp).2.2,by rw[List.length_map]; exact hl,fun e hm=>by obtain⟨x,_,rfl⟩:=List.mem_map.1 hm; exact he.1 x,.inl rfl,by rwa[Nat.blt_eq] at h0⟩ fun _ _ _=>rfl
theorem ah.tI {α:Type} {xs ys:List α} {f:α→List Value} {k b w l:Nat} {cs:List Value} {tg:Tag} (hp:pk ps k=some (.arr b w l (xs.map f) tg)) (hx:xs=ys) (hc:(ys.map f).flatten=cs):ah m0 ps (dA ps k (.obj b (.cells cs tg))):=fun m h=>by
 subst hx hc;exact h.put hp rfl rfl rfl (Nat.le_refl _) h.ext ⟨(h.get hp).1,(h.get hp).2.1,(h.get hp).2.2.1⟩ fun _ _ _=>rfl
theorem lP {el:TypeId} {b len w:Nat} {i:Int} {kd:IntKind} (h:ArT E.P ty el len w) (hx:ev E fs x=some (ptr b 0)) (hy:ev E fs y=some (.int kd i)) (hi:0≤i∧i.toNat<len):Od E m0 fs ps (.indexAddr ty x y) (ptr b (i.toNat*w+0)) ps:=by
 obtain⟨j,rfl⟩:=Int.eq_ofNat_of_zero_le hi.1;have hj:j<len:=by simpa using hi.2
 refine HZ hx hy ?_;rw[JX h (b:=b) (o:=0) hj];simp
end
section
variable {E : Env} {n : Nat} {m0 m : AMem} {fs : Fs} {ps : List Pc}
def wg (l:List Pc):Bool:=l.all Pc.bound
theorem bN {α:Type} {V:α→Value} {N:α→List Pc} {f:Operand} {g:FuncId} {ars:Array Operand} {ts:Array TypeId} {args:List Value} (hf:ev E fs f=some (.func (.func g) #[] #[])) (ha:mi E fs ars.toList=some args) (hc:∀m,Hp m0 m ps→aC E g args m (fun v m'=>∃x,v=V x∧Hp m m' (N x++[.gen (aJ (BG ps))]))) (ho:∀x,wg (N x)=true):Ox E m0 fs ps (.call ⟨.value f,ars,ts⟩) V (fun x=>N x++ps) :=
 Bh hf ha fun m hm=>by
  simp only[List.nil_append,List.append_nil];exact(hc m hm).mono fun v m' ⟨x,e,h⟩=>⟨x,e,hm.DP h fun p hp=>List.all_eq_true.1 (ho x) p hp⟩
theorem bZ {α:Type} {V:α→Value} {N:α→List Pc} {f:Operand} {g:FuncId} {ars:Array Operand} {ts:Array TypeId} {args:List Value} (hf:ev E fs f=some (.func (.func g) #[] #[])) (ha:mi E fs ars.toList=some args) (hc:∀m,Hp m0 m ps→aC E g args m (fun v m'=>∃x,v=V x∧Hp m m' (N x++[.gen (aJ (BG ps))]))) (ho:∀x,wg (N x)=true):Oc E m0 fs ps (.call ⟨.value f,ars,ts⟩) V (fun x=>N x++ps) :=
 fun t m hfr hm hwl=>⟨fun b hb=>(by simp[aN] at hb),fun K hK=>by
  show kj E (aq E t f) (bB E t ars.toList) m _
  rw[hfr.ev hf,hfr.mi ha,qp];refine(hc m hm).mono fun v m' ⟨x,e,h⟩=>?_;rw[e];refine hK x m' (hm.DP h fun p hp=>List.all_eq_true.1 (ho x) p hp) ?_;have:=h.ext.wl;omega⟩
end
section
variable {E : Env} {n : Nat} {m0 : AMem} {fs : Fs} {ps : List Pc} {ops : Array Oper} {os : List Oper} {dr : Bool}
theorem Wo.aV {K:Tm→AMem→Prop} {α:Type} {f:α→List Value} {k w l cap:Nat} {a:Option Addr} {xs:List α} (hp:pk ps k=some (.rd a cap w l (xs.map f))) (h:l=xs.length→Wo dr E n ops K os m0 fs ps):Wo dr E n ops K os m0 fs ps:=by
 have key:∀m,Hp m0 m ps→l=xs.length:=fun m hm=>B4 hm hp;cases dr with
 | false=>exact fun t m hf hm=>h (key m hm) t m hf hm
 | true=>exact fun t m w hf hm hw=>h (key m hm) t m w hf hm hw
theorem Wn.aV {prs:List (Nat × Nat)} {K:Tm→AMem→Prop} {ss:List Nk} {α:Type} {f:α→List Value} {k w l cap:Nat} {a:Option Addr} {xs:List α} (hp:pk ps k=some (.rd a cap w l (xs.map f))) (h:l=xs.length→Wn E n ops prs K os ss m0 fs ps):Wn E n ops prs K os ss m0 fs ps :=
 fun t m ns hf hm hn=>h (B4 hm hp) t m ns hf hm hn
end
section
variable {E : Env} {m0 : AMem} {fs : Fs} {ps : List Pc} {ty : TypeId}
theorem I0 {α:Type} {f:α→List Value} {elem ty2:TypeId} {w k c0 l l1:Nat} {a a0:Option Addr} {xs ys:List α} {ars:Array Operand} (he:Enc f w) (ht:SlT E.P ty elem w) (h4:∃e2,E.P.underlying ty2=some (.slice e2)) (ha:mi E fs ars.toList=some [.slice a l l,.slice a0 l1 c0]) (hp:pk ps k=some (.sl a w l (xs.map f))) (hr:∀m,Hp m0 m ps→Rd m a0 c0 w l1 (ys.map f)) (hl:lim (xs++ys).length=true) :
  Ox E m0 fs ps (.call ⟨.builtin .append,ars,#[ty,ty2]⟩) (fun a':Option Addr=>.slice a' (xs++ys).length (xs++ys).length) (fun a'=>dA ps k (.sl a' w (xs++ys).length ((xs++ys).map f))):=fun t m hf hm=>⟨fun b hb=>(by simp[aN] at hb),fun K hK=>by
 have h1:l=xs.length:=by
  have:=hm.get hp;rcases this with⟨h5,h1,_⟩|⟨b,tg,_,h1⟩
  ·rw[h5,List.map_eq_nil_iff.1 h1]; rfl
  ·have:=h1.2.2.2.1; rw[List.length_map] at this; exact this.symm
 have h2:l1=ys.length:=by
  have:=(hr m hm).1; rw[List.length_map] at this; exact this.symm
 have e2:l+l1=(xs++ys).length:=by rw[h1,h2,List.length_append]
 obtain⟨a',m',h3,h0⟩:=nW (n:=l) ht h4 hm hp (hr m hm) (he.tP ys) (he.gw ys) (by rw[e2]; exact hl)
 have:bj E.P .append #[ty,ty2] [.slice a l l,.slice a0 l1 c0] m=some (.slice a' (l+l1) (l+l1),m'):=h3;rw[Go.Ab.fF (hf.mi ha) this];have e1:xs.map f++ys.map f=(xs++ys).map f:=List.map_append.symm;rw[e1,e2] at h0;rw[e2];exact hK a' m' h0⟩
end
section
theorem ng (c:Value) (cs:List Value) (o:Nat) (vs:List Value):aG (c::cs) (o+1) vs=c::aG cs o vs:=by cases vs<;>rfl
theorem e8:∀(cs:List Value) (o:Nat),aG cs o []=cs
 | [],0=>rfl
 | _::_,0=>rfl
 | [],_+1=>rfl
 | c::cs,o+1=>by rw[ng,e8 cs o]
theorem oH {f:Nat→List Value} {v:Nat→Value} (hf:∀x,f x = [v x]):∀{ys xs zs:List Nat},ys++xs.drop ys.length=zs→ys.length≤xs.length→aG (xs.map f).flatten 0 (ys.map f).flatten=(zs.map f).flatten
 | [],xs,zs,h,_=>by
  rw[List.nil_append,List.length_nil,List.drop_zero] at h;rw[h];exact e8 _ 0
 | y::ys,[],zs,_,hl=>by simp at hl
 | y::ys,x::xs,zs,h,hl=>by
  have ih:=oH hf (ys:=ys) (xs:=xs) (zs:=ys++xs.drop ys.length) rfl (by simpa using hl)
  subst h;simp only[List.map_cons,List.flatten_cons,hf,List.cons_append,List.nil_append,List.length_cons,List.drop_succ_cons] at ih ⊢
  show v y::aG _ 0 _=_
  rw[ih]
theorem JT {f:Nat→List Value} {v:Nat→Value} (hf:∀x,f x = [v x]) {c:Value} {ys xs zs:List Nat} (h:ys++xs.drop ys.length=zs) (hl:ys.length≤xs.length):aG (c::(xs.map f).flatten) 1 (ys.map f).flatten=c::(zs.map f).flatten:=by
 rw[show(1:Nat)=0+1 from rfl,ng,oH hf h hl]
variable {E : Env} {m0 : AMem} {fs : Fs} {ps : List Pc} {ty : TypeId}
theorem Jm {f:Nat→List Value} {elem ty2:TypeId} {k b o q c0 l1:Nat} {a0:Option Addr} {cs cs':List Value} {ys:List Nat} {ars:Array Operand} (he:Enc f 1) (ht:SlT E.P ty elem 1) (ha:mi E fs ars.toList=some [.slice (some ⟨b,o,none⟩) q q,.slice a0 l1 c0]) (hp:pk ps k=some (.obj b (.cells cs .own))) (hr:∀m,Hp m0 m ps→Rd m a0 c0 1 l1 (ys.map f)) (hq:decide (ys.length≤q)=true) (ho:Nat.ble (o+q) cs.length=true) (hs:aG cs o (ys.map f).flatten=cs') :
  Od E m0 fs ps (.call ⟨.builtin .copy,ars,#[ty,ty2]⟩) (.int .i64 (ys.length:Int)) (dA ps k (.obj b (.cells cs' .own))):=fun t m hf hm=>⟨fun b hb=>(by simp[aN] at hb),fun K hK=>by
 have h2:l1=ys.length:=by
  have:=(hr m hm).1; rw[List.length_map] at this; exact this.symm
 have hq':=of_decide_eq_true hq;have ho':=Nat.le_of_ble_eq_true ho;have hc:=(hr m hm).cells;have hmin:min l1 q=l1:=by omega
 have hone:bf (ys.map f).flatten=true:=by
  unfold bf;rw[List.all_eq_true];intro x hx;obtain⟨e,h3,h5⟩:=List.mem_flatten.1 hx;exact List.all_eq_true.1 (he.gw ys e h3) x h5
 have hlen:(ys.map f).flatten.length=ys.length:=by
  clear hs hr hq hK h2 hq' hc hone
  induction ys with
  | nil=>rfl
  | cons x l ih=>rw[List.map_cons,List.flatten_cons,List.length_append,ih,he.1 x,List.length_cons]; omega
 have hg:=(hm.get hp).2.2;have hsrc:bV (au E.P elem) (.slice a0 l1 c0) (min l1 q) m=some (ys.map f).flatten:=by rw[ht.size,hmin]; exact hc
 cases hy:ys with
 | nil =>
  subst hy;have e1:cs'=cs:=by rw[←hs]; exact e8 cs o
  have h0:min l1 q=0:=by rw[hmin,h2]; rfl
  have:bj E.P .copy #[ty,ty2] [.slice (some ⟨b,o,none⟩) q q,.slice a0 l1 c0] m=some (.int .i64 0,m):=by
   show pY E.P ty _ _ m=_
   unfold pY;rw[h0] at hsrc;simp only[ht.und,ht.known,Bool.not_true,Bool.false_eq_true,if_false,h0,hsrc,hone]
  rw[Go.Ab.fF (hf.mi ha) this];exact hK m (by rw[e1]; exact hm.put hp rfl rfl rfl (Nat.le_refl _) hm.ext (hm.get hp) fun _ _ _=>rfl)
 | cons y y2 =>
  have h4:min l1 q=y2.length+1:=by rw[hmin,h2,hy]; rfl
  have hst:m.dh b o (ys.map f).flatten=some (m.set b (.cells cs' .own)):=by
   have hne:(ys.map f).flatten≠[]:=fun e=>by rw[e,hy] at hlen; cases hlen
   unfold AMem.dh
   split
   ·rename_i e; exact absurd e hne
   ·rw[hg];simp only[hlen];rw[if_pos (by omega),hs]
  have:bj E.P .copy #[ty,ty2] [.slice (some ⟨b,o,none⟩) q q,.slice a0 l1 c0] m=some (.int .i64 (ys.length:Int),m.set b (.cells cs' .own)):=by
   show pY E.P ty _ _ m=_
   unfold pY;rw[h4] at hsrc;simp only[ht.und,ht.known,Bool.not_true,Bool.false_eq_true,if_false,h4,hsrc,hone,hst,Option.map_some];rw[hy]; rfl
  rw[Go.Ab.fF (hf.mi ha) this];have hw:Hp m0 (m.set b (.cells cs' .own)) (dA ps k (.obj b (.cells cs' .own))):=hm.write (o':=.cells cs' .own) (p':=.obj b (.cells cs' .own)) hp rfl rfl rfl rfl ⟨(hm.get hp).1,by rw[AMem.next_set]; exact(hm.get hp).2.1,by rw[AMem.bO,if_pos rfl]⟩
  exact hK _ hw⟩
end
end Go.Ab.W
end

section
namespace Go.Ab.W
open Go Go.Ab
section
variable {α : Type}
end
section
variable {α : Type} {E : Env} {m0 m : AMem} {fs : Fs} {ps : List Pc} {f : α → List Value} {w : Nat}
variable {x : Operand} {ty : TypeId}
variable {N : Nat} {ops : Array Oper} {os : List Oper} {dr : Bool}
end
end Go.Ab.W
end

section
namespace Go.Ab.W
open Go Go.Ab
attribute [local irreducible] Tm.at Trie.set Trie.get AMem.get AMem.set AMem.alloc AMem.ww AMem.kill
section
variable {α : Type} {E : Env} {m0 m : AMem} {fs : Fs} {ps : List Pc} {f : α → List Value} {w : Nat} {ty : TypeId}
theorem Ga {β:Type} {V:β→Value} {N:β→List Pc} {x:Operand} {b off:Nat} (hx:ev E fs x=some (ptr b off)) (hb:∀m,Hp m0 m ps→b<m.next) (h:∀m,Hp m0 m ps→∃z,dx E.P ty (ptr b off) m=some (V z)∧Hp m0 m (N z)):Ox E m0 fs ps (.load ty x) V N :=
 fun t m hf hm=>⟨fun b' hb'=>by
  have hx':aq E t x=some (ptr b off):=hf.ev hx;simp only[aN,hx',Option.bind_some] at hb';cases hb'; exact hb m hm,fun K hK=>by
  obtain⟨z,h1,h2⟩:=h m hm;rw[Go.Ab.Co (hf.ev hx) h1]; exact hK z m h2⟩
end
section
variable {α : Type} {E : Env} {n : Nat} {m0 m : AMem} {fs : Fs} {ps : List Pc} {f : α → List Value} {w : Nat} {ops : Array Oper} {os : List Oper} {prs : List (Nat × Nat)} {K : Tm → AMem → Prop} {ss : List Nk}
end
def JD (m:AMem) (RW:Nat→Prop) (rb:Nat) (row:List (Bool × List Nat)):Prop :=
 rb<m.next∧∃vs,m.get rb=some (.cells vs .own)∧vs.length=row.length*2∧∀(j:Nat) (x:Bool × List Nat),row[j]? = some x→vs[j*2]? = some (.bool x.1)∧∃a c,vs[j*2+1]? = some (.slice a x.2.length c)∧Rd m a c 1 x.2.length (x.2.map (eN .u64))∧∀b,ff a=some b→RW b
def Kg (ρ:Nat→Nat) (L:List (List (Bool × List Nat))) (x:Nat):Prop:=∃i row,L[i]? = some row∧row≠[]∧x=ρ i
structure MatAt (m:AMem) (b n:Nat) (ρ:Nat→Nat) (RW:Nat→Prop) (L:List (List (Bool × List Nat))):Prop where
 lt:b<m.next
 len:n=L.length
 cells:∃cs,m.get b=some (.cells cs .own)∧cs.length=n∧∀(i:Nat) (row:List (Bool × List Nat)),L[i]? = some row→(row = []∧cs[i]? = some (.slice none 0 0))∨(row≠[]∧cs[i]? = some (.slice (some ⟨ρ i,0,none⟩) row.length row.length))
 rows:∀(i:Nat) (row:List (Bool × List Nat)),L[i]? = some row→row≠[]→JD m RW (ρ i) row
 rw:∀x,RW x→x<m.next∧x≠b∧¬Kg ρ L x
 out:∀(i:Nat) (row:List (Bool × List Nat)),L[i]? = some row→row≠[]→ρ i≠b
 inj:∀(i j:Nat) (row row':List (Bool × List Nat)),L[i]? = some row→L[j]? = some row'→row≠[]→row'≠[]→ρ i=ρ j→i=j
section
variable {E : Env} {m0 m : AMem} {fs : Fs} {ps : List Pc} {x y : Operand} {ty : TypeId} {b n : Nat} {ρ : Nat → Nat} {RW : Nat → Prop} {L : List (List (Bool × List Nat))}
end
section
variable {E : Env} {m0 m : AMem} {fs : Fs} {ps : List Pc} {x y z : Operand} {ty : TypeId} {H : Nat → Prop} {M : List (Option Nat × List (Int × Bool))}
theorem Kh {α β:Type} [DecidableEq α] {kt et b q:Nat} {kE:α→Value} {vE:β→Value} {xs:List (α × β)} {k:α} {v:β} (hu:E.P.underlying ty=some (.map kt et)) (hk:KeyE E.P kt kE) (hx:ev E fs x=some (.map (some b))) (hy:ev E fs y=some (kE k)) (hz:ev E fs z=some (vE v)) (hp:pk ps q=some (.obj b (.map (xs.map (eM kE vE))))) :
  Od E m0 fs ps (.insert ty x y z) undef (dA ps q (.obj b (.map ((iZ xs k v).map (eM kE vE))))) :=
 fun t m hf h=>⟨fun b' hb'=>by simp[aN] at hb',fun K hK=>by
  have hg:=(h.get hp).2.2;have hup:cy E.P ty (.map (some b)) (kE k) (vE v) m=some (m.set b (.map ((iZ xs k v).map (eM kE vE)))):=by
   simp only[cy,hu,hg,hk.ok,if_true,kV hk,iZ];cases hfd:dm k xs 0 with
   | none=>simp only[Option.map_none,List.map_append,List.map_cons,List.map_nil]; rfl
   | some p =>
    obtain⟨h1,h2,h3⟩:=qo k xs 0 p hfd;simp only[Nat.sub_zero] at h3;have hst:gG (xs.map (eM kE vE)) p.1 (kE k)=true:=by
     simp only[gG,List.getElem?_map,h3,Option.map_some,eM,hk.plain,hk.same,Bool.and_self]
    simp only[Option.map_some,hst,if_true];rw[mC k v xs p.1 (by omega)]
  unfold bh;simp only[mB,cA,hf.ev hx,hf.ev hy,hf.ev hz,hup,Option.map_some];exact hK _ (h.write hp rfl rfl rfl rfl ⟨(h.get hp).1,by rw[AMem.next_set]; exact(h.get hp).2.1,by rw[AMem.bO,if_pos rfl]⟩)⟩
end
end Go.Ab.W
end

section
namespace Go.Ab.W
open Go Go.Ab
section
variable {P : Program} {ty el : TypeId}
theorem fP {eq:TypeId→Value→Value→Option Bool} {xs ys:Array Value} {t off:Nat} {rest:List (TypeId × Nat)} {x y:Value} {b r:Bool} (h1:eE P t xs off=some x) (h2:eE P t ys off=some y) (h3:eq t x y=some b) (h4:gF eq P xs ys rest=some r):gF eq P xs ys ((t,off)::rest)=some (b && r):=by
 unfold gF;rw[h1,h2]
 dsimp only
 rw[h3];cases b with
 | true=>exact h4
 | false=>rfl
theorem oL {k:IntKind} (he:P.underlying el=some (.int k)) (d:Nat) (x y:Nat):jv P (d+1) el (.int k ((x:Nat):Int)) (.int k ((y:Nat):Int))=some (decide (x=y)):=by
 simp only[jv,he,if_true]
 congr 1
 rw[Bool.eq_iff_iff];simp only[beq_iff_eq,decide_eq_true_eq];omega
theorem wQ {k:IntKind} (hu:P.underlying ty=some (.array 8 el)) (hk:known P el=true) (hs:au P el=1) (ha:dI P el=false) (he:P.underlying el=some (.int k)) (d:Nat) (x0 y0 x1 y1 x2 y2 x3 y3 x4 y4 x5 y5 x6 y6 x7 y7:Nat) :
  jv P (d+2) ty (.agg #[.int k ((x0:Nat):Int),.int k ((x1:Nat):Int),.int k ((x2:Nat):Int),.int k ((x3:Nat):Int),.int k ((x4:Nat):Int),.int k ((x5:Nat):Int),.int k ((x6:Nat):Int),.int k ((x7:Nat):Int)])
   (.agg #[.int k ((y0:Nat):Int),.int k ((y1:Nat):Int),.int k ((y2:Nat):Int),.int k ((y3:Nat):Int),.int k ((y4:Nat):Int),.int k ((y5:Nat):Int),.int k ((y6:Nat):Int),.int k ((y7:Nat):Int)]) =
   some (decide (x0=y0) && decide (x1=y1) && decide (x2=y2) && decide (x3=y3) && decide (x4=y4) && decide (x5=y5) && decide (x6=y6) && decide (x7=y7)):=by
 have hp:∀(cs:Array Value) (i:Nat) (v:Value),cs[i]? = some v→eE P el cs i=some v:=fun cs i v h=>by
  unfold eE;rw[hk,ha,h]; rfl
 show jv P ((d+1)+1) ty _ _=_
 unfold jv;simp only[hu,hk,if_true,hs]
 show gF _ P _ _ [(el,0),(el,1),(el,2),(el,3),(el,4),(el,5),(el,6),(el,7)]=_
 simp only[Bool.and_assoc];rw[fP (hp _ 0 _ rfl) (hp _ 0 _ rfl) (oL he d x0 y0) (fP (hp _ 1 _ rfl) (hp _ 1 _ rfl) (oL he d x1 y1) (fP (hp _ 2 _ rfl) (hp _ 2 _ rfl) (oL he d x2 y2) (fP (hp _ 3 _ rfl) (hp _ 3 _ rfl) (oL he d x3 y3) (fP (hp _ 4 _ rfl) (hp _ 4 _ rfl) (oL he d x4 y4) (fP (hp _ 5 _ rfl) (hp _ 5 _ rfl) (oL he d x5 y5) (fP (hp _ 6 _ rfl) (hp _ 6 _ rfl) (oL he d x6 y6) (fP (hp _ 7 _ rfl) (hp _ 7 _ rfl) (oL he d x7 y7) rfl)))))))];simp only[Bool.and_true]
theorem JH {k:IntKind} (hu:P.underlying ty=some (.array 8 el)) (hk:known P el=true) (hs:au P el=1) (ha:dI P el=false) (he:P.underlying el=some (.int k)) (x0 y0 x1 y1 x2 y2 x3 y3 x4 y4 x5 y5 x6 y6 x7 y7:Nat) :
  jv P Op.maxDepth ty (.agg #[.int k ((x0:Nat):Int),.int k ((x1:Nat):Int),.int k ((x2:Nat):Int),.int k ((x3:Nat):Int),.int k ((x4:Nat):Int),.int k ((x5:Nat):Int),.int k ((x6:Nat):Int),.int k ((x7:Nat):Int)])
   (.agg #[.int k ((y0:Nat):Int),.int k ((y1:Nat):Int),.int k ((y2:Nat):Int),.int k ((y3:Nat):Int),.int k ((y4:Nat):Int),.int k ((y5:Nat):Int),.int k ((y6:Nat):Int),.int k ((y7:Nat):Int)]) =
   some (decide (x0=y0) && decide (x1=y1) && decide (x2=y2) && decide (x3=y3) && decide (x4=y4) && decide (x5=y5) && decide (x6=y6) && decide (x7=y7)) :=
 wQ hu hk hs ha he 9998 x0 y0 x1 y1 x2 y2 x3 y3 x4 y4 x5 y5 x6 y6 x7 y7
theorem Jn {k : IntKind} {w : TypeId} {fs : Array _} (hu2 : P.underlying ty = some (.struct fs)) (hst : (P.stoodInHeld ty || fs.any (·.name == "_")) = false) (hm : fs.toList.map (fun f => (f.type, f.offset)) = [(w, 0), (w, 8)])
  (hkw:known P w=true) (haw:dI P w=true) (hsw:au P w=8)
  (hu:P.underlying w=some (.array 8 el)) (hk:known P el=true) (hs:au P el=1) (ha:dI P el=false) (he:P.underlying el=some (.int k)) (x0 y0 x1 y1 x2 y2 x3 y3 x4 y4 x5 y5 x6 y6 x7 y7 x8 y8 x9 y9 x10 y10 x11 y11 x12 y12 x13 y13 x14 y14 x15 y15:Nat) :
  jv P Op.maxDepth ty (.agg #[.int k ((x0:Nat):Int),.int k ((x1:Nat):Int),.int k ((x2:Nat):Int),.int k ((x3:Nat):Int),.int k ((x4:Nat):Int),.int k ((x5:Nat):Int),.int k ((x6:Nat):Int),.int k ((x7:Nat):Int),.int k ((x8:Nat):Int),.int k ((x9:Nat):Int),.int k ((x10:Nat):Int),.int k ((x11:Nat):Int),.int k ((x12:Nat):Int),.int k ((x13:Nat):Int),.int k ((x14:Nat):Int),.int k ((x15:Nat):Int)]) (.agg #[.int k ((y0:Nat):Int),.int k ((y1:Nat):Int),.int k ((y2:Nat):Int),.int k ((y3:Nat):Int),.int k ((y4:Nat):Int),.int k ((y5:Nat):Int),.int k ((y6:Nat):Int),.int k ((y7:Nat):Int),.int k ((y8:Nat):Int),.int k ((y9:Nat):Int),.int k ((y10:Nat):Int),.int k ((y11:Nat):Int),.int k ((y12:Nat):Int),.int k ((y13:Nat):Int),.int k ((y14:Nat):Int),.int k ((y15:Nat):Int)])=some (decide (x0=y0) && decide (x1=y1) && decide (x2=y2) && decide (x3=y3) && decide (x4=y4) && decide (x5=y5) && decide (x6=y6) && decide (x7=y7) && decide (x8=y8) && decide (x9=y9) && decide (x10=y10) && decide (x11=y11) && decide (x12=y12) && decide (x13=y13) && decide (x14=y14) && decide (x15=y15)):=by
 have hp0:∀a0 a1 a2 a3 a4 a5 a6 a7 b0 b1 b2 b3 b4 b5 b6 b7:Value,eE P w #[a0,a1,a2,a3,a4,a5,a6,a7,b0,b1,b2,b3,b4,b5,b6,b7] 0=some (.agg #[a0,a1,a2,a3,a4,a5,a6,a7]):=fun _ _ _ _ _ _ _ _ _ _ _ _ _ _ _ _=>by
  unfold eE;rw[hkw,haw,hsw]; rfl
 have hp8:∀a0 a1 a2 a3 a4 a5 a6 a7 b0 b1 b2 b3 b4 b5 b6 b7:Value,eE P w #[a0,a1,a2,a3,a4,a5,a6,a7,b0,b1,b2,b3,b4,b5,b6,b7] 8=some (.agg #[b0,b1,b2,b3,b4,b5,b6,b7]):=fun _ _ _ _ _ _ _ _ _ _ _ _ _ _ _ _=>by
  unfold eE;rw[hkw,haw,hsw]; rfl
 show jv P (9999+1) ty _ _=_
 unfold jv;simp only[hu2,hst,Bool.false_eq_true,if_false,hm];rw[fP (hp0 ..) (hp0 ..) (wQ hu hk hs ha he 9997 x0 y0 x1 y1 x2 y2 x3 y3 x4 y4 x5 y5 x6 y6 x7 y7) (fP (hp8 ..) (hp8 ..) (wQ hu hk hs ha he 9997 x8 y8 x9 y9 x10 y10 x11 y11 x12 y12 x13 y13 x14 y14 x15 y15) rfl)];simp only[Bool.and_true,Bool.and_assoc]
def IT (P:Program) (ty w:TypeId):Bool:=match P.underlying ty with
 | some (.struct fs) => !(P.stoodInHeld ty || fs.any (·.name == "_")) && (fs.toList.map (fun f => (f.type, f.offset)) == [(w, 0), (w, 8)]) && known P w && dI P w && (au P w == 8)
 | _=>false
theorem Hs {k:IntKind} {w:TypeId} (h:IT P ty w=true)
  (hu:P.underlying w=some (.array 8 el)) (hk:known P el=true) (hs:au P el=1) (ha:dI P el=false) (he:P.underlying el=some (.int k)) (x0 y0 x1 y1 x2 y2 x3 y3 x4 y4 x5 y5 x6 y6 x7 y7 x8 y8 x9 y9 x10 y10 x11 y11 x12 y12 x13 y13 x14 y14 x15 y15:Nat) :
  jv P Op.maxDepth ty (.agg #[.int k ((x0:Nat):Int),.int k ((x1:Nat):Int),.int k ((x2:Nat):Int),.int k ((x3:Nat):Int),.int k ((x4:Nat):Int),.int k ((x5:Nat):Int),.int k ((x6:Nat):Int),.int k ((x7:Nat):Int),.int k ((x8:Nat):Int),.int k ((x9:Nat):Int),.int k ((x10:Nat):Int),.int k ((x11:Nat):Int),.int k ((x12:Nat):Int),.int k ((x13:Nat):Int),.int k ((x14:Nat):Int),.int k ((x15:Nat):Int)]) (.agg #[.int k ((y0:Nat):Int),.int k ((y1:Nat):Int),.int k ((y2:Nat):Int),.int k ((y3:Nat):Int),.int k ((y4:Nat):Int),.int k ((y5:Nat):Int),.int k ((y6:Nat):Int),.int k ((y7:Nat):Int),.int k ((y8:Nat):Int),.int k ((y9:Nat):Int),.int k ((y10:Nat):Int),.int k ((y11:Nat):Int),.int k ((y12:Nat):Int),.int k ((y13:Nat):Int),.int k ((y14:Nat):Int),.int k ((y15:Nat):Int)])=some (decide (x0=y0) && decide (x1=y1) && decide (x2=y2) && decide (x3=y3) && decide (x4=y4) && decide (x5=y5) && decide (x6=y6) && decide (x7=y7) && decide (x8=y8) && decide (x9=y9) && decide (x10=y10) && decide (x11=y11) && decide (x12=y12) && decide (x13=y13) && decide (x14=y14) && decide (x15=y15)):=by
 unfold IT at h
 split at h
 ·rename_i fs hf;simp only[Bool.and_eq_true,Bool.not_eq_true',beq_iff_eq] at h;exact Jn hf h.1.1.1.1 h.1.1.1.2 h.1.1.2 h.1.2 h.2 hu hk hs ha he x0 y0 x1 y1 x2 y2 x3 y3 x4 y4 x5 y5 x6 y6 x7 y7 x8 y8 x9 y9 x10 y10 x11 y11 x12 y12 x13 y13 x14 y14 x15 y15
 ·cases h
end
section
variable {P : Program} {ty : TypeId}
end
end Go.Ab.W
end

section
namespace Go.Ab.W
open Go Go.Ab
attribute [local irreducible] Tm.at Trie.set Trie.get AMem.get AMem.set AMem.alloc AMem.ww AMem.kill
section
variable {E : Env} {n : Nat} {m0 m : AMem} {fs : Fs} {ps : List Pc} {x y : Operand} {ty : TypeId}
variable {α : Type} {f : α → List Value} {elem : TypeId} {k cap w l : Nat} {a : Option Addr} {es : List (List Value)} {xs : List α}
end
section
variable {E : Env} {n : Nat} {m0 : AMem} {fs : Fs} {ps : List Pc} {ops : Array Oper} {os : List Oper} {K : Tm → AMem → Prop} {dr : Bool}
end
section
variable {E : Env} {n : Nat} {m0 m : AMem} {fs : Fs} {ps : List Pc} {x y : Operand} {ty : TypeId} {v : Value}
end
section
variable {α γ : Type} [DecidableEq α]
end
section
variable {α γ : Type} [DecidableEq α] {E : Env} {m0 m : AMem} {fs : Fs} {ps : List Pc} {f : γ → List Value} {w : Nat} {kE : α → Value}
variable {x y z : Operand} {ty : TypeId}
end
structure Rep (α:Type) where
 w:Nat
 G:Type
 V:α→G→List Value
 A:AMem→(Nat→Prop)→α→G→Prop
 N:α→G→(Nat→Prop)→List Pc
 mono:∀{m:AMem} {R R':Nat→Prop} {x:α} {g:G},A m R x g→(∀b,R b→R' b)→A m R' x g
 st:∀{m m':AMem} {R:Nat→Prop} {x:α} {g:G},A m R x g→m.next≤m'.next→(∀b,R b→b<m.next→m'.get b=m.get b)→A m' R x g
 len:∀x g,(V x g).length=w
 one:∀x g,(V x g).all lA=true
 hN:∀{lo:Nat} {m:AMem} {R:Nat→Prop} {x:α} {g:G},A m R x g→(∀b,R b→b<m.next)→∀p ∈ N x g R,p.ok lo m∧(∀b,¬p.ow b)∧∀b,p.any b→R b
section
variable {α β : Type}
def im (r:Rep α) (m:AMem) (R:Nat→Prop) (L:List α) (es:List (List Value)):Prop :=
 es.length=L.length∧∀(i:Nat) (x:α),L[i]? = some x→∃g,es[i]? = some (r.V x g)∧r.A m R x g
theorem im.mono {r:Rep α} {m:AMem} {R R':Nat→Prop} {L:List α} {es:List (List Value)} (h:im r m R L es) (hR:∀b,R b→R' b):im r m R' L es :=
 ⟨h.1,fun i x hi=>by obtain⟨g,h1,h2⟩:=h.2 i x hi; exact⟨g,h1,r.mono h2 hR⟩⟩
theorem im.st {r:Rep α} {m m':AMem} {R:Nat→Prop} {L:List α} {es:List (List Value)} (h:im r m R L es) (hn:m.next≤m'.next) (hg:∀b,R b→b<m.next→m'.get b=m.get b):im r m' R L es :=
 ⟨h.1,fun i x hi=>by obtain⟨g,h1,h2⟩:=h.2 i x hi; exact⟨g,h1,r.st h2 hn hg⟩⟩
theorem im.nil {r:Rep α} {m:AMem} {R:Nat→Prop}:im r m R [] []:=⟨rfl,fun i x h=>by simp at h⟩
theorem im.cons {r:Rep α} {m:AMem} {R:Nat→Prop} {L:List α} {es:List (List Value)} {x:α} {g:r.G} (hx:r.A m R x g) (h:im r m R L es):im r m R (x::L) (r.V x g::es) :=
 ⟨by simp[h.1],fun i y hi=>by
  cases i with
  | zero=>cases hi; exact⟨g,rfl,hx⟩
  | succ i=>exact h.2 i y (by simpa using hi)⟩
theorem im.append {r:Rep α} {m:AMem} {R:Nat→Prop} {L L':List α} {es es':List (List Value)} (h:im r m R L es) (h':im r m R L' es'):im r m R (L++L') (es++es') :=
 ⟨by simp[h.1,h'.1],fun i y hi=>by
  by_cases hlt:i<L.length
  ·rw[List.getElem?_append_left hlt] at hi;rw[List.getElem?_append_left (by rw[h.1]; exact hlt)]
   exact h.2 i y hi
  ·rw[List.getElem?_append_right (by omega)] at hi
   rw[List.getElem?_append_right (by rw[h.1]; omega),h.1]
   exact h'.2 _ y hi⟩
theorem im.gw {r:Rep α} {m:AMem} {R:Nat→Prop} {L:List α} {es:List (List Value)} (h:im r m R L es):W.gw es:=fun e he=>by
 obtain⟨i,hi,rfl⟩:=List.mem_iff_getElem.1 he;obtain⟨g,h1,_⟩:=h.2 i (L[i]'(by rw[←h.1]; exact hi)) (by simp)
 rw[List.getElem?_eq_getElem hi] at h1;rw[Option.some.inj h1]; exact r.one _ _
theorem im.width {r:Rep α} {m:AMem} {R:Nat→Prop} {L:List α} {es:List (List Value)} (h:im r m R L es):∀e ∈ es,e.length=r.w:=fun e he=>by
 obtain⟨i,hi,rfl⟩:=List.mem_iff_getElem.1 he;obtain⟨g,h1,_⟩:=h.2 i (L[i]'(by rw[←h.1]; exact hi)) (by simp)
 rw[List.getElem?_eq_getElem hi] at h1;rw[Option.some.inj h1]; exact r.len _ _
def dc (r:Rep α) (R:Nat→Prop) (L:List α) (es:List (List Value)):GPc where
 ow _:=False
 rd b:=R b
 P m:=im r m R L es∧∀b,R b→b<m.next
 st _ _ h hn hg:=⟨h.1.st hn fun b hb hlt=>hg b (.inr hb) hlt,fun b hb=>Nat.lt_of_lt_of_le (h.2 b hb) hn⟩
 lt _ b h hb:=hb.elim (fun h=>h.elim) (h.2 b)
theorem pQ {r:Rep α} {R:Nat→Prop} {L:List α} {es:List (List Value)} {b:Nat}:¬Pc.ow (.gen (dc r R L es)) b:=fun h=>h.elim (fun h=>by cases h.1) fun h=>h
theorem yP {r:Rep α} {R:Nat→Prop} {L:List α} {es:List (List Value)} {b:Nat} (h:Pc.any (.gen (dc r R L es)) b):R b:=h.elim (fun h=>by cases h) fun h=>h.elim (fun h=>h.elim) id
theorem vT {a:Option Addr} {cap w n:Nat} {es:List (List Value)} {b:Nat}:¬Pc.ow (.rd a cap w n es) b:=fun h=>h.elim (fun h=>by cases h.1) fun h=>h.elim
theorem BA {a:Option Addr} {cap w n:Nat} {es:List (List Value)} {b:Nat} (h:Pc.any (.rd a cap w n es) b):ff a=some b:=h.elim id fun h=>h.elim
def rS (f:α→List Value) (w:Nat):Rep (List α) where
 w:=1
 G:=Option Addr × Nat
 V l g:=[.slice g.1 l.length g.2]
 A m R l g:=Rd m g.1 g.2 w l.length (l.map f)∧∀b,ff g.1=some b→R b
 N l g _:=[.rd g.1 g.2 w l.length (l.map f)]
 mono h hR:=⟨h.1,fun b hb=>hR b (h.2 b hb)⟩
 st h hn hg:=⟨h.1.jW hn fun b hb hlt=>hg b (h.2 b hb) hlt,h.2⟩
 len _ _:=rfl
 one _ _:=rfl
 hN h _ p hp:=by
  rw[List.mem_singleton.1 hp];exact⟨h.1,fun b=>vT,fun b hb=>h.2 b (BA hb)⟩
end
section
variable {α β : Type} {E : Env} {n : Nat} {m0 m : AMem} {fs : Fs} {ps : List Pc} {r : Rep α} {r2 : Rep β} {x : Operand} {ty : TypeId}
theorem rB:∀(l:List Pc) (k:Nat),pk (l++ps) (l.length+k)=pk ps k
 | [],k=>by rw[List.nil_append,List.length_nil,Nat.zero_add]
 | p::l,k=>by rw[List.cons_append,List.length_cons,show l.length+1+k=(l.length+k)+1 by omega,fj,rB l k]
theorem Hp.GB {q:Nat} {p:Pc} (h:Hp m0 m ps) (hq:pk ps q=some p) (hpo:∀b,¬p.ow b):∀new:List Pc,(∀r ∈ new,r.ok m0.next m∧(∀b,¬r.ow b)∧∀b,r.any b→p.any b)→Hp m0 m (new++ps)
 | [],_=>h
 | r::l,hl=>(h.GB hq hpo l fun r' h'=>hl r' (List.mem_cons_of_mem _ h')).GF (k:=l.length+q) (by rw[rB]; exact hq) hpo (hl r (List.mem_cons_self ..)).1 (hl r (List.mem_cons_self ..)).2.1 (hl r (List.mem_cons_self ..)).2.2
theorem BD {ag:Bool} {sz b o w j c q off:Nat} {R:Nat→Prop} {L:List α} {es:List (List Value)} {z:α} {V:r.G→Value} {N:r.G→List Pc} (ht:TyI E.P ty ag sz) (hx:ev E fs x=some (ptr b off)) (ho:off=o+j*w+c) (hli:∀m,Hp m0 m ps→oU m b o w es) (hq:pk ps q=some (.gen (dc r R L es))) (hl:L[j]? = some z) (hv:∀g,A7 ag sz (r.V z g) c=some (V g)) (hs:BC ag sz c w=true) (hN:∀g,N g=r.N z g R++ps):Ox E m0 fs ps (.load ty x) V N:=by
 subst ho;refine Ga hx (fun m hm=>(hli m hm).1) fun m hm=>?_;have hP:=(hm.get hq).1;obtain⟨g,h1,h2⟩:=hP.1.2 j z hl;have hs:=ua hs;refine⟨g,oi ht (hli m hm) h1 (hv g) hs.1 hs.2,?_⟩;rw[hN];exact hm.GB hq (fun b=>pQ) _ fun p hp=>by
  obtain⟨a1,a2,a3⟩:=r.hN h2 hP.2 p hp;exact⟨a1,a2,fun b hb=>.inr (.inr (a3 b hb))⟩
theorem CR {k b o w l:Nat} {es:List (List Value)} (hp:pk ps k=some (.ro b o w l es)):∀m,Hp m0 m ps→oU m b o w es:=fun _ h=>(h.get hp).2
def Lf (m0:AMem) (ps:List Pc) (r:Rep α) (z:α) (g:r.G) (S:Nat→Prop):Prop:=∀m,Hp m0 m ps→r.A m S z g∧∀b,S b→∃q ∈ ps,(∀b,¬q.ow b)∧q.any b
theorem Lf.s {f:α→List Value} {a:Option Addr} {k cap w:Nat} {l:List α} (hp:pk ps k=some (.rd a cap w l.length (l.map f))):Lf m0 ps (rS f w) l (a,cap) (fun b=>ff a=some b):=fun _ hm =>
 ⟨⟨hm.get hp,fun _ h=>h⟩,fun _ hb=>⟨_,kg hp,fun _=>vT,.inl hb⟩⟩
def Fz (m0:AMem) (ps:List Pc) (r:Rep α) (L:List α) (es:List (List Value)) (S:Nat→Prop):Prop:=∀m,Hp m0 m ps→im r m S L es∧∀b,S b→∃q ∈ ps,(∀b,¬q.ow b)∧q.any b
theorem Fz.nil:Fz m0 ps r [] [] (fun _=>False):=fun _ _=>⟨.nil,fun _ h=>h.elim⟩
theorem Fz.cons {z:α} {g:r.G} {S S':Nat→Prop} {L:List α} {es:List (List Value)} (h:Lf m0 ps r z g S) (h':Fz m0 ps r L es S'):Fz m0 ps r (z::L) (r.V z g::es) (fun b=>S b∨S' b):=fun m hm =>
 ⟨.cons (r.mono (h m hm).1 fun _ h=>.inl h) ((h' m hm).1.mono fun _ h=>.inr h),fun b hb=>hb.elim ((h m hm).2 b) ((h' m hm).2 b)⟩
theorem Hp.FV {S:Nat→Prop} {p:Pc} (h:Hp m0 m ps) (hp:p.ok m0.next m) (ho:∀b,¬p.ow b) (ha:∀b,p.any b→∃q ∈ ps,(∀b,¬q.ow b)∧q.any b):Hp m0 m (p::ps) :=
 ⟨h.ext,fun q hq=>by
  rcases List.mem_cons.1 hq with rfl|hq
  ·exact hp
  ·exact h.ok q hq,List.pairwise_cons.2 ⟨fun q hq=>⟨fun b h1 _=>ho b h1,fun b h1 h2=>by
   obtain⟨q',hq',h3,h4⟩:=ha b h2;obtain⟨i,hi⟩:=kC hq;obtain⟨j,hj⟩:=kC hq'
   by_cases e:i=j
   ·subst e;rw[hi] at hj;exact h3 b (by rw[←Option.some.inj hj]; exact h1)
   ·exact(gQ h.apart hi hj e).1 b h1 h4⟩,h.apart⟩⟩
theorem ah.dp {L:List α} {es:List (List Value)} {S:Nat→Prop} (h:Fz m0 ps r L es S):ah m0 ps (.gen (dc r S L es)::ps):=fun m hm=>by
 obtain⟨h1,h2⟩:=h m hm;refine hm.FV (S:=S) ⟨⟨h1,fun b hb=>?_⟩,fun _ b hb=>hb.elim⟩ (fun _=>pQ) fun b hb=>h2 b (yP hb);obtain⟨q,hq,_,h4⟩:=h2 b hb;exact Pc.ig (hm.ok q hq) h4
theorem ah.IY:ah m0 ps (.gen (dc r (fun _=>False) [] [])::ps):=ah.dp .nil
theorem Hp.GS {q:Nat} {R S:Nat→Prop} {L L':List α} {es es':List (List Value)} (h:Hp m0 m ps) (hq:pk ps q=some (.gen (dc r R L es))) (h1:im r m (fun b=>R b∨S b) L' es') (h2:∀b,S b→∃q ∈ ps,(∀b,¬q.ow b)∧q.any b):Hp m0 m (dA ps q (.gen (dc r (fun b=>R b∨S b) L' es'))):=by
 have hP:=h.get hq;refine⟨h.ext,fun p hp=>?_,hC hq (fun p hp ha=>⟨fun b h3 _=>(pQ h3).elim,fun b h3 h4=>?_⟩) h.apart⟩
 ·rcases rD hp with hp|rfl
  ·exact h.ok p hp
  ·refine⟨⟨h1,fun b hb=>hb.elim (hP.1.2 b) fun hb=>?_⟩,fun _ b hb=>hb.elim⟩;obtain⟨q',hq',_,h5⟩:=h2 b hb;exact Pc.ig (h.ok q' hq') h5
 ·rcases yP h4 with h4|h4
  ·exact ha.2 b h3 (.inr (.inr h4))
  ·obtain⟨q',hq',h5,h6⟩:=h2 b h4;obtain⟨i,hi⟩:=kC hp;obtain⟨j,hj⟩:=kC hq'
   by_cases e:i=j
   ·subst e;rw[hi] at hj;exact h5 b (by rw[←Option.some.inj hj]; exact h3)
   ·exact(gQ h.apart hi hj e).1 b h3 h6
theorem ah.Jq {q q2:Nat} {R S:Nat→Prop} {L L':List α} {es es':List (List Value)} (hq:pk ps q=some (.gen (dc r R L es))) (hq2:pk ps q2=some (.gen (dc r S L' es'))):ah m0 ps (dA ps q (.gen (dc r (fun b=>R b∨S b) (L++L') (es++es')))):=fun m hm =>
 hm.GS hq (((hm.get hq).1.1.mono fun _ h=>.inl h).append ((hm.get hq2).1.1.mono fun _ h=>.inr h)) fun _ hb=>⟨_,kg hq2,fun _=>pQ,.inr (.inr hb)⟩
theorem Pc.DE {lo w l:Nat} {a:Option Addr} {es:List (List Value)} (h:Pc.ok lo m (.sl a w l es)):l=es.length:=by
 rcases h with⟨h0,h1,_⟩|⟨b,tg,_,h1⟩
 ·rw[h0,h1]; rfl
 ·exact h1.2.2.2.1.symm
theorem IM {elem ty2:TypeId} {w k k2 q q2 c0 l l1:Nat} {a a0:Option Addr} {R S:Nat→Prop} {L L':List α} {es es':List (List Value)} {ars:Array Operand} {p0:Pc} (ht:SlT E.P ty elem w) (h6:∃e2,E.P.underlying ty2=some (.slice e2)) (ha:mi E fs ars.toList=some [.slice a l l,.slice a0 l1 c0]) (hp:pk ps k=some (.sl a w l es)) (hq:pk ps q=some (.gen (dc r R L es))) (h4:pk ps k2=some p0) (hr:IsRd p0 a0 c0 w l1 es') (h0:pk ps q2=some (.gen (dc r S L' es'))) (hw:r.w=w) (hl:lim (L++L').length=true) :
  Ox E m0 fs ps (.call ⟨.builtin .append,ars,#[ty,ty2]⟩) (fun y:Option Addr × (Nat→Prop)=>.slice y.1 (L++L').length (L++L').length) (fun y=>dA (dA ps q (.gen (dc r y.2 (L++L') (es++es')))) k (.sl y.1 w (L++L').length (es++es'))):=fun t m hf hm=>⟨fun b hb=>(by simp[aN] at hb),fun K hK=>by
 have e1:l=L.length:=by rw[Pc.DE (hm.get hp),(hm.get hq).1.1.1]
 have e2:l1=L'.length:=by rw[←(hm.rd h4 hr).1,(hm.get h0).1.1.1]
 have e0:l+l1=(L++L').length:=by rw[e1,e2,List.length_append]
 have h1:=ah.Jq (m0:=m0) hq h0 m hm;have hkq:k≠q:=fun e=>by rw[e,hq] at hp; cases hp
 have h7:pk (dA ps q (.gen (dc r (fun b=>R b∨S b) (L++L') (es++es')))) k=some (.sl a w l es):=by
  have:∀(l:List Pc) (q k:Nat) (x:Pc),k≠q→pk (dA l q x) k=pk l k:=by
   intro l
   induction l with
   | nil=>intro q k x _; rfl
   | cons p l ih =>
    intro q k x hne;cases q with
    | zero =>
     cases k with
     | zero=>exact absurd rfl hne
     | succ k=>rfl
    | succ q =>
     cases k with
     | zero=>rfl
     | succ k=>rw[gP,fj,fj]; exact ih q k x fun e=>hne (by rw[e])
  rw[this ps q k _ hkq]; exact hp
 obtain⟨a',m',h3,h5⟩:=nW (n:=l) ht h6 h1 h7 (hm.rd h4 hr) (fun e he=>by rw[←hw]; exact(hm.get h0).1.1.width e he) (hm.get h0).1.1.gw (by rw[e0]; exact hl)
 have:bj E.P .append #[ty,ty2] [.slice a l l,.slice a0 l1 c0] m=some (.slice a' (l+l1) (l+l1),m'):=h3;rw[Go.Ab.fF (hf.mi ha) this];rw[e0] at h5 ⊢;exact hK (a',_) m' h5⟩
theorem Hp.dp {q:Nat} {R:Nat→Prop} {L:List α} {es:List (List Value)} (h:Hp m0 m ps) (hq:pk ps q=some (.gen (dc r R L es))):(dc r R L es).P m:=(h.get hq).1
theorem Hp.GL {R:Nat→Prop} {L:List α} {es:List (List Value)} (h:Hp m0 m ps) (ho:∀p ∈ ps,∀b,¬p.ow b) (hd:(dc r R L es).P m):Hp m0 m (.gen (dc r R L es)::ps) :=
 ⟨h.ext,fun p hp=>by
  rcases List.mem_cons.1 hp with rfl|hp
  ·exact⟨hd,fun _ b hb=>hb.elim⟩
  ·exact h.ok p hp,List.pairwise_cons.2 ⟨fun q hq=>⟨fun b h1 _=>(pQ h1).elim,fun b h1 _=>(ho q hq b h1).elim⟩,h.apart⟩⟩
theorem Hp.eU {a:Option Addr} {cap w l:Nat} {es:List (List Value)} (h:Hp m0 m ps) (ho:∀p ∈ ps,∀b,¬p.ow b) (hr:Rd m a cap w l es):Hp m0 m (.rd a cap w l es::ps) :=
 ⟨h.ext,fun p hp=>by
  rcases List.mem_cons.1 hp with rfl|hp
  ·exact hr
  ·exact h.ok p hp,List.pairwise_cons.2 ⟨fun q hq=>⟨fun b h1 _=>(vT h1).elim,fun b h1 _=>(ho q hq b h1).elim⟩,h.apart⟩⟩
theorem Hp.bR {l0:List Pc} {H:Nat→Prop} {a:Option Addr} {cap w l:Nat} {es:List (List Value)} (h:Hp m0 m (l0++[.gen (aJ H)])) (ho:∀p ∈ l0,∀b,¬p.ow b) (hr:Rd m a cap w l es) (ha:∀b,ff a=some b→¬H b):Hp m0 m (.rd a cap w l es::(l0++[.gen (aJ H)])) :=
 ⟨h.ext,fun p hp=>by
  rcases List.mem_cons.1 hp with rfl|hp
  ·exact hr
  ·exact h.ok p hp,List.pairwise_cons.2 ⟨fun q hq=>⟨fun b h1 _=>(vT h1).elim,fun b h1 h2=>by
   rcases List.mem_append.1 hq with hq|hq
   ·exact(ho q hq b h1).elim
   ·rw[List.mem_singleton.1 hq] at h1;rcases h1 with h1|h1
    ·cases h1.1
    ·exact ha b (BA h2) h1⟩,h.apart⟩⟩
theorem dU:∀p ∈ ([]:List Pc),∀b,¬p.ow b:=fun _ h=>by cases h
theorem jP {l:List Pc} {a:Option Addr} {cap w k:Nat} {es:List (List Value)} (h:∀p ∈ l,∀b,¬p.ow b):∀p ∈ (Pc.rd a cap w k es::l),∀b,¬p.ow b:=fun p hp=>by
 rcases List.mem_cons.1 hp with rfl|hp
 ·exact fun _=>vT
 ·exact h p hp
end
section
variable {α : Type} {E : Env} {n : Nat} {m0 : AMem} {fs : Fs} {ps : List Pc} {ops : Array Oper} {os : List Oper} {dr : Bool} {K : Tm → AMem → Prop} {r : Rep α}
end
section
variable {α : Type} {E : Env} {n : Nat} {m0 : AMem} {fs : Fs} {ps : List Pc} {ops : Array Oper} {os : List Oper} {dr : Bool} {K : Tm → AMem → Prop} {r : Rep α} {prs : List (Nat × Nat)} {ss : List Nk}
theorem Wo.dp {L:List α} {es:List (List Value)} {S:Nat→Prop} (h:Fz m0 ps r L es S) (k:∀R,Wo dr E n ops K os m0 fs (.gen (dc r R L es)::ps)):Wo dr E n ops K os m0 fs ps:=Wo.fA (ah.dp h) (k _)
theorem Iv {m:AMem} {q:Nat} {R:Nat→Prop} {L:List α} {es:List (List Value)} (hm:Hp m0 m ps) (hq:pk ps q=some (.gen (dc r R L es))):es.length=L.length:=(hm.get hq).1.1.1
theorem GY {lo k w l:Nat} {m:AMem} {p:Pc} {a:Option Addr} {es:List (List Value)} (hm:Hp m0 m ps) (hp:pk ps k=some p) (h:p = .sl a w l es∨(∃c,p = .rd a c w l es)∨∃b tg,p = .arr b w l es tg):l=es.length:=by
 have h0:=hm.get hp;rcases h with rfl|⟨c,rfl⟩|⟨b,tg,rfl⟩
 ·exact Pc.DE h0
 ·exact h0.1.symm
 ·exact h0.2.2.2.1.symm
theorem Wo.Ku {k q w l:Nat} {a:Option Addr} {p:Pc} {R:Nat→Prop} {L:List α} {es:List (List Value)} (hp:pk ps k=some p) (hp':p = .sl a w l es∨(∃c,p = .rd a c w l es)∨∃b tg,p = .arr b w l es tg) (hq:pk ps q=some (.gen (dc r R L es))) (h:l=L.length→Wo dr E n ops K os m0 fs ps):Wo dr E n ops K os m0 fs ps:=by
 have key:∀m,Hp m0 m ps→l=L.length:=fun m hm=>(GY (lo:=0) hm hp hp').trans (Iv hm hq);cases dr with
 | false=>exact fun t m hf hm=>h (key m hm) t m hf hm
 | true=>exact fun t m w hf hm hw=>h (key m hm) t m w hf hm hw
end
section
variable {m0 m : AMem} {ps qs : List Pc}
end
structure Orp {α:Type} (r:Rep α) where
 G:Type
 V:α→G→List Value
 N:α→G→List Pc
 len:∀x g,(V x g).length=r.w
 one:∀x g,(V x g).all lA=true
 own:∀x g,∀p ∈ N x g,p.bound=true∧∀b,p.any b→p.ow b
 frz:∀{m:AMem} {x:α} {g:G} {S:Nat→Prop},(∀p ∈ N x g,p.ok 0 m)→(∀p ∈ N x g,∀b,p.any b→S b)→∃g',V x g=r.V x g'∧r.A m S x g'
section
variable {α β : Type} {r : Rep α} {r2 : Rep β}
end
section
variable {α : Type} {r : Rep α} {o : Orp r} {E : Env} {n : Nat} {m0 m : AMem} {fs : Fs} {ps : List Pc}
end
section
variable {α : Type} {E : Env} {n : Nat} {m0 m : AMem} {fs : Fs} {ps : List Pc} {r : Rep α} {x : Operand} {ty elem : TypeId}
end
end Go.Ab.W
end
