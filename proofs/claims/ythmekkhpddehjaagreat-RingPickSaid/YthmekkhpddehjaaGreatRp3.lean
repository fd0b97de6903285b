/- A part of the proof. -/
import Derived.Test.YthmekkhpddehjaaGreatRp2
import Derived.ChangeStays
import Derived.ChangeShapes
import Derived.OpenShut
import Derived.RowKit
import Derived.Shelf.Spec.BitsCarry
import Derived.Test.YthmekkhpddehjaaGreatRows
import Derived.ProofKit
import Derived.Stop.Joined
import Derived.Shelf.SlIterI.Nil
import Derived.Shelf.SortM.Plain
import Derived.Shelf.SortM.SortNone
import Derived.Ground.GgzProg
import Derived.Ground.SlgmProg
import Derived.Test.YthmekkhpddehjaaGreatProg
section
namespace Go.Ab
open Go
structure Sem where
 run:Hand→Option Nat→Tm→AMem→(AExit→Tm→AMem→Bool)→Bool
noncomputable def gY (e:AExit) (a:Bool) (b:Nat→Bool) (c:Bool):Bool:=AExit.rec (motive:=fun _=>Bool) a b c e
noncomputable def Cj (S:Sem):Nat→Hand→Option Nat→Tm→AMem→(AExit→Tm→AMem→Bool)→Bool :=
 Nat.rec (fun _ _ _ _ _=>false) fun _ ih H ro t m K=>S.run H ro t m fun e t m=>gY e (ih H ro t m K) (fun id=>K (.exit id) t m) (K .ret t m)
noncomputable def oa (s:LoopState) (ready busy other:Bool):Bool:=LoopState.rec (motive:=fun _=>Bool) ready busy other other s
noncomputable def qa (ro:Option Nat) (m:AMem) (x:Bool):Bool:=Option.rec (motive:=fun _=>Bool) x (fun l=>oW m l fun _=>x) ro
noncomputable def D3 {α:Type} (o:Option α):Bool:=Option.rec (motive:=fun _=>Bool) true (fun _=>false) o
noncomputable def Gy (E:Env) (H:Hand) (f:Fn) (first captured:Array Value) (l:Nat) (m:AMem) (K:Value→AMem→Bool):Bool :=
 Fn.rec (motive:=fun _=>Bool) (fun g=>dB (D3 (E.cb g)) (jo first.toList [.func (.yield l) #[] #[]] fun ars=>jo ars captured.toList fun ars=>H.call g ars m K) false) (fun _=>false) (fun _ _=>false) (fun _ _ _ _=>false) (fun _=>false) f
noncomputable def iY (E:Env) (n:Nat) (fn:FuncId):Code→Sem
 | .skip=>⟨fun _ _ t m K=>K .normal t m⟩
 | .label _=>⟨fun _ _ t m K=>K .normal t m⟩
 | .exit id=>⟨fun _ _ t m K=>K (.exit id) t m⟩
 | .ret=>⟨fun _ _ t m K=>K .ret t m⟩
 | .seq a b=>⟨fun H ro t m K=>(iY E n fn a).run H ro t m fun e t m=>gY e ((iY E n fn b).run H ro t m K) (fun id=>K (.exit id) t m) (K .ret t m)⟩
 | .cond x a b=>⟨fun H ro t m K=>(cH E x).run t fun v=>pJ v (fun c=>dB c ((iY E n fn a).run H ro t m K) ((iY E n fn b).run H ro t m K)) false⟩
 | .block id a=>⟨fun H ro t m K=>(iY E n fn a).run H ro t m fun e t m=>gY e (K .normal t m) (fun id'=>dB (Nat.beq id' id) (K .normal t m) (K (.exit id') t m)) (K .ret t m)⟩
 | .scope a=>⟨fun H ro t m K=>(iY E n fn a).run H ro t m K⟩
 | .loop a=>⟨fun H ro t m K=>Cj (iY E n fn a) 1000000 H ro t m K⟩
 | .region _ ops draw=>⟨fun H _ t m K=>(FB E n ops draw).run H t m fun t m=>K .normal t m⟩
 | .rangeFunc f params assign body=>⟨fun H ro t m K=>qa ro m ((cH E f).run t fun fv=>BF fv fun g first captured =>
   cz m (.loop { state:=.ready,pending:=none,fn:=fn,tmps:=t,n:=n,params:=params,assign:=assign,body:=body}) fun l m1=>Gy E H g first captured l m1 fun _ m2 =>
    oW m2 l fun r=>ALoop.rec (motive:=fun _=>Bool) (fun state pending fn' tmps' n' params' assign' body'=>oa state
     (cu m2 l (.loop ⟨.exhausted,pending,fn',tmps',n',params',assign',body'⟩) fun m3=>Option.rec (motive:=fun _=>Bool) (K .normal t m3) (fun c=>Code.rec (motive:=fun _=>Bool) false (fun _ _ _=>false) (fun _ _ _ _=>false) (fun _ _ _ _ _=>false) (fun _ _ _=>false) (fun _ _=>false) (fun _ _ _ _ _ _=>false) (fun id=>K (.exit id) t m3) (fun _ _=>false) (fun _=>false) (fun _=>false) (K .ret t m3) (fun _=>false) c) pending)
     false
     (cu m2 l (.loop ⟨.exhausted,pending,fn',tmps',n',params',assign',body'⟩) fun m3=>Option.rec (motive:=fun _=>Bool) (K .normal t m3) (fun c=>Code.rec (motive:=fun _=>Bool) false (fun _ _ _=>false) (fun _ _ _ _=>false) (fun _ _ _ _ _=>false) (fun _ _ _=>false) (fun _ _=>false) (fun _ _ _ _ _ _=>false) (fun id=>K (.exit id) t m3) (fun _ _=>false) (fun _=>false) (fun _=>false) (K .ret t m3) (fun _=>false) c) pending)) r)⟩
 | .goto _=>⟨fun _ _ _ _ _=>false⟩
 | .refuse _=>⟨fun _ _ _ _ _=>false⟩
section
variable {E : Env} {n : Nat} {fn : FuncId} {ro : Option Nat} {Q : AExit → Tm → AMem → Prop} {t : Tm} {m : AMem}
def Gi (E:Env) (n:Nat) (fn:FuncId) (ro:Option Nat) (t:Tm) (l:Nat) (Q:AExit→Tm→AMem→Prop) (m2:AMem):Prop :=
 ∃r,m2.get l=some (.loop r)∧r.state≠.busy∧((r.pending=none∧Q .normal t (m2.set l (.loop { r with state:=.exhausted})))∨(∃c,r.pending=some c∧ba E n fn ro c Q t (m2.set l (.loop { r with state:=.exhausted}))))
theorem ba.rangeFunc {f:Operand} {params:Array Tmp} {assign body:Code} {g:FuncId} {first captured:Array Value} (hf:al E t f=some (.func (.func g) first captured)) (ha:ef E ⟨t,n,fn,ro⟩ m f=true)
  (h:aR E g (first.toList++[.func (.yield m.next) #[] #[]]++captured.toList) (m.alloc (.loop { state:=.ready,pending:=none,fn:=fn,tmps:=t,n:=n,params:=params,assign:=assign,body:=body})) (fun _ m2=>Gi E n fn ro t m.next Q m2)) :
  ba E n fn ro (.rangeFunc f params assign body) Q t m:=by
 obtain⟨v,m2,⟨k1,h1⟩,r,hr,hb,hq⟩:=h;rcases hq with⟨hp,hq⟩|⟨c,hp,e,t',m',⟨k2,h2⟩,hq⟩
 ·refine⟨_,_,_,aK (k:=k1) ?_,hq⟩;cases hs:r.state with
  | busy=>exact absurd hs hb
  | _=>simp only[step,hf,ha,h1,hr,hs,hp]
 ·refine⟨_,_,_,aK (k:=max k1 k2) ?_,hq⟩;obtain⟨state,pending,fn',tmps',n',params',assign',body'⟩:=r;have hp':pending=some c:=hp;subst hp';have h2':=eK (Nat.le_max_right k1 k2) h2;cases state with
  | busy=>exact absurd rfl hb
  | _=>simp only[step,hf,ha,eK (Nat.le_max_left k1 k2) h1,hr,h2']
def Ju (ro:Option Nat) (m:AMem):Bool :=
 match ro with
 | none=>true
 | some l=>match m.get l with
  | some (.loop _)=>true
  | _=>false
theorem nS {x:Bool} (h:qa ro m x=true):x=true∧Ju ro m=true:=by
 cases ro with
 | none=>exact⟨h,rfl⟩
 | some l =>
  obtain⟨r,h1,h2⟩:=gr h;exact⟨h2,by simp only[Ju,h1]⟩
theorem ec {e:AExit} {a:Bool} {b:Nat→Bool} {c:Bool} (h:gY e a b c=true):(e = .normal∧a=true)∨(∃id,e = .exit id∧b id=true)∨(e = .ret∧c=true):=by
 cases e with
 | normal=>exact .inl ⟨rfl,h⟩
 | exit id=>exact .inr (.inl ⟨id,rfl,h⟩)
 | ret=>exact .inr (.inr ⟨rfl,h⟩)
theorem vF {H:Hand} {a:Code} {S:Sem} (hS:∀{t:Tm} {m:AMem} {K:AExit→Tm→AMem→Bool},S.run H ro t m K=true→ba E n fn ro a (fun e t m=>K e t m=true) t m) {K:AExit→Tm→AMem→Bool} :
  ∀(k:Nat) {t:Tm} {m:AMem},Cj S k H ro t m K=true→kl E n fn ro a (fun e t m=>K e t m=true) t m
 | 0,t,m,h=>by cases h
 | k+1,t,m,h=>by
  have h':(S.run H ro t m fun e t m=>gY e (Cj S k H ro t m K) (fun id=>K (.exit id) t m) (K .ret t m))=true:=h;refine .round ((hS h').mono fun e t m h=>?_);rcases ec h with⟨rfl,h⟩|⟨id,rfl,h⟩|⟨rfl,h⟩
  ·exact vF hS k h
  ·exact h
  ·exact h
theorem xB {c:Code} {a:Nat→Bool} {b:Bool} (h:Code.rec (motive:=fun _=>Bool) false (fun _ _ _=>false) (fun _ _ _ _=>false) (fun _ _ _ _ _=>false) (fun _ _ _=>false) (fun _ _=>false) (fun _ _ _ _ _ _=>false) a (fun _ _=>false) (fun _=>false) (fun _=>false) b (fun _=>false) c=true) :
  (∃id,c = .exit id∧a id=true)∨(c = .ret∧b=true):=by
 cases c<;>first|exact .inl ⟨_,rfl,h⟩|exact .inr ⟨rfl,h⟩|cases h
theorem pF {H:Hand} (hH:CX E H):∀(c:Code) {ro:Option Nat} {t:Tm} {m:AMem} {K:AExit→Tm→AMem→Bool},(iY E n fn c).run H ro t m K=true→ba E n fn ro c (fun e t m=>K e t m=true) t m:=by
 intro c
 induction c with
 | skip=>intro ro t m K h; exact .skip h
 | label l=>intro ro t m K h; exact .label h
 | exit id=>intro ro t m K h; exact .exit h
 | ret=>intro ro t m K h; exact .ret h
 | seq a b iha ihb =>
  intro ro t m K h;refine .seq ((iha (K:=fun e t m=>gY e ((iY E n fn b).run H ro t m K) (fun id=>K (.exit id) t m) (K .ret t m)) h).mono fun e t m h=>?_);rcases ec h with⟨rfl,h⟩|⟨id,rfl,h⟩|⟨rfl,h⟩
  ·exact ihb h
  ·exact h
  ·exact h
 | cond x a b iha ihb =>
  intro ro t m K h;obtain⟨v,h1,h⟩:=aO (x:=x) h;obtain⟨c,rfl,h⟩:=iA h;refine .cond h1 (fun hc=>?_) (fun hc=>?_)
  ·subst hc; exact iha h
  ·subst hc; exact ihb h
 | block id a ih =>
  intro ro t m K h;refine .block ((ih (K:=fun e t m=>gY e (K .normal t m) (fun id'=>dB (Nat.beq id' id) (K .normal t m) (K (.exit id') t m)) (K .ret t m)) h).mono fun e t m h=>?_);rcases ec h with⟨rfl,h⟩|⟨id',rfl,h⟩|⟨rfl,h⟩
  ·exact h
  ·simp only[dK];rcases bU h with⟨h1,h⟩|⟨h1,h⟩
   ·rw[if_pos (Nat.eq_of_beq_eq_true h1)]; exact h
   ·rw[if_neg (Nat.ne_of_beq_eq_false h1)]; exact h
  ·exact h
 | scope a ih=>intro ro t m K h; exact .scope (ih h)
 | loop a ih=>intro ro t m K h; exact .loop (vF (fun h=>ih h) 1000000 h)
 | region id ops draw=>intro ro t m K h; exact De hH (fun t m h=>h) h
 | rangeFunc f params assign body iha ihb =>
  intro ro t m K h;obtain⟨h,hro⟩:=nS h;obtain⟨fv,h1,h⟩:=aO (x:=f) h;have g:=py h; clear h; obtain⟨g,first,captured,rfl,h⟩:=g
  rw[bK] at h;cases g with
  | func g =>
   have g':=aV h; clear h; obtain⟨hp,h⟩:=g';rw[eA,eA] at h;have hp':(E.cb g).isNone=true:=by cases hg:E.cb g with
    | none=>rfl
    | some p=>rw[hg] at hp; cases hp
   have hro':ef E ⟨t,n,fn,ro⟩ m f=true:=by
    unfold ef;simp only[h1,hp',Bool.true_and];exact hro
   refine .rangeFunc h1 hro' ((hH.1 h).mono fun v m2 h=>?_);obtain⟨r,hr,h⟩:=gr h;refine⟨r,hr,?_⟩;obtain⟨state,pending,fn',tmps',n',params',assign',body'⟩:=r;have key:∀{x:Bool},(x=cu m2 m.next (.loop ⟨.exhausted,pending,fn',tmps',n',params',assign',body'⟩) fun m3=>Option.rec (motive:=fun _=>Bool) (K .normal t m3) (fun c=>Code.rec (motive:=fun _=>Bool) false (fun _ _ _=>false) (fun _ _ _ _=>false) (fun _ _ _ _ _=>false) (fun _ _ _=>false) (fun _ _=>false) (fun _ _ _ _ _ _=>false) (fun id=>K (.exit id) t m3) (fun _ _=>false) (fun _=>false) (fun _=>false) (K .ret t m3) (fun _=>false) c) pending)→x=true →
     ((pending=none∧K .normal t (m2.set m.next (.loop ⟨.exhausted,pending,fn',tmps',n',params',assign',body'⟩))=true)∨(∃c,pending=some c∧ba E n fn ro c (fun e t m=>K e t m=true) t (m2.set m.next (.loop ⟨.exhausted,pending,fn',tmps',n',params',assign',body'⟩)))):=by
    intro x hx hx';rw[hx,cj] at hx';cases pending with
    | none=>exact .inl ⟨rfl,hx'⟩
    | some c =>
     rcases xB hx' with⟨id,rfl,h⟩|⟨rfl,h⟩
     ·exact .inr ⟨_,rfl,.exit h⟩
     ·exact .inr ⟨_,rfl,.ret h⟩
   cases state with
   | busy=>cases h
   | ready=>exact⟨(by intro e; cases e),key rfl h⟩
   | done=>exact⟨(by intro e; cases e),key rfl h⟩
   | exhausted=>exact⟨(by intro e; cases e),key rfl h⟩
  | _=>cases h
 | goto l=>intro ro t m K h; cases h
 | refuse w=>intro ro t m K h; cases h
end
structure ResSem where
 run:Tm→AMem→(List Value→Bool)→Bool
noncomputable def AG (E:Env):List ResultVar→ResSem
 | []=>⟨fun _ _ k=>k []⟩
 | .tmp i::rs=>⟨fun t m k=>(vD i).run t fun v=>(AG E rs).run t m fun vs=>k (v::vs)⟩
 | .cell a ty::rs=>⟨fun t m k=>(vD a).run t fun p=>(yI E.P ty).run p m fun v=>(AG E rs).run t m fun vs=>k (v::vs)⟩
theorem nY {E:Env} {t:Tm} {m:AMem}:∀{rs:List ResultVar} {k:List Value→Bool},(AG E rs).run t m k=true→∃vs,bF E t m rs=some vs∧k vs=true
 | [],k,h=>⟨[],rfl,h⟩
 | .tmp i::rs,k,h=>by
  have h':=oS (d:=i) h;obtain⟨vs,h1,h2⟩:=nY h';exact⟨_,by simp only[bF,h1,Option.map_some],h2⟩
 | .cell a ty::rs,k,h=>by
  have h':=oS (d:=a) h;obtain⟨v,h1,h'⟩:=tZ h';obtain⟨vs,h2,h3⟩:=nY h';exact⟨_,by simp only[bF,h1,h2],h3⟩
noncomputable def Fm (vs:List Value) (k:Value→Bool):Bool :=
 List.rec (motive:=fun _=>Bool) (k (.tuple #[])) (fun v rest _=>List.rec (motive:=fun _=>Bool) (k v) (fun w rest' _=>k (.tuple ⟨v::w::rest'⟩)) rest) vs
theorem yn (vs:List Value) (k:Value→Bool):Fm vs k=k (fY vs):=by
 match vs with
 | []=>rfl
 | [v]=>rfl
 | v::w::rest=>rfl
noncomputable def wk (args:List Value):Nat→Tm→(Tm→Bool)→Bool :=
 List.rec (motive:=fun _=>Nat→Tm→(Tm→Bool)→Bool) (fun _ t k=>k t) (fun v _ ih i t k=>(yD i).run t v fun t=>fN (Nat.succ i) fun i=>ih i t k) args
theorem q7:∀(args:List Value) (i:Nat) (t:Tm) (k:Tm→Bool),i+args.length≤512→wk args i t k=k (Trie.ofList args i t)
 | [],i,t,k,_=>rfl
 | v::vs,i,t,k,h=>by
  have hi:i<512:=by simp at h; omega
  show(yD i).run t v (fun t=>fN (Nat.succ i) fun i=>wk vs i t k)=_
  rw[tQ i hi,cB,q7 vs (i+1) _ k (by simp at h; omega)]
  rfl
structure FunSem where
 run:Hand→List Value→AMem→(Value→AMem→Bool)→Bool
structure PSem where
 run:List Value→AMem→(Value→AMem→Bool)→Bool
def H4 (E:Env) (F:FuncId→Option PSem):Prop:=∀{f:FuncId} {S:PSem},F f=some S→∃p,E.cb f=some p∧∀{args:List Value} {m:AMem} {K:Value→AMem→Bool},S.run args m K=true→∃v m',p.run args m=some (v,m')∧K v m'=true
noncomputable def yz (E:Env) (f:FuncId):FunSem :=
 match E.P.funcs[f]? with
 | some fn=>match fn.body,Nat.ble fn.ntmps 512 with
  | some c,true=>⟨fun H args m K=>dB (Nat.ble args.length fn.ntmps) (wk args 0 .nil fun t=>(iY E fn.ntmps f c).run H none t m fun e t m=>gY e ((AG E fn.results.toList).run t m fun vs=>Fm vs fun v=>K v m) (fun _=>false) ((AG E fn.results.toList).run t m fun vs=>Fm vs fun v=>K v m)) false⟩
  | _,_=>⟨fun _ _ _ _=>false⟩
 | none=>⟨fun _ _ _ _=>false⟩
noncomputable def GI (E:Env) (F:FuncId→Option PSem) (f:FuncId):FunSem :=
 match F f with
 | some S=>⟨fun _ args m K=>S.run args m K⟩
 | none=>match E.cb f with
  | some p=>⟨fun H args m K=>Option.rec (motive:=fun _=>Bool) ((yz E f).run H args m K) (fun r=>Prod.rec (motive:=fun _=>Bool) (fun v m'=>fV v fun v=>fM m' fun m'=>K v m') r) (p.run args m)⟩
  | none=>yz E f
theorem aR.cb {E:Env} {f:FuncId} {p:Prim} {args:List Value} {m m':AMem} {v:Value} {R:Value→AMem→Prop} (hp:E.cb f=some p) (h:p.run args m=some (v,m')) (hR:R v m'):aR E f args m R:=by
 have hpa:kj E f args m=some (v,m'):=by
  unfold kj;rw[hp];exact h
 exact⟨v,m',aK (k:=0) (by simp only[step,hpa]),hR⟩
theorem tS {E:Env} {H:Hand} (hH:CX E H) {f:FuncId} {args:List Value} {m:AMem} (hpa:kj E f args m=none) {K:Value→AMem→Bool} (h:(yz E f).run H args m K=true):aR E f args m fun v m'=>K v m'=true:=by
 unfold yz at h
 split at h
 ·rename_i F hf
  split at h
  ·rename_i c hb hn;have g:=aV h; clear h; obtain⟨h1,h⟩:=g;have hle:=Nat.le_of_ble_eq_true h1;have hn':=Nat.le_of_ble_eq_true hn;rw[q7 args 0 _ _ (by omega)] at h
   have hmax:max args.length F.ntmps=F.ntmps:=Nat.max_eq_right hle;refine .Gd hpa hf hb ?_;rw[hmax];refine(pF hH c h).mono fun e t m h=>?_;rcases ec h with⟨rfl,h⟩|⟨id,rfl,h⟩|⟨rfl,h⟩
   ·obtain⟨vs,h2,h⟩:=nY h;rw[yn] at h;exact⟨fun id e=>(by cases e),vs,h2,h⟩
   ·cases h
   ·obtain⟨vs,h2,h⟩:=nY h;rw[yn] at h;exact⟨fun id e=>(by cases e),vs,h2,h⟩
  ·cases h
 ·cases h
theorem D4 {E:Env} {F:FuncId→Option PSem} (hF:H4 E F) {H:Hand} (hH:CX E H) {f:FuncId} {args:List Value} {m:AMem} {K:Value→AMem→Bool} (h:(GI E F f).run H args m K=true):aR E f args m fun v m'=>K v m'=true:=by
 unfold GI at h
 split at h
 ·rename_i S hS;obtain⟨p,hp,hS'⟩:=hF hS;obtain⟨v,m',h1,h2⟩:=hS' h;exact .cb hp h1 h2
 split at h
 ·rename_i p hp;simp only at h;cases he:p.run args m with
  | none =>
   rw[he] at h;exact tS hH (by unfold kj; rw[hp]; exact he) h
  | some r =>
   obtain⟨v,m'⟩:=r;rw[he] at h;simp only[yB,Ba] at h;exact .cb hp he h
 ·rename_i hp;exact tS hH (by unfold kj; rw[hp]; rfl) h
noncomputable def iE (n:Nat):List Tmp→List Value→Tm→(Tm→Bool)→Bool
 | p::ps,v::vs,t,k=>(k7 n (some p)).run t v fun t=>iE n ps vs t k
 | _,_,t,k=>k t
theorem lL {n:Nat}:∀{ps:List Tmp} {vs:List Value} {t:Tm} {k:Tm→Bool},iE n ps vs t k=true→∃t',dg n t ps vs=some t'∧k t'=true
 | p::ps,v::vs,t,k,h=>by
  have h':((k7 n (some p)).run t v fun t=>iE n ps vs t k)=true:=by rw[iE] at h; exact h
  obtain⟨t',hp,h2⟩:=gD h';obtain⟨t'',h3,h4⟩:=lL h2;refine⟨t'',?_,h4⟩;unfold dg;unfold fX at hp;simp only at hp
  split at hp
  ·rename_i hb; cases hp; exact h3
  ·cases hp
 | [],vs,t,k,h=>⟨t,by unfold dg; rfl,by rw[iE] at h; exact h; intros; simp_all⟩
 | p::ps,[],t,k,h=>⟨t,by unfold dg; rfl,by rw[iE] at h; exact h; intros; simp_all⟩
noncomputable def Bh (E:Env) (H:Hand) (l:Nat) (args:List Value) (m:AMem) (K:Value→AMem→Bool):Bool :=
 oW m l fun r=>ALoop.rec (motive:=fun _=>Bool) (fun state _ fn tmps n params assign body=>oa state
  (dB (Nat.beq args.length params.size) (iE n params.toList args tmps fun t0=>(iY E n fn assign).run H (some l) t0 m fun e t1 m1=>gY e
   (oW m1 l fun r1=>ALoop.rec (motive:=fun _=>Bool) (fun state1 pending1 fn1 tmps1 n1 params1 assign1 body1=>oa state1
    (cu m1 l (.loop ⟨.busy,pending1,fn1,tmps1,n1,params1,assign1,body1⟩) fun m1'=>(iY E n fn body).run H (some l) t1 m1' fun e _ m2=>oW m2 l fun r2=>ALoop.rec (motive:=fun _=>Bool) (fun _ _ fn2 tmps2 n2 params2 assign2 body2 =>
     gY e (cu m2 l (.loop ⟨.ready,none,fn2,tmps2,n2,params2,assign2,body2⟩) fun m3=>K (.bool true) m3)
      (fun id=>cu m2 l (.loop ⟨.done,some (.exit id),fn2,tmps2,n2,params2,assign2,body2⟩) fun m3=>K (.bool false) m3)
      (cu m2 l (.loop ⟨.done,some .ret,fn2,tmps2,n2,params2,assign2,body2⟩) fun m3=>K (.bool false) m3)) r2)
    false false) r1)
   (fun _=>false) false) false)
  false false) r
theorem kB {s:LoopState} {a:Bool} (h:oa s a false false=true):s = .ready∧a=true:=by
 cases s<;>first|exact⟨rfl,h⟩|cases h
theorem Ac {E:Env} {H:Hand} (hH:CX E H) {l:Nat} {args:List Value} {m:AMem} {K:Value→AMem→Bool} (h:Bh E H l args m K=true):oG E l args m fun v m'=>K v m'=true:=by
 obtain⟨r,hr,h⟩:=gr h;obtain⟨state,pending,fn,tmps,n,params,assign,body⟩:=r;have g:=kB h; clear h; obtain⟨rfl,h⟩:=g;obtain⟨h1,h⟩:=aV h;obtain⟨t0,h2,h⟩:=lL h;obtain⟨e,t1,m1,⟨k1,h3⟩,h⟩:=pF hH assign h;rcases ec h with⟨rfl,h⟩|⟨id,rfl,h⟩|⟨rfl,h⟩
 ·obtain⟨r1,hr1,h⟩:=gr h;obtain⟨state1,pending1,fn1,tmps1,n1,params1,assign1,body1⟩:=r1;have g:=kB h; clear h; obtain⟨rfl,h⟩:=g;rw[cj] at h;obtain⟨e,t2,m2,⟨k2,h4⟩,h⟩:=pF hH body h;obtain⟨r2,hr2,h⟩:=gr h;obtain⟨state2,pending2,fn2,tmps2,n2,params2,assign2,body2⟩:=r2;have hlen:¬args.length≠params.size:=by have:=Nat.eq_of_beq_eq_true h1; omega
  have hb:step E (run E (max k1 k2)) (.round l args m)=some (.val (.bool (er e).isNone) (m2.set l (.loop ⟨if (er e).isNone then .ready else .done,er e,fn2,tmps2,n2,params2,assign2,body2⟩))):=by
   simp only[step,hr,if_neg hlen,h2,eK (Nat.le_max_left k1 k2) h3,hr1,eK (Nat.le_max_right k1 k2) h4,hr2]
  rcases ec h with⟨rfl,hz⟩|⟨id,rfl,hz⟩|⟨rfl,hz⟩
  ·rw[cj] at hz;exact⟨_,_,aK (k:=max k1 k2) hb,hz⟩
  ·rw[cj] at hz;exact⟨_,_,aK (k:=max k1 k2) hb,hz⟩
  ·rw[cj] at hz;exact⟨_,_,aK (k:=max k1 k2) hb,hz⟩
 ·cases h
 ·cases h
noncomputable def hand (E:Env) (F:FuncId→Option PSem):Nat→Hand :=
 Nat.rec ⟨fun _ _ _ _=>false,fun _ _ _ _=>false⟩ fun _ ih=>⟨fun f args m K=>(GI E F f).run ih args m K,fun l args m K=>Bh E ih l args m K⟩
theorem rK {E:Env} {F:FuncId→Option PSem} (hF:H4 E F):∀n,CX E (hand E F n)
 | 0=>⟨fun h=>(by cases h),fun h=>(by cases h)⟩
 | n+1=>⟨fun h=>D4 hF (rK hF n) h,fun h=>Ac (rK hF n) h⟩
theorem rU {E:Env} {F:FuncId→Option PSem} (hF:H4 E F) {n:Nat} {f:FuncId} {args:List Value} {m:AMem} {K:Value→AMem→Bool} (h:(hand E F n).call f args m K=true):∃fuel v m',run E fuel (.call f args m)=some (.val v m')∧K v m'=true:=by
 obtain⟨v,m',⟨k,h1⟩,h2⟩:=(rK hF n).1 h;exact⟨k,v,m',h1,h2⟩
noncomputable def HE (n:Nat) (v:Value) (m:AMem):Bool:=pJ v (fun b=>dB b (Nat.ble n m.wl) false) false
theorem tz {E:Env} {F:FuncId→Option PSem} (hF:H4 E F) {n g:Nat} {f:FuncId} {args:List Value} {m:AMem} (h:(hand E F n).call f args m (HE g)=true):∃fuel m',run E fuel (.call f args m)=some (.val (.bool true) m')∧g≤m'.wl:=by
 obtain⟨k,v,m',h1,h2⟩:=rU hF h;obtain⟨b,rfl,h2⟩:=iA h2;obtain⟨rfl,h2⟩:=aV h2;exact⟨k,m',h1,Nat.le_of_ble_eq_true h2⟩
section
variable {E : Env} {n : Nat} {t : Tm} {m : AMem} {K : Tm → AMem → Prop} {ops : Array Oper} {os : List Oper} {ty : TypeId} {p : String} {af : Array Edge} {d : Nat}
variable {L : Tm → AMem → List Note → Prop} {ns : List Note}
variable {a b r v : Value} {x y : Operand} {e e' : TypeId}
theorem GO (h:al E t x=some v) (K':Value→AMem→Prop):bm E t m (.move x) K'=K' v m:=by rw[Dm,h]; rfl
theorem CR (h:al E t x=some v) (K':Value→AMem→Prop):bm E t m (.assign x) K'=K' v m:=by rw[zu,h]; rfl
theorem Eo {c:Operand} (hc:al E t c=some (.bool true)) (h:al E t x=some v) (K':Value→AMem→Prop):bm E t m (.pick c x y) K'=K' v m:=by rw[ze,hc,vP,h]; rfl
theorem DO {c:Operand} (hc:al E t c=some (.bool false)) (h:al E t y=some v) (K':Value→AMem→Prop):bm E t m (.pick c x y) K'=K' v m:=by rw[ze,hc,tW,h]; rfl
theorem HN (h:al E t x=some v) (K':Value→AMem→Prop):bm E t m (.box e x) K'=K' (ptr m.next 0) (m.alloc (.cells v.cells.toList .own)):=by rw[Gz,h]; rfl
theorem Ih {op:BinOp} (h:al E t x=some a) (h':al E t y=some b) (hr:bV op e E.P a b=some r) (K':Value→AMem→Prop):bm E t m (.binOp op e x y e') K'=K' r m:=by rw[Bc,h,db,h',db,hr]; rfl
theorem ig {op:UnOp} (h:al E t x=some a) (hr:yV op a=some r) (K':Value→AMem→Prop):bm E t m (.unOp op e x) K'=K' r m:=by rw[Ef,h,db,hr]; rfl
theorem Ge (h:al E t x=some a) (hr:e8 E.P e e' a=some r) (K':Value→AMem→Prop):bm E t m (.convert e e' x) K'=K' r m:=by rw[wI,h,db,hr]; rfl
theorem F5 (h:al E t x=some a) (hr:cO E.P e a m=some r) (K':Value→AMem→Prop):bm E t m (.load e x) K'=K' r m:=by rw[DV,h,db,hr]; rfl
theorem DD {m':AMem} (h:al E t x=some a) (h':al E t y=some b) (hr:dS E.P e a b m=some m') (K':Value→AMem→Prop):bm E t m (.store e x y) K'=K' undef m':=by rw[Cf,h,db,h',db,hr]; rfl
theorem u4 {f:Nat} (h:al E t x=some a) (hr:aM E.P e a f=some r) (K':Value→AMem→Prop):bm E t m (.fieldAddr e x f) K'=K' r m:=by rw[rC,h,db,hr]; rfl
theorem vi (h:al E t x=some a) (h':al E t y=some b) (hr:bl E.P e a b=some r) (K':Value→AMem→Prop):bm E t m (.indexAddr e x y) K'=K' r m:=by rw[s7,h,db,h',db,hr]; rfl
theorem DN (h:al E t x=some a) (h':al E t y=some b) (hr:eo E.P e a b=some r) (K':Value→AMem→Prop):bm E t m (.index e x y) K'=K' r m:=by rw[BB,h,db,h',db,hr]; rfl
theorem zJ {i:Nat} {vs:Array Value} (h:al E t x=some (.tuple vs)) (hr:vs[i]? = some r) (K':Value→AMem→Prop):bm E t m (.extract x i) K'=K' r m:=by rw[xC h,hr]; rfl
theorem EG {z:Value} (hz:bO E.P e=some z) (hp:aZ z=true) (K':Value→AMem→Prop):bm E t m (.alloc e) K'=K' (ptr m.next 0) (m.alloc (.cells z.cells.toList .own)):=by
 rw[BR]; simp only[ct,hz,hp,if_true]; rfl
theorem jF {bi:Builtin} {ars:Array Operand} {ts:Array TypeId} {vs:List Value} {m':AMem} (h:aU E t ars.toList=some vs) (hr:aQ E.P bi ts vs m=some (r,m')) (K':Value→AMem→Prop):bm E t m (.call ⟨.builtin bi,ars,ts⟩) K'=K' r m':=by rw[wV,h,db,hr]; rfl
theorem EP {op:Op} {m':AMem} (hc:mT op=none) (hr:ct E t m op=some (r,m')) (K':Value→AMem→Prop):bm E t m op K'=K' r m':=by
 unfold bm; rw[hc]; simp only[hr]; rfl
theorem Jg {ops:Array Oper} {t:Tm} {dst:Option Tmp} {o:Op} {ty:TypeId} {p:String} {a:Array Edge} {j d:Nat} {b c:Bool} (hd:(ops[j]?).bind (·.dst)=some d) (h:t.at d = .bool c):aS ops ⟨dst,o,ty,p,a,some (j,b)⟩ t=(c == b):=by
 rw[BO]; unfold cg; rw[hd]; simp only[yG h]
end
section
variable {E : Env} {n : Nat} {fn : FuncId} {ro : Option Nat} {Q : AExit → Tm → AMem → Prop} {t : Tm} {m : AMem} {w : Nat}
def ic (E:Env) (n:Nat) (ops:Array Oper) (K:Tm→AMem→Prop):List Oper→Tm→AMem→Nat→Prop
 | [],t,m,w=>K t (m.ww w)
 | o::os,t,m,w =>
  if aS ops o t then(∀b,aL E t o.op=some b→b<m.next)∧bm E t (m.ww m.next) o.op fun v m'=>BS (fX n t o.dst v) fun t'=>ic E n ops K os t' m' (min w m'.wl)
  else BS (fX n t o.dst undef) fun t'=>ic E n ops K os t' m w
theorem qZ {r:Option Nat} {x y:Nat} {z:Option Nat} {u:Nat→Bool} (h:∀b,r=some b→b<y):cy { read:=r,wl:=x,next:=y,wrote:=z,kept:=u}=true:=by
 cases r with
 | none=>rfl
 | some b =>
  have:=h b rfl
  show Nat.blt b y=true
  rw[Nat.blt_eq]; exact this
theorem kG {ops:Array Oper} {K:Tm→AMem→Prop}:∀{os:List Oper} {t:Tm} {m:AMem} {w:Nat} {ns:List Note},ic E n ops K os t m w→ns.all cy=true→c9 E n ops (fun t m ns=>ns.all cy=true∧K t m) os t (m.ww w) ns
 | [],t,m,w,ns,h,hn=>⟨by simpa using hn,h⟩
 | o::os,t,m,w,ns,h,hn=>by
  simp only[ic] at h;simp only[c9]
  split at h
  ·rename_i hw;rw[if_pos hw];obtain⟨h1,h2⟩:=h;refine h2.A.mono fun v m' hv=>?_;obtain⟨t',hp,h3⟩:=hv.A;refine⟨t',hp,?_⟩;have:=kG (ns:={ read:=aL E t o.op,wl:=m'.wl,next:=m.next,wrote:=de E t o.op,kept:=fD m m'}::ns) h3 (by rw[List.all_cons,hn,Bool.and_true]; exact qZ h1)
   exact this
  ·rename_i hw;rw[if_neg hw];obtain⟨t',hp,h2⟩:=h.A;exact⟨t',hp,kG h2 (by rw[List.all_cons,hn]; rfl)⟩
theorem ba.Hx {id:Nat} {ops:Array Oper} (hp:cD ops=some []) (h:∀K:Tm→AMem→Prop,(∀t m,Q .normal t m→K t m)→ic E n ops K ops.toList t m m.wl):ba E n fn ro (.region id ops true) Q t m:=by
 refine .draw hp ?_;have h1:=kG (ns:=[]) (h (fun t m=>Q .normal t m) fun _ _ h=>h) rfl;have mono:∀{os:List Oper} {t:Tm} {m:AMem} {ns:List Note},c9 E n ops (fun t m ns=>ns.all cy=true∧Q .normal t m) os t m ns→c9 E n ops (fun t m ns=>(([]:List (Nat × Nat)).all (cG ns ops) && ns.all cy)=true∧Q .normal t m) os t m ns:=by
  intro os t m ns h
  simpa using h
 exact mono h1
variable {K : Tm → AMem → Prop} {ops : Array Oper} {os : List Oper} {ty : TypeId} {p : String} {af : Array Edge} {d : Nat} {g : Option (Nat × Bool)} {v a b r : Value} {x y : Operand} {e : TypeId}
theorem Ext.ww {m M:AMem} (h:Ext m M) {w:Nat} (hw:min m.wl m.next≤w):Ext m (M.ww w):=⟨h.next,h.same,hw⟩
theorem Dg {xs:List Operand} {vs:List Value} (h:al E t x=some v) (hs:aU E t xs=some vs):aU E t (x::xs)=some (v::vs):=by simp only[aU,h,hs]
end
end Go.Ab
end

section
namespace Go.Ab.W
open Go Go.Ab
abbrev Fs:=List (Nat × Value)
def lk:Fs→Nat→Option Value
 | [],_=>none
 | p::l,i=>match Nat.beq p.1 i with
  | true=>some p.2
  | false=>lk l i
def Fr (t:Tm) (fs:Fs):Prop:=∀i v,lk fs i=some v→t.at i=v
theorem Fr.nil (t:Tm):Fr t []:=fun i v h=>by cases h
theorem Fr.set {t:Tm} {fs:Fs} {d:Nat} {v:Value} (h:Fr t fs):Fr (Trie.set t d v) ((d,v)::fs):=by
 intro i x hx;unfold lk at hx;rw[at_set]
 split at hx
 ·rename_i e;have:d=i:=Nat.eq_of_beq_eq_true e;rw[if_pos this.symm]; exact Option.some.inj hx
 ·rename_i e;have:d≠i:=Nat.ne_of_beq_eq_false e;rw[if_neg (Ne.symm this)]; exact h i x hx
def sub (fs:Fs):Fs→Prop
 | []=>True
 | p::l=>lk fs p.1=some p.2∧sub fs l
theorem Fr.sub {t:Tm} {fs:Fs}:∀{fs':Fs},Fr t fs→sub fs fs'→Fr t fs'
 | [],_,_=>Fr.nil t
 | p::l,h,hs=>by
  intro i v hv;unfold lk at hv
  split at hv
  ·rename_i e;have:p.1=i:=Nat.eq_of_beq_eq_true e;subst this;cases hv;exact h _ _ hs.1
  ·exact Fr.sub h hs.2 i v hv
def ev (E:Env) (fs:Fs):Operand→Option Value
 | .tmp i=>lk fs i
 | .const v=>match aZ v with
  | true=>some v
  | false=>none
 | .global g=>match Nat.blt g E.glob with
  | true=>some (ptr g 0)
  | false=>none
 | .func f=>some (.func (.func f) #[] #[])
def kW (E:Env) (fs:Fs):List Operand→Option (List Value)
 | []=>some []
 | x::xs=>match ev E fs x with
  | some v=>match kW E fs xs with
   | some vs=>some (v::vs)
   | none=>none
  | none=>none
def CW (E:Env) (fs:Fs):List (Nat × Operand)→Option (List (Nat × Value))
 | []=>some []
 | x::xs=>match ev E fs x.2 with
  | some v=>match CW E fs xs with
   | some vs=>some ((x.1,v)::vs)
   | none=>none
  | none=>none
section
variable {E : Env} {t : Tm} {fs : Fs}
theorem Fr.ev (h:Fr t fs):∀{x:Operand} {v:Value},ev E fs x=some v→al E t x=some v
 | .tmp i,v,e=>by show some (t.at i)=some v; rw[h i v e]
 | .const c,v,e=>by
  simp only[Go.Ab.W.ev] at e
  split at e
  ·rename_i hp; cases e; simp only[al]; rw[if_pos hp]
  ·cases e
 | .global g,v,e=>by
  simp only[Go.Ab.W.ev] at e
  split at e
  ·rename_i hp; cases e; simp only[al]; rw[if_pos (by rwa[Nat.blt_eq] at hp)]
  ·cases e
 | .func f,v,e=>by simp only[Go.Ab.W.ev] at e; exact e
theorem Fr.kW (h:Fr t fs):∀{xs:List Operand} {vs:List Value},kW E fs xs=some vs→aU E t xs=some vs
 | [],vs,e=>by simp only[Go.Ab.W.kW] at e; exact e
 | x::xs,vs,e=>by
  simp only[Go.Ab.W.kW] at e
  split at e
  ·rename_i v hv
   split at e
   ·rename_i ws hw;cases e;exact Dg (h.ev hv) (Fr.kW h hw)
   ·cases e
  ·cases e
theorem Fr.CW (h:Fr t fs):∀{xs:List (Nat × Operand)} {vs:List (Nat × Value)},CW E fs xs=some vs→cA E t xs=some vs
 | [],vs,e=>by simp only[Go.Ab.W.CW] at e; exact e
 | x::xs,vs,e=>by
  simp only[Go.Ab.W.CW] at e
  split at e
  ·rename_i v hv
   split at e
   ·rename_i ws hw;cases e;obtain⟨i,y⟩:=x;unfold cA;rw[h.ev hv,Fr.CW h hw]
   ·cases e
  ·cases e
end
def qo (m:AMem) (b o w:Nat) (es:List (List Value)):Prop :=
 b<m.next∧∃all tg,m.get b=some (.cells all tg)∧(∀sz,tg = .more sz→sz=w)∧∀i e,es[i]? = some e→(all.drop (o+i*w)).take w=e∧e.length=w
def Az:Option Addr→Option Nat
 | some a=>some a.block
 | none=>none
def Rd (m:AMem) (a:Option Addr) (cap w n:Nat) (es:List (List Value)):Prop :=
 es.length=n∧n≤cap∧((a=none∧n=0)∨(∃b sp,a=some ⟨b,0,some sp⟩∧n=0∧cap=0∧b<m.next)∨∃b o,a=some ⟨b,o,none⟩∧qo m b o w es)
theorem Rd.lt {m:AMem} {a:Option Addr} {cap w n:Nat} {es:List (List Value)} (h:Rd m a cap w n es) {b:Nat} (hb:Az a=some b):b<m.next:=by
 rcases h.2.2 with⟨rfl,_⟩|⟨b',sp,rfl,_,_,h4⟩|⟨b',o,rfl,h4⟩
 ·cases hb
 ·cases hb; exact h4
 ·cases hb; exact h4.1
def Own (lo:Nat) (m:AMem) (b w n:Nat) (es:List (List Value)) (tg:Tag):Prop :=
 lo≤b∧b<m.next∧m.get b=some (.cells es.flatten tg)∧es.length=n∧(∀e ∈ es,e.length=w)∧(tg = .own∨tg = .more w)∧0<w
structure GPc where
 ow:Nat→Prop
 rd:Nat→Prop
 P:AMem→Prop
 st:∀m m':AMem,P m→m.next≤m'.next→(∀b,ow b∨rd b→b<m.next→m'.get b=m.get b)→P m'
 lt:∀(m:AMem) b,P m→ow b∨rd b→b<m.next
 fr:Bool:=false
inductive Pc
 | obj (b:Nat) (o:AObj)
 | arr (b w n:Nat) (es:List (List Value)) (tg:Tag)
 | sl (a:Option Addr) (w n:Nat) (es:List (List Value))
 | rd (a:Option Addr) (cap w n:Nat) (es:List (List Value))
 | ro (b o w n:Nat) (es:List (List Value))
 | gen (g:GPc)
def Pc.mn:Pc→Option Nat
 | .obj b _=>some b
 | .arr b _ _ _ _=>some b
 | .sl a _ _ _=>Az a
 | .rd a _ _ _ _=>Az a
 | .ro b _ _ _ _=>some b
 | .gen _=>none
def Pc.own:Pc→Bool
 | .obj _ _ | .arr _ _ _ _ _ | .sl _ _ _ _=>true
 | _=>false
def Pc.Jr:Pc→Nat→Prop
 | .gen g=>g.ow
 | _=>fun _=>False
def Pc.Ck:Pc→Nat→Prop
 | .gen g=>fun b=>g.ow b∨g.rd b
 | _=>fun _=>False
def Pc.ow (p:Pc) (b:Nat):Prop:=(p.own=true∧p.mn=some b)∨p.Jr b
def Pc.any (p:Pc) (b:Nat):Prop:=p.mn=some b∨p.Ck b
theorem Pc.mC {p:Pc} {b:Nat} (h:p.ow b):p.any b:=by
 rcases h with h|h
 ·exact .inl h.2
 ·cases p with
  | gen g=>exact .inr (.inl h)
  | _=>exact h.elim
theorem Pc.IF {p:Pc} {b:Nat} (ho:p.own=true) (hb:p.mn=some b):p.ow b:=.inl ⟨ho,hb⟩
theorem Pc.wm {p:Pc} {b:Nat} (ho:p.own=true) (h:p.any b):p.mn=some b:=by
 rcases h with h|h
 ·exact h
 ·cases p with
  | gen g=>cases ho
  | _=>exact h.elim
def Pc.ok (lo:Nat) (m:AMem):Pc→Prop
 | .obj b o=>lo≤b∧b<m.next∧m.get b=some o
 | .arr b w n es tg=>Own lo m b w n es tg
 | .sl a w n es=>(n=0∧es = []∧a=none∧0<w)∨∃b tg,a=some ⟨b,0,none⟩∧Own lo m b w n es tg
 | .rd a cap w n es=>Rd m a cap w n es
 | .ro b o w n es=>es.length=n∧qo m b o w es
 | .gen g=>g.P m∧(g.fr=false→∀b,g.ow b→lo≤b)
def Pc.bound:Pc→Bool
 | .gen g=>!g.fr
 | _=>true
def Pc.apart (p q:Pc):Prop:=(∀b,p.ow b→q.any b→False)∧∀b,q.ow b→p.any b→False
structure Hp (m0 m:AMem) (ps:List Pc):Prop where
 ext:Ext m0 m
 ok:∀p ∈ ps,p.ok m0.next m
 apart:ps.Pairwise Pc.apart
def pk:List Pc→Nat→Option Pc
 | [],_=>none
 | p::_,0=>some p
 | _::l,k+1=>pk l k
def dv:List Pc→Nat→Pc→List Pc
 | [],_,_=>[]
 | _::l,0,p=>p::l
 | q::l,k+1,p=>q::dv l k p
theorem iJ (p:Pc) (l:List Pc):pk (p::l) 0=some p:=rfl
theorem gO (p:Pc) (l:List Pc) (k:Nat):pk (p::l) (k+1)=pk l k:=rfl
theorem mI:∀{ps:List Pc} {k:Nat} {p:Pc},pk ps k=some p→p ∈ ps:=by
 intro ps
 induction ps with
 | nil=>intro k p h; simp[pk] at h
 | cons q l ih =>
  intro k p h;cases k with
  | zero=>rw[iJ] at h; have:=Option.some.inj h; simp[this]
  | succ k=>rw[gO] at h; have:=ih h; simp[this]
theorem fR (q:Pc) (l:List Pc) (p:Pc):dv (q::l) 0 p=p::l:=rfl
theorem ie (q:Pc) (l:List Pc) (k:Nat) (p:Pc):dv (q::l) (k+1) p=q::dv l k p:=rfl
theorem Ah:∀{l:List Pc} {k:Nat} {p r:Pc},r ∈ dv l k p→r ∈ l∨r=p:=by
 intro l
 induction l with
 | nil=>intro k p r h; simp[dv] at h
 | cons a l ih =>
  intro k p r h;cases k with
  | zero =>
   rw[fR,List.mem_cons] at h;rcases h with h|h
   ·exact .inr h
   ·exact .inl (by simp[h])
  | succ k =>
   rw[ie,List.mem_cons] at h;rcases h with h|h
   ·exact .inl (by simp[h])
   ·rcases ih h with h1|h1
    ·exact .inl (by simp[h1])
    ·exact .inr h1
theorem qo.fx {m m':AMem} {b o w:Nat} {es:List (List Value)} (h:qo m b o w es) (hn:m.next≤m'.next) (hg:m'.get b=m.get b):qo m' b o w es:=by
 obtain⟨h1,all,tg,h2,h3⟩:=h;exact⟨by omega,all,tg,by rw[hg]; exact h2,h3⟩
theorem Own.fx {lo:Nat} {m m':AMem} {b w n:Nat} {es:List (List Value)} {tg:Tag} (h:Own lo m b w n es tg) (hn:m.next≤m'.next) (hg:m'.get b=m.get b):Own lo m' b w n es tg:=by
 obtain⟨h1,h2,h3,h4⟩:=h;exact⟨h1,by omega,by rw[hg]; exact h3,h4⟩
theorem Rd.fx {m m':AMem} {a:Option Addr} {cap w n:Nat} {es:List (List Value)} (h:Rd m a cap w n es) (hn:m.next≤m'.next) (hg:∀b,Az a=some b→b<m.next→m'.get b=m.get b):Rd m' a cap w n es:=by
 obtain⟨h1,h2,h4⟩:=h;refine⟨h1,h2,?_⟩;rcases h4 with h4|⟨b,sp,rfl,a1,a2,a3⟩|⟨b,o,rfl,h⟩
 ·exact .inl h4
 ·exact .inr (.inl ⟨b,sp,rfl,a1,a2,Nat.lt_of_lt_of_le a3 hn⟩)
 ·exact .inr (.inr ⟨b,o,rfl,h.fx hn (hg b rfl h.1)⟩)
theorem Pc.jK {lo:Nat} {m m':AMem} {p:Pc} (h:p.ok lo m) (hn:m.next≤m'.next) (hg:∀b,p.any b→b<m.next→m'.get b=m.get b):p.ok lo m':=by
 cases p with
 | obj b o=>exact⟨h.1,by have:=h.2.1; omega,by rw[hg b (.inl rfl) h.2.1]; exact h.2.2⟩
 | arr b w n es tg=>exact Own.fx h hn (hg b (.inl rfl) h.2.1)
 | sl a w n es =>
  rcases h with h|⟨b,tg,rfl,h⟩
  ·exact .inl h
  ·exact .inr ⟨b,tg,rfl,h.fx hn (hg b (.inl rfl) h.2.1)⟩
 | rd a cap w n es=>exact Rd.fx h hn fun b hb=>hg b (.inl hb)
 | ro b o w n es=>exact⟨h.1,h.2.fx hn (hg b (.inl rfl) h.2.1)⟩
 | gen g=>exact⟨g.st m m' h.1 hn fun b hb=>hg b (.inr hb),h.2⟩
theorem Pc.kS {lo:Nat} {m:AMem} {p:Pc} (h:p.ok lo m) {b:Nat} (hb:p.any b):b<m.next:=by
 cases p with
 | obj b' o=>rcases hb with hb|hb; cases hb; exact h.2.1; exact hb.elim
 | arr b' w n es tg=>rcases hb with hb|hb; cases hb; exact h.2.1; exact hb.elim
 | sl a w n es =>
  rcases hb with hb|hb
  ·rcases h with⟨_,_,rfl,_⟩|⟨b',tg,rfl,h⟩
   ·cases hb
   ·cases hb; exact h.2.1
  ·exact hb.elim
 | rd a cap w n es=>rcases hb with hb|hb; exact Rd.lt h hb; exact hb.elim
 | ro b' o w n es=>rcases hb with hb|hb; cases hb; exact h.2.1; exact hb.elim
 | gen g=>rcases hb with hb|hb; cases hb; exact g.lt m b h.1 hb
theorem Pc.BM {lo:Nat} {m:AMem} {p:Pc} (h:p.ok lo m) {b:Nat} (hb:p.mn=some b):b<m.next:=Pc.kS h (.inl hb)
theorem Pc.E7 {lo:Nat} {m:AMem} {p:Pc} (h:p.ok lo m) (hf:p.bound=true) {b:Nat} (hb:p.ow b):lo≤b:=by
 rcases hb with⟨ho,hb⟩|hb
 ·cases p with
  | obj b' o=>cases hb; exact h.1
  | arr b' w n es tg=>cases hb; exact h.1
  | sl a w n es =>
   rcases h with⟨_,_,rfl,_⟩|⟨b',tg,rfl,h⟩
   ·cases hb
   ·cases hb; exact h.1
  | rd a cap w n es=>cases ho
  | ro b' o w n es=>cases ho
  | gen g=>cases ho
 ·cases p with
  | gen g=>exact h.2 (by simpa [Pc.bound] using hf) b hb
  | _=>exact hb.elim
theorem Pc.AR {lo:Nat} {m:AMem} {p:Pc} (h:p.ok lo m) (ho:p.own=true) {b:Nat} (hb:p.mn=some b):lo≤b:=Pc.E7 h (by cases p<;>first|rfl|cases ho) (.inl ⟨ho,hb⟩)
section
variable {m0 m m' : AMem} {ps : List Pc}
theorem Hp.get (h:Hp m0 m ps) {k:Nat} {p:Pc} (hp:pk ps k=some p):p.ok m0.next m:=h.ok p (mI hp)
theorem Pc.iD {p r:Pc} (h:Pc.apart p r):Pc.apart r p:=⟨h.2,h.1⟩
theorem pQ:∀{ps:List Pc} {k:Nat} {p p':Pc},pk ps k=some p→(∀r ∈ ps,Pc.apart p r→Pc.apart p' r)→ps.Pairwise Pc.apart→(dv ps k p').Pairwise Pc.apart:=by
 intro ps
 induction ps with
 | nil=>intro k p p' hk; simp[pk] at hk
 | cons q l ih =>
  intro k p p' hk hr h;rw[List.pairwise_cons] at h;cases k with
  | zero =>
   rw[iJ] at hk;have hk:=Option.some.inj hk;subst hk;rw[fR];exact List.pairwise_cons.2 ⟨fun r hm=>hr r (by simp[hm]) (h.1 r hm),h.2⟩
  | succ k =>
   rw[gO] at hk;rw[ie];refine List.pairwise_cons.2 ⟨fun r hm=>?_,ih hk (fun r hm=>hr r (by simp[hm])) h.2⟩
   rcases Ah hm with hm|hm
   ·exact h.1 r hm
   ·rw[hm]; exact Pc.iD (hr q (by simp) (Pc.iD (h.1 p (mI hk))))
theorem B7:∀{ps:List Pc} {k:Nat} {p p' r:Pc},pk ps k=some p→ps.Pairwise Pc.apart→r ∈ dv ps k p'→r=p'∨(r ∈ ps∧Pc.apart r p):=by
 intro ps
 induction ps with
 | nil=>intro k p p' r hk; simp[pk] at hk
 | cons q l ih =>
  intro k p p' r hk h hr;rw[List.pairwise_cons] at h;cases k with
  | zero =>
   rw[iJ] at hk;have hk:=Option.some.inj hk;subst hk;rw[fR,List.mem_cons] at hr;rcases hr with hr|hr
   ·exact .inl hr
   ·exact .inr ⟨by simp[hr],Pc.iD (h.1 r hr)⟩
  | succ k =>
   rw[gO] at hk;rw[ie,List.mem_cons] at hr;rcases hr with hr|hr
   ·rw[hr]; exact .inr ⟨by simp,h.1 p (mI hk)⟩
   ·rcases ih hk h.2 hr with h1|⟨h1,h2⟩
    ·exact .inl h1
    ·exact .inr ⟨by simp[h1],h2⟩
theorem Hp.Jq (h:Hp m0 m ps) {k:Nat} {p p':Pc} (hp:pk ps k=some p) (tw:∀b,p'.ow b→p.ow b∨m.next≤b) (hany:∀b,p'.any b→p.any b∨m.next≤b) (hn:m.next≤m'.next) (hext:Ext m0 m')
  (hok:p'.ok m0.next m') (hg:∀b,¬p.ow b→b<m.next→m'.get b=m.get b):Hp m0 m' (dv ps k p') where
 ext:=hext
 apart:=pQ hp (fun r hr ha=>⟨fun b a c=>(tw b a).elim (fun a=>ha.1 b a c) fun a=>by have:=Pc.kS (h.ok r hr) c; omega,fun b a c=>(hany b c).elim (fun c=>ha.2 b a c) fun c=>by have:=Pc.kS (h.ok r hr) (Pc.mC a); omega⟩) h.apart
 ok:=fun r hr=>by
  rcases B7 hp h.apart hr with rfl|⟨h1,h2⟩
  ·exact hok
  ·exact Pc.jK (h.ok r h1) hn fun b hb' hlt=>hg b (fun e=>h2.2 b e hb') hlt
theorem Hp.put (h:Hp m0 m ps) {k:Nat} {p p':Pc} (hp:pk ps k=some p) (ho:p.own=true) (hb:p'.mn=p.mn) (ho':p'.own=true) (hn:m.next≤m'.next) (hext:Ext m0 m')
  (hok:p'.ok m0.next m') (hg:∀b,p.mn≠some b→b<m.next→m'.get b=m.get b):Hp m0 m' (dv ps k p') :=
 h.Jq hp (fun b a=>.inl (.inl ⟨ho,by rw[←hb]; exact Pc.wm ho' (Pc.mC a)⟩)) (fun b a=>.inl (.inl (by rw[←hb]; exact Pc.wm ho' a))) hn hext hok fun b hb' hlt=>hg b (fun e=>hb' (.inl ⟨ho,e⟩)) hlt
theorem Hp.Ik (h:Hp m0 m ps) {p:Pc} (hn:m.next≤m'.next) (hext:Ext m0 m') (hsame:∀b,b<m.next→m'.get b=m.get b) (hp:p.ok m0.next m') (hb:∀b,p.any b→m.next≤b):Hp m0 m' (p::ps) where
 ext:=hext
 ok:=fun q hq=>by
  rcases List.mem_cons.1 hq with rfl|hq
  ·exact hp
  ·exact Pc.jK (h.ok q hq) hn fun b hb' hlt=>hsame b hlt
 apart:=List.pairwise_cons.2 ⟨fun q hq=>⟨fun b h1 h2=>by
  have:=Pc.kS (h.ok q hq) h2;have:=hb b (Pc.mC h1);omega,fun b h1 h2=>by
  have:=Pc.kS (h.ok q hq) (Pc.mC h1);have:=hb b h2;omega⟩,h.apart⟩
theorem Hp.cons (h:Hp m0 m ps) {p:Pc} (hn:m.next≤m'.next) (hext:Ext m0 m') (hsame:∀b,b<m.next→m'.get b=m.get b) (hp:p.ok m0.next m') (hb:∀b,p.mn=some b→m.next≤b) (hng:∀b,¬p.Ck b:=by exact fun _ h=>h):Hp m0 m' (p::ps) :=
 h.Ik hn hext hsame hp fun b hb'=>hb'.elim (hb b) fun h=>absurd h (hng b)
def U (ps:List Pc):List Nat→Option (List Pc)
 | []=>some []
 | k::ks=>match pk ps k with
  | some p=>match U ps ks with
   | some qs=>some (p::qs)
   | none=>none
  | none=>none
def mM:List Nat→Bool
 | []=>true
 | k::ks=>!(ks.any (Nat.beq k)) && mM ks
theorem ra:∀{ks:List Nat} {qs:List Pc},U ps ks=some qs→∀q ∈ qs,∃k ∈ ks,pk ps k=some q:=by
 intro ks
 induction ks with
 | nil=>intro qs h q hq; simp only[U,Option.some.injEq] at h; subst h; cases hq
 | cons k ks ih =>
  intro qs h q hq;simp only[U] at h
  split at h
  ·rename_i p hp
   split at h
   ·rename_i qs' hqs;simp only[Option.some.injEq] at h;subst h;rcases List.mem_cons.1 hq with rfl|hq
    ·exact⟨k,by simp,hp⟩
    ·obtain⟨k',h1,h2⟩:=ih hqs q hq;exact⟨k',by simp[h1],h2⟩
   ·cases h
  ·cases h
theorem ml:∀{ps:List Pc} {i j:Nat} {p q:Pc},ps.Pairwise Pc.apart→pk ps i=some p→pk ps j=some q→i≠j→Pc.apart p q:=by
 intro ps
 induction ps with
 | nil=>intro i j p q _ h; simp[pk] at h
 | cons r l ih =>
  intro i j p q h hi hj hne;rw[List.pairwise_cons] at h;cases i with
  | zero =>
   cases j with
   | zero=>exact absurd rfl hne
   | succ j =>
    rw[iJ] at hi;rw[gO] at hj;rw[←Option.some.inj hi];exact h.1 q (mI hj)
  | succ i =>
   cases j with
   | zero =>
    rw[iJ] at hj;rw[gO] at hi;rw[←Option.some.inj hj];exact Pc.iD (h.1 p (mI hi))
   | succ j=>rw[gO] at hi hj; exact ih h.2 hi hj (fun e=>hne (by rw[e]))
theorem xm:∀{ps:List Pc} {r:Pc},r ∈ ps→∃k,pk ps k=some r:=by
 intro ps
 induction ps with
 | nil=>intro r h; cases h
 | cons p l ih =>
  intro r h;rcases List.mem_cons.1 h with rfl|h
  ·exact⟨0,rfl⟩
  ·obtain⟨k,hk⟩:=ih h; exact⟨k+1,hk⟩
theorem Hp.H8 (h:Hp m0 m ps) {k:Nat} {p q:Pc} (hp:pk ps k=some p) (hpo:∀b,¬p.ow b) (hq:q.ok m0.next m) (hqo:∀b,¬q.ow b) (hb:∀b,q.any b→p.any b):Hp m0 m (q::ps) where
 ext:=h.ext
 ok:=fun r hr=>by
  rcases List.mem_cons.1 hr with rfl|hr
  ·exact hq
  ·exact h.ok r hr
 apart:=List.pairwise_cons.2 ⟨fun r hr=>⟨fun b h1 _=>hqo b h1,fun b h1 h2=>by
  obtain⟨k',hk'⟩:=xm hr;have hne:k≠k':=fun e=>by
   rw[←e,hp] at hk';exact hpo b (by rw[Option.some.inj hk']; exact h1)
  exact(ml h.apart hp hk' hne).2 b h1 (hb b h2)⟩,h.apart⟩
theorem Hp.more (h:Hp m0 m ps) {k:Nat} {p q:Pc} (hp:pk ps k=some p) (hpo:p.own=false) (hq:q.ok m0.next m) (hqo:q.own=false) (hb:∀b,q.mn=some b→p.mn=some b) (hpg:∀b,¬p.Jr b:=by exact fun _ h=>h) (hqg:∀b,¬q.Ck b:=by exact fun _ h=>h):Hp m0 m (q::ps) :=
 h.H8 hp (fun b h=>h.elim (fun h=>by rw[hpo] at h; cases h.1) (hpg b)) hq (fun b h=>h.elim (fun h=>by rw[hqo] at h; cases h.1) fun h=>hqg b (by cases q with|gen g=>exact .inl h|_=>exact h)) fun b h=>h.elim (fun h=>.inl (hb b h)) fun h=>absurd h (hqg b)
theorem uc (h:ps.Pairwise Pc.apart):∀{ks:List Nat} {qs:List Pc},mM ks=true→U ps ks=some qs→qs.Pairwise Pc.apart:=by
 intro ks
 induction ks with
 | nil=>intro qs _ e; simp only[U,Option.some.injEq] at e; subst e; exact .nil
 | cons k ks ih =>
  intro qs hnd e;simp only[mM,Bool.and_eq_true,Bool.not_eq_true',List.any_eq_false] at hnd;simp only[U] at e
  split at e
  ·rename_i p hp
   split at e
   ·rename_i qs' hqs;simp only[Option.some.injEq] at e;subst e;refine List.pairwise_cons.2 ⟨fun q hq=>?_,ih hnd.2 hqs⟩;obtain⟨k',h1,h2⟩:=ra hqs q hq;exact ml h hp h2 fun e=>hnd.1 k' h1 (by rw[e]; exact Nat.beq_refl _)
   ·cases e
  ·cases e
theorem Hp.U (h:Hp m0 m ps) (ks:List Nat) {qs:List Pc} (hnd:mM ks=true) (e:W.U ps ks=some qs):Hp m0 m qs where
 ext:=h.ext
 ok:=fun q hq=>by
  obtain⟨k,_,hk⟩:=ra e q hq;exact h.ok q (mI hk)
 apart:=uc h.apart hnd e
theorem Pc.HQ {lo lo':Nat} {m:AMem} {p:Pc} (h:p.ok lo m) (hle:lo'≤lo):p.ok lo' m:=by
 have up:∀{b w n es tg},Own lo m b w n es tg→Own lo' m b w n es tg:=fun ho=>⟨Nat.le_trans hle ho.1,ho.2⟩;cases p with
 | obj b o=>exact⟨Nat.le_trans hle h.1,h.2⟩
 | arr b w n es tg=>exact up h
 | sl a w n es =>
  rcases h with h1|⟨b,tg,e,h1⟩
  ·exact .inl h1
  ·exact .inr ⟨b,tg,e,up h1⟩
 | rd a cap w n es=>exact h
 | ro b o w n es=>exact h
 | gen g=>exact⟨h.1,fun hf b hb=>Nat.le_trans hle (h.2 hf b hb)⟩
theorem Hp.Gx (h:Hp m0 m ps) {new:List Pc} (h':Hp m m' new) (hbd:∀p ∈ new,p.bound=true) (hro:∀p ∈ new,∀b,p.any b→m.next≤b∨(¬p.ow b∧∃q ∈ ps,(∀b,¬q.ow b)∧q.any b)):Hp m0 m' (new++ps) where
 ext:=h.ext.trans h'.ext
 ok:=fun q hq=>by
  rcases List.mem_append.1 hq with hq|hq
  ·exact Pc.HQ (h'.ok q hq) h.ext.next
  ·exact Pc.jK (h.ok q hq) h'.ext.next fun b _ hlt=>h'.ext.same b hlt
 apart:=List.pairwise_append.2 ⟨h'.apart,h.apart,fun p hp q hq=>⟨fun b h1 h2=>by
  have:=Pc.E7 (h'.ok p hp) (hbd p hp) h1;have:=Pc.kS (h.ok q hq) h2;omega,fun b h1 h2=>by
  rcases hro p hp b h2 with h3|⟨_,r,hr,hr1,hr2⟩
  ·have:=Pc.kS (h.ok q hq) (Pc.mC h1);omega
  ·obtain⟨i,hi⟩:=xm hq;obtain⟨j,hj⟩:=xm hr;have hne:i≠j:=fun e=>by
    rw[e,hj] at hi;exact hr1 b (by rw[Option.some.inj hi]; exact h1)
   exact(ml h.apart hi hj hne).1 b h1 hr2⟩⟩
theorem Hp.after (h:Hp m0 m ps) {new:List Pc} (h':Hp m m' new) (hro:∀p ∈ new,p.own=true):Hp m0 m' (new++ps) :=
 h.Gx h' (fun p hp=>by have:=hro p hp; cases p<;>first|rfl|cases this) fun p hp b hb=>.inl (Pc.AR (h'.ok p hp) (hro p hp) (Pc.wm (hro p hp) hb))
end
structure TyI (P:Program) (ty:TypeId) (ag:Bool) (sz:Nat):Prop where
 known:known P ty=true
 agg:dc P ty=ag
 size:an P ty=sz
structure SlT (P:Program) (ty elem:TypeId) (w:Nat):Prop where
 und:P.underlying ty=some (.slice elem)
 known:known P elem=true
 size:an P elem=w
 pos:0<w
 zero:(bO P elem).any (fun z=>z.cells.size == w && z.cells.toList.all aE)=true
 bytes:∃i,P.info? elem=some i∧i.bytes≠0∧i.bytes≤1024
structure ArT (P:Program) (ty elem:TypeId) (len w:Nat):Prop where
 und:P.underlying ty=some (.array len elem)
 known:known P elem=true
 size:an P elem=w
def H5 (P:Program) (ty elem:TypeId) (w:Nat):Bool :=
 (match P.underlying ty with|some (.slice e)=>Nat.beq e elem|_=>false) && known P elem && Nat.beq (an P elem) w && Nat.blt 0 w && (bO P elem).any (fun z=>z.cells.size == w && z.cells.toList.all aE) && (match P.info? elem with|some i=>!(Nat.beq i.bytes 0) && Nat.ble i.bytes 1024|none=>false)
theorem SlT.of {P:Program} {ty elem:TypeId} {w:Nat} (h:H5 P ty elem w=true):SlT P ty elem w:=by
 simp only[H5,Bool.and_eq_true] at h;obtain⟨⟨⟨⟨⟨h1,h2⟩,h3⟩,h4⟩,h5⟩,h6⟩:=h;refine⟨?_,h2,Nat.eq_of_beq_eq_true h3,by rwa[Nat.blt_eq] at h4,h5,?_⟩
 ·split at h1
  ·rename_i e he; rw[he,Nat.eq_of_beq_eq_true h1]
  ·cases h1
 ·split at h6
  ·rename_i i hi;simp only[Bool.and_eq_true,Bool.not_eq_true'] at h6;exact⟨i,hi,Nat.ne_of_beq_eq_false h6.1,Nat.le_of_ble_eq_true h6.2⟩
  ·cases h6
section
variable {E : Env} {n : Nat} {m0 : AMem} {fs : Fs} {ps : List Pc}
def Od (E:Env) (m0:AMem) (fs:Fs) (ps:List Pc) (o:Op) (v:Value) (ps':List Pc):Prop :=
 ∀t m,Fr t fs→Hp m0 m ps→(∀b,aL E t o=some b→b<m.next)∧∀K:Value→AMem→Prop,(∀m',Hp m0 m' ps'→K v m')→bm E t m o K
def Ox (E:Env) (m0:AMem) (fs:Fs) (ps:List Pc) (o:Op) {α:Type} (V:α→Value) (N:α→List Pc):Prop :=
 ∀t m,Fr t fs→Hp m0 m ps→(∀b,aL E t o=some b→b<m.next)∧∀K:Value→AMem→Prop,(∀x m',Hp m0 m' (N x)→K (V x) m')→bm E t m o K
theorem Od.pure {o:Op} {v:Value} (hr:∀t,aL E t o=none) (h:∀t m,Fr t fs→∀K,bm E t m o K=K v m):Od E m0 fs ps o v ps :=
 fun t m hf hp=>⟨fun b hb=>(by rw[hr] at hb; cases hb),fun K hK=>by rw[h t m hf]; exact hK m hp⟩
variable {x y z : Operand} {a b r v : Value} {ty ty' : TypeId}
theorem ae (h:ev E fs x=some v):Od E m0 fs ps (.move x) v ps:=.pure (fun _=>rfl) fun _ _ hf=>Go.Ab.GO (hf.ev h)
theorem ak (h:ev E fs x=some v):Od E m0 fs ps (.assign x) v ps:=.pure (fun _=>rfl) fun _ _ hf=>Go.Ab.CR (hf.ev h)
theorem qp {c:Operand} (hc:ev E fs c=some (.bool true)) (h:ev E fs x=some v):Od E m0 fs ps (.pick c x y) v ps:=.pure (fun _=>rfl) fun _ _ hf=>Go.Ab.Eo (hf.ev hc) (hf.ev h)
theorem zD {c:Operand} (hc:ev E fs c=some (.bool false)) (h:ev E fs y=some v):Od E m0 fs ps (.pick c x y) v ps:=.pure (fun _=>rfl) fun _ _ hf=>Go.Ab.DO (hf.ev hc) (hf.ev h)
theorem aj {op:BinOp} (h:ev E fs x=some a) (h':ev E fs y=some b) (hr:bV op ty E.P a b=some r):Od E m0 fs ps (.binOp op ty x y ty') r ps:=.pure (fun _=>rfl) fun _ _ hf=>Go.Ab.Ih (hf.ev h) (hf.ev h') hr
theorem ig {op:UnOp} (h:ev E fs x=some a) (hr:yV op a=some r):Od E m0 fs ps (.unOp op ty x) r ps:=.pure (fun _=>rfl) fun _ _ hf=>Go.Ab.ig (hf.ev h) hr
theorem C9 (h:ev E fs x=some a) (hr:e8 E.P ty ty' a=some r):Od E m0 fs ps (.convert ty ty' x) r ps:=.pure (fun _=>rfl) fun _ _ hf=>Go.Ab.Ge (hf.ev h) hr
theorem aw {f:Nat} (h:ev E fs x=some a) (hr:aM E.P ty a f=some r):Od E m0 fs ps (.fieldAddr ty x f) r ps:=.pure (fun _=>rfl) fun _ _ hf=>Go.Ab.u4 (hf.ev h) hr
theorem Ek (h:ev E fs x=some a) (h':ev E fs y=some b) (hr:bl E.P ty a b=some r):Od E m0 fs ps (.indexAddr ty x y) r ps:=.pure (fun _=>rfl) fun _ _ hf=>Go.Ab.vi (hf.ev h) (hf.ev h') hr
theorem qh {i:Nat} {vs:Array Value} (h:ev E fs x=some (.tuple vs)) (hr:vs[i]? = some r):Od E m0 fs ps (.extract x i) r ps:=.pure (fun _=>rfl) fun _ _ hf=>Go.Ab.zJ (hf.ev h) hr
theorem As {f:FuncId} {xs ys:Array Operand} {vs ws:List Value} (h:kW E fs xs.toList=some vs) (h':kW E fs ys.toList=some ws):Od E m0 fs ps (.makeFunc (.func f) xs ys) (.func (.func f) vs.toArray ws.toArray) ps :=
 .pure (fun _=>rfl) fun _ _ hf K=>by rw[Go.Ab.uK,hf.kW h,Go.Ab.db,hf.kW h',Go.Ab.db]
theorem fH {bi:Builtin} {ars:Array Operand} {ts:Array TypeId} {vs:List Value} (h:kW E fs ars.toList=some vs) (hn:(match bi with | .len | .cap=>false|_=>true)=true) (hr:∀m,aQ E.P bi ts vs m=some (r,m)):Od E m0 fs ps (.call ⟨.builtin bi,ars,ts⟩) r ps :=
 .pure (fun _=>by cases bi<;>first|rfl|cases hn) fun _ _ hf K=>Go.Ab.jF (hf.kW h) (hr _) K
theorem eE {parts:Array (Nat × Operand)} {vs:List (Nat × Value)} {z:Value} (h:CW E fs parts.toList=some vs) (hz:bO E.P ty=some z) (hpz:aZ z=true) (hr:iT E.P ty vs=some r):Od E m0 fs ps (.build ty parts) r ps :=
 .pure (fun _=>rfl) fun t m hf K=>by
  have:ct E t m (.build ty parts)=some (r,m):=by simp only[ct,hf.CW h,hz,hpz,if_true,hr,Option.map_some]
  exact Go.Ab.EP rfl this K
def B3 (ag:Bool) (sz:Nat) (cs:List Value) (o:Nat):Option Value :=
 match ag with
 | true=>match Nat.beq ((cs.drop o).take sz).length sz with
  | true=>some (.agg ((cs.drop o).take sz).toArray)
  | false=>none
 | false=>cs[o]?
theorem sS {P:Program} {m:AMem} {ag:Bool} {sz b o:Nat} {cs:List Value} {tg:Tag} (ht:TyI P ty ag sz) (hg:m.get b=some (.cells cs tg)) (h:B3 ag sz cs o=some v):cO P ty (ptr b o) m=some v:=by
 cases ag with
 | false=>exact Ei ht.known ht.agg hg h
 | true =>
  simp only[B3] at h
  split at h
  ·rename_i e;cases h;exact D1 ht.known ht.agg ht.size hg rfl (Nat.eq_of_beq_eq_true e)
  ·cases h
def DC (ag:Bool) (sz c w:Nat):Bool:=(match ag with|true=>true|false=>Nat.beq sz 1) && Nat.ble (c+sz) w
theorem yC {ag:Bool} {sz c w:Nat} (h:DC ag sz c w=true):(ag=false→sz=1)∧c+sz≤w:=by
 simp only[DC,Bool.and_eq_true] at h;exact⟨fun e=>by subst e; exact Nat.eq_of_beq_eq_true h.1,Nat.le_of_ble_eq_true h.2⟩
theorem Od.load {b o:Nat} (hx:ev E fs x=some (ptr b o)) (h:∀m,Hp m0 m ps→b<m.next∧cO E.P ty (ptr b o) m=some v):Od E m0 fs ps (.load ty x) v ps :=
 fun t m hf hp=>⟨fun b' hb=>by
  simp only[aL,hf.ev hx] at hb;cases hb; exact(h m hp).1,fun K hK=>by
  rw[Go.Ab.F5 (hf.ev hx) (h m hp).2]; exact hK m hp⟩
theorem ai {ag:Bool} {sz b o k:Nat} {cs:List Value} {tg:Tag} (ht:TyI E.P ty ag sz) (hx:ev E fs x=some (ptr b o)) (hp:pk ps k=some (.obj b (.cells cs tg))) (hv:B3 ag sz cs o=some v):Od E m0 fs ps (.load ty x) v ps :=
 .load hx fun _ h=>⟨(h.get hp).2.1,sS ht (h.get hp).2.2 hv⟩
theorem DG {ag:Bool} {sz o w c:Nat} {all e:List Value} (he:(all.drop o).take w=e) (hsz:ag=false→sz=1) (hc:c+sz≤w) (h:B3 ag sz e c=some v):B3 ag sz all (o+c)=some v:=by
 subst he;have key:((List.take w (List.drop o all)).drop c).take sz=(all.drop (o+c)).take sz:=by
  rw[List.drop_take,List.take_take,List.drop_drop,Nat.min_eq_left (by omega)]
 cases ag with
 | true=>simp only[B3,key] at h ⊢; exact h
 | false =>
  simp only[B3,List.getElem?_take,List.getElem?_drop] at h ⊢
  split at h
  ·exact h
  ·cases h
theorem rh {P:Program} {m:AMem} {ag:Bool} {sz b o w j c:Nat} {es:List (List Value)} {e:List Value} (ht:TyI P ty ag sz) (hl:qo m b o w es) (he:es[j]? = some e) (hv:B3 ag sz e c=some v) (hsz:ag=false→sz=1) (hc:c+sz≤w):cO P ty (ptr b (o+j*w+c)) m=some v:=by
 obtain⟨_,all,tg,hg,_,h⟩:=hl;exact sS ht hg (DG (h j e he).1 hsz hc hv)
theorem Et {w:Nat}:∀{es:List (List Value)} {j:Nat} {e:List Value},(∀e ∈ es,e.length=w)→es[j]? = some e→(es.flatten.drop (j*w)).take w=e:=by
 intro es
 induction es with
 | nil=>intro j e _ h; simp at h
 | cons x es ih =>
  intro j e hw h;have hx:=hw x (by simp)
  cases j with
  | zero =>
   simp only[List.getElem?_cons_zero,Option.some.injEq] at h;subst h;rw[List.flatten_cons,Nat.zero_mul,List.drop_zero,List.take_left' hx]
  | succ j =>
   rw[List.getElem?_cons_succ] at h;rw[List.flatten_cons,Nat.succ_mul,Nat.add_comm,←List.drop_drop,List.drop_left' hx];exact ih (fun e he=>hw e (by simp[he])) h
theorem Own.IC {lo:Nat} {m:AMem} {b w n:Nat} {es:List (List Value)} {tg:Tag} (h:Own lo m b w n es tg):qo m b 0 w es :=
 ⟨h.2.1,_,tg,h.2.2.1,fun sz e=>(by rcases h.2.2.2.2.2.1 with h1|h1<;>rw[h1] at e<;>cases e; rfl),fun i e he=>⟨by rw[Nat.zero_add]; exact Et h.2.2.2.2.1 he,h.2.2.2.2.1 e (List.mem_of_getElem? he)⟩⟩
theorem lR {ag:Bool} {sz b w n j c k:Nat} {es:List (List Value)} {tg:Tag} {e:List Value} (ht:TyI E.P ty ag sz) (hx:ev E fs x=some (ptr b (j*w+c))) (hp:pk ps k=some (.arr b w n es tg)) (he:es[j]? = some e) (hv:B3 ag sz e c=some v) (hs:DC ag sz c w=true):Od E m0 fs ps (.load ty x) v ps:=by
 have hs:=yC hs;refine .load hx fun m h=>⟨(h.get hp).2.1,?_⟩;have:=rh (P:=E.P) ht (Own.IC (h.get hp)) he hv hs.1 hs.2;rwa[Nat.zero_add] at this
theorem cx {ag:Bool} {sz b o w n j c k:Nat} {es:List (List Value)} {e:List Value} (ht:TyI E.P ty ag sz) (hx:ev E fs x=some (ptr b (o+j*w+c))) (hp:pk ps k=some (.ro b o w n es)) (he:es[j]? = some e) (hv:B3 ag sz e c=some v) (hs:DC ag sz c w=true):Od E m0 fs ps (.load ty x) v ps:=by
 have hs:=yC hs;exact .load hx fun m h=>⟨(h.get hp).2.1,rh (P:=E.P) ht (h.get hp).2 he hv hs.1 hs.2⟩
theorem cq {elem:TypeId} {b o w n cap:Nat} {i:Int} {kd:IntKind} (ht:SlT E.P ty elem w) (hx:ev E fs x=some (.slice (some ⟨b,o,none⟩) n cap)) (hy:ev E fs y=some (.int kd i)) (hi:0≤i∧i.toNat<n):Od E m0 fs ps (.indexAddr ty x y) (ptr b (o+i.toNat*w+0)) ps:=by
 refine Ek hx hy ?_;have hd:decide ((0:Int)≤i∧i<(n:Nat))=true:=by simp; omega
 simp only[bl,ht.und,ht.known,hd,Bool.and_self,if_true,ht.size,Nat.add_zero]
theorem nG {elem:TypeId} {b w n cap:Nat} {i:Int} {kd:IntKind} (ht:SlT E.P ty elem w) (hx:ev E fs x=some (.slice (some ⟨b,0,none⟩) n cap)) (hy:ev E fs y=some (.int kd i)) (hi:0≤i∧i.toNat<n):Od E m0 fs ps (.indexAddr ty x y) (ptr b (i.toNat*w+0)) ps:=by
 have:=cq (m0:=m0) (ps:=ps) ht hx hy hi;rwa[Nat.zero_add] at this
theorem Hp.write {m:AMem} (h:Hp m0 m ps) {k b:Nat} {p p':Pc} {o':AObj} (hp:pk ps k=some p) (ho:p.own=true) (hb:p.mn=some b) (hb':p'.mn=some b) (ho':p'.own=true) (hok:p'.ok m0.next (m.set b o')):Hp m0 (m.set b o') (dv ps k p') :=
 h.put hp ho (hb'.trans hb.symm) ho' (Nat.le_refl _) (h.ext.set (Pc.AR (h.get hp) ho hb) _) hok fun x hx _=>by
  rw[AMem.bz,if_neg (fun e=>hx (by rw[e]; exact hb))]
def E4 (cs:List Value) (o:Nat) (v:Value) (sz:Nat):Option (List Value) :=
 match Nat.beq v.cells.toList.length sz && Nat.blt 0 sz && bc v.cells.toList && Nat.ble (o+sz) cs.length with
 | true=>some (aH cs o v.cells.toList)
 | false=>none
theorem gm:∀(cs:List Value) (o:Nat) (vs:List Value),o+vs.length≤cs.length→(aH cs o vs).length=cs.length
 | cs,0,[],_=>by cases cs<;>rfl
 | [],0,v::vs,h=>by simp at h
 | c::cs,0,v::vs,h=>by simp only[aH,List.length_cons]; rw[gm cs 0 vs (by simpa using h)]
 | [],o+1,vs,h=>by simp at h
 | c::cs,o+1,vs,h=>by simp only[aH,List.length_cons]; rw[gm cs o vs (by simp at h; omega)]
theorem vf {P:Program} {m:AMem} {ag:Bool} {sz b o:Nat} {cs cs':List Value} {tg:Tag} (ht:TyI P ty ag sz) (hg:m.get b=some (.cells cs tg)) (htg:tg≠.ro) (h:E4 cs o v sz=some cs'):dS P ty (ptr b o) v m=some (m.set b (.cells cs' tg)):=by
 simp only[E4] at h
 split at h
 ·rename_i e;cases h;simp only[Bool.and_eq_true] at e;obtain⟨⟨⟨h1,h2⟩,h3⟩,h4⟩:=e;have h1:=Nat.eq_of_beq_eq_true h1;have h2:0<sz:=by rwa[Nat.blt_eq] at h2
  have h4:=Nat.le_of_ble_eq_true h4;have hs:(v.cells.size == an P ty)=true:=by rw[ht.size,←h1]; simp
  simp only[dS,ptr,ht.known,hs,h3,Bool.and_self,if_true,AMem.cY];cases hc:v.cells.toList with
  | nil=>rw[hc] at h1; simp at h1; omega
  | cons x xs =>
   rw[hc] at h1;simp only[hg];cases tg with
   | ro=>exact absurd rfl htg
   | own=>rw[if_pos (by rw[h1]; exact h4)]
   | more s=>rw[if_pos (by rw[h1]; exact h4)]
 ·cases h
theorem Od.store {bk o:Nat} {p':List Pc} (hx:ev E fs x=some (ptr bk o)) (hy:ev E fs y=some v) (h:∀m,Hp m0 m ps→∃m',dS E.P ty (ptr bk o) v m=some m'∧Hp m0 m' p'):Od E m0 fs ps (.store ty x y) undef p' :=
 fun t m hf hp=>⟨fun b hb=>by simp[aL] at hb,fun K hK=>by
  obtain⟨m',h1,h2⟩:=h m hp;rw[Go.Ab.DD (hf.ev hx) (hf.ev hy) h1]; exact hK m' h2⟩
def yf:Tag→Bool
 | .ro=>false
 | _=>true
theorem bI {ag:Bool} {sz b o k:Nat} {cs cs':List Value} {tg:Tag} (ht:TyI E.P ty ag sz) (hx:ev E fs x=some (ptr b o)) (hy:ev E fs y=some v) (hp:pk ps k=some (.obj b (.cells cs tg))) (htg:yf tg=true) (hv:E4 cs o v sz=some cs'):Od E m0 fs ps (.store ty x y) undef (dv ps k (.obj b (.cells cs' tg))) :=
 .store hx hy fun m h=>⟨_,vf ht (h.get hp).2.2 (fun e=>by rw[e] at htg; cases htg) hv,h.write hp rfl rfl rfl rfl ⟨(h.get hp).1,(h.get hp).2.1,by rw[AMem.bz,if_pos rfl]⟩⟩
theorem xF:∀(l r vs:List Value) (c:Nat),c+vs.length≤l.length→aH (l++r) c vs=aH l c vs++r:=by
 intro l r
 induction l with
 | nil =>
  intro vs c h;have h0:c+vs.length≤0:=h;have h1:c=0:=by omega
  have h2:vs = []:=List.length_eq_zero_iff.1 (by omega)
  subst h1 h2;cases r<;>rfl
 | cons a l ihl =>
  intro vs c h;cases c with
  | zero=>cases vs with
   | nil=>rfl
   | cons v vs=>simp only[List.cons_append,aH]; rw[ihl vs 0 (by simpa using h)]
  | succ c=>simp only[List.cons_append,aH]; rw[ihl vs c (by simp at h; omega)]
theorem tN:∀(l r vs:List Value) (o:Nat),aH (l++r) (l.length+o) vs=l++aH r o vs:=by
 intro l r vs
 induction l with
 | nil=>intro o; simp
 | cons a l ihl=>intro o; rw[List.cons_append,List.length_cons,show l.length+1+o=(l.length+o)+1 by omega,aH,ihl o]; rfl
theorem uQ {w c:Nat} {vs:List Value}:∀{es:List (List Value)} {j:Nat} {e:List Value},(∀e ∈ es,e.length=w)→es[j]? = some e→c+vs.length≤w→aH es.flatten (j*w+c) vs=(es.set j (aH e c vs)).flatten:=by
 intro es
 induction es with
 | nil=>intro j e _ h; simp at h
 | cons x es ih =>
  intro j e hw h hc;have hx:=hw x (by simp)
  cases j with
  | zero =>
   simp only[List.getElem?_cons_zero,Option.some.injEq] at h;subst h;rw[List.flatten_cons,Nat.zero_mul,Nat.zero_add,xF _ _ _ _ (by omega)]
   simp[List.flatten_cons]
  | succ j =>
   rw[List.getElem?_cons_succ] at h;rw[List.flatten_cons,Nat.succ_mul,show j*w+w+c=x.length+(j*w+c) by omega,tN,ih (fun e he=>hw e (by simp[he])) h hc]
   simp[List.flatten_cons]
theorem Is {ag:Bool} {sz b w n j c k:Nat} {es:List (List Value)} {e e':List Value} {tg:Tag} (ht:TyI E.P ty ag sz) (hx:ev E fs x=some (ptr b (j*w+c))) (hy:ev E fs y=some v) (hp:pk ps k=some (.arr b w n es tg)) (he:es[j]? = some e) (hv:E4 e c v sz=some e'):Od E m0 fs ps (.store ty x y) undef (dv ps k (.arr b w n (es.set j e') tg)):=by
 refine .store hx hy fun m h=>?_;obtain⟨g1,g2,g3,g4,g5,g6,g7⟩:=h.get hp;have hew:=g5 e (List.mem_of_getElem? he);simp only[E4] at hv
 split at hv
 ·rename_i e1;cases hv;simp only[Bool.and_eq_true] at e1;obtain⟨⟨⟨h1,h2⟩,h3⟩,h4⟩:=e1;have h1:=Nat.eq_of_beq_eq_true h1;have h2':0<sz:=by rwa[Nat.blt_eq] at h2
  have h4:=Nat.le_of_ble_eq_true h4;have hj:j<es.length:=(List.getElem?_eq_some_iff.1 he).1;have hfl:∀(l:List (List Value)),(∀e ∈ l,e.length=w)→l.flatten.length=l.length*w:=by
   intro l
   induction l with
   | nil=>intro _; simp
   | cons x l ih=>intro hl; rw[List.flatten_cons,List.length_append,ih (fun e he=>hl e (by simp[he])),hl x (by simp),List.length_cons,Nat.succ_mul]; omega
  have hmul:(j+1)*w≤es.length*w:=Nat.mul_le_mul_right w hj;rw[Nat.succ_mul] at hmul;have hst:E4 es.flatten (j*w+c) v sz=some (aH es.flatten (j*w+c) v.cells.toList):=by
   have:(Nat.beq v.cells.toList.length sz && Nat.blt 0 sz && bc v.cells.toList && Nat.ble (j*w+c+sz) es.flatten.length)=true:=by
    simp only[Bool.and_eq_true];exact⟨⟨⟨by rw[h1]; exact Nat.beq_refl _,h2⟩,h3⟩,Nat.ble_eq_true_of_le (by rw[hfl es g5]; omega)⟩
   simp only[E4,this]
  refine⟨_,vf ht g3 (by rcases g6 with rfl|rfl<;>simp) hst,h.write hp rfl rfl rfl rfl ?_⟩
  refine⟨g1,g2,?_,by simpa using g4,fun e'' he''=>?_,g6,g7⟩
  ·rw[AMem.bz,if_pos rfl,uQ g5 he (by omega)]
  ·rcases List.mem_or_eq_of_mem_set he'' with h5|h5
   ·exact g5 _ h5
   ·rw[h5,gm _ _ _ (by omega)]; exact hew
 ·cases hv
theorem Ox.made {o:Op} {ob:Nat→AObj} {p:Nat→Pc} {V:Nat→Value} (hr:∀t,aL E t o=none) (h:∀t m,Fr t fs→∀K,bm E t m o K=K (V m.next) (m.alloc (ob m.next)))
  (hb:∀b,(p b).mn=some b) (hp:∀lo m b,lo≤b→b<m.next→m.get b=some (ob b)→(p b).ok lo m) (hpg:∀b x,¬(p b).Ck x:=by exact fun _ _ h=>h):Ox E m0 fs ps o V (fun b=>p b::ps) :=
 fun t m hf hm=>⟨fun b hb=>(by rw[hr] at hb; cases hb),fun K hK=>by
  rw[h t m hf];refine hK m.next _ (hm.cons (Nat.le_succ _) (hm.ext.alloc _) (fun b hlt=>by rw[AMem.bg,if_neg (by omega)]) (hp _ _ _ hm.ext.next (Nat.lt_succ_self _) (by rw[AMem.bg,if_pos rfl])) (fun b' h'=>?_) (hpg _))
  rw[hb] at h'; cases h'; exact Nat.le_refl _⟩
theorem dG {z:Value} (hz:bO E.P ty=some z) (hp:aZ z=true):Ox E m0 fs ps (.alloc ty) (fun b=>ptr b 0) (fun b=>.obj b (.cells z.cells.toList .own)::ps) :=
 .made (ob:=fun _=>.cells z.cells.toList .own) (p:=fun b=>.obj b (.cells z.cells.toList .own)) (fun _=>rfl) (fun _ _ _ K=>Go.Ab.EG hz hp K) (fun _=>rfl) fun _ _ _ h1 h2 h3=>⟨h1,h2,h3⟩
theorem cQ (h:ev E fs x=some v):Ox E m0 fs ps (.box ty x) (fun b=>ptr b 0) (fun b=>.obj b (.cells v.cells.toList .own)::ps) :=
 .made (ob:=fun _=>.cells v.cells.toList .own) (p:=fun b=>.obj b (.cells v.cells.toList .own)) (fun _=>rfl) (fun _ _ hf K=>Go.Ab.HN (hf.ev h) K) (fun _=>rfl) fun _ _ _ h1 h2 h3=>⟨h1,h2,h3⟩
theorem I3:Ox E m0 fs ps (.makeMap ty none) (fun b=>.map (some b)) (fun b=>.obj b (.map [])::ps) :=
 .made (ob:=fun _=>.map []) (p:=fun b=>.obj b (.map [])) (fun _=>rfl) (fun _ _ _ _=>Go.Ab.wR) (fun _=>rfl) fun _ _ _ h1 h2 h3=>⟨h1,h2,h3⟩
def IG (P:Program) (elem:TypeId) (w len:Nat) (vs:List (Nat × Value)):Option (List Value) :=
 match fw P elem len with
 | some zs=>match zs.all aE && Nat.ble (len*w) 16777216 with
  | true=>fy (fun i=>some (i*w,w)) zs vs
  | false=>none
 | none=>none
def Hr (w:Nat) (es:List (List Value)):Bool:=es.all fun e=>Nat.beq e.length w
theorem D2 {w:Nat} {es:List (List Value)} (h:Hr w es=true):∀e ∈ es,e.length=w:=fun e he=>Nat.eq_of_beq_eq_true (List.all_eq_true.1 h e he)
theorem vQ {elem:TypeId} {w len:Nat} {parts:Array (Nat × Operand)} {vs:List (Nat × Value)} {es:List (List Value)} (ht:SlT E.P ty elem w) (h:CW E fs parts.toList=some vs) (hf:IG E.P elem w len vs=some es.flatten) (hl:Nat.beq es.length len=true) (hw:Hr w es=true) :
  Ox E m0 fs ps (.buildSlice ty len parts) (fun b=>.slice (some ⟨b,0,none⟩) len len) (fun b=>.arr b w len es .own::ps):=by
 refine .made (ob:=fun _=>.cells es.flatten .own) (p:=fun b=>.arr b w len es .own) (fun _=>rfl) (fun t m hfr K=>?_) (fun _=>rfl) fun _ _ _ h1 h2 h3=>⟨h1,h2,h3,Nat.eq_of_beq_eq_true hl,D2 hw,.inl rfl,ht.pos⟩;simp only[IG] at hf
 split at hf
 ·rename_i zs hz
  split at hf
  ·rename_i hc;simp only[Bool.and_eq_true] at hc;have:ct E t m (.buildSlice ty len parts)=some (.slice (some ⟨m.next,0,none⟩) len len,m.alloc (.cells es.flatten .own)):=by
    have h2:¬(len*w>2 ^ 24):=by have:=Nat.le_of_ble_eq_true hc.2; omega
    simp only[ct,ht.und,hfr.CW h,ht.known,ht.size,hz,hc.1,hf,Bool.not_true,Bool.false_or,decide_eq_false h2,if_true,Option.map_some]
    rfl
   exact Go.Ab.EP rfl this K
  ·cases hf
 ·cases hf
def lim (n:Nat):Bool:=Nat.ble n 1073741824
end
end Go.Ab.W
end

section
namespace Go.Ab.W
open Go Go.Ab
attribute [local irreducible] Tm.at Trie.set Trie.get AMem.get AMem.set AMem.alloc AMem.ww AMem.kill
section
variable {E : Env} {n : Nat} {m0 m m' : AMem} {fs : Fs} {ps : List Pc} {x y : Operand} {v : Value} {ty : TypeId}
theorem Own.rd {lo b w n:Nat} {es:List (List Value)} {tg:Tag} (h:Own lo m b w n es tg):Rd m (some ⟨b,0,none⟩) n w n es :=
 ⟨h.2.2.2.1,Nat.le_refl _,.inr (.inr ⟨b,0,rfl,h.IC⟩)⟩
inductive IsRd:Pc→Option Addr→Nat→Nat→Nat→List (List Value)→Prop
 | arr (b w n:Nat) (es:List (List Value)) (tg:Tag):IsRd (.arr b w n es tg) (some ⟨b,0,none⟩) n w n es
 | sl (a:Option Addr) (w n:Nat) (es:List (List Value)):IsRd (.sl a w n es) a n w n es
 | rd (a:Option Addr) (cap w n:Nat) (es:List (List Value)):IsRd (.rd a cap w n es) a cap w n es
 | nil {p:Pc} (w:Nat):IsRd p none 0 w 0 []
theorem Pc.Jj {p:Pc} {a:Option Addr} {lo cap w n:Nat} {es:List (List Value)} (h:p.ok lo m) (hi:IsRd p a cap w n es):Rd m a cap w n es:=by
 cases hi with
 | arr b w n es tg=>exact Own.rd h
 | sl a w n es =>
  rcases h with⟨rfl,rfl,rfl,_⟩|⟨b,tg,rfl,h⟩
  ·exact⟨rfl,Nat.le_refl _,.inl ⟨rfl,rfl⟩⟩
  ·exact h.rd
 | rd a cap w n es=>exact h
 | nil w=>exact⟨rfl,Nat.le_refl _,.inl ⟨rfl,rfl⟩⟩
theorem Hp.rd (h:Hp m0 m ps) {k:Nat} {p:Pc} {a:Option Addr} {cap w n:Nat} {es:List (List Value)} (hp:pk ps k=some p) (hi:IsRd p a cap w n es):Rd m a cap w n es:=Pc.Jj (h.get hp) hi
theorem Rd.nil (m:AMem) (w:Nat):Rd m none 0 w 0 []:=⟨rfl,Nat.le_refl _,.inl ⟨rfl,rfl⟩⟩
theorem Rd.cells {a:Option Addr} {cap w n:Nat} {es:List (List Value)} (h:Rd m a cap w n es):cE w (.slice a n cap) n m=some es.flatten:=by
 obtain⟨h1,h2,h4⟩:=h
 by_cases hn:n=0
 ·subst hn;have:es = []:=List.length_eq_zero_iff.1 h1;subst this;cases a with
  | none=>rfl
  | some a=>obtain⟨b,o,sp⟩:=a; cases sp<;>rfl
 ·rcases h4 with h4|⟨b,sp,rfl,h4,_⟩|⟨b,o,rfl,_,all,tg,hg,_,hl⟩
  ·exact absurd h4.2 hn
  ·exact absurd h4 hn
  ·simp only[cE,if_neg hn,AMem.cP,hg];have key:∀(es:List (List Value)) (k:Nat),(∀i e,es[i]? = some e→(all.drop (o+(k+i)*w)).take w=e∧e.length=w)→(all.drop (o+k*w)).take (es.length*w)=es.flatten∧es.flatten.length=es.length*w:=by
    intro es
    induction es with
    | nil=>intro k _; simp
    | cons e es ih =>
     intro k hk;obtain⟨a1,a2⟩:=hk 0 e rfl;obtain⟨b1,b2⟩:=ih (k+1) fun i e' he'=>by
      have:=hk (i+1) e' (by simpa using he')
      rwa[show k+(i+1)=k+1+i by omega] at this
     rw[Nat.add_zero] at a1;refine⟨?_,by rw[List.flatten_cons,List.length_append,a2,b2,List.length_cons,Nat.succ_mul]; omega⟩
     rw[List.length_cons,Nat.succ_mul,Nat.add_comm,List.take_add,a1,List.drop_drop,List.flatten_cons,←b1,Nat.succ_mul,Nat.add_assoc]
   have:=key es 0 (fun i e he=>by rw[Nat.zero_add]; exact hl i e he)
   rw[Nat.zero_mul,Nat.add_zero,h1] at this;rw[this.1,if_pos this.2]
theorem Hp.renew (h:Hp m0 m ps) {k:Nat} {p p':Pc} (hp:pk ps k=some p) (hn:m.next≤m'.next) (hext:Ext m0 m') (hok:p'.ok m0.next m') (hb:∀b,p'.mn=some b→m.next≤b) (hpo:p.own=true) (hg:∀b,p.mn≠some b→b<m.next→m'.get b=m.get b) (hng:∀b,¬p'.Ck b:=by exact fun _ h=>h):Hp m0 m' (dv ps k p') :=
 h.Jq hp (fun b a=>.inr ((Pc.mC a).elim (hb b) fun h=>absurd h (hng b))) (fun b a=>.inr (a.elim (hb b) fun h=>absurd h (hng b))) hn hext hok fun b hb' hlt=>hg b (fun e=>hb' (.inl ⟨hpo,e⟩)) hlt
def jz (es:List (List Value)):Prop:=∀e ∈ es,e.all lW=true
theorem xd {α:Type} {f:α→List Value} (h:∀x,(f x).all lW=true) (xs:List α):jz (xs.map f):=fun e he=>by
 obtain⟨x,_,rfl⟩:=List.mem_map.1 he; exact h x
theorem uF {es:List (List Value)} (h:jz es):bc es.flatten=true:=by
 unfold bc;rw[List.all_eq_true];intro v hv;obtain⟨l,h1,h2⟩:=List.mem_flatten.1 hv;exact List.all_eq_true.1 (h l h1) v h2
theorem ga {w:Nat}:∀{l:List (List Value)},(∀e ∈ l,e.length=w)→l.flatten.length=l.length*w:=by
 intro l
 induction l with
 | nil=>intro _; simp
 | cons x l ih=>intro hl; rw[List.flatten_cons,List.length_append,ih (fun e he=>hl e (by simp[he])),hl x (by simp),List.length_cons,Nat.succ_mul]; omega
theorem zq {P:Program} {elem ty2:TypeId} {w k n0 c0:Nat} {a a0:Option Addr} {es e0:List (List Value)} (ht:SlT P ty elem w) (h2:∃e1,P.underlying ty2=some (.slice e1)) (h:Hp m0 m ps) (hp:pk ps k=some (.sl a w n es)) (hr:Rd m a0 c0 w n0 e0) (h1:∀e ∈ e0,e.length=w) (ho:jz e0) (hl:lim (n+n0)=true) :
  ∃a' m',cT P ty (some ty2) (.slice a n n) (.slice a0 n0 c0) m=some (.slice a' (n+n0) (n+n0),m')∧Hp m0 m' (dv ps k (.sl a' w (n+n0) (es++e0))):=by
 obtain⟨e1,h3⟩:=h2;obtain⟨inf,h4,h5,h6⟩:=ht.bytes;have hln:n+n0≤1073741824:=Nat.le_of_ble_eq_true hl;have hc:=hr.cells;have hlen2:e0.flatten.length=n0*w:=by rw[ga h1,hr.1]
 have hnew:gB P elem (some ty2) (.slice a0 n0 c0) m=some (n0,e0.flatten):=by
  simp only[gB,Option.bind_some,h3,ht.size];have:cE w (.slice a0 n0 c0) n0 m=some e0.flatten:=hc;rw[this]; rfl
 have hfit:(P.info? elem).any (fun i=>eZ i.bytes (n+n0) && i.bytes != 0)=true:=by
  rw[h4];have hmul:(2*(n+n0)+2000)*inf.bytes≤(2*1073741824+2000)*1024:=Nat.mul_le_mul (by omega) h6
  simp only[Option.any_some,eZ,Bool.and_eq_true,decide_eq_true_eq,bne_iff_ne,ne_eq];exact⟨by omega,h5⟩
 have hzero:(bO P elem).any (fun z=>z.cells.size == w && z.cells.toList.all aE)=true:=ht.zero;have hpos:=ht.pos;have h7:(w == 0)=false:=by simp; omega
 have hguard:(!(known P elem) || an P elem == 0 || !bc e0.flatten || !(P.info? elem).any (fun i=>eZ i.bytes (n+n0) && i.bytes != 0) || e0.flatten.length != n0*an P elem || !(bO P elem).any (fun z=>z.cells.size == an P elem && z.cells.toList.all aE))=false:=by
  rw[ht.size,ht.known,hfit,hzero,uF ho,h7,hlen2]; simp
 have hres:∀a',(∃m',(.slice a' (n+n0) (n+n0),m')=((.slice a' (n+n0) (n+n0),m'):Value × AMem)):=fun a'=>⟨m,rfl⟩;have hpc:=h.get hp;have hext:=h.ext;rcases hpc with⟨rfl,rfl,rfl,_⟩|⟨b,tg,rfl,hb⟩
 ·
  by_cases h0:n0=0
  ·subst h0;have hes:e0 = []:=List.length_eq_zero_iff.1 hr.1;subst hes;refine⟨none,m,?_,?_⟩
   ·unfold cT;simp only[ht.und,hnew];rw[if_neg (by rw[hguard]; exact Bool.false_ne_true)]
    rfl
   ·have:dv ps k (.sl none w (0+0) ([]++[]))=ps:=by
     have:∀(l:List Pc) (k:Nat) (p:Pc),pk l k=some p→dv l k p=l:=by
      intro l
      induction l with
      | nil=>intro k p h; simp[pk] at h
      | cons q l ih =>
       intro k p h;cases k with
       | zero=>rw[iJ] at h; rw[fR,Option.some.inj h]
       | succ k=>rw[gO] at h; rw[ie,ih k p h]
     exact this ps k _ hp
    rw[this]; exact h
  ·refine⟨some ⟨m.next,0,none⟩,m.alloc (.cells e0.flatten (.more w)),?_,?_⟩
   ·unfold cT;simp only[ht.und,hnew];rw[if_neg (by rw[hguard]; exact Bool.false_ne_true)]
    simp only[ht.size];rw[if_neg (by simp),if_neg h0,Nat.zero_add]
   ·refine h.renew hp (by simp only[AMem.next_alloc]; omega) (hext.alloc _) (.inr ⟨m.next,.more w,rfl,hext.next,(by rw[AMem.next_alloc]; omega),?_,?_,?_,.inr rfl,hpos⟩) (fun b' hb'=>?_) rfl fun b' _ hlt=>?_
    ·rw[AMem.bg,if_pos rfl,List.nil_append]
    ·rw[List.nil_append,hr.1,Nat.zero_add]
    ·rw[List.nil_append]; exact h1
    ·cases hb'; exact Nat.le_refl _
    ·rw[AMem.bg,if_neg (by omega)]
 ·obtain⟨g5,g6,g1,g2,g3,g4,g7⟩:=hb;have hlen:es.flatten.length=n*w:=by rw[ga g3,g2]
  by_cases h0:n0=0
  ·subst h0;have hes:e0 = []:=List.length_eq_zero_iff.1 hr.1;subst hes;refine⟨some ⟨b,0,none⟩,m,?_,?_⟩
   ·unfold cT;simp only[ht.und,hnew];rw[if_neg (by rw[hguard]; exact Bool.false_ne_true)]
    simp only[g1];rw[if_pos (Nat.le_of_eq (Nat.add_zero n))];simp[AMem.cY]
   ·rw[List.append_nil,Nat.add_zero];have:dv ps k (.sl (some ⟨b,0,none⟩) w n es)=ps:=by
     have:∀(l:List Pc) (k:Nat) (p:Pc),pk l k=some p→dv l k p=l:=by
      intro l
      induction l with
      | nil=>intro k p h; simp[pk] at h
      | cons q l ih =>
       intro k p h;cases k with
       | zero=>rw[iJ] at h; rw[fR,Option.some.inj h]
       | succ k=>rw[gO] at h; rw[ie,ih k p h]
     exact this ps k _ hp
    rw[this]; exact h
  ·have hcap:¬(n+n0≤n):=by omega
   have htake:es.flatten.take (n*w)=es.flatten:=List.take_of_length_le (by omega)
   have hok:∀(mm:AMem),m.next≤mm.next→Pc.ok m0.next (mm.alloc (.cells (es.flatten++e0.flatten) (.more w))) (.sl (some ⟨mm.next,0,none⟩) w (n+n0) (es++e0)):=fun mm hmm =>
    .inr ⟨mm.next,.more w,rfl,Nat.le_trans hext.next hmm,(by rw[AMem.next_alloc]; omega),by rw[AMem.bg,if_pos rfl,List.flatten_append],by rw[List.length_append,g2,hr.1],fun e he=>by
     rcases List.mem_append.1 he with he|he
     ·exact g3 e he
     ·exact h1 e he,.inr rfl,hpos⟩
   rcases g4 with rfl|rfl
   ·refine⟨some ⟨m.next,0,none⟩,m.alloc (.cells (es.flatten++e0.flatten) (.more w)),?_,?_⟩
    ·unfold cT;simp only[ht.und,hnew];rw[if_neg (by rw[hguard]; exact Bool.false_ne_true)]
     simp only[ht.size,g1];rw[if_neg hcap];have hld:m.cP b 0 (n*w)=some es.flatten:=by
      simp only[AMem.cP,g1,List.drop_zero,htake];rw[if_pos hlen]
     simp only[hld]
    ·refine h.renew hp (by simp only[AMem.next_alloc]; omega) (hext.alloc _) (hok m (Nat.le_refl _)) (fun b' hb'=>?_) rfl fun b' _ hlt=>?_
     ·cases hb'; exact Nat.le_refl _
     ·rw[AMem.bg,if_neg (by omega)]
   ·refine⟨some ⟨(m.kill b).next,0,none⟩,(m.kill b).alloc (.cells (es.flatten++e0.flatten) (.more w)),?_,?_⟩
    ·unfold cT;simp only[ht.und,hnew];rw[if_neg (by rw[hguard]; exact Bool.false_ne_true)]
     simp only[ht.size,g1];rw[if_neg hcap];simp only[and_self,if_true,htake,hlen,AMem.next_kill]
    ·have hk:Ext m0 (m.kill b):=⟨by rw[AMem.next_kill]; exact hext.next,fun x hx=>by rw[AMem.ff,if_neg (by omega)]; exact hext.same x hx,by
      rw[AMem.wl_kill];have:=hext.wl; omega⟩
     refine h.renew hp (by simp only[AMem.next_alloc,AMem.next_kill]; omega) (hk.alloc _) (hok (m.kill b) (by rw[AMem.next_kill]; exact Nat.le_refl _)) (fun b' hb'=>?_) rfl fun b' hb' hlt=>?_
     ·cases hb'; rw[AMem.next_kill]; exact Nat.le_refl _
     ·rw[AMem.bg,if_neg (by simp; omega),AMem.ff,if_neg (fun e=>hb' (by rw[e]; rfl))]
theorem Jf {elem ty2:TypeId} {w k k2 n0 c0:Nat} {a a0:Option Addr} {es e0:List (List Value)} {ars:Array Operand} {p0:Pc} (ht:SlT E.P ty elem w) (h0:∃e1,E.P.underlying ty2=some (.slice e1)) (ha:kW E fs ars.toList=some [.slice a n n,.slice a0 n0 c0]) (hp:pk ps k=some (.sl a w n es)) (h1:pk ps k2=some p0) (hr:IsRd p0 a0 c0 w n0 e0) (h2:∀e ∈ e0,e.length=w) (ho:jz e0) (hl:lim (n+n0)=true) :
  Ox E m0 fs ps (.call ⟨.builtin .append,ars,#[ty,ty2]⟩) (fun a':Option Addr=>.slice a' (n+n0) (n+n0)) (fun a'=>dv ps k (.sl a' w (n+n0) (es++e0))) :=
 fun t m hf h=>⟨fun b hb=>(by simp[aL] at hb),fun K hK=>by
  obtain⟨a',m',h3,h4⟩:=zq (n:=n) ht h0 h hp (h.rd h1 hr) h2 ho hl;have:aQ E.P .append #[ty,ty2] [.slice a n n,.slice a0 n0 c0] m=some (.slice a' (n+n0) (n+n0),m'):=h3;rw[Go.Ab.jF (hf.kW ha) this];exact hK a' m' h4⟩
theorem fj {k cap:Nat} {a:Option Addr} {ars:Array Operand} {p:Pc} {elem:TypeId} (hu:E.P.underlying ty=some (.slice elem)) (ha:kW E fs ars.toList=some [.slice a n cap]) (hp:pk ps k=some p) (hb:Az a=p.mn∨a=none) :
  Od E m0 fs ps (.call ⟨.builtin .len,ars,#[ty]⟩) (.int .i64 (n:Int)) ps :=
 fun t m hf h=>⟨fun b hb'=>by
  simp only[aL,hf.kW ha] at hb';have hab:fG (.slice a n cap)=Az a:=by cases a<;>rfl
  rw[hab] at hb';exact hb.elim (fun hb=>Pc.BM (h.get hp) (hb ▸ hb')) (fun hb=>by rw[hb] at hb'; exact nomatch hb'),fun K hK=>by
  have:aQ E.P .len #[ty] [.slice a n cap] m=some (.int .i64 (n:Int),m):=by
   have ht:(#[ty]:Array TypeId)[0]? = some ty:=rfl;simp only[aQ,ht,Option.bind_some,hu]
  rw[Go.Ab.jF (hf.kW ha) this]; exact hK m h⟩
theorem qo.drop {b o w:Nat} {es:List (List Value)} (h:qo m b o w es) (lo k:Nat):qo m b (o+lo*w) w ((es.drop lo).take k):=by
 obtain⟨h1,all,tg,h2,hs,h3⟩:=h;refine⟨h1,all,tg,h2,hs,fun i e he=>?_⟩;rw[List.getElem?_take] at he
 split at he
 ·rw[List.getElem?_drop] at he;have:=h3 (lo+i) e he;rwa[Nat.add_mul,←Nat.add_assoc] at this
 ·cases he
def sK (ps:List Pc):Bool:=ps.all Pc.own
theorem uP {α:Type} {V:α→Value} {N:α→List Pc} {f:Operand} {g:FuncId} {first cap:Array Value} {ars:Array Operand} {ts:Array TypeId} {args:List Value} (hf:ev E fs f=some (.func (.func g) first cap)) (ha:kW E fs ars.toList=some args) (hc:∀m,Hp m0 m ps→aR E g (first.toList++args++cap.toList) m (fun v m'=>∃x,v=V x∧Hp m0 m' (N x))):Ox E m0 fs ps (.call ⟨.value f,ars,ts⟩) V N :=
 fun t m hfr hm=>⟨fun b hb=>(by simp[aL] at hb),fun K hK=>by
  have hev:al E t f=some (.func (.func g) first cap):=by
   cases f with
   | tmp i=>exact hfr.ev hf
   | const c=>exact hfr.ev hf
   | global g=>exact hfr.ev hf
   | func g=>exact hfr.ev hf
  show jn E (al E t f) (aU E t ars.toList) m _
  rw[hev,hfr.kW ha]
  show aR E g (first.toList++args++cap.toList) m K
  exact(hc m hm).mono fun v m' ⟨x,e,h⟩=>by rw[e]; exact hK x m' h⟩
theorem cL {α:Type} {V:α→Value} {N:α→List Pc} {f:Operand} {g:FuncId} {ars:Array Operand} {ts:Array TypeId} {args:List Value} (hf:ev E fs f=some (.func (.func g) #[] #[])) (ha:kW E fs ars.toList=some args) (hc:∀m,Hp m0 m ps→aR E g args m (fun v m'=>∃x,v=V x∧Hp m m' (N x))) (ho:∀x,sK (N x)=true):Ox E m0 fs ps (.call ⟨.value f,ars,ts⟩) V (fun x=>N x++ps) :=
 uP hf ha fun m hm=>by
  simp only[List.nil_append,List.append_nil];exact(hc m hm).mono fun v m' ⟨x,e,h⟩=>⟨x,e,hm.after h fun p hp=>List.all_eq_true.1 (ho x) p hp⟩
end
theorem Ext.JM {m0 m:AMem} (h:Ext m0 m) {w:Nat} (hw:min m0.wl m0.next≤w):Ext m0 (m.ww w):=⟨by rw[AMem.next_ww]; exact h.next,fun b hb=>by rw[AMem.get_ww]; exact h.same b hb,by rw[AMem.wl_ww]; exact hw⟩
theorem Hp.ww {m0 m:AMem} {ps:List Pc} (h:Hp m0 m ps) {w:Nat} (hw:min m0.wl m0.next≤w):Hp m0 (m.ww w) ps :=
 ⟨Ext.JM h.ext hw,fun p hp=>Pc.jK (h.ok p hp) (by rw[AMem.next_ww]; exact Nat.le_refl _) (fun b _ _=>by rw[AMem.get_ww]),h.apart⟩
section
variable {E : Env} {n : Nat} {m0 : AMem} {fs : Fs} {ps ps' : List Pc} {ops : Array Oper} {os : List Oper} {K : Tm → AMem → Prop} {dr : Bool}
def Wo (dr:Bool) (E:Env) (n:Nat) (ops:Array Oper) (K:Tm→AMem→Prop) (os:List Oper) (m0:AMem) (fs:Fs) (ps:List Pc):Prop :=
 match dr with
 | false=>∀t m,Fr t fs→Hp m0 m ps→nO E n ops K os t m
 | true=>∀t m w,Fr t fs→Hp m0 m ps→min m0.wl m0.next≤w→ic E n ops K os t m w
variable {ty : TypeId} {p : String} {af : Array Edge} {d : Nat} {o : Op} {g : Option (Nat × Bool)} {v : Value}
def vl (ops:Array Oper) (fs:Fs) (g:Option (Nat × Bool)) (b:Bool):Prop:=∀t d o ty p af,Fr t fs→aS ops ⟨d,o,ty,p,af,g⟩ t=b
theorem gn:vl ops fs none true:=fun _ _ _ _ _ _ _=>rfl
theorem gg {j d:Nat} {b c r:Bool} (hd:(ops[j]?).bind (·.dst)=some d) (h:lk fs d=some (.bool c)) (hr:(c == b)=r):vl ops fs (some (j,b)) r:=fun t d' o ty p af hf=>by
 rw[←hr]; exact Jg hd (hf d _ h)
theorem Wo.x {α:Type} {V:α→Value} {N:α→List Pc} (h:Ox E m0 fs ps o V N) (hg:vl ops fs g true) (hd:Nat.blt d n=true) (k:∀x,Wo dr E n ops K os m0 ((d,V x)::fs) (N x)):Wo dr E n ops K (⟨some d,o,ty,p,af,g⟩::os) m0 fs ps:=by
 have hd':d<n:=by rwa[Nat.blt_eq] at hd
 cases dr with
 | false =>
  intro t m hf hm;simp only[nO,hg t _ _ _ _ _ hf,if_true];refine(h t m hf hm).2 _ fun x m' hm'=>?_;rw[fO,if_pos hd'];exact k x _ m' hf.set hm'
 | true =>
  intro t m w hf hm hw;simp only[ic,hg t _ _ _ _ _ hf,if_true];have hx:=hm.ext.next
  have hm':Hp m0 (m.ww m.next) ps:=hm.ww (by omega)
  refine⟨fun b hb=>?_,?_⟩
  ·have:=(h t _ hf hm').1 b hb;rwa[AMem.next_ww] at this
  ·refine(h t _ hf hm').2 _ fun x m' hm''=>?_;rw[fO,if_pos hd'];have:=hm''.ext.wl;exact k x _ m' _ hf.set hm'' (by omega)
theorem Wo.x0 {α:Type} {V:α→Value} {N:α→List Pc} (h:Ox E m0 fs ps o V N) (hg:vl ops fs g true) (k:∀x,Wo dr E n ops K os m0 fs (N x)):Wo dr E n ops K (⟨none,o,ty,p,af,g⟩::os) m0 fs ps:=by
 cases dr with
 | false =>
  intro t m hf hm;simp only[nO,hg t _ _ _ _ _ hf,if_true];refine(h t m hf hm).2 _ fun x m' hm'=>?_;exact k x _ m' hf hm'
 | true =>
  intro t m w hf hm hw;simp only[ic,hg t _ _ _ _ _ hf,if_true];have hx:=hm.ext.next
  have hm':Hp m0 (m.ww m.next) ps:=hm.ww (by omega)
  refine⟨fun b hb=>?_,?_⟩
  ·have:=(h t _ hf hm').1 b hb;rwa[AMem.next_ww] at this
  ·refine(h t _ hf hm').2 _ fun x m' hm''=>?_;have:=hm''.ext.wl;exact k x _ m' _ hf hm'' (by omega)
theorem Od.x (h:Od E m0 fs ps o v ps'):Ox E m0 fs ps o (fun _:Unit=>v) (fun _=>ps'):=fun t m hf hm=>⟨(h t m hf hm).1,fun K hK=>(h t m hf hm).2 K fun m' hm'=>hK () m' hm'⟩
theorem Wo.od (h:Od E m0 fs ps o v ps') (hd:Nat.blt d n=true) (k:Wo dr E n ops K os m0 ((d,v)::fs) ps'):Wo dr E n ops K (⟨some d,o,ty,p,af,none⟩::os) m0 fs ps:=Wo.x h.x gn hd fun _=>k
theorem Wo.o0 (h:Od E m0 fs ps o v ps') (k:Wo dr E n ops K os m0 fs ps'):Wo dr E n ops K (⟨none,o,ty,p,af,none⟩::os) m0 fs ps:=Wo.x0 h.x gn fun _=>k
theorem Wo.og (h:Od E m0 fs ps o v ps') (hg:vl ops fs g true) (hd:Nat.blt d n=true) (k:Wo dr E n ops K os m0 ((d,v)::fs) ps'):Wo dr E n ops K (⟨some d,o,ty,p,af,g⟩::os) m0 fs ps:=Wo.x h.x hg hd fun _=>k
theorem Wo.s (hg:vl ops fs g false) (hd:Nat.blt d n=true) (k:Wo dr E n ops K os m0 ((d,undef)::fs) ps):Wo dr E n ops K (⟨some d,o,ty,p,af,g⟩::os) m0 fs ps:=by
 have hd':d<n:=by rwa[Nat.blt_eq] at hd
 cases dr with
 | false =>
  intro t m hf hm;simp only[nO,hg t _ _ _ _ _ hf,Bool.false_eq_true,if_false];rw[fO,if_pos hd'];exact k _ m hf.set hm
 | true =>
  intro t m w hf hm hw;simp only[ic,hg t _ _ _ _ _ hf,Bool.false_eq_true,if_false];rw[fO,if_pos hd'];exact k _ m w hf.set hm hw
def aa (m0:AMem) (ps:List Pc) (qs:List Pc):Prop:=∀m,Hp m0 m ps→Hp m0 m qs
theorem Wo.qk (h:aa m0 ps ps') (k:Wo dr E n ops K os m0 fs ps'):Wo dr E n ops K os m0 fs ps:=by
 cases dr with
 | false=>exact fun t m hf hm=>k t m hf (h m hm)
 | true=>exact fun t m w hf hm hw=>k t m w hf (h m hm) hw
theorem Wo.open {k w l:Nat} {a:Option Addr} {es:List (List Value)} (hp:pk ps k=some (.sl a w l es)) (hl:0<l) (h:∀b tg,a=some ⟨b,0,none⟩→yf tg=true→Wo dr E n ops K os m0 fs (dv ps k (.arr b w l es tg))):Wo dr E n ops K os m0 fs ps:=by
 have key:∀m,Hp m0 m ps→∃b tg,a=some ⟨b,0,none⟩∧yf tg=true∧Hp m0 m (dv ps k (.arr b w l es tg)):=by
  intro m hm;have h0:=hm.get hp;rcases h0 with⟨h1,_⟩|⟨b,tg,rfl,h1⟩
  ·omega
  ·refine⟨b,tg,rfl,by rcases h1.2.2.2.2.2.1 with rfl|rfl<;>rfl,hm.put hp rfl rfl rfl (Nat.le_refl _) hm.ext h1 fun _ _ _=>rfl⟩
 cases dr with
 | false=>intro t m hf hm; obtain⟨b,tg,h1,h2,h3⟩:=key m hm; exact h b tg h1 h2 t m hf h3
 | true=>intro t m w' hf hm hw; obtain⟨b,tg,h1,h2,h3⟩:=key m hm; exact h b tg h1 h2 t m w' hf h3 hw
theorem Wo.fF {k w l cap:Nat} {a:Option Addr} {es:List (List Value)} (hp:pk ps k=some (.rd a cap w l es)) (hl:0<l) (h:∀b o,a=some ⟨b,o,none⟩→Wo dr E n ops K os m0 fs (.ro b o w l es::ps)):Wo dr E n ops K os m0 fs ps:=by
 have key:∀m,Hp m0 m ps→∃b o,a=some ⟨b,o,none⟩∧Hp m0 m (.ro b o w l es::ps):=by
  intro m hm;obtain⟨h1,h2,h3⟩:=hm.get hp;rcases h3 with⟨_,h3⟩|⟨_,_,_,h3,_⟩|⟨b,o,rfl,h3⟩
  ·omega
  ·omega
  ·exact⟨b,o,rfl,hm.more hp rfl ⟨h1,h3⟩ rfl fun b' hb=>hb⟩
 cases dr with
 | false=>intro t m hf hm; obtain⟨b,o,h1,h3⟩:=key m hm; exact h b o h1 t m hf h3
 | true=>intro t m w' hf hm hw; obtain⟨b,o,h1,h3⟩:=key m hm; exact h b o h1 t m w' hf h3 hw
theorem aa.trans {ps'':List Pc} (h:aa m0 ps ps') (h':aa m0 ps' ps''):aa m0 ps ps'':=fun m hm=>h' m (h m hm)
theorem aa.U (ks:List Nat) (hnd:mM ks=true) (e:W.U ps ks=some ps'):aa m0 ps ps':=fun _ h=>h.U ks hnd e
theorem aa.close {k b w l:Nat} {es:List (List Value)} {tg:Tag} (hp:pk ps k=some (.arr b w l es tg)):aa m0 ps (dv ps k (.sl (some ⟨b,0,none⟩) w l es)):=fun _ h =>
 h.put hp rfl rfl rfl (Nat.le_refl _) h.ext (.inr ⟨b,tg,rfl,h.get hp⟩) fun _ _ _=>rfl
theorem aa.nil (w:Nat) (hw:Nat.blt 0 w=true):aa m0 ps (.sl none w 0 []::ps):=fun m h =>
 h.cons (Nat.le_refl _) h.ext (fun _ _=>rfl) (.inl ⟨rfl,rfl,rfl,by rwa[Nat.blt_eq] at hw⟩) fun b hb=>(by cases hb)
variable {fn : FuncId} {ro : Option Nat} {Q : AExit → Tm → AMem → Prop}
def Wk (E:Env) (n:Nat) (fn:FuncId) (ro:Option Nat) (c:Code) (Q:AExit→Tm→AMem→Prop) (m0:AMem) (fs:Fs) (ps:List Pc):Prop:=∀t m,Fr t fs→Hp m0 m ps→ba E n fn ro c Q t m
def At (Q:AExit→Tm→AMem→Prop) (e:AExit) (m0:AMem) (fs:Fs) (ps:List Pc):Prop:=∀t m,Fr t fs→Hp m0 m ps→Q e t m
variable {a b c : Code} {id id' : Nat}
theorem Wk.seq (h:Wk E n fn ro a (nw (ba E n fn ro b Q) Q) m0 fs ps):Wk E n fn ro (.seq a b) Q m0 fs ps:=fun t m hf hm=>.seq (h t m hf hm)
theorem Wk.skip (h:At Q .normal m0 fs ps):Wk E n fn ro .skip Q m0 fs ps:=fun t m hf hm=>.skip (h t m hf hm)
theorem Wk.exit (h:At Q (.exit id) m0 fs ps):Wk E n fn ro (.exit id) Q m0 fs ps:=fun t m hf hm=>.exit (h t m hf hm)
theorem Wk.ret (h:At Q .ret m0 fs ps):Wk E n fn ro .ret Q m0 fs ps:=fun t m hf hm=>.ret (h t m hf hm)
theorem Wk.cond {x:Operand} {r:Bool} (hx:ev E fs x=some (.bool r)) (ht:r=true→Wk E n fn ro a Q m0 fs ps) (hf:r=false→Wk E n fn ro b Q m0 fs ps):Wk E n fn ro (.cond x a b) Q m0 fs ps:=fun t m hfr hm=>.cond (hfr.ev hx) (fun h=>ht h t m hfr hm) (fun h=>hf h t m hfr hm)
theorem Wk.aB {x:Operand} {r:Bool} (hx:ev E fs x=some (.bool r)) (hr:r=true) (ht:Wk E n fn ro a Q m0 fs ps):Wk E n fn ro (.cond x a b) Q m0 fs ps:=.cond hx (fun _=>ht) (fun h=>by rw[hr] at h; cases h)
theorem Wk.aA {x:Operand} {r:Bool} (hx:ev E fs x=some (.bool r)) (hr:r=false) (ht:Wk E n fn ro b Q m0 fs ps):Wk E n fn ro (.cond x a b) Q m0 fs ps:=.cond hx (fun h=>by rw[hr] at h; cases h) (fun _=>ht)
theorem Wk.block (h:Wk E n fn ro a (dK id Q) m0 fs ps):Wk E n fn ro (.block id a) Q m0 fs ps:=fun t m hf hm=>.block (h t m hf hm)
theorem Wk.scope (h:Wk E n fn ro a Q m0 fs ps):Wk E n fn ro (.scope a) Q m0 fs ps:=fun t m hf hm=>.scope (h t m hf hm)
theorem Wk.region (h:Wo false E n ops (Q .normal) ops.toList m0 fs ps):Wk E n fn ro (.region id ops false) Q m0 fs ps:=fun t m hf hm=>.yb (h t m hf hm)
theorem vW {t:Tm} {m:AMem} {o:Op} {K K':Value→AMem→Prop} (h:bm E t m o K) (hk:∀v m',K v m'→K' v m'):bm E t m o K':=by
 unfold bm at h ⊢;cases hc:mT o with
 | some p =>
  obtain⟨f,ars⟩:=p;rw[hc] at h;simp only at h ⊢;cases hf:al E t f with
  | none=>rw[hf] at h; exact h.elim
  | some v =>
   cases ha:aU E t ars with
   | none=>rw[hf,ha] at h; unfold jn at h; split at h<;>first | (rename_i h1 h2; cases h2) | exact h.elim
   | some vs =>
    rw[hf,ha] at h;unfold jn at h ⊢
    split at h
    ·rename_i h1 h2;cases h1; cases h2;exact h.mono hk
    ·rename_i h1 h2;cases h1; cases h2;obtain⟨v,m',h5,hv⟩:=h;exact⟨v,m',h5,hk v m' hv⟩
    ·exact h.elim
 | none =>
  rw[hc] at h;simp only at h ⊢;cases he:ct E t m o with
  | none=>rw[he] at h; exact h.elim
  | some r=>rw[he] at h; exact hk r.1 r.2 h
theorem xE {K K':Tm→AMem→Prop} (hK:∀t m,K t m→K' t m):∀(os:List Oper) (t:Tm) (m:AMem) (w:Nat),ic E n ops K os t m w→ic E n ops K' os t m w:=by
 intro os
 induction os with
 | nil=>intro t m w hk; exact hK _ _ hk
 | cons o os ih =>
  intro t m w hk;simp only[ic] at hk ⊢
  split at hk
  ·rename_i hw;rw[if_pos hw];refine⟨hk.1,vW hk.2 fun v m' hv=>?_⟩;obtain⟨t',e,h4⟩:=hv.A
   show BS (fX n t o.dst v) fun t'=>ic E n ops K' os t' m' (min w m'.wl)
   rw[e]; exact ih _ _ _ h4
  ·rename_i hw;rw[if_neg hw];obtain⟨t',e,h4⟩:=hk.A;rw[e]; exact ih _ _ _ h4
theorem Wk.draw (hp:cD ops=some []) (h:Wo true E n ops (Q .normal) ops.toList m0 fs ps):Wk E n fn ro (.region id ops true) Q m0 fs ps:=fun t m hf hm=>.Hx hp fun K hK=>by
 exact xE hK _ _ _ _ (h t m m.wl hf hm hm.ext.wl)
theorem Wo.nil (h:At Q .normal m0 fs ps):Wo dr E n ops (Q .normal) [] m0 fs ps:=by
 cases dr with
 | false=>exact fun t m hf hm=>h t m hf hm
 | true=>exact fun t m w hf hm hw=>h t _ hf (hm.ww hw)
theorem At.tn (h:Wk E n fn ro b Q m0 fs ps):At (nw (ba E n fn ro b Q) Q) .normal m0 fs ps:=h
theorem At.te {K:Tm→AMem→Prop} (h:At Q (.exit id) m0 fs ps):At (nw K Q) (.exit id) m0 fs ps:=h
theorem At.tr {K:Tm→AMem→Prop} (h:At Q .ret m0 fs ps):At (nw K Q) .ret m0 fs ps:=h
theorem At.bn (h:At Q .normal m0 fs ps):At (dK id Q) .normal m0 fs ps:=h
theorem At.be (h:At Q .normal m0 fs ps):At (dK id Q) (.exit id) m0 fs ps:=fun t m hf hm=>by rw[xP,if_pos rfl]; exact h t m hf hm
theorem At.bx (hne:Nat.beq id' id=false) (h:At Q (.exit id') m0 fs ps):At (dK id Q) (.exit id') m0 fs ps:=fun t m hf hm=>by rw[xP,if_neg (Nat.ne_of_beq_eq_false hne)]; exact h t m hf hm
theorem At.br (h:At Q .ret m0 fs ps):At (dK id Q) .ret m0 fs ps:=h
theorem At.qk {e:AExit} (h:aa m0 ps ps') (k:At Q e m0 fs ps'):At Q e m0 fs ps:=fun t m hf hm=>k t m hf (h m hm)
theorem Wk.qk (h:aa m0 ps ps') (k:Wk E n fn ro c Q m0 fs ps'):Wk E n fn ro c Q m0 fs ps:=fun t m hf hm=>k t m hf (h m hm)
theorem Wk.fu {fs':Fs} (hs:sub fs fs') (h:aa m0 ps ps') (k:Wk E n fn ro c Q m0 fs' ps'):Wk E n fn ro c Q m0 fs ps:=fun t m hf hm=>k t m (hf.sub hs) (h m hm)
structure En where
 e:AExit
 fs:Fs
 ps:List Pc
def pS (m0:AMem) {γ:Type} (G:γ→En) (e:AExit) (t:Tm) (m:AMem):Prop:=∃g,e=(G g).e∧Fr t (G g).fs∧Hp m0 m (G g).ps
theorem At.en {γ:Type} {G:γ→En} {e:AExit} (g:γ) (he:e=(G g).e) (hs:sub fs (G g).fs) (ht:aa m0 ps (G g).ps):At (pS m0 G) e m0 fs ps:=fun _ m hf hm=>⟨g,he,hf.sub hs,ht m hm⟩
theorem Wk.cut {γ:Type} {G:γ→En} (h:Wk E n fn ro c (pS m0 G) m0 fs ps) (k:∀g,At Q (G g).e m0 (G g).fs (G g).ps):Wk E n fn ro c Q m0 fs ps:=fun t m hf hm =>
 (h t m hf hm).mono fun e t' m' ⟨g,h1,h2,h3⟩=>by rw[h1]; exact k g t' m' h2 h3
def dx {σ ρ:Type} (body:σ→Option (σ ⊕ ρ)):Nat→σ→Option ρ
 | 0,_=>none
 | k+1,s=>match body s with
  | some (.inl s')=>dx body k s'
  | some (.inr r)=>some r
  | none=>none
theorem Wk.loop {σ ρ γ:Type} {δ:ρ→Type} (body:σ→Option (σ ⊕ ρ)) (I:σ→γ→En) (X:(r:ρ)→δ r→En)
  (hb:∀s g r,body s=some r→Wk E n fn ro c (match r with | .inl s'=>pS m0 (I s') | .inr r=>pS m0 (X r)) m0 (I s g).fs (I s g).ps)
  (hn:∀s g,(I s g).e = .normal) (hx:∀r g,(X r g).e≠.normal) :
  ∀(N:Nat) (s:σ) (r:ρ),dx body N s=some r→∀g,Wk E n fn ro (.loop c) (pS m0 (X r)) m0 (I s g).fs (I s g).ps:=by
 intro N
 induction N with
 | zero=>intro s r h; cases h
 | succ N ih =>
  intro s r h g t m hf hm;refine .loop (.round ?_);simp only[dx] at h
  split at h
  ·rename_i s' hs;refine(hb s g _ hs t m hf hm).mono fun e t' m' ⟨g',h1,h2,h3⟩=>?_;rw[h1,hn];have:=ih s' r h g' t' m' h2 h3;obtain⟨e2,t2,m2,⟨k2,hk2⟩,q2⟩:=this;cases k2 with
   | zero=>cases hk2
   | succ k2=>exact⟨e2,t2,m2,⟨k2,hk2⟩,q2⟩
  ·rename_i r' hs;simp only[Option.some.injEq] at h;subst h;refine(hb s g _ hs t m hf hm).mono fun e t' m' ⟨g',h1,h2,h3⟩=>?_;have hq:pS m0 (X r') e t' m':=⟨g',h1,h2,h3⟩;cases he:e with
   | normal=>rw[h1] at he; exact absurd he (hx _ _)
   | exit id=>rw[he] at hq; exact hq
   | ret=>rw[he] at hq; exact hq
  ·cases h
def qF:List Value→Nat→Fs→Fs
 | [],_,fs=>fs
 | v::vs,i,fs=>qF vs (i+1) ((i,v)::fs)
theorem Fr.args:∀(vs:List Value) (i:Nat) (fs:Fs) (t:Tm),Fr t fs→Fr (Trie.ofList vs i t) (qF vs i fs)
 | [],_,_,_,h=>h
 | _::vs,i,_,_,h=>Fr.args vs (i+1) _ _ h.set
theorem aP {f:FuncId} {F:Func} {c:Code} {args:List Value} {rs:List ResultVar} {N:Nat} {R:Value→AMem→Prop} (hp:E.cb f=none) (hf:E.P.funcs[f]? = some F) (hb:F.body=some c) (hrs:F.results.toList=rs) (hN:max args.length F.ntmps=N)
  {m:AMem} (hm:Hp m0 m ps) (h:Wk E N f none c (po E rs R) m0 (qF args 0 []) ps):aR E f args m R :=
 aR.GX hp hf hb hrs hN (h _ m (Fr.args args 0 [] _ (Fr.nil _)) hm)
theorem Hp.start (m:AMem):Hp m m []:=⟨.refl m,fun p h=>(by cases h),.nil⟩
theorem Hp.in {m0 m:AMem} {ps:List Pc} {a:Option Addr} {cap w l:Nat} {es:List (List Value)} (h:Hp m0 m ps) (ho:∀p ∈ ps,∀b,¬p.ow b) (hr:Rd m a cap w l es):Hp m0 m (.rd a cap w l es::ps) :=
 ⟨h.ext,fun p hp=>by
  rcases List.mem_cons.1 hp with rfl|hp
  ·exact hr
  ·exact h.ok p hp,List.pairwise_cons.2 ⟨fun q hq=>⟨fun b a=>a.elim (fun a=>by cases a.1) fun a=>a.elim,fun b a=>absurd a (ho q hq b)⟩,h.apart⟩⟩
def Pc.F9:Pc→Bool
 | .gen _=>false
 | p=>!p.own
theorem Pc.D9 {p:Pc} (h:p.F9=true) (b:Nat):¬p.ow b:=by
 cases p with
 | gen g=>cases h
 | obj b o=>cases h
 | arr b w n es tg=>cases h
 | sl a w n es=>cases h
 | rd a cap w n es=>exact fun a=>a.elim (fun a=>by cases a.1) fun a=>a.elim
 | ro b o w n es=>exact fun a=>a.elim (fun a=>by cases a.1) fun a=>a.elim
inductive Res1 (E:Env) (fs:Fs) (ps:List Pc):List ResultVar→List Value→Prop
 | nil:Res1 E fs ps [] []
 | tmp {i:Nat} {v:Value} {rs:List ResultVar} {vs:List Value} (h:lk fs i=some v) (k:Res1 E fs ps rs vs):Res1 E fs ps (.tmp i::rs) (v::vs)
 | cell {i k b o sz:Nat} {ty:TypeId} {v:Value} {rs:List ResultVar} {vs:List Value} {cs:List Value} {tg:Tag} {ag:Bool} (ht:TyI E.P ty ag sz) (h:lk fs i=some (ptr b o)) (hp:pk ps k=some (.obj b (.cells cs tg))) (hv:B3 ag sz cs o=some v) (k:Res1 E fs ps rs vs):Res1 E fs ps (.cell i ty::rs) (v::vs)
theorem Res1.ok {fs:Fs} {ps:List Pc} {t:Tm} {m:AMem} (hf:Fr t fs) (hm:Hp m0 m ps):∀{rs:List ResultVar} {vs:List Value},Res1 E fs ps rs vs→bF E t m rs=some vs:=by
 intro rs vs h
 induction h with
 | nil=>rfl
 | tmp h _ ih=>simp only[bF,ih,hf _ _ h,Option.map_some]
 | cell ht h hp hv _ ih=>simp only[bF,hf _ _ h,sS ht (hm.get hp).2.2 hv,ih]
theorem At.ret {rs:List ResultVar} {vs:List Value} {R:Value→AMem→Prop} (h:Res1 E fs ps rs vs) (k:∀m,Hp m0 m ps→R (fY vs) m):At (po E rs R) .ret m0 fs ps:=fun t m hf hm=>by
 rw[Gg,h.ok hf hm]; exact k m hm
theorem At.fin {rs:List ResultVar} {vs:List Value} {R:Value→AMem→Prop} (h:Res1 E fs ps rs vs) (k:∀m,Hp m0 m ps→R (fY vs) m):At (po E rs R) .normal m0 fs ps:=fun t m hf hm=>by
 rw[zB,h.ok hf hm]; exact k m hm
end
end Go.Ab.W
end

section
namespace Go.Ab.W
open Go Go.Ab
def ob {α β:Type} (o:Option α) (f:α→Option β):Option β :=
 match o with
 | some x=>f x
 | none=>none
def gd {β:Type} (b:Bool) (k:Option β):Option β :=
 match b with
 | true=>k
 | false=>none
def br {β:Type} (b:Bool) (k l:Option β):Option β :=
 match b with
 | true=>k
 | false=>l
section
variable {α β : Type}
theorem J {o:Option α} {f:α→Option β} {r:β} (h:ob o f=some r):∃x,o=some x∧f x=some r:=by
 cases o with
 | none=>cases h
 | some x=>exact⟨x,rfl,h⟩
theorem ay {b:Bool} {k:Option β} {r:β} (h:gd b k=some r):b=true∧k=some r:=by
 cases b with
 | false=>cases h
 | true=>exact⟨rfl,h⟩
theorem ah {b:Bool} {k l:Option β} {r:β} (h:br b k l=some r):(b=true∧k=some r)∨(b=false∧l=some r):=by
 cases b with
 | false=>exact .inr ⟨rfl,h⟩
 | true=>exact .inl ⟨rfl,h⟩
def cX (i:Int) (n:Nat):Bool:=decide (0≤i∧i.toNat<n)
theorem aG {i:Int} {n:Nat} (h:cX i n=true):0≤i∧i.toNat<n:=of_decide_eq_true h
theorem bp {f:α→β} {xs:List α} {i:Nat} {x:α} (h:xs[i]? = some x):(xs.map f)[i]? = some (f x):=by
 rw[List.getElem?_map,h]; rfl
theorem dq {i:Int} {n:Nat} (h:0≤i∧i.toNat<n):0<n:=by omega
def okB (lo hi:Int) (n:Nat):Bool:=decide (0≤lo∧lo≤hi∧hi≤(n:Int))
end
def eI (k:IntKind) (x:Int):List Value:=[.int k x]
def eN (k:IntKind) (x:Nat):List Value:=[.int k (x:Int)]
def eP {α β:Type} (f:α→List Value) (g:β→List Value) (p:α × β):List Value:=f p.1++g p.2
structure Enc {α:Type} (f:α→List Value) (w:Nat):Prop where
 len:∀x,(f x).length=w
 one:∀x,(f x).all lW=true
theorem EH (k:IntKind):Enc (eI k) 1:=⟨fun _=>rfl,fun _=>rfl⟩
theorem IT {α β:Type} {f:α→List Value} {g:β→List Value} {w v:Nat} (h:Enc f w) (h':Enc g v):Enc (eP f g) (w+v) :=
 ⟨fun x=>by simp[eP,h.len,h'.len],fun x=>by simp only[eP,List.all_append,h.one,h'.one,Bool.and_self]⟩
theorem Enc.Eb {α:Type} {f:α→List Value} {w:Nat} (h:Enc f w) (xs:List α):∀e ∈ xs.map f,e.length=w:=fun e he=>by
 obtain⟨x,_,rfl⟩:=List.mem_map.1 he; exact h.len x
theorem Enc.jz {α:Type} {f:α→List Value} {w:Nat} (h:Enc f w) (xs:List α):W.jz (xs.map f):=xd h.one xs
theorem EC {α:Type} {f:α→List Value} {xs:List α} {i:Nat} {x:α}:(xs.map f).set i (f x)=(xs.set i x).map f:=(List.map_set).symm
def mi {α:Type} [LT α] [DecidableRel (α:=α) (· < ·)] (a b:α):α:=if b<a then b else a
def ma {α:Type} [LT α] [DecidableRel (α:=α) (· < ·)] (a b:α):α:=if a<b then b else a
section
variable {k kd : IntKind} {ty : TypeId} {P : Program}
theorem Gr (a b:Nat) (hb:0<b):bV .rem ty P (.int k (a:Int)) (.int k (b:Int))=some (.int k ((a%b:Nat):Int)):=by
 rw[zf _ _ _ (by omega),Int.tmod_eq_emod_of_nonneg (Int.natCast_nonneg _),←Int.natCast_emod]
theorem ep (a b:Int):bV .neq ty P (.int k a) (.int k b)=some (.bool (!decide (a=b))):=by
 rw[D6]; congr 2; by_cases h:a=b<;>simp[h]
theorem dm (a b:Int) (h:decide (b≠0)=true):bV .rem ty P (.int k a) (.int k b)=some (.int k (a.tmod b)):=zf k a b (of_decide_eq_true h)
theorem yY (a:Int):yV .neg (.int k a)=some (.int k (k.wrap (0-a))):=rfl
theorem DM {s d:TypeId} {x:Int} (hs:(P.underlying s).isSome=true) (hd:P.underlying d=some (.int k)):e8 P s d (.int kd x)=some (.int k (k.wrap x)):=by
 cases h:P.underlying s with
 | none=>rw[h] at hs; cases hs
 | some u=>simp only[e8,h,hd]
theorem jr (a b:Int) {ts:Array TypeId} (m:AMem):aQ P .min ts [.int k a,.int k b] m=some (.int k (mi a b),m):=rfl
theorem iX (a b:Int) {ts:Array TypeId} (m:AMem):aQ P .max ts [.int k a,.int k b] m=some (.int k (ma a b),m):=rfl
end
theorem bB {c:Bool} (h:c=true):(c == true)=true:=by rw[h]; rfl
theorem fo {c:Bool} (h:c=false):(c == false)=true:=by rw[h]; rfl
theorem fW {c:Bool} (h:c=true):(c == false)=false:=by rw[h]; rfl
theorem bJ {c:Bool} (h:c=false):(c == true)=false:=by rw[h]; rfl
section
variable {E : Env} {n : Nat} {m0 : AMem} {fs : Fs} {ps : List Pc} {x y : Operand} {v : Value} {ty : TypeId}
theorem dw {c:Operand} {b:Bool} (hc:ev E fs c=some (.bool b)) (hb:b=true) (h:ev E fs x=some v):Od E m0 fs ps (.pick c x y) v ps:=qp (by rw[hc,hb]) h
theorem dj {c:Operand} {b:Bool} (hc:ev E fs c=some (.bool b)) (hb:b=false) (h:ev E fs y=some v):Od E m0 fs ps (.pick c x y) v ps:=zD (by rw[hc,hb]) h
theorem BL {α:Type} {f:α→List Value} {elem ty2:TypeId} {w k k2 c0 l l0:Nat} {a a0:Option Addr} {xs ys:List α} {ars:Array Operand} {p0:Pc} (he:Enc f w) (ht:SlT E.P ty elem w) (h3:∃e0,E.P.underlying ty2=some (.slice e0)) (ha:kW E fs ars.toList=some [.slice a l l,.slice a0 l0 c0]) (hp:pk ps k=some (.sl a w l (xs.map f))) (h1:pk ps k2=some p0) (hr:IsRd p0 a0 c0 w l0 (ys.map f)) (hl:lim (xs++ys).length=true) :
  Ox E m0 fs ps (.call ⟨.builtin .append,ars,#[ty,ty2]⟩) (fun a':Option Addr=>.slice a' (xs++ys).length (xs++ys).length) (fun a'=>dv ps k (.sl a' w (xs++ys).length ((xs++ys).map f))):=by
 intro t m hf hm;have h0:l=xs.length:=by
  have:=hm.get hp;rcases this with⟨h4,h0,_⟩|⟨b,tg,_,h0⟩
  ·rw[h4,List.map_eq_nil_iff.1 h0]; rfl
  ·have:=h0.2.2.2.1; rw[List.length_map] at this; exact this.symm
 have h2:l0=ys.length:=by
  have:=(hm.rd h1 hr).1; rw[List.length_map] at this; exact this.symm
 have:=Jf (m0:=m0) ht h3 ha hp h1 hr (he.Eb ys) (he.jz ys) (by rw[h0,h2,←List.length_append]; exact hl) t m hf hm
 have e1:xs.map f++ys.map f=(xs++ys).map f:=List.map_append.symm;have e0:l+l0=(xs++ys).length:=by rw[h0,h2,List.length_append]
 rw[e1,e0] at this;exact this
theorem H6 {α:Type} {f:α→List Value} {ag:Bool} {sz b w l j c k:Nat} {xs:List α} {x1 x2:α} {tg:Tag} (ht:TyI E.P ty ag sz) (hx:ev E fs x=some (ptr b (j*w+c))) (hy:ev E fs y=some v) (hp:pk ps k=some (.arr b w l (xs.map f) tg)) (he:xs[j]? = some x1) (hv:E4 (f x1) c v sz=some (f x2)):Od E m0 fs ps (.store ty x y) undef (dv ps k (.arr b w l ((xs.set j x2).map f) tg)):=by
 have:=Is (m0:=m0) ht hx hy hp (bp he) hv;rwa[EC] at this
end
theorem aa.len {m0:AMem} {ps:List Pc} {α:Type} {f:α→List Value} {k w l:Nat} {a:Option Addr} {xs:List α} (_:pk ps k=some (.sl a w l (xs.map f))) (h:∀m,Hp m0 m ps→Hp m0 m (dv ps k (.sl a w xs.length (xs.map f)))):aa m0 ps (dv ps k (.sl a w xs.length (xs.map f))):=h
theorem sn {fs:Fs}:sub fs []:=trivial
theorem sc {fs l:Fs} {i:Nat} {v:Value} (h:lk fs i=some v) (k:sub fs l):sub fs ((i,v)::l):=⟨h,k⟩
theorem cI {k:IntKind} {e y:Int} (h:some e=some y):some (Value.int k e)=some (.int k y):=by rw[Option.some.inj h]
theorem JI {k:IntKind} {e y:Int} {m:AMem} (h:some e=some y):some (Value.int k e,m)=some (.int k y,m):=by rw[Option.some.inj h]
section
variable {P : Program} {ty el : TypeId} {w len : Nat}
theorem FP (h:ArT P ty el len w) {b o i:Nat} {kd:IntKind} (hi:i<len):bl P ty (ptr b o) (.int kd (i:Int))=some (ptr b (o+i*w)):=FJ h.und h.known h.size hi
theorem si {cs:Array Value} {off sz:Nat} {v:Value} (h:TyI P ty true sz) (hv:(Value.agg (cs.extract off (off+sz)))=v):fa P ty cs off=some v:=by
 simp only[fa,h.known,h.agg,h.size,Bool.not_true,Bool.false_eq_true,if_false,if_true,hv]
theorem Df (h:ArT P ty el len w) {cs:Array Value} {i:Nat} {kd:IntKind} {v:Value} (hi:i<len) (hp:fa P el cs (i*w)=some v):eo P ty (.agg cs) (.int kd (i:Int))=some v:=by
 simp only[eo,h.und,h.size,Int.toNat_natCast];rw[if_pos ⟨by omega,by omega⟩]; exact hp
structure BdT (P:Program) (ty:TypeId) (z:Value) (offs:List (Nat × Nat)):Prop where
 bd:∀parts,(parts.all fun p=>Nat.blt p.1 offs.length)=true→iT P ty parts=(fy (fun i=>offs[i]?) z.cells.toList parts).map fun cs=>.agg cs.toArray
def Jy (P:Program) (ty:TypeId) (z:Value) (offs:List (Nat × Nat)):Prop :=
 bO P ty=some z∧match P.underlying ty with
  | some (.struct fields)=>fields.toList.all (fun f=>known P f.type)=true∧fields.toList.map (fun f=>(f.offset,an P f.type))=offs
  | some (.array n elem)=>known P elem=true∧(List.range n).map (fun i=>(i*an P elem,an P elem))=offs
  | _=>False
theorem ju {p q:Nat→Option (Nat × Nat)} {n:Nat} (h:∀i,i<n→p i=q i):∀(parts:List (Nat × Value)) (cs:List Value),(parts.all fun p=>Nat.blt p.1 n)=true→fy p cs parts=fy q cs parts
 | [],_,_=>rfl
 | (i,v)::rest,cs,hp=>by
  rw[List.all_cons,Bool.and_eq_true] at hp;have hi:i<n:=by have:=hp.1; rwa[Nat.blt_eq] at this
  simp only[fy,h i hi];cases q i with
  | none=>rfl
  | some r=>simp only[]; split; rfl; exact ju h rest _ hp.2
theorem BdT.of {z:Value} {offs:List (Nat × Nat)} (h:Jy P ty z offs):BdT P ty z offs:=⟨fun parts hp=>by
 obtain⟨hz,h⟩:=h;unfold iT;rw[hz];cases hu:P.underlying ty with
 | none=>rw[hu] at h; exact h.elim
 | some u =>
  rw[hu] at h;cases u with
  | struct fields =>
   simp only at h ⊢;rw[if_pos h.1]
   congr 1
   refine ju (n:=offs.length) (fun i hi=>?_) parts _ hp;rw[←h.2,List.getElem?_map]; simp
  | array n elem =>
   simp only at h ⊢;rw[if_pos h.1]
   congr 1
   refine ju (n:=offs.length) (fun i hi=>?_) parts _ hp;have hl:offs.length=n:=by rw[←h.2]; simp
   rw[←h.2,List.getElem?_map,List.getElem?_range (by omega)]; rfl
  | _=>exact h.elim⟩
def Jp (P:Program) (ty:TypeId) (offs:List (Nat × Nat)):Bool :=
 match P.underlying ty with
 | some (.struct fields)=>fields.toList.all (fun f=>known P f.type) && decide (fields.toList.map (fun f=>(f.offset,an P f.type))=offs)
 | some (.array n elem)=>known P elem && decide ((List.range n).map (fun i=>(i*an P elem,an P elem))=offs)
 | _=>false
theorem BdT.mk' {z:Value} {offs:List (Nat × Nat)} (hz:bO P ty=some z) (h:Jp P ty offs=true):BdT P ty z offs:=by
 refine .of ⟨hz,?_⟩;unfold Jp at h;cases hu:P.underlying ty with
 | none=>rw[hu] at h; cases h
 | some u =>
  rw[hu] at h;cases u with
  | struct fields=>simp only[Bool.and_eq_true,decide_eq_true_eq] at h ⊢; exact h
  | array n elem=>simp only[Bool.and_eq_true,decide_eq_true_eq] at h ⊢; exact h
  | _=>cases h
theorem eH {z r:Value} {offs:List (Nat × Nat)} {parts:List (Nat × Value)} {cs:List Value} (h:BdT P ty z offs) (hp:(parts.all fun p=>Nat.blt p.1 offs.length)=true) (hr:fy (fun i=>offs[i]?) z.cells.toList parts=some cs) (e:Value.agg cs.toArray=r):iT P ty parts=some r:=by
 rw[h.bd parts hp,hr]; exact congrArg some e
theorem w9 {n:Nat} {vs:List (Nat × Value)} {z:Value} {cs:List Value} (ht:SlT P ty el w) (hz:bO P el=some z) (h1:((bP z.cells.toList n).all aE && Nat.ble (n*w) 16777216)=true) (hr:fy (fun i=>some (i*w,w)) (bP z.cells.toList n) vs=some cs):IG P el w n vs=some cs:=by
 have hzs:z.cells.size=w:=by have:=ht.zero; rw[hz] at this; simp only[Option.any_some,Bool.and_eq_true,beq_iff_eq] at this; exact this.1
 have:fw P el n=some (bP z.cells.toList n):=by simp only[fw,hz,ht.size]; rw[if_pos hzs]
 simp only[IG,this,h1]; exact hr
theorem EL {xs ys:Array Value} {b:Bool} (h:P.eqGuardType P.depth ty=false) (hb:ll P Op.maxDepth ty (.agg xs) (.agg ys)=some b):bV .eql ty P (.agg xs) (.agg ys)=some (.bool b):=by
 simp only[bV,h,Bool.false_eq_true,if_false,hb,Option.map_some]
theorem IE {xs ys:Array Value} {b:Bool} (h:P.eqGuardType P.depth ty=false) (hb:ll P Op.maxDepth ty (.agg xs) (.agg ys)=some b):bV .neq ty P (.agg xs) (.agg ys)=some (.bool (!b)):=by
 simp only[bV,h,Bool.false_eq_true,if_false,hb,Option.map_some]
end
section
variable {E : Env} {n : Nat} {m0 : AMem} {fs : Fs} {ps : List Pc} {x y : Operand} {v : Value} {ty : TypeId}
variable {ops : Array Oper} {os : List Oper} {K : Tm → AMem → Prop} {dr : Bool}
theorem Wo.len {α:Type} {f:α→List Value} {k w l:Nat} {a:Option Addr} {xs:List α} (hp:pk ps k=some (.sl a w l (xs.map f))) (h:l=xs.length→Wo dr E n ops K os m0 fs ps):Wo dr E n ops K os m0 fs ps:=by
 have key:∀m,Hp m0 m ps→l=xs.length:=fun m hm=>by
  rcases hm.get hp with⟨h0,h1,_⟩|⟨b,tg,_,h1⟩
  ·rw[h0,List.map_eq_nil_iff.1 h1]; rfl
  ·have:=h1.2.2.2.1; rw[List.length_map] at this; exact this.symm
 cases dr with
 | false=>exact fun t m hf hm=>h (key m hm) t m hf hm
 | true=>exact fun t m w hf hm hw=>h (key m hm) t m w hf hm hw
end
theorem Hp.vJ {m0 m:AMem} {ps:List Pc} {a:Option Addr} {cap w l:Nat} {es:List (List Value)} (h:Hp m0 m ps) (ho:(ps.all Pc.F9)=true) (hr:Rd m a cap w l es):Hp m0 m (.rd a cap w l es::ps) :=
 h.in (fun p hp b=>Pc.D9 (List.all_eq_true.1 ho p hp) b) hr
theorem gu {ops:Array Oper} {fs:Fs} {j d:Nat} {b:Bool} (hd:(ops[j]?).bind (·.dst)=some d) (h:lk fs d=some undef):vl ops fs (some (j,b)) false:=fun t d' o ty p af hf=>by
 rw[BO];have hat:=hf d _ h;unfold cg;rw[hd];unfold Tm.at at hat;cases hg:Trie.get t d with
 | none=>simp only[hg]
 | some v=>rw[hg] at hat; have hv:v=undef:=hat; subst hv; simp only[hg]; rfl
section
variable {P : Program} {ty : TypeId} {k : IntKind}
end
section
variable {E : Env} {n : Nat} {m0 : AMem} {fs : Fs} {ps : List Pc} {x y : Operand} {v : Value} {ty : TypeId}
theorem Ii {α:Type} {V:α→Value} {N:α→List Pc} {a b:Value} (hx:ev E fs x=some a) (hy:ev E fs y=some b) (h:∀m,Hp m0 m ps→∃z,eo E.P ty a b=some (V z)∧Hp m0 m (N z)):Ox E m0 fs ps (.index ty x y) V N :=
 fun t m hf hm=>⟨fun b hb=>(by simp[aL] at hb),fun K hK=>by
  obtain⟨z,h1,h2⟩:=h m hm;rw[Go.Ab.DN (hf.ev hx) (hf.ev hy) h1]; exact hK z m h2⟩
end
end Go.Ab.W
end

section
namespace Go.Ab
open Go Go.Ab.W
theorem IP (j:aI) (u:Value):∃v,VR j v u:=by
 match h:u with
 | .agg cs =>
  have:∀i (hi:i<cs.size),∃v,VR j v cs[i]:=fun i hi=>IP j cs[i];refine⟨.agg (Array.ofFn fun i:Fin cs.size=>Classical.choose (this i.1 i.2)),.agg (by simp) fun i a b=>?_⟩
  have hi:i<cs.size:=b;have:=Classical.choose_spec (this i hi)
  simpa using this
 | .tuple cs =>
  have:∀i (hi:i<cs.size),∃v,VR j v cs[i]:=fun i hi=>IP j cs[i];refine⟨.tuple (Array.ofFn fun i:Fin cs.size=>Classical.choose (this i.1 i.2)),.tuple (by simp) fun i a b=>?_⟩
  have hi:i<cs.size:=b;have:=Classical.choose_spec (this i hi)
  simpa using this
 | .bool b=>exact⟨_,.bool b⟩
 | .int k n=>exact⟨_,.int k n⟩
 | .float k b=>exact⟨_,.junk rfl⟩
 | .complex k a b=>exact⟨_,.junk rfl⟩
 | .string s=>exact⟨_,.string s⟩
 | .pointer none=>exact⟨_,.pnil⟩
 | .pointer (some a)=>exact⟨_,.junk rfl⟩
 | .slice none l c=>exact⟨_,.snil l c⟩
 | .slice (some a) l c=>exact⟨_,.junk rfl⟩
 | .map none=>exact⟨_,.mnil⟩
 | .map (some r)=>exact⟨_,.junk rfl⟩
 | .chan r=>exact⟨_,.junk rfl⟩
 | .func f a b=>exact⟨_,.junk rfl⟩
 | .nilFunc=>exact⟨_,.nilFunc⟩
 | .iface t v=>exact⟨_,.junk rfl⟩
 | .nilIface=>exact⟨_,.nilIface⟩
termination_by SizeOf.sizeOf u
decreasing_by
 all_goals
  subst h;have:=Array.sizeOf_getElem cs i hi;simp only[Value.agg.sizeOf_spec,Value.tuple.sizeOf_spec];omega
noncomputable def seen (j:aI) (v':Value):Value:=if aE v' then v' else Classical.choose (IP j v')
theorem DK (j:aI) (v':Value):VR j (seen j v') v':=by
 unfold seen
 split
 ·rename_i h; exact .aE h
 ·exact Classical.choose_spec (IP j v')
theorem vK {j:aI} {v':Value} (h:aE v'=true):seen j v'=v':=by unfold seen; rw[if_pos h]
def fp (W:World):aI:=fun b=>if b<W.heap.size then some ⟨b,none⟩ else none
noncomputable def eB (W:World):AMem:={ next:=W.heap.size,wl:=W.heap.size,objs:=.nil,base:=fun b=>match W.heap[b]? with
 | some (.cells c _ _)=>some (.cells (c.toList.map (seen (fp W))) .ro)
 | _=>none}
theorem pY (W:World) (b:Nat):(eB W).get b=match W.heap[b]? with
 | some (.cells c _ _)=>some (.cells (c.toList.map (seen (fp W))) .ro)
 | _=>none:=by
 simp[AMem.get,eB,Heap.get_nil]
theorem s8 {W:World} {b:Nat} {c:Array Value} {t:TypeId} {fz:Nat × Nat} (h:W.heap[b]? = some (.cells c t fz)):(eB W).get b=some (.cells (c.toList.map (seen (fp W))) .ro):=by
 rw[pY,h]
theorem FN {E:Env} {W:World} (hg:E.glob≤W.heap.size):MR E (fp W) (eB W) W:=by
 have hj:∀b k,fp W b=some k→b<W.heap.size∧k=⟨b,none⟩:=by
  intro b k h;unfold fp at h
  split at h
  ·rename_i hb; cases h; exact⟨hb,rfl⟩
  ·cases h
 refine⟨fun b k h=>?_,fun b o k ho h=>?_,fun b b' k k' h h' _ _ hc=>?_,fun g hgl=>?_⟩
 ·obtain⟨h1,rfl⟩:=hj b k h;exact⟨h1,h1⟩
 ·obtain⟨h1,rfl⟩:=hj b k h;rw[pY] at ho
  split at ho
  ·rename_i c t fz hc;cases ho;refine⟨_,hc,⟨rfl,by simp⟩,fun i v hi=>?_⟩
   rw[List.getElem?_map] at hi;obtain⟨x,hx,rfl⟩:=Option.map_eq_some_iff.1 hi;exact⟨x,by simpa using hx,DK _ _⟩
  ·cases ho
 ·obtain⟨_,rfl⟩:=hj b k h;obtain⟨_,rfl⟩:=hj b' k' h';exact hc
 ·unfold fp;rw[if_pos (by omega)]
inductive Lf where
 | int (k:IntKind)
 | bool
 | sl (e:TypeId)
 deriving DecidableEq
def yu (CL:TypeId→Option (List Lf)) (P:Program):List Field→Nat→Option (List Lf)
 | [],_=>some []
 | f::fs,off=>match CL f.type,yu CL P fs (off+P.cellsOf f.type) with
  | some l,some r=>if f.offset=off∧l.length=P.cellsOf f.type then some (l++r) else none
  | _,_=>none
def CL (P:Program):Nat→TypeId→Option (List Lf)
 | 0,_=>none
 | d+1,t=>match P.underlying t with
  | some (.int k)=>some [.int k]
  | some .bool=>some [.bool]
  | some (.slice e)=>some [.sl e]
  | some (.array n e)=>match CL P d e with
   | some l=>if l.length=P.cellsOf e∧P.cellsOf t=n*P.cellsOf e then some (List.replicate n l).flatten else none
   | none=>none
  | some (.struct fs)=>match yu (CL P d) P fs.toList 0 with
   | some l=>if l.length=P.cellsOf t then some l else none
   | none=>none
  | _=>none
def oL {H:Type} (enc:TypeId × Value→H) (P:Program) (W:World) (base:Nat) (sp:Nat→Bool) (held:Bool):Lf→Value→Prop
 | .int k,v=>∃n,v = .int k n∧(Lit.int k n).wf=true
 | .bool,v=>∃b,v = .bool b
 | .sl e,v=>(v = .slice none 0 0)∨∃(a:Addr) (len cap:Nat) (n:Nat),v = .slice (some a) len cap∧len≤cap∧cap≤maxLen∧base≤a.block ∧
   ∀i,i<len→∃cs x,W.cells? base (a.add (i*P.cellsOf e)) (P.cellsOf e)=some cs∧DataW.trod enc P W base sp held n e cs=some x
inductive All2 {α β:Type} (R:α→β→Prop):List α→List β→Prop
 | nil:All2 R [] []
 | cons {a:α} {b:β} {l:List α} {r:List β} (h:R a b) (t:All2 R l r):All2 R (a::l) (b::r)
theorem All2.length {α β:Type} {R:α→β→Prop} {l:List α} {r:List β} (h:All2 R l r):l.length=r.length:=by
 induction h with
 | nil=>rfl
 | cons _ _ ih=>simp[ih]
theorem All2.append {α β:Type} {R:α→β→Prop} {l l':List α} {r r':List β} (h:All2 R l r) (h':All2 R l' r'):All2 R (l++l') (r++r'):=by
 induction h with
 | nil=>exact h'
 | cons h _ ih=>exact .cons h ih
theorem All2.mono {α β:Type} {R S:α→β→Prop} (hRS:∀a b,R a b→S a b) {l:List α} {r:List β} (h:All2 R l r):All2 S l r:=by
 induction h with
 | nil=>exact .nil
 | cons h _ ih=>exact .cons (hRS _ _ h) ih
section
variable {H : Type} {enc : TypeId × Value → H} {P : Program} {W : World} {base : Nat} {sp : Nat → Bool} {held : Bool}
theorem q8 {R:Lf→Value→Prop} {l:List Lf}:∀(n w:Nat) (cs:List Value),cs.length=n*w→(∀i,i<n→All2 R l ((cs.drop (i*w)).take w))→All2 R (List.replicate n l).flatten cs
 | 0,w,cs,hl,_=>by
  have:cs = []:=List.length_eq_zero_iff.1 (by simpa using hl)
  subst this; exact .nil
 | n+1,w,cs,hl,h=>by
  rw[List.replicate_succ,List.flatten_cons];have h0:=h 0 (by omega)
  simp only[Nat.zero_mul,List.drop_zero] at h0;have hw:w≤cs.length:=by rw[hl,Nat.add_mul]; omega
  rw[←List.take_append_drop w cs];refine All2.append h0 (q8 n w _ (by rw[List.length_drop,hl,Nat.add_mul]; omega) fun i hi=>?_)
  have:=h (i+1) (by omega)
  rw[List.drop_drop];have e:w+i*w=(i+1)*w:=by rw[Nat.add_mul]; omega
  rw[e]; exact this
theorem vA:∀(d:Nat) (t:TypeId) (L:List Lf),CL P d t=some L→∀(n:Nat) (cs:List Value) (x:DataW H × List MemPlace),DataW.trod enc P W base sp held n t cs=some x→All2 (oL enc P W base sp held) L cs:=by
 intro d
 induction d with
 | zero=>intro t L h; cases h
 | succ d ih =>
  intro t L hL n cs x hx;unfold CL at hL
  split at hL
  ·rename_i k hu;cases hL;obtain⟨m,rfl,_,hwf⟩:=DataW.trod_int hu hx;exact .cons ⟨m,rfl,hwf⟩ .nil
  ·rename_i hu;cases hL;obtain⟨b,rfl,_⟩:=DataW.trod_bool hu hx;exact .cons ⟨b,rfl⟩ .nil
  ·rename_i e hu;cases hL;rcases DataW.trod_slice hu hx with⟨rfl,_⟩|⟨a,len,cap,elems,rest,m,rfl,rfl,_,hb,h1,h2,h3,h4,_⟩
   ·exact .cons (.inl rfl) .nil
   ·refine .cons (.inr ⟨a,len,cap,m,rfl,h1,h2,hb,fun i hi=>?_⟩) .nil;have:=h4 i hi;have hi':i<elems.length:=by omega
    rw[List.getElem?_eq_getElem hi'] at this;obtain⟨cs,h5,h6⟩:=Option.bind_eq_some_iff.1 this;exact⟨cs,_,h5,h6⟩
  ·rename_i m e hu
   split at hL
   ·rename_i l hl
    split at hL
    ·rename_i hc;cases hL;obtain⟨xs,m',rfl,_,hcl,hxl,hel⟩:=DataW.trod_array hu hx;refine q8 m (P.cellsOf e) cs (hcl.trans hc.2) fun i hi=>?_;have:=hel i hi;rw[List.getElem?_eq_getElem (by omega)] at this
     exact ih e l hl m' _ _ this
    ·cases hL
   ·cases hL
  ·rename_i fs hu
   split at hL
   ·rename_i l hl
    split at hL
    ·rename_i hc;cases hL;obtain⟨xs,m',rfl,_,hcl,hxl,hel⟩:=DataW.trod_struct hu hx;have hfield:∀f ∈ fs.toList,∃y,DataW.trod enc P W base sp held m' f.type ((cs.drop f.offset).take (P.cellsOf f.type))=some y:=by
      intro f hf;obtain⟨i,hi,hif⟩:=List.getElem_of_mem hf;have hi':i<fs.size:=by simpa using hi
      have:=hel i f (by rw[←hif]; simp[hi'])
      rw[List.getElem?_eq_getElem (by omega)] at this
      exact⟨_,this⟩
     have key:∀(l1:List Field) (off:Nat) (r:List Lf),yu (CL P d) P l1 off=some r→(∀f ∈ l1,∃y,DataW.trod enc P W base sp held m' f.type ((cs.drop f.offset).take (P.cellsOf f.type))=some y)→All2 (oL enc P W base sp held) r ((cs.drop off).take r.length):=by
      intro l1
      induction l1 with
      | nil=>intro off r hr _; cases hr; simp only[List.length_nil,List.take_zero]; exact .nil
      | cons f l1 ih1 =>
       intro off r hr hf;unfold yu at hr
       split at hr
       ·rename_i l2 r2 hl2 hr2
        split at hr
        ·rename_i ho;cases hr;obtain⟨y,hy⟩:=hf f (by simp)
         have h1:=ih f.type l2 hl2 m' _ _ hy;have h2:=ih1 _ _ hr2 fun g hg=>hf g (by simp[hg])
         rw[ho.1,←ho.2] at h1;rw[←ho.2] at h2;have:=All2.append h1 h2;rw[List.length_append,List.take_add,List.drop_drop];exact this
        ·cases hr
       ·cases hr
     have:=key fs.toList 0 _ hl hfield;rw[List.drop_zero,hc,←hcl,List.take_length] at this;exact this
    ·cases hL
   ·cases hL
  ·cases hL
end
end Go.Ab
end

section
namespace Go.Ab
open Go Go.Ab.W Go.ChangeShapes Go.WideShapes Go.RowKit
section
variable {H : Type} {enc : TypeId × Value → H} {P : Program} {W : World} {sp : Nat → Bool} {held : Bool}
theorem vH {a:Addr} (h:a.spot=none) (n:Nat):a.add n=⟨a.block,a.off+n,none⟩:=by
 unfold Addr.add
 split
 ·rename_i e; subst e; cases a; cases h; rfl
 ·rfl
theorem mZ {W:World} {a:Addr} {v:Value} (h:W.cell? a=some v):a.spot=none∧∃c t fz,W.heap[a.block]? = some (.cells c t fz)∧c[a.off]? = some v:=by
 unfold World.cell? at h
 split at h
 ·rename_i c t fz hc
  split at h
  ·cases h
  ·rename_i hs;refine⟨by simpa using hs,c,t,fz,hc,h⟩
 ·cases h
theorem Fp {α:Type} {f:α→List Value} {R:α→Prop} {e w:Nat} (hw:P.cellsOf e=w) (hw0:0<w) (hsz:0<W.heap.size) (hf:∀p,(f p).all aE=true)
  (hdec:∀n cs x,DataW.trod enc P W 0 sp held n e cs=some x→∃p,cs=f p∧R p) {v:Value} (h:oL enc P W 0 sp held (.sl e) v) :
  ∃(a:Option Addr) (cap:Nat) (l:List α),VR (fp W) (.slice a l.length cap) v∧Rd (eB W) a cap w l.length (l.map f)∧(∀p ∈ l,R p)∧l.length≤maxLen:=by
 rcases h with rfl|⟨a,len,cap,n,rfl,h1,h2,_,h3⟩
 ·exact⟨none,0,[],.snil 0 0,Rd.nil _ _,fun p hp=>(by cases hp),Nat.zero_le _⟩
 ·by_cases h0:len=0
  ·subst h0;exact⟨some ⟨0,0,some 0⟩,0,[],.gi,⟨rfl,Nat.le_refl _,.inr (.inl ⟨0,0,rfl,rfl,rfl,hsz⟩)⟩,fun p hp=>(by cases hp),Nat.zero_le _⟩
  ·rw[hw] at h3;have hg:∀i:Fin len,∃p,W.cells? 0 (a.add (i.1*w)) w=some (f p)∧R p:=by
    intro i;obtain⟨cs,x,h4,h5⟩:=h3 i.1 i.2;obtain⟨p,rfl,hR⟩:=hdec _ _ _ h5;exact⟨p,h4,hR⟩
   obtain⟨g,hg⟩:∃g:Fin len→α,∀i,W.cells? 0 (a.add (i.1*w)) w=some (f (g i))∧R (g i):=⟨fun i=>Classical.choose (hg i),fun i=>Classical.choose_spec (hg i)⟩;have hat:∀(i:Fin len) (k:Nat),k<w→W.cell? ((a.add (i.1*w)).add k)=(f (g i))[k]?:=fun i k hk=>(World.cells?_some (hg i).1).2.2 k hk;have hfl:∀i,(f (g i)).length=w:=fun i=>(World.cells?_some (hg i).1).2.1;have hsm:∀(i:Fin len) (k:Nat),k<w→∃x,(f (g i))[k]? = some x:=fun i k hk=>⟨_,List.getElem?_eq_getElem (by rw[hfl]; exact hk)⟩
   have hspot:a.spot=none:=by
    obtain⟨x,hx⟩:=hsm ⟨0,by omega⟩ 0 hw0
    have:=hat ⟨0,by omega⟩ 0 hw0
    rw[hx] at this;have:=(mZ this).1
    simpa [Addr.add] using this
   obtain⟨c,t,fz,hc⟩:∃c t fz,W.heap[a.block]? = some (.cells c t fz):=by
    obtain⟨x,hx⟩:=hsm ⟨0,by omega⟩ 0 hw0
    have:=hat ⟨0,by omega⟩ 0 hw0
    rw[hx] at this;obtain⟨_,c,t,fz,hc,_⟩:=mZ this;refine⟨c,t,fz,?_⟩
    simpa [Addr.add] using hc
   have hcell:∀(i:Fin len) (k:Nat),k<w→c[a.off+i.1*w+k]? = (f (g i))[k]?:=by
    intro i k hk;obtain⟨x,hx⟩:=hsm i k hk;have:=hat i k hk;rw[hx] at this;rw[hx];rw[vH hspot,vH rfl] at this;obtain⟨_,c',t',fz',hc',h6⟩:=mZ this;rw[hc] at hc';cases hc';exact h6
   have hb:a.block<W.heap.size:=by
    rcases Nat.lt_or_ge a.block W.heap.size with h|h
    ·exact h
    ·rw[Array.getElem?_eq_none h] at hc; cases hc
   have ha:a=⟨a.block,a.off,none⟩:=by cases a; cases hspot; rfl
   refine⟨some a,cap,List.ofFn g,?_,?_,fun p hp=>?_,?_⟩
   ·rw[List.length_ofFn,ha];exact .slice (k:=⟨a.block,none⟩) (by unfold fp; rw[if_pos hb]) rfl
   ·refine⟨by simp,by simpa using h1,.inr (.inr ⟨a.block,a.off,by rw[←ha],hb,_,_,s8 hc,fun sz e=>(by cases e),fun i e he=>?_⟩)⟩
    rw[List.getElem?_map] at he;obtain⟨p,hp,rfl⟩:=Option.map_eq_some_iff.1 he;have hi:i<len:=by
     have:=(List.getElem?_eq_some_iff.1 hp).1
     simpa using this
    have hpg:p=g ⟨i,hi⟩:=by
     rw[List.getElem?_ofFn] at hp;simp[hi] at hp;exact hp.symm
    subst hpg;refine⟨?_,hfl _⟩;apply List.ext_getElem?;intro k
    by_cases hk:k<w
    ·rw[List.getElem?_take_of_lt hk,List.getElem?_drop,List.getElem?_map];have h7:=hcell ⟨i,hi⟩ k hk;obtain⟨x,hx⟩:=hsm ⟨i,hi⟩ k hk;rw[hx] at h7 ⊢;have h8:c.toList[a.off+i*w+k]? = some x:=by simpa using h7
     rw[h8];simp only[Option.map_some];rw[vK (List.all_eq_true.1 (hf _) x (List.mem_of_getElem? hx))]
    ·rw[List.getElem?_eq_none (by rw[List.length_take]; omega),List.getElem?_eq_none (by rw[hfl]; omega)]
   ·obtain⟨i,hi,rfl⟩:=List.getElem_of_mem hp;simp only[List.getElem_ofFn];exact(hg _).2
   ·rw[List.length_ofFn]; omega
theorem AV {base:Nat} {v:Value} (h:oL enc P W base sp held (.int .u8) v):∃n:Nat,v = .int .u8 (n:Int)∧n<256:=by
 obtain⟨n,rfl,hw⟩:=h;have:=bounds_u8 hw;exact⟨n.toNat,by rw[Int.toNat_of_nonneg this.1],by omega⟩
theorem eU {α β:Type} {R:α→β→Prop} {a:α} {l:List α} {r:List β} (h:All2 R (a::l) r):∃b r',r=b::r'∧R a b∧All2 R l r':=by
 cases h with
 | cons h t=>exact⟨_,_,rfl,h,t⟩
theorem vw {α β:Type} {R:α→β→Prop} {r:List β} (h:All2 R [] r):r = []:=by cases h; rfl
theorem w7 {base d t n:Nat} {cs:Array Value} {L:List Lf} {x:DataW H × List MemPlace} (hl:CL P d t=some L) (h:DataW.trod enc P W base sp held n t (Value.agg cs).cells.toList=some x):All2 (oL enc P W base sp held) L cs.toList:=vA d t L hl n _ x h
theorem FD {j:aI} {l:List Value} {cs:Array Value} (h:LR j l cs.toList):VR j (.agg l.toArray) (.agg cs):=.zH (by simpa using h)
theorem km {T:TypeId→Prop} (K:Kids P T) (hsz:∀{t e:TypeId},T t→P.underlying t=some (.slice e)→0<P.cellsOf e) {W':World} {sp':Nat→Bool}:∀{ts:List TypeId} {vs:List Value} {ds:List (DataW H)} {ps:List MemPlace},
  (∀t ∈ ts,T t)→DataW.TrodAll enc P W 0 (fun _=>true) true ts vs ds ps→(∀p ∈ ps,W.sameAt W' p)→(∀p ∈ ps,sp' p.block=true)→DataW.TrodAll enc P W' 0 sp' true ts vs ds ps
 | [],[],[],_,_,h,_,_=>h
 | t::ts,v::vs,d::ds,_,hT,⟨p,q,⟨n,hn⟩,hs,e⟩,h1,h2=>by
  subst e;refine⟨p,q,⟨n,DataW.trod_stays K hsz (fun h=>(by cases h)) (hT t (by simp)) hn (fun x hx=>h1 x (by simp[hx])) fun x hx=>h2 x (by simp[hx])⟩,km K hsz (fun t' ht'=>hT t' (by simp[ht'])) hs (fun x hx=>h1 x (by simp[hx])) (fun x hx=>h2 x (by simp[hx])),rfl⟩
theorem zC {w w':World} {p:MemPlace} (h:w'.heap[p.block]? = w.heap[p.block]?):w.sameAt w' p:=by
 cases p with
 | cell b o=>simp only[World.sameAt,World.cell?]; rw[show w'.heap[b]? = w.heap[b]? from h]
 | map b=>simp only[World.sameAt]; rw[show w'.heap[b]? = w.heap[b]? from h]
def sizedB (P:Program):Bool:=(List.range P.types.size).all fun t=>match P.underlying t with
 | some (.slice e)=>decide (0<P.cellsOf e)
 | _=>true
theorem zE (h:sizedB P=true) {t e:TypeId} (ht:t<P.types.size) (hu:P.underlying t=some (.slice e)):0<P.cellsOf e:=by
 have:=List.all_eq_true.1 h t (by simpa using ht)
 rw[hu] at this
 simpa using this
theorem AW {f:Func} {s:ChangeSpec} {W':World} {args:Array Value} {ds:List (DataW H)} {before:List MemPlace} {tb:TypeId} {fresh handsOn:Bool} (hlo:laidOutB P=true) (hm:mapsRowed P=true) (hsz:sizedB P=true)
  (hvars:s.vars = []) (hres:f.resultTypes.toList = [tb]) (hrs:f.resultTypes.size=1) (htb:P.underlying tb=some .bool) (hpt:∀t ∈ f.params.toList,t<P.types.size) (hfn:s.fn H ds = { results:=[.lit (.bool true)],args:=ds,vars:=[]})
  (hW:DataW.Whole enc P f.params.toList s.vars false W args.toList ds [] before) {E:Env} (hcalm:fC E W W') (hg:∀c,c<W.heap.size→W'.heap[c]? = W.heap[c]?) :
  s.post enc P f false fresh handsOn false W args (.bool true) W':=by
 have hW':=hW;obtain⟨p,q,hA,hV,rfl,_,_⟩:=hW;rw[hvars] at hV;obtain⟨_,rfl⟩:=trodVars_none hV;have hlt:=hW'.lt;refine⟨ds,[],_,[],p,[],hW',?_,?_,?_,nK hcalm hg _,fun h=>by cases h⟩
 ·rw[List.append_nil,hfn,hres]
  show DataW.TrodAll enc P W' _ _ handsOn [tb] ((Value.bool true).resultList f.resultTypes.size) [.lit (.bool true)] []
  rw[hrs];exact trodAll_mk1 (shut_bool htb true)
 ·rw[List.append_nil,hfn];refine km (kids_rows hlo hm) (fun ht hu=>zE hsz ht hu) hpt hA (fun x hx=>zC (hg _ (hlt x (by simp[hx])))) fun x hx=>by
   have:=hlt x (by simp[hx])
   simpa using this
 ·rw[List.append_nil,hfn,hvars];exact rfl
end
end Go.Ab
end

section
namespace Go.Ab
open Go
def wH (x y c:Nat):Value:=.tuple #[.int .u64 (.ofNat ((x+y+c)%18446744073709551616)),.int .u64 (.ofNat ((x+y+c)/18446744073709551616))]
def Aw (x y c:Nat):Value:=.tuple #[.int .u64 (.ofNat ((x+18446744073709551616-y-c)%18446744073709551616)),.int .u64 (.ofNat (if x<y+c then 1 else 0))]
def fe (V:Nat→Nat→Nat→Value) (args:List Value) (m:AMem):Option (Value × AMem) :=
 match args with
 | [.int .u64 (.ofNat x),.int .u64 (.ofNat y),.int .u64 (.ofNat c)]=>if Nat.ble c 1 then some (V x y c,m) else none
 | _=>none
theorem qy {V:Nat→Nat→Nat→Value} {args:List Value} {m m':AMem} {v:Value} (h:fe V args m=some (v,m')) :
  ∃x y c:Nat,args = [.int .u64 x,.int .u64 y,.int .u64 c]∧c≤1∧v=V x y c∧m'=m:=by
 unfold fe at h
 split at h
 ·rename_i x y c
  split at h
  ·rename_i hc;cases h;exact⟨x,y,c,rfl,Nat.le_of_ble_eq_true hc,rfl,rfl⟩
  ·cases h
 ·cases h
section
variable {E : Env} {j : aI} {m : AMem} {w : World}
theorem LR.Ew:∀{l l':List Value},l.all Ab.aE=true→LR j l l'→l'=l:=by
 intro l
 induction l with
 | nil=>intro l' _ h; exact h.bX
 | cons v l ih =>
  intro l' hp h;obtain⟨v1,vs,rfl,h1,h2⟩:=h.cons_inv;rw[List.all_cons,Bool.and_eq_true] at hp;rw[cV hp.1 h1,ih hp.2 h2]
theorem lG {V:Nat→Nat→Nat→Value} {f:FuncId} (hV:∀x y c,aZ (V x y c)=true) (hrun:∀(x y c:Nat) (w:World),c≤1→(callFunc f #[.int .u64 x,.int .u64 y,.int .u64 c]).run E.P w = .ok (.value (V x y c)) w) (hpr:(E.cb f).isSome=true)
  {args args':List Value} {v:Value} {m':AMem} (he:fe V args m=some (v,m')) (h:MR E j m w) (hl:LR j args args') :
  gh E.P (E.cb f).isSome f args'.toArray w (ja E j m w v m'):=by
 obtain⟨x,y,c,rfl,hc,rfl,rfl⟩:=qy he;rw[LR.Ew rfl hl];exact .inr ⟨hpr,V x y c,w,hrun x y c w hc,j,.refl h,.aZ (hV x y c)⟩
end
theorem xI (x y c:Nat):aZ (wH x y c)=true:=rfl
theorem wg (x y c:Nat):aZ (Aw x y c)=true:=rfl
section
variable {P : Program} {f : FuncId} {fn : Func}
theorem EA (hf : P.funcs[f]? = some fn) (hname : (fn.name == "runtime.NumGoroutine") = false) (hb : fn.body.isNone = true) (hn : Extern.findNext fn = none) (he : Extern.find fn = some add64Entry) (x y c : Nat) (w : World) (hc : c ≤ 1) :
  (callFunc f #[.int .u64 x,.int .u64 y,.int .u64 c]).run P w = .ok (.value (wH x y c)) w:=by
 rw[run_callFunc_extern hf hname hb hn he,run_add64 x y c (by omega) (by omega) (by omega) (by omega)]
 simp only[Result.andThen,wH]
 congr 5
theorem Em (hf : P.funcs[f]? = some fn) (hname : (fn.name == "runtime.NumGoroutine") = false) (hb : fn.body.isNone = true) (hn : Extern.findNext fn = none) (he : Extern.find fn = some Go.Proofs.sub64Entry) (x y c : Nat) (w : World) (hc : c ≤ 1) :
  (callFunc f #[.int .u64 x,.int .u64 y,.int .u64 c]).run P w = .ok (.value (Aw x y c)) w:=by
 rw[run_callFunc_extern hf hname hb hn he,Go.Proofs.run_sub64 x y c hc]
 rfl
end
noncomputable def C5 (v:Value) (k:Nat→Bool):Bool:=jY v fun kd z=>dB (iO kd .u64) (z8 z k false) false
theorem mw {v:Value} {k:Nat→Bool} (h:C5 v k=true):∃x:Nat,v = .int .u64 x∧k x=true:=by
 obtain⟨kd,z,rfl,h⟩:=bR h;obtain⟨h1,h⟩:=aV h;cases dz h1;rcases gb h with⟨x,rfl,h⟩|h
 ·exact⟨x,rfl,h⟩
 ·cases h
noncomputable def rR (W:Nat→Nat→Nat→(Value→Bool)→Bool) (args:List Value) (m:AMem) (K:Value→AMem→Bool):Bool :=
 dB (B8 args 3) (uw 0 args fun a=>uw 1 args fun b=>uw 2 args fun d=>C5 a fun x=>C5 b fun y=>C5 d fun c=>dB (Nat.ble c 1) (W x y c fun v=>K v m) false) false
noncomputable def Gc (x y c:Nat) (k:Value→Bool):Bool:=fN ((x+y+c)%18446744073709551616) fun s=>fN ((x+y+c)/18446744073709551616) fun d=>k (.tuple #[.int .u64 (.ofNat s),.int .u64 (.ofNat d)])
noncomputable def FF (x y c:Nat) (k:Value→Bool):Bool:=fN ((x+18446744073709551616-y-c)%18446744073709551616) fun s=>dB (Nat.blt x (y+c)) (k (.tuple #[.int .u64 (.ofNat s),.int .u64 (.ofNat 1)])) (k (.tuple #[.int .u64 (.ofNat s),.int .u64 (.ofNat 0)]))
theorem C3 (x y c:Nat) (k:Value→Bool):Gc x y c k=k (wH x y c):=by unfold Gc wH; rw[cB,cB]
theorem Dt (x y c:Nat) (k:Value→Bool):FF x y c k=k (Aw x y c):=by
 unfold FF Aw;rw[cB]
 by_cases h:x<y+c
 ·have:Nat.blt x (y+c)=true:=by rw[Nat.blt_eq]; exact h
  rw[this,if_pos h]; rfl
 ·have:Nat.blt x (y+c)=false:=by
   cases hb:Nat.blt x (y+c) with
   | false=>rfl
   | true=>rw[Nat.blt_eq] at hb; exact absurd hb h
  rw[this,if_neg h]; rfl
theorem qT {V:Nat→Nat→Nat→Value} {W:Nat→Nat→Nat→(Value→Bool)→Bool} (hW:∀x y c k,W x y c k=k (V x y c)) {args:List Value} {m:AMem} {K:Value→AMem→Bool} (h:rR W args m K=true):∃v m',fe V args m=some (v,m')∧K v m'=true:=by
 unfold rR at h;obtain⟨hl,h⟩:=aV h;obtain⟨a,ha,h⟩:=eO h;obtain⟨b,hb,h⟩:=eO h;obtain⟨d,hd,h⟩:=eO h;obtain⟨x,ea,h⟩:=mw h;obtain⟨y,eb,h⟩:=mw h;obtain⟨c,ed,h⟩:=mw h;rw[ea] at ha; rw[eb] at hb; rw[ed] at hd;obtain⟨hc,h⟩:=aV h;rw[hW] at h;have hargs:args = [.int .u64 x,.int .u64 y,.int .u64 c]:=by
  have:=jQ hl
  match args,this,ha,hb,hd with
  | [p,q,r],_,ha,hb,hd=>cases ha; cases hb; cases hd; rfl
 refine⟨_,_,?_,h⟩;rw[hargs]
 show(if Nat.ble c 1 then some (V x y c,m) else none)=_
 rw[hc]; rfl
end Go.Ab
end

section
namespace Go.Proofs.YthmekkhpddehjaaGreat
open Go Go.Ab
def tA:List (Value × Value)→Option (List Int)
 | []=>some []
 | (.int .i64 k,_)::r=>(tA r).map (k::·)
 | _=>none
def zM (a:Int):List Int→List Int
 | []=>[a]
 | b::l=>if a≤b then a::b::l else b::zM a l
def nu:List Int→List Int
 | []=>[]
 | a::l=>zM a (nu l)
def Ee:List Int→Bool
 | []=>true
 | a::l=>!l.contains a && Ee l
def Js (ks:List Int):Bool:=ks.all (fun k=>decide (-9223372036854775808≤k) && decide (k<9223372036854775808)) && Ee ks && Nat.ble ks.length 1073741824
def mR (args:List Value) (m:AMem):Option (Value × AMem) :=
 match args with
 | [.map (some b)]=>match m.get b with
  | some (.map es)=>match tA es with
   | some ks=>if Js ks then(match ks with
    | []=>some (.slice none 0 0,m)
    | k::ks=>some (.slice (some ⟨m.next,0,none⟩) (ks.length+1) (ks.length+1),m.alloc (.cells ((nu (k::ks)).map (.int .i64)) (.more 1)))) else none
   | none=>none
  | _=>none
 | _=>none
def El (f:FuncId):Option Prim:=if f=111 then some ⟨mR⟩ else if f=144 then some ⟨fe wH⟩ else if f=145 then some ⟨fe Aw⟩ else none
noncomputable def qf:Env:={ P:=Tryz.prog,glob:=0,cb:=El,mono:=False}
def lH (args:List Value) (m:AMem):Option (Value × AMem) :=
 match args with
 | []=>some (.bool true,m)
 | _=>none
theorem HD:ownKnob Tryz.prog.godebug=none:=by kernel_rfl
theorem vI:wS Tryz.prog=true:=by kernel_rfl
end Go.Proofs.YthmekkhpddehjaaGreat
end

section
namespace Go.Ab
open Go
section
variable {E : Env} {j j1 : aI} {m m1 : AMem} {w w1 : World}
theorem Sim.mN (h:MR E j m w) (hold:∀c,c<w.heap.size→w1.heap[c]? = w.heap[c]?) (hsize:w.heap.size≤w1.heap.size) (hcalm:fC E w w1) {k1:Blk} (hfresh:w.heap.size≤k1.c) (hlt:k1.c<w1.heap.size) {cs:List Value} {tag:Tag} {o':Obj} (ho:w1.heap[k1.c]? = some o') (hor:OR j1 k1 (.cells cs tag) o') (hp:cs.all aE=true) :
  Sim E j m w (j.set m.next k1) (m.alloc (.cells cs tag)) w1:=by
 have hn:j m.next=none:=h.mB
 have ha:MR E j m w1:=⟨fun b k hb=>⟨(h.lt b k hb).1,Nat.lt_of_lt_of_le (h.lt b k hb).2 hsize⟩,fun b o k ho hb=>by
  obtain⟨o',h1,h2⟩:=h.obj b o k ho hb;exact⟨o',(hold k.c (h.lt b k hb).2).trans h1,h2⟩,h.inj,h.glob⟩
 refine⟨.alloc m _,aI.pO k1 hn,?_,?_,hsize,?_,?_,?_,fun c hc _=>hold c hc,hcalm⟩
 ·intro b k e e'
  by_cases hbm:b=m.next
  ·omega
  ·rw[aI.bN _ _ hbm,e'] at e; cases e
 ·refine⟨fun b k e=>?_,fun b o k ho' e=>?_,fun b b' k k' e e' hl hl' hc=>?_,fun gl hgl=>?_⟩
  ·by_cases hbm:b=m.next
   ·subst hbm; rw[aI.bQ] at e; cases e;exact⟨Nat.lt_succ_self _,hlt⟩
   ·rw[aI.bN _ _ hbm] at e;exact⟨Nat.lt_succ_of_lt (h.lt b k e).1,(ha.lt b k e).2⟩
  ·rw[AMem.bg] at ho'
   by_cases hbm:b=m.next
   ·subst hbm; rw[aI.bQ] at e; cases e;rw[if_pos rfl] at ho'; cases ho';refine⟨o',ho,?_⟩;cases o' with
    | cells c ty fz =>
     refine⟨hor.1,fun i v hi=>?_⟩;obtain⟨v',h3,h4⟩:=hor.2 i v hi;have hpv:=List.all_eq_true.1 hp v (List.mem_of_getElem? hi);have:=cV hpv h4;subst this;exact⟨_,h3,.aE hpv⟩
    | _=>exact hor.elim
   ·rw[if_neg hbm] at ho';rw[aI.bN _ _ hbm] at e;obtain⟨o',h1,h2⟩:=ha.obj b o k ho' e;exact⟨o',h1,h2.mono (aI.pO k1 hn)⟩
  ·have old:∀{b k},j b=some k→k.c≠k1.c:=fun {b k} e hc=>by
    have:=(h.lt b k e).2;omega
   by_cases hbm:b=m.next
   ·by_cases hbm':b'=m.next
    ·rw[hbm,hbm']
    ·subst hbm; rw[aI.bQ] at e; cases e;rw[aI.bN _ _ hbm'] at e';exact absurd hc.symm (old e')
   ·by_cases hbm':b'=m.next
    ·subst hbm'; rw[aI.bQ] at e'; cases e';rw[aI.bN _ _ hbm] at e;exact absurd hc (old e)
    ·rw[aI.bN _ _ hbm] at e;rw[aI.bN _ _ hbm'] at e';rw[AMem.bg,if_neg hbm] at hl;rw[AMem.bg,if_neg hbm'] at hl';exact h.inj b b' k k' e e' hl hl' hc
  ·have:=h.glob gl hgl;have hlt:=(h.lt gl _ this).1;rw[aI.bN _ _ (by omega)]; exact this
 ·intro b hb1 hb2 _;have:b=m.next:=by simp at hb2; omega
  subst this; exact⟨k1,aI.bQ _ _ _⟩
 ·intro b hb _;rw[AMem.bg,if_neg (by omega)]
 ·intro b k e e'
  by_cases hbm:b=m.next
  ·subst hbm; rw[aI.bQ] at e; cases e;exact .inl hfresh
  ·rw[aI.bN _ _ hbm,e'] at e; cases e
theorem Sim.same (h:MR E j m w) (hold:∀c,c<w.heap.size→w1.heap[c]? = w.heap[c]?) (hsize:w.heap.size≤w1.heap.size) (hcalm:fC E w w1):Sim E j m w j m w1 where
 ext:=.refl m
 le:=.refl j
 new:=fun b k h h'=>by simp[h'] at h
 mr:=⟨fun b k hb=>⟨(h.lt b k hb).1,Nat.lt_of_lt_of_le (h.lt b k hb).2 hsize⟩,fun b o k ho hb=>by
  obtain⟨o',h1,h2⟩:=h.obj b o k ho hb;exact⟨o',(hold k.c (h.lt b k hb).2).trans h1,h2⟩,h.inj,h.glob⟩
 size:=hsize
 full:=fun b h h' _=>absurd h (by omega)
 away:=fun _ _ _=>rfl
 fresh:=fun b k h h'=>by simp[h'] at h
 frame:=fun c hc _=>hold c hc
 calm:=hcalm
def qb (R:Nat→Value):Prop:=∀(j1 j2:aI) (b1 b2:Nat) (v':Value),(∀k,j1 b1=some k→j2 b2=some k)→VR j1 (R b1) v'→VR j2 (R b2) v'
def me (A:Nat→List Value):Prop:=∀(j1 j2:aI) (b1 b2:Nat) (l':List Value),(∀k,j1 b1=some k→j2 b2=some k)→LR j1 (A b1) l'→LR j2 (A b2) l'
theorem qb.slice (o len cap:Nat):qb fun b=>.slice (some ⟨b,o,none⟩) len cap:=by
 intro j1 j2 b1 b2 v' hk h;cases h with
 | slice e hm=>exact .slice (hk _ e) hm
 | sliceM e hm a1 a2 hl hc=>exact .sliceM (hk _ e) hm a1 a2 hl hc
theorem qb.plain {v:Value} (h:aE v=true):qb fun _=>v:=by
 intro j1 j2 b1 b2 v' _ hv;have:=cV h hv;subst this;exact .aE h
theorem me.nil:me fun _=>[]:=fun _ _ _ _ _ _ h=>by rw[h.bX]; exact .nil _
theorem me.cons {R:Nat→Value} {A:Nat→List Value} (hR:qb R) (hA:me A):me fun b=>R b::A b:=by
 intro j1 j2 b1 b2 l' hk h;obtain⟨y,ys,rfl,h1,h2⟩:=h.cons_inv;exact .cons (hR _ _ _ _ _ hk h1) (hA _ _ _ _ _ hk h2)
theorem w5 (hE:EnvOk E) {pr:FuncId→Option Prim} (h:∀f p,pr f=some p→E.cb f=some p∨∀args m v m',p.run args m=some (v,m')→∀(j:aI) (w:World) (args':List Value),MR E j m w→LR j args args'→gh E.P (E.cb f).isSome f args'.toArray w (ja E j m w v m')):EnvOk { E with cb:=pr}:=by
 refine⟨hE.call,hE.mixed,fun f p hp args m v m' hrun j w args' hm hl=>?_⟩;have hp':({ E with cb:=pr}:Env).cb f=some p:=hp;have hm0:MR E j m w:=MR.env (E:={ E with cb:=pr}) (E':=E) rfl hm;have key:∀v' w',ja E j m w v m' v' w'→ja { E with cb:=pr} j m w v m' v' w':=fun v' w' ⟨j',s,hv⟩=>⟨j',Sim.env (E:=E) rfl (fun e=>e) s,hv⟩;rcases h f p hp with h1|h1
 ·exact jA (fun _=>by rw[hp']; rfl) (hE.cb f p h1 args m v m' hrun j w args' hm0 hl) key
 ·exact jA (fun _=>by rw[hp']; rfl) (h1 args m v m' hrun j w args' hm0 hl) key
end
section
variable {E : Env} {j : aI} {m : AMem} {w : World}
def jC (j:aI) (g:Nat):aI:=fun x=>if x<g then j x else none
theorem tJ (n:Nat) (gs:Nat→Option (List Value)) (b:Nat):(nU n gs).get b=(gs b).map fun cs=>.cells cs .ro:=by
 simp[AMem.get,nU,Heap.get_nil]
theorem MR.HX {gs:Nat→Option (List Value)} (h:MR E j m w) (hgs:∀x c,x<E.glob→gs x=some c→m.get x=some (.cells c .ro)) (hgp:∀x c,gs x=some c→c.all aE=true):MR E (jC j E.glob) (nU E.glob gs) w:=by
 have cases1:∀x k,jC j E.glob x=some k→x<E.glob∧j x=some k:=by
  intro x k hx;unfold jC at hx
  split at hx
  ·rename_i hlt; exact⟨hlt,hx⟩
  ·cases hx
 refine⟨fun x k hx=>?_,fun x o k ho hx=>?_,fun x x' k k' hx hx' hl hl' hc=>?_,fun gl hgl=>?_⟩
 ·obtain⟨hlt,hj⟩:=cases1 x k hx;exact⟨hlt,(h.lt x k hj).2⟩
 ·rw[tJ] at ho;obtain⟨hlt,hj⟩:=cases1 x k hx;cases hg:gs x with
  | none=>rw[hg] at ho; cases ho
  | some c =>
   rw[hg] at ho; cases ho;have hgx:=hgs x c hlt hg;obtain⟨o',h1,h2⟩:=h.obj x _ k hgx hj;refine⟨o',h1,?_⟩;cases o' with
   | cells c' ty fz =>
    refine⟨h2.1,fun i v hi=>?_⟩;obtain⟨v',h3,h4⟩:=h2.2 i v hi;have hpv:=List.all_eq_true.1 (hgp x c hg) v (List.mem_of_getElem? hi);have:=cV hpv h4;subst this;exact⟨_,h3,.aE hpv⟩
   | _=>exact h2.elim
 ·have live:∀y,y<E.glob→((nU E.glob gs).get y).isSome=true→(m.get y).isSome=true:=by
   intro y hy hl;rw[tJ] at hl;cases hg:gs y with
   | none=>rw[hg] at hl; cases hl
   | some c=>rw[hgs y c hy hg]; rfl
  obtain⟨hlt,hj⟩:=cases1 x k hx;obtain⟨hlt',hj'⟩:=cases1 x' k' hx';exact h.inj x x' k k' hj hj' (live x hlt hl) (live x' hlt' hl') hc
 ·unfold jC;rw[if_pos hgl];exact h.glob gl hgl
theorem sh (hE:EnvOk E) {f:FuncId} {gs:Nat→Option (List Value)} (hgp:∀x c,gs x=some c→c.all aE=true) {fuel:Nat} {v:Value} {m0:AMem}
  (hrun:run E fuel (.call f [] (nU E.glob gs))=some (.val v m0)) (hwl:E.glob≤m0.wl) (hpv:aZ v=true) {args':List Value} (h:MR E j m w) (hgs:∀x c,x<E.glob→gs x=some c→m.get x=some (.cells c .ro)) (hl:LR j [] args') :
  gh E.P (E.cb f).isSome f args'.toArray w (ja E j m w v m):=by
 have hm0:=h.HX hgs hgp;have hl0:LR (jC j E.glob) [] args':=by
  rw[LR.bX hl]; exact .nil _
 obtain⟨_,_,e,hs⟩:=sj hE fuel _ _ hrun;cases e;refine jA (fun x=>x) (hs _ w args' hm0 hl0) ?_;intro v' w' ⟨j',s,hv'⟩;have hold:∀c,c<w.heap.size→w'.heap[c]? = w.heap[c]?:=fun c hc=>s.frame c hc fun x k hx _ _=>by
  have:x<E.glob:=(hm0.lt x k hx).1;omega
 exact⟨j,.same h hold s.size s.calm,VR.Al hpv hv'⟩
end
end Go.Ab
end

section
namespace Go.Proofs.YthmekkhpddehjaaGreat
open Go Go.Ab
noncomputable def rL (f:FuncId):Option PSem:=if f=144 then some ⟨rR Gc⟩ else if f=145 then some ⟨rR FF⟩ else none
theorem Aa:H4 qf rL:=by
  intro f S hS;unfold rL at hS
  split at hS
  · rename_i e; cases hS; subst e;exact⟨⟨fe wH⟩,rfl,fun h=>qT C3 h⟩
  · split at hS
    · rename_i e; cases hS; subst e;exact⟨⟨fe Aw⟩,rfl,fun h=>qT Dt h⟩
    · cases hS
def m14:AMem:=nU 0 fun _=>none
set_option maxRecDepth 100000
set_option maxHeartbeats 0 in
theorem wT:(hand qf rL 1000).call 18 [] m14 (HE 0)=true:=by decide +kernel
end Go.Proofs.YthmekkhpddehjaaGreat
end

section
namespace Go.Proofs
open Go.Shelf
def Tryz.qU:Go.Shelf.Ren:=⟨fun|7=>136|10=>150|n=>n,fun|23=>140|26=>3|3=>144|28=>178|0=>0|27=>177|33=>137|4=>4|n=>n,fun|n=>n⟩
theorem Tryz.EW:Go.Proofs.SlLaysZI.n7 Tryz.prog Tryz.qU:={
 mixed:=by kernel_rfl
 f7:=⟨Tryz.f136.name,by decide,Tryz.func136.trans (congrArg some (by kernel_rfl))⟩
 f10:=⟨Tryz.f150.name,by decide,Tryz.func150.trans (congrArg some (by kernel_rfl))⟩
 t0:=Tryz.underlying0
 a0:=Tryz.isAgg0
 z0:=Tryz.sizeOf0
 v0:=Tryz.zeroValue0
 t4:=Tryz.underlying4
 a4:=Tryz.isAgg4
 z4:=Tryz.sizeOf4
 v4:=Tryz.zeroValue4
 t23:=Tryz.underlying140
 a23:=Tryz.isAgg140
 z23:=Tryz.sizeOf140
 v23:=Tryz.zeroValue140
 t26:=Tryz.underlying3
 a26:=Tryz.isAgg3
 z26:=Tryz.sizeOf3
 v26:=Tryz.zeroValue3
 t27:=Tryz.underlying177
 a27:=Tryz.isAgg177
 z27:=Tryz.sizeOf177
 v27:=Tryz.zeroValue177
 t28:=Tryz.underlying178
 a28:=Tryz.isAgg178
 z28:=Tryz.sizeOf178
 v28:=Tryz.zeroValue178
 t33:=Tryz.underlying137
 a33:=Tryz.isAgg137
 z33:=Tryz.sizeOf137
 v33:=Tryz.zeroValue137}
def Tryz.nq:Go.Shelf.Ren:=⟨fun|6=>135|8=>148|9=>149|11=>158|13=>81|12=>159|23=>101|24=>102|14=>161|15=>162|16=>163|17=>164|18=>165|19=>166|20=>167|21=>168|22=>169|25=>170|26=>122|27=>123|28=>171|29=>172|30=>103|31=>173|n=>n,fun|26=>3|28=>178|24=>102|0=>0|3=>3|37=>117|48=>134|50=>136|4=>4|40=>127|39=>126|45=>131|5=>5|9=>9|51=>164|55=>168|57=>187|58=>81|33=>137|n=>n,fun|n=>n⟩
theorem Tryz.Dz:Go.Proofs.SlLaysZI.n6 Tryz.prog Tryz.nq:={
 mixed:=by kernel_rfl
 f6:=⟨Tryz.f135.name,by decide,Tryz.func135.trans (congrArg some (by kernel_rfl))⟩
 f8:=⟨Tryz.f148.name,by decide,Tryz.func148.trans (congrArg some (by kernel_rfl))⟩
 f11:=⟨Tryz.f158.name,by decide,Tryz.func158.trans (congrArg some (by kernel_rfl))⟩
 t0:=Tryz.underlying0
 a0:=Tryz.isAgg0
 z0:=Tryz.sizeOf0
 v0:=Tryz.zeroValue0
 t24:=Tryz.underlying102
 a24:=Tryz.isAgg102
 z24:=Tryz.sizeOf102
 v24:=Tryz.zeroValue102
 t26:=Tryz.underlying3
 a26:=Tryz.isAgg3
 z26:=Tryz.sizeOf3
 v26:=Tryz.zeroValue3
 t28:=Tryz.underlying178
 a28:=Tryz.isAgg178
 z28:=Tryz.sizeOf178
 v28:=Tryz.zeroValue178
 i26:=by kernel_rfl}
def Tryz.zS:Go.Shelf.Ren:=⟨fun|5=>149|8=>81|7=>159|19=>101|20=>102|10=>161|11=>162|12=>163|13=>164|14=>165|15=>166|16=>167|17=>168|18=>169|30=>170|31=>122|32=>123|33=>171|34=>172|35=>103|40=>173|n=>n,fun|23=>102|25=>3|3=>3|32=>117|22=>102|0=>0|44=>134|46=>136|4=>4|36=>127|35=>126|41=>131|5=>5|9=>9|53=>164|57=>168|63=>187|64=>81|n=>n,fun|n=>n⟩
theorem Tryz.Fg:Go.Proofs.SlLaysM.n5 Tryz.prog Tryz.zS:={
 mixed:=by kernel_rfl
 f5:=⟨Tryz.f149.name,by decide,Tryz.func149.trans (congrArg some (by kernel_rfl))⟩
 f7:=⟨Tryz.f159.name,by decide,Tryz.func159.trans (congrArg some (by kernel_rfl))⟩
 f8:=Tryz.func81.trans (congrArg some (by kernel_rfl))
 f10:=⟨Tryz.f161.name,by decide,Tryz.func161.trans (congrArg some (by kernel_rfl))⟩
 f11:=⟨Tryz.f162.name,by decide,Tryz.func162.trans (congrArg some (by kernel_rfl))⟩
 f12:=⟨Tryz.f163.name,by decide,Tryz.func163.trans (congrArg some (by kernel_rfl))⟩
 f13:=⟨Tryz.f164.name,by decide,Tryz.func164.trans (congrArg some (by kernel_rfl))⟩
 f14:=⟨Tryz.f165.name,by decide,Tryz.func165.trans (congrArg some (by kernel_rfl))⟩
 f15:=⟨Tryz.f166.name,by decide,Tryz.func166.trans (congrArg some (by kernel_rfl))⟩
 f16:=⟨Tryz.f167.name,by decide,Tryz.func167.trans (congrArg some (by kernel_rfl))⟩
 f17:=⟨Tryz.f168.name,by decide,Tryz.func168.trans (congrArg some (by kernel_rfl))⟩
 f18:=⟨Tryz.f169.name,by decide,Tryz.func169.trans (congrArg some (by kernel_rfl))⟩
 f19:=Tryz.func101.trans (congrArg some (by kernel_rfl))
 f20:=Tryz.func102.trans (congrArg some (by kernel_rfl))
 f30:=⟨Tryz.f170.name,by decide,Tryz.func170.trans (congrArg some (by kernel_rfl))⟩
 f31:=Tryz.func122.trans (congrArg some (by kernel_rfl))
 f32:=Tryz.func123.trans (congrArg some (by kernel_rfl))
 f33:=⟨Tryz.f171.name,by decide,Tryz.func171.trans (congrArg some (by kernel_rfl))⟩
 f34:=⟨Tryz.f172.name,by decide,Tryz.func172.trans (congrArg some (by kernel_rfl))⟩
 f35:=⟨Tryz.f103.name,by decide,Tryz.func103.trans (congrArg some (by kernel_rfl))⟩
 f40:=⟨Tryz.f173.name,by decide,Tryz.func173.trans (congrArg some (by kernel_rfl))⟩
 t0:=Tryz.underlying0
 a0:=Tryz.isAgg0
 z0:=Tryz.sizeOf0
 v0:=Tryz.zeroValue0
 t3:=Tryz.underlying3
 a3:=Tryz.isAgg3
 z3:=Tryz.sizeOf3
 v3:=Tryz.zeroValue3
 t4:=Tryz.underlying4
 a4:=Tryz.isAgg4
 z4:=Tryz.sizeOf4
 v4:=Tryz.zeroValue4
 t5:=Tryz.underlying5
 a5:=Tryz.isAgg5
 z5:=Tryz.sizeOf5
 v5:=Tryz.zeroValue5
 t9:=Tryz.underlying9
 a9:=Tryz.isAgg9
 z9:=Tryz.sizeOf9
 v9:=Tryz.zeroValue9
 t22:=Tryz.underlying102
 a22:=Tryz.isAgg102
 z22:=Tryz.sizeOf102
 v22:=Tryz.zeroValue102
 t23:=Tryz.underlying102
 a23:=Tryz.isAgg102
 z23:=Tryz.sizeOf102
 v23:=Tryz.zeroValue102
 t25:=Tryz.underlying3
 a25:=Tryz.isAgg3
 z25:=Tryz.sizeOf3
 v25:=Tryz.zeroValue3
 t32:=Tryz.underlying117
 a32:=Tryz.isAgg117
 z32:=Tryz.sizeOf117
 v32:=Tryz.zeroValue117
 t35:=Tryz.underlying126
 a35:=Tryz.isAgg126
 z35:=Tryz.sizeOf126
 v35:=Tryz.zeroValue126
 t36:=Tryz.underlying127
 a36:=Tryz.isAgg127
 z36:=Tryz.sizeOf127
 v36:=Tryz.zeroValue127
 t41:=Tryz.underlying131
 a41:=Tryz.isAgg131
 z41:=Tryz.sizeOf131
 v41:=Tryz.zeroValue131
 t44:=Tryz.underlying134
 a44:=Tryz.isAgg134
 z44:=Tryz.sizeOf134
 v44:=Tryz.zeroValue134
 t46:=Tryz.underlying136
 a46:=Tryz.isAgg136
 z46:=Tryz.sizeOf136
 v46:=Tryz.zeroValue136
 t53:=Tryz.underlying164
 a53:=Tryz.isAgg164
 z53:=Tryz.sizeOf164
 v53:=Tryz.zeroValue164
 t57:=Tryz.underlying168
 a57:=Tryz.isAgg168
 z57:=Tryz.sizeOf168
 v57:=Tryz.zeroValue168
 t63:=Tryz.underlying187
 a63:=Tryz.isAgg187
 z63:=Tryz.sizeOf187
 v63:=Tryz.zeroValue187
 t64:=Tryz.underlying81
 a64:=Tryz.isAgg81
 z64:=Tryz.sizeOf81
 v64:=Tryz.zeroValue81}
end Go.Proofs
end

section
namespace Go.Proofs
open Go.RowKit Go.Maps Go.Sort Go.Shelf
theorem Tryz.F3 (m:Nat):AnyZI.SortsIn Tryz.prog Tryz.nq Fence.wide m :=
 ⟨fun mn off cap ss W hH hblk hsz=>callsIn_wide.2 (AnyM.slices_Sort_int Tryz.Fg mn off cap ss W hH hblk hsz),
  fun p cap W=>callsIn_wide.2 (AnyM.slices_Sort_int_none Tryz.Fg p cap W)⟩
set_option maxHeartbeats 1000000 in
theorem Tryz.Keys {H:Type} (b nn:Nat) (D0:DataW H) (R:Value→Option (DataW H × List MemPlace)) (w:World) (hown:w.ownsMap Tryz.prog 3 R b nn D0) (hmax:Maps.size D0≤maxLen) (hbytes:Maps.size D0*8≤140737488355328) :
  Calls Tryz.prog 111 #[.map (some b)] w fun e w'=>∃(v:Value) (ss:List Int),e = .returned v∧ss.Perm (intKeys D0) ∧
   w'.ownsRow w.heap.size 3 1 v ss.length ((ss.mergeSort (fun x y=>decide (x≤y))).map encZ)∧(v = .slice none 0 0↔ss = [])∧Below w.heap.size w w':=by
 refine(callsIn_wide (n:=6)).1 ?_;have hbl:=hown.lt;have hseq:SeqGives Fence.wide 2 Tryz.prog 150 #[.pointer (some ⟨w.heap.size,0,none⟩)] encZ (fun ss=>ss.Perm (intKeys D0)) (Maps.size D0) (w.alloc (.cells #[.map (some b)] 140)) :=
  AnyZI.keys_gives (ρ:=Tryz.qU) { Tryz.EW with} Fence.wide _ trivial rfl (by omega) w.heap.size b nn D0 _ (by simp) (by simp) (by
   obtain⟨es,clock,hb,Ft,hs,hD⟩:=hown;exact⟨es,clock,(Below.heap_alloc _ _ b hbl).trans hb,Ft,hs,hD⟩)
 have cK:∀mb W,CallsIn Fence.wide 5 Tryz.prog 136 #[.map mb] W fun e w'=>e = .returned (.func (.func 150) #[] #[.pointer (some ⟨W.heap.size,0,none⟩)])∧w'=W.alloc (.cells #[.map mb] 140):=fun mb W=>AnyZI.keys_in Tryz.EW Fence.wide 5 trivial rfl mb W;have cS:=AnyZI.sorted_in Tryz.Dz Fence.wide 5 trivial trivial trivial trivial rfl (by omega) (Tryz.F3 _) (enters_of Tryz.func149 (by kernel_rfl) rfl) 150 #[.pointer (some ⟨w.heap.size,0,none⟩)] trivial (enters_of Tryz.func150 (by kernel_rfl) rfl) _ _ hmax hbytes _ hseq
 change CallsIn _ _ Tryz.prog 135 _ _ _ at cS
 have hfK:Fence.wide.fn 136:=trivial;have hfS:Fence.wide.fn 135:=trivial;refine callsIn_of_wp Tryz.func111 rfl trivial ?_ rfl;simp only[Tryz.ntmps111,List.size_toArray,List.length_cons,List.length_nil,Nat.reduceAdd,Nat.reduceSub,Array.replicate_succ,Array.replicate_zero,List.push_toArray,List.append_toArray,List.nil_append,List.cons_append]
 gi_wp2_with (first
  | (gi_at_call 136; refine(cK _ _).mono ?_; rintro e w' ⟨rfl,rfl⟩)
  | (gi_at_call 135; refine cS.mono ?_; rintro e w' ⟨v,ss,rfl,hS,hrow,hnil,hb⟩))
 go_ret
 exact⟨v,ss,rfl,hS,ownsRow_base_a hrow (by simp),hnil,((Below.refl _ w).alloc (Nat.le_refl _) _).trans (hb.mono (by simp))⟩
end Go.Proofs
end

section
namespace Go.Proofs.YthmekkhpddehjaaGreat
open Go Go.Ab Go.Maps
theorem oQ:∀{l:List Int},Ee l=true→l.Nodup
 | [],_=>List.nodup_nil
 | a::l,h=>by
  unfold Ee at h;rw[Bool.and_eq_true] at h;exact List.nodup_cons.2 ⟨by simpa using h.1,oQ h.2⟩
theorem mA (a:Int):∀l,(zM a l).Perm (a::l)
 | []=>List.Perm.refl _
 | b::l=>by
  unfold zM
  split
  ·exact List.Perm.refl _
  ·exact((mA a l).cons b).trans (List.Perm.swap a b l)
theorem kL:∀l,(nu l).Perm l
 | []=>List.Perm.refl _
 | a::l=>(mA a (nu l)).trans ((kL l).cons a)
theorem nF (a:Int):∀{l:List Int},l.Pairwise (·≤·)→(zM a l).Pairwise (·≤·)
 | [],_=>List.pairwise_singleton _ _
 | b::l,h=>by
  obtain⟨h1,h2⟩:=List.pairwise_cons.1 h;unfold zM
  split
  ·rename_i hab;exact List.pairwise_cons.2 ⟨fun x hx=>by
    rcases List.mem_cons.1 hx with rfl|hx
    ·exact hab
    ·exact Int.le_trans hab (h1 x hx),h⟩
  ·rename_i hab;refine List.pairwise_cons.2 ⟨fun x hx=>?_,nF a h2⟩;rcases List.mem_cons.1 ((mA a l).subset hx) with rfl|hx
   ·omega
   ·exact h1 x hx
theorem lV:∀l,(nu l).Pairwise (·≤·)
 | []=>List.Pairwise.nil
 | a::l=>nF a (lV l)
theorem Cd {ss ks:List Int} (h:ss.Perm ks):ss.mergeSort (fun x y=>decide (x≤y))=nu ks:=by
 refine List.Perm.eq_of_pairwise (le:=fun a b=>a≤b) (fun a b _ _ h1 h2=>Int.le_antisymm h1 h2) ?_ (lV ks) (((List.mergeSort_perm ss _).trans h).trans (kL ks).symm);exact(List.pairwise_mergeSort (fun a b c h1 h2=>by simp only[decide_eq_true_eq] at *; omega) (fun a b=>by simp only[Bool.or_eq_true,decide_eq_true_eq]; omega) ss).imp fun h=>by simpa using h
theorem yL {j:aI}:∀{es:List (Value × Value)} {fs:List MapEntry} {ks:List Int},ER j es fs→tA es=some ks→fs.map (·.key)=ks.map (.int .i64)
 | [],[],ks,_,h=>by cases h; rfl
 | (a,b)::es,f::fs,ks,hr,h=>by
  unfold tA at h
  split at h
  ·rename_i e; cases e
  ·rename_i k v r e;cases e;cases hk:tA es with
   | none=>rw[hk] at h; cases h
   | some ks' =>
    rw[hk] at h;cases h;have h1:f.key = .int .i64 k:=by
     have:=hr.1;generalize f.key=fk at this;cases this; rfl
    rw[List.map_cons,List.map_cons,h1,yL hr.2.2 hk]
  ·cases h
 | [],_::_,_,h,_=>h.elim
 | _::_,[],_,h,_=>h.elim
abbrev RU:Value→Option (DataW Unit × List MemPlace):=fun _=>some (.lit (.bool true),[])
theorem HV:Tryz.prog.underlying 3=some (.int .i64):=by kernel_rfl
theorem wf_i64 {k:Int} (h1 : -9223372036854775808≤k) (h2:k<9223372036854775808):(Lit.int .i64 k).wf=true:=by
 show(decide ((-9223372036854775808:Int)≤k) && decide (k≤9223372036854775807))=true
 rw[decide_eq_true h1,decide_eq_true (show k≤9223372036854775807 by omega)]; rfl
theorem FT {x:MapEntry} {k:Int} (hk:x.key = .int .i64 k) (h1 : -9223372036854775808≤k) (h2:k<9223372036854775808):Go.WideElems.rd Tryz.prog 3 RU x=some (.int .i64 k,.lit (.bool true)):=by
 have hm:mapKey Tryz.prog 3 (.int .i64 k)=some (.int .i64 k):=by
  unfold mapKey;rw[HV];simp only[wf_i64 h1 h2,and_self,if_true]
 have hk':keyOf Tryz.prog 3 (.int .i64 k)=some (.int .i64 k):=by
  unfold keyOf;simp only[HV,hm]
 unfold Go.WideElems.rd;rw[hk,hk']; rfl
theorem qj {args:List Value} {m m':AMem} {v:Value} (h:mR args m=some (v,m')) {j:aI} {w:World} {args':List Value} (hm:MR qf j m w) (hl:LR j args args') :
  gh qf.P (qf.cb 111).isSome 111 args'.toArray w (ja qf j m w v m'):=by
 unfold mR at h
 split at h
 case h_2=>cases h
 rename_i b
 split at h
 case h_2=>cases h
 rename_i es hg
 split at h
 case h_2=>cases h
 rename_i ks hks
 split at h
 case isFalse=>cases h
 rename_i hok;obtain⟨v1,vs,rfl,hv1,hvs⟩:=hl.cons_inv;obtain rfl:=hvs.bX;cases hv1 with
 | map hj =>
 rename_i k;obtain⟨es',clock,h1,h2⟩:=hm.tX hj hg;have hinc:=hm.rq hj hg h1;have hkeys:=yL h2 hks;unfold Js at hok;rw[Bool.and_eq_true,Bool.and_eq_true] at hok;obtain⟨⟨ho1,ho2⟩,ho3⟩:=hok;have hnd:=oQ ho2;have hlen:=Nat.le_of_ble_eq_true ho3;have hrange:∀x ∈ ks,-9223372036854775808≤x∧x<9223372036854775808:=fun x hx=>by
  have:=List.all_eq_true.1 ho1 x hx
  simpa using this
 have hsz:es'.size=ks.length:=by
  have:=congrArg List.length hkeys
  simpa using this
 have hread:∀x ∈ es'.toList,∃q:Int,x.key = .int .i64 q∧q ∈ ks∧Go.WideElems.rd Tryz.prog 3 RU x=some (.int .i64 q,.lit (.bool true)):=fun x hx=>by
  have:x.key ∈ ks.map (.int .i64):=hkeys ▸ List.mem_map.2 ⟨x,hx,rfl⟩;obtain⟨q,hq,e⟩:=List.mem_map.1 this;have hr:=hrange q hq;exact⟨q,e.symm,hq,FT e.symm hr.1 hr.2⟩
 have hknd:(es'.toList.map (·.key)).Nodup:=by
  rw[hkeys];refine List.pairwise_map.2 (hnd.imp fun hne e=>hne ?_);cases e; rfl
 have hmaxlen:(1073741824:Nat)≤maxLen:=by decide
 have hfit:Go.WideElems.Fit Tryz.prog 3 RU es' clock:=⟨by rw[hsz]; omega,⟨hinc.1,hinc.2,hknd⟩,fun x hx=>by
  obtain⟨q,_,_,e⟩:=hread x hx;exact⟨_,e⟩⟩
 have hown:w.ownsMap Tryz.prog 3 RU k.c es'.size (.map ((es'.toList.map (Go.WideElems.rg Tryz.prog 3 RU)).foldr DataW.insert [])):=⟨es',clock,h1,hfit,Nat.le_refl _,rfl⟩;have hrg:es'.toList.map (Go.WideElems.rg Tryz.prog 3 RU)=ks.map fun q=>(Lit.int .i64 q,(.lit (.bool true):DataW Unit)):=by
  have e1:es'.toList.map (Go.WideElems.rg Tryz.prog 3 RU)=(es'.toList.map (·.key)).map fun kv=>match kv with
    | .int .i64 q=>(Lit.int .i64 q,(.lit (.bool true):DataW Unit))
    | _=>(.bool false,.nil):=by
   rw[List.map_map];refine List.map_congr_left fun x hx=>?_;obtain⟨q,e,_,hr⟩:=hread x hx
   show(Go.WideElems.rd Tryz.prog 3 RU x).getD _=_
   rw[hr]
   show _=(match x.key with | .int .i64 q=>(Lit.int .i64 q,(.lit (.bool true):DataW Unit)) | _=>(.bool false,.nil))
   rw[e]; rfl
  rw[e1,hkeys,List.map_map]; rfl
 have hperm:(intKeys (.map ((es'.toList.map (Go.WideElems.rg Tryz.prog 3 RU)).foldr DataW.insert []):DataW Unit)).Perm ks:=by
  show((es'.toList.map (Go.WideElems.rg Tryz.prog 3 RU)).foldr DataW.insert []).map (fun p=>Go.intOf p.1) |>.Perm ks
  refine((Go.WideShapes.sorted_perm _).map _).trans ?_;rw[hrg,List.map_map];have:∀l:List Int,l.map ((fun p:Lit × DataW Unit=>Go.intOf p.1) ∘ fun q=>(Lit.int .i64 q,.lit (.bool true)))=l:=fun l=>by
   induction l with
   | nil=>rfl
   | cons a l ih=>rw[List.map_cons,ih]; rfl
  rw[this]
 have hsize:Maps.size (.map ((es'.toList.map (Go.WideElems.rg Tryz.prog 3 RU)).foldr DataW.insert []):DataW Unit)=ks.length:=by
  show((es'.toList.map (Go.WideElems.rg Tryz.prog 3 RU)).foldr DataW.insert []).length=ks.length
  rw[(Go.WideShapes.sorted_perm _).length_eq,List.length_map,Array.length_toList,hsz]
 have hcon:=Tryz.Keys k.c es'.size _ RU w hown (by rw[hsize]; omega) (by rw[hsize]; omega)
 have hcall:(callFunc 111 #[.map (some k.c)]).run Tryz.prog w = .ok (.enter 111 #[.map (some k.c)]) w:=enters_of Tryz.func111 (by kernel_rfl) rfl _ _
 refine .inl ⟨hcall,callsIn_wide.2 (hcon.mono ?_)⟩;rintro e w' ⟨v2,ss,rfl,hp,hrow,hnil,hb⟩;have hps:=hp.trans hperm;have hsl:=hps.length_eq;have hold:∀c,c<w.heap.size→w'.heap[c]? = w.heap[c]?:=fun c hc=>hb.block c hc;have hcalm:fC qf w w':=⟨hb.os,hb.output,hb.tape,fun f=>f.elim⟩;refine⟨v2,rfl,?_⟩
 match ks,h with
 | [],h =>
  cases h;have:ss = []:=List.length_eq_zero_iff.1 hsl;rw[hnil.2 this];exact⟨j,.same hm hold hb.size hcalm,.snil 0 0⟩
 | q::ks,h =>
  cases h;rw[Cd hps] at hrow;obtain⟨hxl,hor⟩:=hrow;rcases hor with⟨_,h0⟩|⟨g,cap,cur,rfl,hg1,hg2,hn1,hn2,hn3,htake⟩
  ·rw[hsl] at h0; simp at h0
  ·have hlen2:(nu (q::ks)).length=ks.length+1:=(kL _).length_eq;have hcl:((nu (q::ks)).map (Value.int .i64)).length=ks.length+1:=by rw[List.length_map,hlen2]
   have hssl:ss.length=ks.length+1:=hsl;rw[hssl] at hn1 htake hxl ⊢;rw[Nat.mul_one] at htake hn3;have hlt:g<w'.heap.size:=(Array.getElem?_eq_some_iff.1 hg2).1;refine⟨_,.mN (k1:=⟨g,some (1,ks.length+1,cap)⟩) hm hold hb.size hcalm hg1 hlt (j1:=j) hg2 ⟨⟨by rw[hcl,hn3],by rw[hcl,hn3]; exact hn1,rfl,by decide,trivial⟩,fun i vv hi=>?_⟩ (by
    rw[List.all_map]; exact List.all_eq_true.2 fun _ _=>rfl),?_⟩
   ·refine⟨vv,?_,?_⟩
    ·rw[←htake] at hi;rw[List.getElem?_take] at hi
     split at hi
     ·simpa using hi
     ·cases hi
    ·have:=List.mem_of_getElem? hi;obtain⟨z,_,rfl⟩:=List.mem_map.1 this;exact .int _ _
   ·exact .sliceM (k:=⟨g,some (1,ks.length+1,cap)⟩) (aI.bQ _ _ _) rfl (by omega) (by omega) (Nat.le_refl _) hn1
end Go.Proofs.YthmekkhpddehjaaGreat
end

section
namespace Go.Proofs.YthmekkhpddehjaaGreat
open Go Go.Ab Go.Ab.W
abbrev qx:Int × Int→List Value:=eP (eI .i64) (eI .i64)
def cD:List Value→Option (List (Int × Int))
 | []=>some []
 | .int .i64 a::.int .i64 b::r=>(cD r).map ((a,b)::·)
 | _=>none
def ye (x y:Int × Int):Bool:=decide (x.1<y.1∨x.1=y.1∧x.2≤y.2)
def xj (m:AMem) (b n n':Nat):Option (List Value × Tag) :=
 match m.get b with
 | some (.cells cs .own)=>if n=n'∧cs.length=n*2∧cs.all aE=true then some (cs,.own) else none
 | some (.cells cs (.more 2))=>if n=n'∧cs.length=n*2∧cs.all aE=true then some (cs,.more 2) else none
 | _=>none
def rH (args:List Value) (m:AMem):Option (Value × AMem) :=
 match args with
 | [.slice none 0 _,.func (.func 51) xs ys]=>if xs.size=0∧ys.size=0 then some (.tuple #[],m) else none
 | [.slice (some ⟨b,0,none⟩) n n',.func (.func 51) xs ys] =>
  match xj m b n n' with
  | some (cs,tg) =>
   match cD cs with
   | some l=>if (xs.size=0∧ys.size=0)∧lim n=true then some (.tuple #[],m.set b (.cells ((l.mergeSort ye).map qx).flatten tg)) else none
   | none=>none
  | none=>none
 | _=>none
def CH (f:FuncId):Option Prim:=if f=18 then some ⟨lH⟩ else if f=50 then some ⟨rH⟩ else El f
noncomputable def bq:Env:={ P:=Tryz.prog,glob:=0,cb:=CH,mono:=False}
noncomputable def lN:Env:={ P:=Tryz.prog,glob:=0,cb:=fun _=>none,mono:=True}
theorem sU:EnvOk lN:=uh vI fun f p hp=>by cases hp
end Go.Proofs.YthmekkhpddehjaaGreat
end

section
namespace Go.Ab.W
open Go Go.Ab
attribute [local irreducible] Tm.at Trie.set Trie.get AMem.get AMem.set AMem.alloc AMem.ww AMem.kill
section
variable {E : Env} {n : Nat} {m0 : AMem} {fs : Fs} {ps ps' : List Pc} {ops : Array Oper} {os : List Oper} {K : Tm → AMem → Prop} {prs : List (Nat × Nat)}
variable {ty : TypeId} {p : String} {af : Array Edge} {d : Nat} {o : Op} {g : Option (Nat × Bool)} {v : Value}
inductive Nk
 | any
 | call
 | rd (b:Nat)
 | wr (b:Nat)
 | low (b:Nat)
 | kp (l:List Nat)
 | rn (o:Option Nat)
 | ka (l:List (Option Nat))
def Nk.of:Nk→Note→Prop
 | .any,_=>True
 | .call,x=>x.next≤x.wl
 | .rd b,x=>x.read=some b
 | .wr b,x=>x.wrote=some b
 | .low b,x=>b<x.wl
 | .kp l,x=>∀b ∈ l,x.kept b=true
 | .rn o,x=>x.read=o
 | .ka l,x=>∀b,some b ∈ l→x.kept b=true
def NR:List Nk→List Note→Prop
 | [],[]=>True
 | b::bs,x::xs=>cy x=true∧b.of x∧NR bs xs
 | _,_=>False
theorem NR.at:∀{bs:List Nk} {ns:List Note} {i:Nat} {b:Nk},NR bs ns→bs[i]? = some b→∃x,ns[i]? = some x∧b.of x
 | b::bs,x::xs,0,c,h,e=>by simp only[List.getElem?_cons_zero,Option.some.injEq] at e; subst e; exact⟨x,rfl,h.2.1⟩
 | b::bs,x::xs,i+1,c,h,e=>by rw[List.getElem?_cons_succ] at e ⊢; exact NR.at h.2.2 e
 | [],[],i,c,h,e=>by simp at e
 | [],_::_,_,_,h,_=>h.elim
 | _::_,[],_,_,h,_=>h.elim
theorem NR.all:∀{bs:List Nk} {ns:List Note},NR bs ns→ns.all cy=true
 | [],[],_=>rfl
 | _::_,_::_,h=>by rw[List.all_cons,h.1,NR.all h.2.2]; rfl
 | [],_::_,h=>h.elim
 | _::_,[],h=>h.elim
theorem NR.snoc:∀{bs:List Nk} {ns:List Note} {b:Nk} {x:Note},NR bs ns→cy x=true→b.of x→NR (bs++[b]) (ns++[x])
 | [],[],_,_,_,h1,h2=>⟨h1,h2,trivial⟩
 | _::_,_::_,_,_,h,h1,h2=>⟨h.1,h.2.1,NR.snoc h.2.2 h1 h2⟩
 | [],_::_,_,_,h,_,_=>h.elim
 | _::_,[],_,_,h,_,_=>h.elim
def Nk.IA:Nk→Bool
 | .call=>true
 | _=>false
def Aj (ops:Array Oper) (ss:List Nk) (p:Nat × Nat):Prop :=
 match ss[p.1]?,ss[p.2]? with
  | some (.rd b),some (.wr b')=>b≠b'∧au (ops.getD p.1 default).op=false
  | some (.wr b),some (.rd b')=>b'≠b∧au (ops.getD p.2 default).op=false
  | some (.rd b),some (.low b')=>b≤b'∧au (ops.getD p.1 default).op=false
  | some (.low b),some (.rd b')=>b'≤b∧au (ops.getD p.2 default).op=false
  | some (.rd b),some (.kp l)=>b ∈ l∧au (ops.getD p.1 default).op=false
  | some (.kp l),some (.rd b)=>b ∈ l∧au (ops.getD p.2 default).op=false
  | some (.rd b),some (.ka l)=>some b ∈ l∧au (ops.getD p.1 default).op=false
  | some (.ka l),some (.rd b)=>some b ∈ l∧au (ops.getD p.2 default).op=false
  | some (.rn o),some (.ka l)=>o ∈ l∧au (ops.getD p.1 default).op=false
  | some (.ka l),some (.rn o)=>o ∈ l∧au (ops.getD p.2 default).op=false
  | some a,some b=>((a.IA || !(au (ops.getD p.1 default).op)) && (b.IA || !(au (ops.getD p.2 default).op)))=true
  | _,_=>False
def hI (ops:Array Oper) (ss:List Nk):List (Nat × Nat)→Prop
 | []=>True
 | p::ps=>Aj ops ss p∧hI ops ss ps
def C4 (ops:Array Oper) (ss:List Nk):List (Nat × Nat)→Bool
 | []=>true
 | p::ps=>(match ss[p.1]?,ss[p.2]? with
  | some (.rd _),some (.wr _)=>false
  | some (.wr _),some (.rd _)=>false
  | some (.rd _),some (.low _)=>false
  | some (.low _),some (.rd _)=>false
  | some (.rd _),some (.kp _)=>false
  | some (.kp _),some (.rd _)=>false
  | some (.rd _),some (.ka _)=>false
  | some (.ka _),some (.rd _)=>false
  | some (.rn _),some (.ka _)=>false
  | some (.ka _),some (.rn _)=>false
  | some a,some b=>((a.IA || !(au (ops.getD p.1 default).op)) && (b.IA || !(au (ops.getD p.2 default).op)))
  | _,_=>false) && C4 ops ss ps
theorem hI.all {ops:Array Oper} {ss:List Nk}:∀{ps:List (Nat × Nat)},C4 ops ss ps=true→hI ops ss ps
 | [],_=>trivial
 | p::ps,h=>by
  simp only[C4,Bool.and_eq_true] at h;refine⟨?_,hI.all h.2⟩;have h1:=h.1;unfold Aj
  split at h1
  ·cases h1
  ·cases h1
  ·cases h1
  ·cases h1
  ·cases h1
  ·cases h1
  ·cases h1
  ·cases h1
  ·cases h1
  ·cases h1
  ·rename_i a b ha hb hn1 hn2;exact h1
  ·cases h1
theorem hI.nil {ops:Array Oper} {ss:List Nk}:hI ops ss []:=trivial
section
variable {ops : Array Oper} {ss : List Nk} {ps : List (Nat × Nat)} {i j b b' : Nat} {l : List Nat} {o : Option Nat} {la : List (Option Nat)}
theorem hI.step (h:C4 ops ss [(i,j)]=true) (k:hI ops ss ps):hI ops ss ((i,j)::ps):=⟨(hI.all h).1,k⟩
theorem hI.rw (h1:ss[i]? = some (.rd b)) (h2:ss[j]? = some (.wr b')) (he:au (ops.getD i default).op=false) (hne:b≠b') (k:hI ops ss ps):hI ops ss ((i,j)::ps):=by
 refine⟨?_,k⟩;simp only[Aj,h1,h2]; exact⟨hne,he⟩
theorem hI.wr (h1:ss[i]? = some (.wr b')) (h2:ss[j]? = some (.rd b)) (he:au (ops.getD j default).op=false) (hne:b≠b') (k:hI ops ss ps):hI ops ss ((i,j)::ps):=by
 refine⟨?_,k⟩;simp only[Aj,h1,h2]; exact⟨hne,he⟩
theorem hI.na (h1:ss[i]? = some (.rn o)) (h2:ss[j]? = some (.ka la)) (he:au (ops.getD i default).op=false) (hm:o ∈ la) (k:hI ops ss ps):hI ops ss ((i,j)::ps):=by
 refine⟨?_,k⟩;simp only[Aj,h1,h2]; exact⟨hm,he⟩
end
theorem Ej {r e:Note} (h:e.next≤e.wl):Note.ok r e=true:=by
 unfold Note.ok
 split
 ·rfl
 ·rename_i b _
  by_cases hb:b<e.wl
  ·simp[hb]
  ·have:e.next≤b:=by omega
   simp[this]
theorem yR {r e:Note} {b b':Nat} (h1:r.read=some b) (h2:e.wrote=some b') (hne:b≠b'):Note.ok r e=true:=by
 unfold Note.ok;rw[h1,h2];simp[hne]
theorem vc {r e:Note} {b b':Nat} (h1:r.read=some b) (h2:b'<e.wl) (hne:b≤b'):Note.ok r e=true:=by
 unfold Note.ok;rw[h1];simp[show b<e.wl by omega]
theorem zl {r e:Note} {b:Nat} {l:List Nat} (h1:r.read=some b) (h2:∀b ∈ l,e.kept b=true) (hm:b ∈ l):Note.ok r e=true:=by
 unfold Note.ok;rw[h1];simp[h2 b hm]
theorem rY {r e:Note} {b:Nat} {l:List (Option Nat)} (h1:r.read=some b) (h2:∀b,some b ∈ l→e.kept b=true) (hm:some b ∈ l):Note.ok r e=true:=by
 unfold Note.ok;rw[h1];simp[h2 b hm]
theorem yA {r e:Note} {o:Option Nat} {l:List (Option Nat)} (h1:r.read=o) (h2:∀b,some b ∈ l→e.kept b=true) (hm:o ∈ l):Note.ok r e=true:=by
 cases o with
 | none=>unfold Note.ok; rw[h1]
 | some b=>exact rY h1 h2 hm
theorem Nk.ok {a b:Nk} {x y:Note} (_:a.of x) (hy:b.of y) (h:b.IA=true):Note.ok x y=true:=by
 cases b with
 | call=>exact Ej hy
 | _=>cases h
theorem uA {ops:Array Oper} {ss:List Nk} {ns:List Note} (h:NR ss ns):∀{prs:List (Nat × Nat)},hI ops ss prs→prs.all (cG ns ops)=true
 | [],_=>rfl
 | p::prs,hk=>by
  rw[List.all_cons,uA h hk.2,Bool.and_true];have h1:=hk.1;unfold Aj at h1
  split at h1
  ·rename_i b b' ha hb;obtain⟨x,hx1,hx2⟩:=h.at ha;obtain⟨y,hy1,hy2⟩:=h.at hb;simp only[cG,hx1,hy1,yR hx2 hy2 h1.1,h1.2,Bool.or_true,Bool.not_false,Bool.true_or,Bool.and_self]
  ·rename_i b b' ha hb;obtain⟨x,hx1,hx2⟩:=h.at ha;obtain⟨y,hy1,hy2⟩:=h.at hb;simp only[cG,hx1,hy1,yR hy2 hx2 h1.1,h1.2,Bool.or_true,Bool.not_false,Bool.true_or,Bool.and_self]
  ·rename_i b b' ha hb;obtain⟨x,hx1,hx2⟩:=h.at ha;obtain⟨y,hy1,hy2⟩:=h.at hb;simp only[cG,hx1,hy1,vc hx2 hy2 h1.1,h1.2,Bool.or_true,Bool.not_false,Bool.true_or,Bool.and_self]
  ·rename_i b b' ha hb;obtain⟨x,hx1,hx2⟩:=h.at ha;obtain⟨y,hy1,hy2⟩:=h.at hb;simp only[cG,hx1,hy1,vc hy2 hx2 h1.1,h1.2,Bool.or_true,Bool.not_false,Bool.true_or,Bool.and_self]
  ·rename_i b b' ha hb;obtain⟨x,hx1,hx2⟩:=h.at ha;obtain⟨y,hy1,hy2⟩:=h.at hb;simp only[cG,hx1,hy1,zl hx2 hy2 h1.1,h1.2,Bool.or_true,Bool.not_false,Bool.true_or,Bool.and_self]
  ·rename_i b b' ha hb;obtain⟨x,hx1,hx2⟩:=h.at ha;obtain⟨y,hy1,hy2⟩:=h.at hb;simp only[cG,hx1,hy1,zl hy2 hx2 h1.1,h1.2,Bool.or_true,Bool.not_false,Bool.true_or,Bool.and_self]
  ·rename_i b l ha hb;obtain⟨x,hx1,hx2⟩:=h.at ha;obtain⟨y,hy1,hy2⟩:=h.at hb;simp only[cG,hx1,hy1,rY hx2 hy2 h1.1,h1.2,Bool.or_true,Bool.not_false,Bool.true_or,Bool.and_self]
  ·rename_i b l ha hb;obtain⟨x,hx1,hx2⟩:=h.at ha;obtain⟨y,hy1,hy2⟩:=h.at hb;simp only[cG,hx1,hy1,rY hy2 hx2 h1.1,h1.2,Bool.or_true,Bool.not_false,Bool.true_or,Bool.and_self]
  ·rename_i b l ha hb;obtain⟨x,hx1,hx2⟩:=h.at ha;obtain⟨y,hy1,hy2⟩:=h.at hb;simp only[cG,hx1,hy1,yA hx2 hy2 h1.1,h1.2,Bool.or_true,Bool.not_false,Bool.true_or,Bool.and_self]
  ·rename_i b l ha hb;obtain⟨x,hx1,hx2⟩:=h.at ha;obtain⟨y,hy1,hy2⟩:=h.at hb;simp only[cG,hx1,hy1,yA hy2 hx2 h1.1,h1.2,Bool.or_true,Bool.not_false,Bool.true_or,Bool.and_self]
  ·rename_i a b _ _ _ _ _ _ _ _ _ _ ha hb;obtain⟨x,hx1,hx2⟩:=h.at ha;obtain⟨y,hy1,hy2⟩:=h.at hb;simp only[Bool.and_eq_true,Bool.or_eq_true,Bool.not_eq_true'] at h1;simp only[cG,hx1,hy1,Bool.and_eq_true,Bool.or_eq_true,Bool.not_eq_true'];refine⟨?_,?_⟩
   ·rcases h1.2 with h2|h2
    ·exact .inr (Nk.ok hx2 hy2 h2)
    ·exact .inl h2
   ·rcases h1.1 with h2|h2
    ·exact .inr (Nk.ok hy2 hx2 h2)
    ·exact .inl h2
  ·exact h1.elim
theorem NR.rev:∀{bs:List Nk} {ns:List Note},NR bs ns→NR bs.reverse ns.reverse
 | [],[],_=>trivial
 | b::bs,x::xs,h=>by
  rw[List.reverse_cons,List.reverse_cons];exact(NR.rev h.2.2).snoc h.1 h.2.1
 | [],_::_,h=>h.elim
 | _::_,[],h=>h.elim
variable {ss : List Nk}
def Wn (E:Env) (n:Nat) (ops:Array Oper) (prs:List (Nat × Nat)) (K:Tm→AMem→Prop) (os:List Oper) (ss:List Nk) (m0:AMem) (fs:Fs) (ps:List Pc):Prop :=
 ∀t m ns,Fr t fs→Hp m0 m ps→NR ss ns→c9 E n ops (fun t m ns=>(prs.all (cG ns ops) && ns.all cy)=true∧K t m) os t m ns
theorem Wn.nil {Q:AExit→Tm→AMem→Prop} (hk:∀m,Hp m0 m ps→hI ops ss.reverse prs) (h:At Q .normal m0 fs ps):Wn E n ops prs (Q .normal) [] ss m0 fs ps:=fun t m ns hf hm hn=>by
 refine⟨?_,h t m hf hm⟩;rw[uA hn.rev (hk m hm),hn.rev.all]; rfl
theorem Wn.xg {α:Type} {V:α→Value} {N:α→List Pc} {c:Nk} (h:∀t m,Fr t fs→Hp m0 m ps→m.wl=m.next→(∀b,aL E t o=some b→b<m.next)∧∀K:Value→AMem→Prop,(∀x m',Hp m0 m' (N x)→c.of { read:=aL E t o,wl:=m'.wl,next:=m.next,wrote:=de E t o,kept:=fD m m'}→K (V x) m')→bm E t m o K)
  (hg:vl ops fs g true) (dst:Option Nat) (hd:∀d,dst=some d→Nat.blt d n=true) (k:∀x,Wn E n ops prs K os (c::ss) m0 (match dst with|some d=>(d,V x)::fs|none=>fs) (N x)):Wn E n ops prs K (⟨dst,o,ty,p,af,g⟩::os) ss m0 fs ps:=by
 intro t m ns hf hm hn;simp only[c9,hg t _ _ _ _ _ hf,if_true];have hx:=hm.ext.next
 have hm':Hp m0 (m.ww m.next) ps:=hm.ww (by omega)
 have hwl:(m.ww m.next).wl=(m.ww m.next).next:=by rw[AMem.wl_ww,AMem.next_ww]
 have e0:({ next:=m.next,wl:=m.next,objs:=m.objs,base:=m.base}:AMem)=m.ww m.next:=by unfold AMem.ww; rfl
 rw[e0];obtain⟨h1,h2⟩:=h t _ hf hm' hwl;rw[AMem.next_ww] at h1;refine bm.A (h2 _ fun x m' hm'' hc=>?_);rw[AMem.next_ww] at hc;have hw:=hm''.ext.wl;have e1:({ next:=m'.next,wl:=min m.wl m'.wl,objs:=m'.objs,base:=m'.base}:AMem)=m'.ww (min m.wl m'.wl):=by unfold AMem.ww; rfl
 have hw0:=hm.ext.wl;have hfin:Hp m0 (m'.ww (min m.wl m'.wl)) (N x):=hm''.ww (by omega)
 have hkp:fD (m.ww m.next) m'=fD m m':=by
  funext b
  unfold fD;rw[AMem.get_ww]
 rw[hkp] at hc;have hnr:NR (c::ss) ({ read:=aL E t o,wl:=m'.wl,next:=m.next,wrote:=de E t o,kept:=fD m m'}::ns):=⟨qZ h1,hc,hn⟩
 cases dst with
 | none=>exact⟨t,rfl,by rw[e1]; exact k x t _ _ hf hfin hnr⟩
 | some d =>
  have hd':d<n:=by have:=hd d rfl; rwa[Nat.blt_eq] at this
  exact⟨t.set d (V x),by rw[fO,if_pos hd'],by rw[e1]; exact k x _ _ _ hf.set hfin hnr⟩
theorem Wn.x {α:Type} {V:α→Value} {N:α→List Pc} (h:Ox E m0 fs ps o V N) (hg:vl ops fs g true) (hd:Nat.blt d n=true) (k:∀x,Wn E n ops prs K os (.any::ss) m0 ((d,V x)::fs) (N x)):Wn E n ops prs K (⟨some d,o,ty,p,af,g⟩::os) ss m0 fs ps :=
 Wn.xg (c:=.any) (fun t m hf hm _=>⟨(h t m hf hm).1,fun K hK=>(h t m hf hm).2 K fun x m' h1=>hK x m' h1 trivial⟩) hg (some d) (fun d' e=>by cases e; exact hd) k
theorem Wn.x0 {α:Type} {V:α→Value} {N:α→List Pc} (h:Ox E m0 fs ps o V N) (hg:vl ops fs g true) (k:∀x,Wn E n ops prs K os (.any::ss) m0 fs (N x)):Wn E n ops prs K (⟨none,o,ty,p,af,g⟩::os) ss m0 fs ps :=
 Wn.xg (c:=.any) (fun t m hf hm _=>⟨(h t m hf hm).1,fun K hK=>(h t m hf hm).2 K fun x m' h1=>hK x m' h1 trivial⟩) hg none (fun d' e=>by cases e) k
def wh:Value→Bool
 | .int _ _ | .bool _ | .slice _ _ _ | .map _ | .pointer _=>true
 | _=>false
def ID:Value→Bool
 | .func (.func _) a c=>a.toList.all wh && c.toList.all wh
 | v=>wh v
def DB {α:Type} (ps:List Pc) (N:α→List Pc):List Nat→Prop
 | []=>True
 | b::l=>(∃cs k,pk ps k=some (.obj b (.cells cs .own))∧cs.all ID=true∧∀x,∃k',pk (N x) k'=some (.obj b (.cells cs .own)))∧DB ps N l
theorem BN {m m':AMem} {b:Nat} (h:m.get b=m'.get b):fD m m' b=true:=by
 unfold fD;rw[Bool.or_eq_true];exact .inr (@decide_eq_true _ (Classical.propDecidable _) h)
theorem DB.kept {α:Type} {N:α→List Pc} {m m':AMem} {x:α} (hm:Hp m0 m ps) (hm':Hp m0 m' (N x)):∀{l:List Nat},DB ps N l→∀b ∈ l,fD m m' b=true
 | [],_,b,hb=>by cases hb
 | c::l,h,b,hb=>by
  rcases List.mem_cons.1 hb with rfl|hb
  ·obtain⟨cs,k,h1,h2,h3⟩:=h.1;obtain⟨k',h4⟩:=h3 x;exact BN (by rw[(hm.get h1).2.2,(hm'.get h4).2.2])
  ·exact DB.kept hm hm' h.2 b hb
def Ex (ps:List Pc) (a:Option Addr):List (Option Nat)→Prop
 | []=>True
 | o::l=>(∃k j p q,pk ps k=some p∧pk ps j=some q∧p.own=true∧(Az a=p.mn∨a=none)∧q.mn=o∧k≠j)∧Ex ps a l
theorem Hp.ne {m:AMem} {i j b b':Nat} {x y:Pc} (h:Hp m0 m ps) (hx:pk ps i=some x) (hy:pk ps j=some y) (hb:x.mn=some b) (hb':y.mn=some b') (hne:i≠j) (ho:x.own=true):b≠b':=fun e=>(ml h.apart hx hy hne).1 b (Pc.IF ho hb) (.inl (by rw[e]; exact hb'))
theorem Ex.ne {a:Option Addr} {m:AMem} (hm:Hp m0 m ps):∀{l:List (Option Nat)},Ex ps a l→∀b,some b ∈ l→b<m.next∧Az a≠some b
 | [],_,b,hb=>by cases hb
 | o::l,h,b,hb=>by
  rcases List.mem_cons.1 hb with rfl|hb
  ·obtain⟨k,j,p,q,h1,h2,h3,h4,h5,h6⟩:=h.1;refine⟨Pc.BM (hm.get h2) h5,fun e=>?_⟩;rcases h4 with h4|rfl
   ·exact hm.ne (i:=k) (j:=j) h1 h2 (h4 ▸ e) h5 h6 h3 rfl
   ·cases e
  ·exact Ex.ne hm h.2 b hb
def Oc (E:Env) (m0:AMem) (fs:Fs) (ps:List Pc) (o:Op) {α:Type} (V:α→Value) (N:α→List Pc):Prop :=
 ∀t m,Fr t fs→Hp m0 m ps→m.wl=m.next→(∀b,aL E t o=some b→b<m.next)∧∀K:Value→AMem→Prop,(∀x m',Hp m0 m' (N x)→m.next≤m'.wl→K (V x) m')→bm E t m o K
theorem fJ {α:Type} {V:α→Value} {N:α→List Pc} {f:Operand} {g:FuncId} {ars:Array Operand} {ts:Array TypeId} {args:List Value} (hf:ev E fs f=some (.func (.func g) #[] #[])) (ha:kW E fs ars.toList=some args) (hc:∀m,Hp m0 m ps→aR E g args m (fun v m'=>∃x,v=V x∧Hp m m' (N x))) (ho:∀x,sK (N x)=true):Oc E m0 fs ps (.call ⟨.value f,ars,ts⟩) V (fun x=>N x++ps) :=
 fun t m hfr hm hwl=>⟨fun b hb=>(by simp[aL] at hb),fun K hK=>by
  show jn E (al E t f) (aU E t ars.toList) m _
  rw[hfr.ev hf,hfr.kW ha,wz];refine(hc m hm).mono fun v m' ⟨x,e,h⟩=>?_;rw[e];refine hK x m' (hm.after h fun p hp=>List.all_eq_true.1 (ho x) p hp) ?_;have:=h.ext.wl;omega⟩
theorem Wn.c {α:Type} {V:α→Value} {N:α→List Pc} (h:Oc E m0 fs ps o V N) (hg:vl ops fs g true) (hd:Nat.blt d n=true) (k:∀x,Wn E n ops prs K os (.call::ss) m0 ((d,V x)::fs) (N x)):Wn E n ops prs K (⟨some d,o,ty,p,af,g⟩::os) ss m0 fs ps :=
 Wn.xg (c:=.call) (fun t m hf hm hw=>⟨(h t m hf hm hw).1,fun K hK=>(h t m hf hm hw).2 K fun x m' h1 h2=>hK x m' h1 h2⟩) hg (some d) (fun d' e=>by cases e; exact hd) k
theorem Wn.od (h:Od E m0 fs ps o v ps') (hd:Nat.blt d n=true) (k:Wn E n ops prs K os (.any::ss) m0 ((d,v)::fs) ps'):Wn E n ops prs K (⟨some d,o,ty,p,af,none⟩::os) ss m0 fs ps:=Wn.x h.x gn hd fun _=>k
theorem Wn.o0 (h:Od E m0 fs ps o v ps') (k:Wn E n ops prs K os (.any::ss) m0 fs ps'):Wn E n ops prs K (⟨none,o,ty,p,af,none⟩::os) ss m0 fs ps:=Wn.x0 h.x gn fun _=>k
theorem Wn.og (h:Od E m0 fs ps o v ps') (hg:vl ops fs g true) (hd:Nat.blt d n=true) (k:Wn E n ops prs K os (.any::ss) m0 ((d,v)::fs) ps'):Wn E n ops prs K (⟨some d,o,ty,p,af,g⟩::os) ss m0 fs ps:=Wn.x h.x hg hd fun _=>k
theorem Wn.JF {x:Operand} {b off:Nat} {ty':TypeId} (hx:ev E fs x=some (ptr b off)) (h:Od E m0 fs ps (.load ty' x) v ps') (hg:vl ops fs g true) (hd:Nat.blt d n=true) (k:Wn E n ops prs K os (.rd b::ss) m0 ((d,v)::fs) ps'):Wn E n ops prs K (⟨some d,.load ty' x,ty,p,af,g⟩::os) ss m0 fs ps :=
 Wn.xg (V:=fun _:Unit=>v) (N:=fun _=>ps') (c:=.rd b) (fun t m hf hm _=>⟨(h t m hf hm).1,fun K hK=>(h t m hf hm).2 K fun m' h1=>hK () m' h1 (by show aL E t (.load ty' x)=some b; simp only[aL,hf.ev hx]; rfl)⟩) hg (some d) (fun d' e=>by cases e; exact hd) fun _=>k
theorem Wn.He {x:Operand} {b off:Nat} {ty':TypeId} (hx:ev E fs x=some (ptr b off)) (h:Od E m0 fs ps (.load ty' x) v ps') (hd:Nat.blt d n=true) (k:Wn E n ops prs K os (.rd b::ss) m0 ((d,v)::fs) ps'):Wn E n ops prs K (⟨some d,.load ty' x,ty,p,af,none⟩::os) ss m0 fs ps:=Wn.JF hx h gn hd k
theorem Wn.I6 {x y:Operand} {b off:Nat} {ty':TypeId} (hx:ev E fs x=some (ptr b off)) (h:Od E m0 fs ps (.store ty' x y) v ps') (hg:vl ops fs g true) (k:Wn E n ops prs K os (.wr b::ss) m0 fs ps'):Wn E n ops prs K (⟨none,.store ty' x y,ty,p,af,g⟩::os) ss m0 fs ps :=
 Wn.xg (V:=fun _:Unit=>v) (N:=fun _=>ps') (c:=.wr b) (fun t m hf hm _=>⟨(h t m hf hm).1,fun K hK=>(h t m hf hm).2 K fun m' h1=>hK () m' h1 (by show de E t (.store ty' x y)=some b; simp only[de,hf.ev hx]; rfl)⟩) hg none (fun d' e=>by cases e) fun _=>k
theorem Wn.Hg {x y:Operand} {b off:Nat} {ty':TypeId} (hx:ev E fs x=some (ptr b off)) (h:Od E m0 fs ps (.store ty' x y) v ps') (k:Wn E n ops prs K os (.wr b::ss) m0 fs ps'):Wn E n ops prs K (⟨none,.store ty' x y,ty,p,af,none⟩::os) ss m0 fs ps:=Wn.I6 hx h gn k
theorem Wn.s (hg:vl ops fs g false) (hd:Nat.blt d n=true) (k:Wn E n ops prs K os (.call::ss) m0 ((d,undef)::fs) ps):Wn E n ops prs K (⟨some d,o,ty,p,af,g⟩::os) ss m0 fs ps:=by
 have hd':d<n:=by rwa[Nat.blt_eq] at hd
 intro t m ns hf hm hn;simp only[c9,hg t _ _ _ _ _ hf,Bool.false_eq_true,if_false];exact⟨t.set d undef,by rw[fO,if_pos hd'],k _ _ _ hf.set hm ⟨rfl,Nat.le_refl _,hn⟩⟩
theorem Wn.qk (h:aa m0 ps ps') (k:Wn E n ops prs K os ss m0 fs ps'):Wn E n ops prs K os ss m0 fs ps:=fun t m ns hf hm hn=>k t m ns hf (h m hm) hn
theorem Wn.open {k w l:Nat} {a:Option Addr} {es:List (List Value)} (hp:pk ps k=some (.sl a w l es)) (hl:0<l) (h:∀b tg,a=some ⟨b,0,none⟩→yf tg=true→Wn E n ops prs K os ss m0 fs (dv ps k (.arr b w l es tg))):Wn E n ops prs K os ss m0 fs ps:=by
 intro t m ns hf hm hn;rcases hm.get hp with⟨h1,_⟩|⟨b,tg,rfl,h1⟩
 ·omega
 ·exact h b tg rfl (by rcases h1.2.2.2.2.2.1 with rfl|rfl<;>rfl) t m ns hf (hm.put hp rfl rfl rfl (Nat.le_refl _) hm.ext h1 fun _ _ _=>rfl) hn
theorem Wn.fF {k w l cap:Nat} {a:Option Addr} {es:List (List Value)} (hp:pk ps k=some (.rd a cap w l es)) (hl:0<l) (h:∀b o,a=some ⟨b,o,none⟩→Wn E n ops prs K os ss m0 fs (.ro b o w l es::ps)):Wn E n ops prs K os ss m0 fs ps:=by
 intro t m ns hf hm hn;obtain⟨h1,h2,h3⟩:=hm.get hp;rcases h3 with⟨_,h3⟩|⟨_,_,_,h3,_⟩|⟨b,o,rfl,h3⟩
 ·omega
 ·omega
 ·exact h b o rfl t m ns hf (hm.more hp rfl ⟨h1,h3⟩ rfl fun b' hb=>hb) hn
theorem Wn.len {α:Type} {f:α→List Value} {k w l:Nat} {a:Option Addr} {xs:List α} (hp:pk ps k=some (.sl a w l (xs.map f))) (h:l=xs.length→Wn E n ops prs K os ss m0 fs ps):Wn E n ops prs K os ss m0 fs ps:=fun t m ns hf hm hn=>by
 refine h ?_ t m ns hf hm hn;rcases hm.get hp with⟨h0,h1,_⟩|⟨b,tg,_,h1⟩
 ·rw[h0,List.map_eq_nil_iff.1 h1]; rfl
 ·have:=h1.2.2.2.1; rw[List.length_map] at this; exact this.symm
theorem Wk.gP {fn:FuncId} {ro:Option Nat} {Q:AExit→Tm→AMem→Prop} {id:Nat} (hp:cD ops=some prs) (h:Wn E n ops prs (Q .normal) ops.toList [] m0 fs ps):Wk E n fn ro (.region id ops true) Q m0 fs ps:=fun t m hf hm=>.draw hp (h t m [] hf hm trivial)
end
section
variable {E : Env} {n : Nat} {fn : FuncId} {m0 : AMem} {fs : Fs} {ps : List Pc} {Q : AExit → Tm → AMem → Prop}
def iN (fn:FuncId) (t:Tm) (n:Nat) (params:Array Tmp) (assign body:Code) (s:LoopState) (p:Option Code):AObj:=.loop { state:=s,pending:=p,fn:=fn,tmps:=t,n:=n,params:=params,assign:=assign,body:=body}
structure Rn where
 st:LoopState
 pe:Option Code
 ps:List Pc
theorem Wk.B9 {ro:Option Nat} {f:Operand} {params:Array Tmp} {assign body:Code} {g:FuncId} {first cap:Array Value} {F:Func} {c:Code} {rs:List ResultVar} {N:Nat} {γ:Type} {X:γ→Rn}
  (hf:ev E fs f=some (.func (.func g) first cap)) (hp:E.cb g=none) (hfn:E.P.funcs[g]? = some F) (hb:F.body=some c) (hrs:F.results.toList=rs) (hN:max (first.toList.length+1+cap.toList.length) F.ntmps=N)
  (hro:∀m,Hp m0 m ps→match ro with|none=>True|some l=>∃r,m.get l=some (.loop r))
  (h:∀t l rc,Fr t fs→rc=iN fn t n params assign body→Wk E N g none c (po E rs (fun _ m'=>∃y,Hp m0 m' (.obj l (rc (X y).st (X y).pe)::(X y).ps))) m0 (qF (first.toList++[.func (.yield l) #[] #[]]++cap.toList) 0 []) (.obj l (rc .ready none)::ps))
  (hst:∀y,(X y).st≠.busy) (k:∀y,(match (X y).pe with|none=>At Q .normal m0 fs (X y).ps|some c=>Wk E n fn ro c Q m0 fs (X y).ps)):Wk E n fn ro (.rangeFunc f params assign body) Q m0 fs ps:=by
 intro t m hfr hm;have hl:Hp m0 (m.alloc (iN fn t n params assign body .ready none)) (.obj m.next (iN fn t n params assign body .ready none)::ps) :=
  hm.cons (by rw[AMem.next_alloc]; omega) (hm.ext.alloc _) (fun b hb=>by rw[AMem.bg,if_neg (by omega)]) ⟨hm.ext.next,by rw[AMem.next_alloc]; omega,by rw[AMem.bg,if_pos rfl]⟩ fun b hb=>by cases hb; exact Nat.le_refl _
 have hlen:(first.toList++[Value.func (.yield m.next) #[] #[]]++cap.toList).length=first.toList.length+1+cap.toList.length:=by simp; omega
 obtain⟨v,m2,⟨k1,hk1⟩,y,h2⟩:=aP (N:=N) hp hfn hb hrs (by rw[hlen]; exact hN) hl (h t m.next _ hfr rfl)
 have hg0:=h2.get (k:=0) rfl;have hg:m2.get m.next=some (iN fn t n params assign body (X y).st (X y).pe):=hg0.2.2
 have hlo:m0.next≤m.next:=hm.ext.next
 have h3:Hp m0 (m2.set m.next (iN fn t n params assign body .exhausted (X y).pe)) (X y).ps:=by
  have:=h2.write (k:=0) (o':=iN fn t n params assign body .exhausted (X y).pe) (p':=.obj m.next (iN fn t n params assign body .exhausted (X y).pe)) rfl rfl rfl rfl rfl ⟨hlo,by rw[AMem.next_set]; exact hg0.2.1,by rw[AMem.bz,if_pos rfl]⟩
  refine⟨this.ext,fun p hp=>this.ok p (by simp[dv,hp]),?_⟩
  have hpw:=this.apart;rw[fR,List.pairwise_cons] at hpw;exact hpw.2
 have hev:al E t f=some (.func (.func g) first cap):=by
  cases f with
  | tmp i=>exact hfr.ev hf
  | const c=>exact hfr.ev hf
  | global g=>exact hfr.ev hf
  | func g=>exact hfr.ev hf
 have hao:ef E ⟨t,n,fn,ro⟩ m f=true:=by
  have:=hro m hm;cases ro with
  | none=>simp only[ef,hev,hp]; rfl
  | some l0 =>
   obtain⟨r0,hr0⟩:=this;simp only[ef,hev,hp,hr0]; rfl
 have hk:=k y;cases hpe:(X y).pe with
 | none =>
  rw[hpe] at hk hg h3;refine⟨.normal,t,_,aK (k:=k1) ?_,hk t _ hfr h3⟩;have hst':=hst y;simp only[step,hev,hao];have hk1':run E k1 (.call g (first.toList++[Value.func (.yield m.next) #[] #[]]++cap.toList) (m.alloc (.loop { state:=.ready,pending:=none,fn:=fn,tmps:=t,n:=n,params:=params,assign:=assign,body:=body})))=some (.val v m2):=hk1
  rw[hk1'];have hg':m2.get m.next=some (.loop { state:=(X y).st,pending:=none,fn:=fn,tmps:=t,n:=n,params:=params,assign:=assign,body:=body}):=hg
  simp only[hg'];cases hs:(X y).st with
  | busy=>exact absurd hs hst'
  | _=>rfl
 | some c' =>
  rw[hpe] at hk hg h3;obtain⟨e2,t2,m3,⟨k2,hk2⟩,q⟩:=hk t _ hfr h3;refine⟨e2,t2,m3,aK (k:=max k1 k2) ?_,q⟩;have hst':=hst y;simp only[step,hev,hao];have hk1':run E (max k1 k2) (.call g (first.toList++[Value.func (.yield m.next) #[] #[]]++cap.toList) (m.alloc (.loop { state:=.ready,pending:=none,fn:=fn,tmps:=t,n:=n,params:=params,assign:=assign,body:=body})))=some (.val v m2):=eK (Nat.le_max_left k1 k2) hk1
  rw[hk1'];have hg':m2.get m.next=some (.loop { state:=(X y).st,pending:=some c',fn:=fn,tmps:=t,n:=n,params:=params,assign:=assign,body:=body}):=hg
  simp only[hg'];have hk2':run E (max k1 k2) (.code c' ⟨t,n,fn,ro⟩ (m2.set m.next (.loop { state:=.exhausted,pending:=some c',fn:=fn,tmps:=t,n:=n,params:=params,assign:=assign,body:=body})))=some (.code e2 t2 m3):=eK (Nat.le_max_right k1 k2) hk2
  cases hs:(X y).st with
  | busy=>exact absurd hs hst'
  | _=>simp only[hk2']
theorem Wk.range {f:Operand} {params:Array Tmp} {assign body:Code} {g:FuncId} {first cap:Array Value} {F:Func} {c:Code} {rs:List ResultVar} {N:Nat} {γ:Type} {X:γ→Rn}
  (hf:ev E fs f=some (.func (.func g) first cap)) (hp:E.cb g=none) (hfn:E.P.funcs[g]? = some F) (hb:F.body=some c) (hrs:F.results.toList=rs) (hN:max (first.toList.length+1+cap.toList.length) F.ntmps=N)
  (h:∀t l rc,Fr t fs→rc=iN fn t n params assign body→Wk E N g none c (po E rs (fun _ m'=>∃y,Hp m0 m' (.obj l (rc (X y).st (X y).pe)::(X y).ps))) m0 (qF (first.toList++[.func (.yield l) #[] #[]]++cap.toList) 0 []) (.obj l (rc .ready none)::ps))
  (hst:∀y,(X y).st≠.busy) (k:∀y,(match (X y).pe with|none=>At Q .normal m0 fs (X y).ps|some c=>Wk E n fn none c Q m0 fs (X y).ps)):Wk E n fn none (.rangeFunc f params assign body) Q m0 fs ps :=
 Wk.B9 hf hp hfn hb hrs hN (fun _ _=>trivial) h hst k
theorem Wk.Fv {l0 k0 f0 n0:Nat} {t0:Tm} {params0:Array Tmp} {assign0 body0:Code} {r0:LoopState→Option Code→AObj} {s0:LoopState} {p0:Option Code} {f:Operand} {params:Array Tmp} {assign body:Code} {g:FuncId} {first cap:Array Value} {F:Func} {c:Code} {rs:List ResultVar} {N:Nat} {γ:Type} {X:γ→Rn}
  (hf:ev E fs f=some (.func (.func g) first cap)) (hp:E.cb g=none) (hfn:E.P.funcs[g]? = some F) (hb:F.body=some c) (hrs:F.results.toList=rs) (hN:max (first.toList.length+1+cap.toList.length) F.ntmps=N)
  (h0:r0=iN f0 t0 n0 params0 assign0 body0) (h1:pk ps k0=some (.obj l0 (r0 s0 p0)))
  (h:∀t l rc,Fr t fs→rc=iN fn t n params assign body→Wk E N g none c (po E rs (fun _ m'=>∃y,Hp m0 m' (.obj l (rc (X y).st (X y).pe)::(X y).ps))) m0 (qF (first.toList++[.func (.yield l) #[] #[]]++cap.toList) 0 []) (.obj l (rc .ready none)::ps))
  (hst:∀y,(X y).st≠.busy) (k:∀y,(match (X y).pe with|none=>At Q .normal m0 fs (X y).ps|some c=>Wk E n fn (some l0) c Q m0 fs (X y).ps)):Wk E n fn (some l0) (.rangeFunc f params assign body) Q m0 fs ps :=
 Wk.B9 hf hp hfn hb hrs hN (fun m hm=>by subst h0; exact⟨_,(hm.get h1).2.2⟩) h hst k
def Bv:List Tmp→List Value→Fs→Fs
 | p::ps,v::vs,fs=>Bv ps vs ((p,v)::fs)
 | _,_,fs=>fs
def xW (n:Nat):List Tmp→List Value→Bool
 | p::ps,_::vs=>Nat.blt p n && xW n ps vs
 | [],[]=>true
 | _,_=>false
theorem zm {n:Nat}:∀{ps:List Tmp} {vs:List Value} {t:Tm} {fs:Fs},xW n ps vs=true→Fr t fs→∃t',dg n t ps vs=some t'∧Fr t' (Bv ps vs fs)∧ps.length=vs.length
 | p::ps,v::vs,t,fs,h,hf=>by
  simp only[xW,Bool.and_eq_true] at h;obtain⟨t',h1,h2,h3⟩:=zm (ps:=ps) (vs:=vs) (t:=t.set p v) (fs:=(p,v)::fs) h.2 hf.set;exact⟨t',by simp only[dg,h.1]; exact h1,h2,by simp[h3]⟩
 | [],[],t,fs,_,hf=>⟨t,rfl,hf,rfl⟩
 | [],_::_,_,_,h,_=>by cases h
 | _::_,[],_,_,h,_=>by cases h
theorem Ax {f:Operand} {l:Nat} {first cap:Array Value} {ars:Array Operand} {ts:Array TypeId} {args:List Value} {k k1 fn' n':Nat} {rc:LoopState→Option Code→AObj} {t0:Tm} {params:Array Tmp} {assign body:Code} {f0:Fs} {γA γ:Type} {GA:γA→En} {G:γ→En}
  (hf:ev E fs f=some (.func (.yield l) first cap)) (ha:kW E fs ars.toList=some args) (hp:pk ps k=some (.obj l (rc .ready none))) (hrc:rc=iN fn' t0 n' params assign body) (h3:Fr t0 f0) (hpar:xW n' params.toList (first.toList++args)=true)
  (hA:Wk E n' fn' (some l) assign (pS m0 GA) m0 (Bv params.toList (first.toList++args) f0) ps) (hAe:∀y,(GA y).e = .normal) (h0:∀y,pk (GA y).ps k1=some (.obj l (rc .ready none)))
  (hB:∀y,Wk E n' fn' (some l) body (pS m0 G) m0 (GA y).fs (dv (GA y).ps k1 (.obj l (rc .busy none)))) (hG:∀y,pk (G y).ps 0=some (.obj l (rc .busy none))) :
  Ox E m0 fs ps (.call ⟨.value f,ars,ts⟩) (fun y:γ=>.bool (er (G y).e).isNone) (fun y=>dv (G y).ps 0 (.obj l (rc (if (er (G y).e).isNone then .ready else .done) (er (G y).e)))):=by
 subst hrc;intro t m hfr hm;refine⟨fun b hb=>(by simp[aL] at hb),fun K hK=>?_⟩
 have hev:al E t f=some (.func (.yield l) first cap):=by
  cases f with
  | tmp i=>exact hfr.ev hf
  | const c=>exact hfr.ev hf
  | global g=>exact hfr.ev hf
  | func g=>exact hfr.ev hf
 show jn E (al E t f) (aU E t ars.toList) m K
 rw[hev,hfr.kW ha]
 show oG E l (first.toList++args) m K
 obtain⟨t2,hset,h4,hlen⟩:=zm (t:=t0) hpar h3;obtain⟨e1,t1,m1,⟨ka,hka⟩,ya,h2,h5,h3'⟩:=hA t2 m h4 hm;rw[hAe] at h2;subst h2;have h6:m.get l=some (iN fn' t0 n' params assign body .ready none):=(hm.get hp).2.2;have h7:m1.get l=some (iN fn' t0 n' params assign body .ready none):=(h3'.get (h0 ya)).2.2;have hbusy:Hp m0 (m1.set l (iN fn' t0 n' params assign body .busy none)) (dv (GA ya).ps k1 (.obj l (iN fn' t0 n' params assign body .busy none))) :=
  h3'.write (h0 ya) rfl rfl rfl rfl ⟨(h3'.get (h0 ya)).1,by rw[AMem.next_set]; exact(h3'.get (h0 ya)).2.1,by rw[AMem.bz,if_pos rfl]⟩
 obtain⟨e0,t3,m2,⟨kb,hkb⟩,y,h8,h10,h1⟩:=hB ya t1 _ h5 hbusy;have h9:m2.get l=some (iN fn' t0 n' params assign body .busy none):=(h1.get (hG y)).2.2;have hfin:Hp m0 (m2.set l (iN fn' t0 n' params assign body (if (er e0).isNone then .ready else .done) (er e0))) (dv (G y).ps 0 (.obj l (iN fn' t0 n' params assign body (if (er e0).isNone then .ready else .done) (er e0)))) :=
  h1.write (hG y) rfl rfl rfl rfl ⟨(h1.get (hG y)).1,by rw[AMem.next_set]; exact(h1.get (hG y)).2.1,by rw[AMem.bz,if_pos rfl]⟩
 refine⟨.bool (er e0).isNone,m2.set l (iN fn' t0 n' params assign body (if (er e0).isNone then .ready else .done) (er e0)),aK (k:=max ka kb) ?_,?_⟩
 ·have hka':run E (max ka kb) (.code assign ⟨t2,n',fn',some l⟩ m)=some (.code .normal t1 m1):=eK (Nat.le_max_left ka kb) hka;have hkb':run E (max ka kb) (.code body ⟨t1,n',fn',some l⟩ (m1.set l (.loop { state:=.busy,pending:=none,fn:=fn',tmps:=t0,n:=n',params:=params,assign:=assign,body:=body})))=some (.code e0 t3 m2):=eK (Nat.le_max_right ka kb) hkb;have hg0':m.get l=some (.loop { state:=.ready,pending:=none,fn:=fn',tmps:=t0,n:=n',params:=params,assign:=assign,body:=body}):=h6;have hg1':m1.get l=some (.loop { state:=.ready,pending:=none,fn:=fn',tmps:=t0,n:=n',params:=params,assign:=assign,body:=body}):=h7;have hg2':m2.get l=some (.loop { state:=.busy,pending:=none,fn:=fn',tmps:=t0,n:=n',params:=params,assign:=assign,body:=body}):=h9;have hsz:¬((first.toList++args).length≠params.size):=by rw[←hlen]; simp
  simp only[step,hg0',if_neg hsz,hset,hka',hg1',hkb',hg2']
  rfl
 ·subst h8;exact hK y _ hfin
end
section
variable {E : Env} {n : Nat} {m0 m1 m m' : AMem} {fs : Fs} {ps : List Pc} {ops : Array Oper} {os : List Oper} {K : Tm → AMem → Prop} {x y : Operand} {ty : TypeId}
theorem Rd.ext {m m':AMem} {a:Option Addr} {cap w n:Nat} {es:List (List Value)} (h:Rd m a cap w n es) (e:Ext m m'):Rd m' a cap w n es:=h.fx e.next fun b _ hb=>e.same b hb
theorem Hp.base {m':AMem} (hx:Ext m0 m1) (h:Hp m1 m' []):Hp m0 m' []:=⟨hx.trans h.ext,fun p hp=>(by cases hp),.nil⟩
end
section
variable {α β : Type} [DecidableEq α]
def j5 (k:α):List (α × β)→Nat→Option (Nat × β)
 | [],_=>none
 | e::es,i=>if k=e.1 then some (i,e.2) else j5 k es (i+1)
def xo (xs:List (α × β)) (k:α) (v:β):List (α × β) :=
 match j5 k xs 0 with
 | some p=>xs.set p.1 (k,v)
 | none=>xs++[(k,v)]
def eM (kE:α→Value) (vE:β→Value) (p:α × β):Value × Value:=(kE p.1,vE p.2)
structure KeyE (P:Program) (kt:TypeId) (kE:α→Value):Prop where
 eq:∀a b,ll P Op.maxDepth kt (kE a) (kE b)=some (decide (a=b))
 ok:∀a,gk P kt (kE a)=true
 plain:∀a,aZ (kE a)=true
 same:∀a,Instr.sameBits 10000 (kE a) (kE a)=true
theorem qJ {P:Program} {kt:TypeId} {kE:α→Value} {vE:β→Value} (hk:KeyE P kt kE) (k:α):∀(xs:List (α × β)) (i:Nat),fA P kt (kE k) (xs.map (eM kE vE)) i=some ((j5 k xs i).map fun p=>(p.1,vE p.2))
 | [],_=>rfl
 | e::es,i=>by
  simp only[List.map_cons,fA,eM,hk.eq,j5]
  by_cases h:k=e.1
  ·rw[decide_eq_true h,if_pos h]; rfl
  ·rw[decide_eq_false h,if_neg h];exact qJ hk k es (i+1)
omit [DecidableEq α] in
theorem ov {kE:α→Value} {vE:β→Value} (k:α) (v:β):∀(xs:List (α × β)) (i:Nat),i<xs.length→iU (xs.map (eM kE vE)) i (kE k) (vE v)=(xs.set i (k,v)).map (eM kE vE)
 | [],i,h=>by cases h
 | e::es,0,_=>rfl
 | e::es,i+1,h=>by
  simp only[List.map_cons,iU,List.set_cons_succ];rw[ov k v es i (by simpa using h)]
theorem tK (k:α):∀(xs:List (α × β)) (i:Nat) (p:Nat × β),j5 k xs i=some p→i≤p.1∧p.1<i+xs.length∧xs[p.1-i]? = some (k,p.2)
 | [],_,_,h=>by cases h
 | e::es,i,p,h=>by
  unfold j5 at h
  split at h
  ·rename_i hk; cases h; subst hk; simp
  ·obtain⟨h1,h2,h3⟩:=tK k es (i+1) p h;refine⟨by omega,by simp; omega,?_⟩
   obtain⟨d,hd⟩:∃d,p.1-i=d+1:=⟨p.1-i-1,by omega⟩
   rw[hd,List.getElem?_cons_succ,←h3]
   congr 1; omega
end
section
variable {E : Env} {n : Nat} {m0 m : AMem} {fs : Fs} {ps : List Pc} {x y z : Operand} {ty : TypeId}
variable {α β : Type} [DecidableEq α]
theorem Je {kt et b q:Nat} {kE:α→Value} {vE:β→Value} {xs:List (α × β)} {k:α} {v:β} (hu:E.P.underlying ty=some (.map kt et)) (hk:KeyE E.P kt kE) (hx:ev E fs x=some (.map (some b))) (hy:ev E fs y=some (kE k)) (hz:ev E fs z=some (vE v)) (hp:pk ps q=some (.obj b (.map (xs.map (eM kE vE))))) :
  Od E m0 fs ps (.mapUpdate ty x y z) undef (dv ps q (.obj b (.map ((xo xs k v).map (eM kE vE))))) :=
 fun t m hf h=>⟨fun b' hb'=>by simp[aL] at hb',fun K hK=>by
  have hg:=(h.get hp).2.2;have hup:cJ E.P ty (.map (some b)) (kE k) (vE v) m=some (m.set b (.map ((xo xs k v).map (eM kE vE)))):=by
   simp only[cJ,hu,hg,hk.ok,if_true,qJ hk,xo];cases hfd:j5 k xs 0 with
   | none=>simp only[Option.map_none,List.map_append,List.map_cons,List.map_nil]; rfl
   | some p =>
    obtain⟨h1,h2,h3⟩:=tK k xs 0 p hfd;simp only[Nat.sub_zero] at h3;have hst:iG (xs.map (eM kE vE)) p.1 (kE k)=true:=by
     simp only[iG,List.getElem?_map,h3,Option.map_some,eM,hk.plain,hk.same,Bool.and_self]
    simp only[Option.map_some,hst,if_true];rw[ov k v xs p.1 (by omega)]
  unfold bm;simp only[mT,ct,hf.ev hx,hf.ev hy,hf.ev hz,hup,Option.map_some];exact hK _ (h.write hp rfl rfl rfl rfl ⟨(h.get hp).1,by rw[AMem.next_set]; exact(h.get hp).2.1,by rw[AMem.bz,if_pos rfl]⟩)⟩
theorem Wk.label {fn:FuncId} {ro:Option Nat} {Q:AExit→Tm→AMem→Prop} {l:Nat} (h:At Q .normal m0 fs ps):Wk E n fn ro (.label l) Q m0 fs ps:=fun t m hf hm=>.label (h t m hf hm)
end
section
variable {E : Env} {n : Nat} {m0 m : AMem} {fs : Fs} {ps ps' : List Pc} {x y z : Operand} {ty : TypeId}
theorem HO {b q:Nat} {kt et:TypeId} {es:List (Value × Value)} {ars:Array Operand} (hu:E.P.underlying ty=some (.map kt et)) (ha:kW E fs ars.toList=some [.map (some b)]) (hp:pk ps q=some (.obj b (.map es))) :
  Od E m0 fs ps (.call ⟨.builtin .len,ars,#[ty]⟩) (.int .i64 (es.length:Int)) ps :=
 fun t m hf h=>⟨fun b' hb'=>by
  simp only[aL,hf.kW ha] at hb';cases hb'; exact(h.get hp).2.1,fun K hK=>by
  have:aQ E.P .len #[ty] [.map (some b)] m=some (.int .i64 (es.length:Int),m):=by
   have ht:(#[ty]:Array TypeId)[0]? = some ty:=rfl;simp only[aQ,ht,Option.bind_some,hu,mapOf,(h.get hp).2.2,Option.map_some]
  rw[Go.Ab.jF (hf.kW ha) this]; exact hK m h⟩
theorem Bf {α:Type} {b q l:Nat} {kt et:TypeId} {xs:List α} {f:α→Value × Value} {ars:Array Operand} (hu:E.P.underlying ty=some (.map kt et)) (ha:kW E fs ars.toList=some [.map (some b)]) (hp:pk ps q=some (.obj b (.map (xs.map f)))) (hl:xs.length=l) :
  Od E m0 fs ps (.call ⟨.builtin .len,ars,#[ty]⟩) (.int .i64 (l:Int)) ps:=by
 have:=HO (m0:=m0) hu ha hp;rw[List.length_map,hl] at this;exact this
end
end Go.Ab.W
end

section
namespace Go.Ab.W
open Go Go.Ab
set_option maxRecDepth 10000
attribute [local irreducible] Tm.at Trie.set Trie.get AMem.get AMem.set AMem.alloc AMem.ww
section
variable {E : Env} {n : Nat} {m0 : AMem} {fs : Fs} {ps : List Pc} {x y z : Operand} {v : Value} {ty ty2 : TypeId}
end
end Go.Ab.W
end

section
namespace Go.Ab.W
open Go Go.Ab
attribute [local irreducible] Tm.at Trie.set Trie.get AMem.get AMem.set AMem.alloc AMem.ww AMem.kill
section
variable {α : Type}
end
section
variable {E : Env} {n : Nat} {m0 m : AMem} {fs : Fs} {ps : List Pc} {x y z : Operand} {ty : TypeId}
theorem aa.Ig {α:Type} {xs:List α} {f:α→List Value} {k b w l:Nat} {cs:List Value} (hp:pk ps k=some (.obj b (.cells cs .own))) (hx:cs=(xs.map f).flatten) (hl:xs.length=l) (he:Enc f w) (h0:Nat.blt 0 w=true):aa m0 ps (dv ps k (.arr b w l (xs.map f) .own)):=fun m h=>by
 subst hx;exact h.put hp rfl rfl rfl (Nat.le_refl _) h.ext ⟨(h.get hp).1,(h.get hp).2.1,(h.get hp).2.2,by rw[List.length_map]; exact hl,fun e hm=>by obtain⟨x,_,rfl⟩:=List.mem_map.1 hm; exact he.1 x,.inl rfl,by rwa[Nat.blt_eq] at h0⟩ fun _ _ _=>rfl
theorem EU {el:TypeId} {b len w:Nat} {i:Int} {kd:IntKind} (h:ArT E.P ty el len w) (hx:ev E fs x=some (ptr b 0)) (hy:ev E fs y=some (.int kd i)) (hi:0≤i∧i.toNat<len):Od E m0 fs ps (.indexAddr ty x y) (ptr b (i.toNat*w+0)) ps:=by
 obtain⟨j,rfl⟩:=Int.eq_ofNat_of_zero_le hi.1;have hj:j<len:=by simpa using hi.2
 refine Ek hx hy ?_;rw[FP h (b:=b) (o:=0) hj];simp
end
section
variable {E : Env} {n : Nat} {m0 m : AMem} {fs : Fs} {ps : List Pc}
end
section
variable {E : Env} {n : Nat} {m0 : AMem} {fs : Fs} {ps : List Pc} {ops : Array Oper} {os : List Oper} {dr : Bool}
end
section
variable {E : Env} {m0 : AMem} {fs : Fs} {ps : List Pc} {ty : TypeId}
end
section
variable {E : Env} {m0 : AMem} {fs : Fs} {ps : List Pc} {ty : TypeId}
end
end Go.Ab.W
end

section
namespace Go.Ab.W
open Go Go.Ab
section
variable {α : Type}
def Bg (m:AMem) (R:Nat→Prop) (w:Nat) (f:α→List Value) (cs:List Value) (L:List (List α)):Prop :=
 cs.length=L.length∧∀(i:Nat) (l:List α),L[i]? = some l→∃a c,cs[i]? = some (.slice a l.length c)∧Rd m a c w l.length (l.map f)∧∀b,Az a=some b→R b
theorem Bg.fx {m m':AMem} {R:Nat→Prop} {w:Nat} {f:α→List Value} {cs:List Value} {L:List (List α)} (h:Bg m R w f cs L) (hn:m.next≤m'.next) (hg:∀b,R b→b<m.next→m'.get b=m.get b):Bg m' R w f cs L :=
 ⟨h.1,fun i l hi=>by
  obtain⟨a,c,h1,h2,h3⟩:=h.2 i l hi;exact⟨a,c,h1,h2.fx hn fun b hb hlt=>hg b (h3 b hb) hlt,h3⟩⟩
end
section
variable {α : Type} {E : Env} {m0 m : AMem} {fs : Fs} {ps : List Pc} {f : α → List Value} {w : Nat}
variable {x : Operand} {ty : TypeId}
variable {N : Nat} {ops : Array Oper} {os : List Oper} {dr : Bool}
end
end Go.Ab.W
end

section
namespace Go.Ab.W
open Go Go.Ab
attribute [local irreducible] Tm.at Trie.set Trie.get AMem.get AMem.set AMem.alloc AMem.ww AMem.kill
section
variable {α : Type} {E : Env} {m0 m : AMem} {fs : Fs} {ps : List Pc} {f : α → List Value} {w : Nat} {ty : TypeId}
theorem Bg.one {R:Nat→Prop} {cs:List Value} {L:List (List α)} (h:Bg m R w f cs L):jz (cs.map fun c=>[c]):=fun e he=>by
 obtain⟨c,hc,rfl⟩:=List.mem_map.1 he;obtain⟨i,hi,rfl⟩:=List.mem_iff_getElem.1 hc;obtain⟨a,cap,h1,_⟩:=h.2 i (L[i]'(by rw[←h.1]; exact hi)) (by simp)
 rw[List.getElem?_eq_getElem hi] at h1;rw[Option.some.inj h1]; rfl
end
section
variable {α : Type} {E : Env} {n : Nat} {m0 m : AMem} {fs : Fs} {ps : List Pc} {f : α → List Value} {w : Nat} {ops : Array Oper} {os : List Oper} {prs : List (Nat × Nat)} {K : Tm → AMem → Prop} {ss : List Nk}
end
def yP (m:AMem) (RW:Nat→Prop) (rb:Nat) (row:List (Bool × List Nat)):Prop :=
 rb<m.next∧∃vs,m.get rb=some (.cells vs .own)∧vs.length=row.length*2∧∀(j:Nat) (x:Bool × List Nat),row[j]? = some x→vs[j*2]? = some (.bool x.1)∧∃a c,vs[j*2+1]? = some (.slice a x.2.length c)∧Rd m a c 1 x.2.length (x.2.map (eN .u64))∧∀b,Az a=some b→RW b
theorem yP.fx {m m':AMem} {RW RW':Nat→Prop} {rb:Nat} {row:List (Bool × List Nat)} (h:yP m RW rb row) (hn:m.next≤m'.next) (hg:∀b,(b=rb∨RW b)→b<m.next→m'.get b=m.get b) (hs:∀b,RW b→RW' b):yP m' RW' rb row:=by
 obtain⟨h1,vs,h2,h3,h4⟩:=h;refine⟨Nat.lt_of_lt_of_le h1 hn,vs,by rw[hg rb (.inl rfl) h1]; exact h2,h3,fun j x hx=>?_⟩
 obtain⟨g1,a,c,g2,g3,g4⟩:=h4 j x hx;exact⟨g1,a,c,g2,g3.fx hn fun b hb hlt=>hg b (.inr (g4 b hb)) hlt,fun b hb=>hs b (g4 b hb)⟩
def IU (ρ:Nat→Nat) (L:List (List (Bool × List Nat))) (x:Nat):Prop:=∃i row,L[i]? = some row∧row≠[]∧x=ρ i
structure MatAt (m:AMem) (b n:Nat) (ρ:Nat→Nat) (RW:Nat→Prop) (L:List (List (Bool × List Nat))):Prop where
 lt:b<m.next
 len:n=L.length
 cells:∃cs,m.get b=some (.cells cs .own)∧cs.length=n∧∀(i:Nat) (row:List (Bool × List Nat)),L[i]? = some row→(row = []∧cs[i]? = some (.slice none 0 0))∨(row≠[]∧cs[i]? = some (.slice (some ⟨ρ i,0,none⟩) row.length row.length))
 rows:∀(i:Nat) (row:List (Bool × List Nat)),L[i]? = some row→row≠[]→yP m RW (ρ i) row
 rw:∀x,RW x→x<m.next∧x≠b∧¬IU ρ L x
 out:∀(i:Nat) (row:List (Bool × List Nat)),L[i]? = some row→row≠[]→ρ i≠b
 inj:∀(i j:Nat) (row row':List (Bool × List Nat)),L[i]? = some row→L[j]? = some row'→row≠[]→row'≠[]→ρ i=ρ j→i=j
section
variable {E : Env} {m0 m : AMem} {fs : Fs} {ps : List Pc} {x y : Operand} {ty : TypeId} {b n : Nat} {ρ : Nat → Nat} {RW : Nat → Prop} {L : List (List (Bool × List Nat))}
end
abbrev kI:Int→Value:=fun n=>.int .i64 n
abbrev vB:Bool→Value:=fun b=>.bool b
def Jn (m:AMem) (H:Nat→Prop) (bo:Option Nat) (xs:List (Int × Bool)):Prop:=(bo=none∧xs = [])∨∃b,bo=some b∧H b∧m.get b=some (.map (xs.map (eM kI vB)))
theorem Jn.nil {m:AMem} {H:Nat→Prop}:Jn m H none []:=.inl ⟨rfl,rfl⟩
section
variable {E : Env} {m0 m : AMem} {fs : Fs} {ps : List Pc} {x y z : Operand} {ty : TypeId} {H : Nat → Prop} {M : List (Option Nat × List (Int × Bool))}
end
end Go.Ab.W
end

section
namespace Go.Ab.W
open Go Go.Ab
section
variable {P : Program} {ty el : TypeId}
theorem zd {eq:TypeId→Value→Value→Option Bool} {xs ys:Array Value} {t off:Nat} {rest:List (TypeId × Nat)} {x y:Value} {b r:Bool} (h1:fa P t xs off=some x) (h2:fa P t ys off=some y) (h3:eq t x y=some b) (h4:gI eq P xs ys rest=some r):gI eq P xs ys ((t,off)::rest)=some (b && r):=by
 unfold gI;rw[h1,h2]
 dsimp only
 rw[h3];cases b with
 | true=>exact h4
 | false=>rfl
end
def JN {α:Type}:List α→Option (α × α × α)
 | [a,b,c]=>some (a,b,c)
 | _=>none
section
variable {P : Program} {ty : TypeId}
def Cm (P:Program) (ty u v:TypeId) (k l:IntKind):Bool:=match P.underlying ty with
 | some (.struct fs) => !(P.stoodInHeld ty || fs.any (·.name == "_")) && (fs.toList.map (fun f => (f.type, f.offset)) == [(u, 0), (v, 1)]) && known P u && known P v && (match P.underlying u, P.underlying v with | some (.int k'), some (.int l') => k' == k && l' == l | _, _ => false)
 | _=>false
theorem qP {u v : TypeId} {k l : IntKind} (h : Cm P ty u v k l = true) : ∃ fs, P.underlying ty = some (.struct fs) ∧ (P.stoodInHeld ty || fs.any (·.name == "_")) = false ∧ fs.toList.map (fun f => (f.type, f.offset)) = [(u, 0), (v, 1)] ∧
  known P u=true∧known P v=true∧P.underlying u=some (.int k)∧P.underlying v=some (.int l):=by
 unfold Cm at h
 split at h
 ·rename_i fs hf;simp only[Bool.and_eq_true,Bool.not_eq_true',beq_iff_eq] at h;obtain⟨⟨⟨⟨h1,h2⟩,h3⟩,h4⟩,h5⟩:=h
  split at h5
  ·rename_i k' l' e1 e2;simp only[Bool.and_eq_true,beq_iff_eq] at h5;obtain⟨rfl,rfl⟩:=h5;exact⟨fs,hf,h1,h2,h3,h4,e1,e2⟩
  ·cases h5
 ·cases h
theorem EM {el:TypeId} {k:IntKind} (he:P.underlying el=some (.int k)) (d:Nat) (x y:Int):ll P (d+1) el (.int k x) (.int k y)=some (decide (x=y)):=by
 simp only[ll,he,if_true]
 rfl
theorem E1 {u v:TypeId} {k l:IntKind} (h:Cm P ty u v k l=true) (a c b d:Int) :
  ll P Op.maxDepth ty (.agg #[.int k a,.int l b]) (.agg #[.int k c,.int l d])=some (decide (a=c) && decide (b=d)):=by
 obtain⟨fs,hf,h1,h2,h3,h4,h5,h6⟩:=qP h;have a1:dc P u=false:=by simp only[dc,h5]
 have a2:dc P v=false:=by simp only[dc,h6]
 have p0:∀x y:Value,fa P u #[x,y] 0=some x:=fun x y=>by simp only[fa,h3,a1]; rfl
 have p1:∀x y:Value,fa P v #[x,y] 1=some y:=fun x y=>by simp only[fa,h4,a2]; rfl
 show ll P (9999+1) ty _ _=_
 unfold ll;simp only[hf,h1,Bool.false_eq_true,if_false,h2];rw[zd (p0 _ _) (p0 _ _) (EM h5 9998 a c) (zd (p1 _ _) (p1 _ _) (EM h6 9998 b d) rfl)];simp only[Bool.and_true]
theorem Hu {u v:TypeId} {k l:IntKind} (h:Cm P ty u v k l=true):KeyE P ty (fun p:Int × Int=>.agg #[.int k p.1,.int l p.2]) where
 eq:=fun a b=>by
  rw[E1 h]
  congr 1
  by_cases h:a=b
  ·subst h; simp
  ·have:¬(a.1=b.1∧a.2=b.2):=fun⟨h1,h2⟩=>h (Prod.ext h1 h2);rw[decide_eq_false h,←Bool.decide_and,decide_eq_false this]
 ok:=fun a=>by
  obtain⟨fs,hf,h1,h2,h3,h4,h5,h6⟩:=qP h;have k1:cR P u=true:=by simp only[cR,h5]
  have k2:cR P v=true:=by simp only[cR,h6]
  have e:fs.toList.all (fun f=>cR P f.type && known P f.type && decide (f.offset<(#[Value.int k a.1,.int l a.2]:Array Value).size)) =
    (fs.toList.map fun f=>(f.type,f.offset)).all fun x=>cR P x.1 && known P x.1 && decide (x.2<(#[Value.int k a.1,.int l a.2]:Array Value).size):=by rw[List.all_map]; rfl
  simp only[gk,hf];rw[e,h2];simp only[List.all_cons,List.all_nil,k1,k2,h3,h4]
  rfl
 plain:=fun a=>rfl
 same:=fun a=>by simp[Instr.sameBits]
theorem GG {k:IntKind} (a b c d:Int) {ts:Array TypeId} (m:AMem):aQ P .max ts [.int k a,.int k b,.int k c,.int k d] m=some (.int k (ma (ma (ma a b) c) d),m):=rfl
end
section
variable {E : Env} {n : Nat} {m0 : AMem} {fs : Fs} {ps : List Pc} {x : Operand} {v : Value} {ty : TypeId}
end
class TyC (P:Program) (ty:TypeId) (ag:outParam Bool) (sz:outParam Nat):Prop where
 t:TyI P ty ag sz
class FaC (P:Program) (ty:TypeId) (f:Nat) (off:outParam Nat):Prop where
 t:∀b o:Nat,aM P ty (ptr b o) f=some (ptr b (o+off))
class SlC (P:Program) (ty:TypeId) (el:outParam TypeId) (w:outParam Nat):Prop where
 t:SlT P ty el w
class ArC (P:Program) (ty:TypeId) (el:outParam TypeId) (len w:outParam Nat):Prop where
 t:ArT P ty el len w
class UsC (P:Program) (ty:TypeId) (el:outParam TypeId):Prop where
 t:P.underlying ty=some (.slice el)
section
variable {E : Env} {n : Nat} {m0 : AMem} {fs : Fs} {ps ps' : List Pc} {ops : Array Oper} {os : List Oper} {K : Tm → AMem → Prop} {dr : Bool}
variable {ty : TypeId} {p : String} {af : Array Edge} {d : Option Nat} {o : Op} {g : Option (Nat × Bool)} {v : Value}
end
section
variable {k : IntKind} {P : Program} {ty : TypeId}
end
section
variable {E : Env} {n : Nat} {m0 : AMem} {fs : Fs} {ps ps' : List Pc} {ops : Array Oper} {os : List Oper} {K : Tm → AMem → Prop} {dr : Bool}
variable {ty ty' oty : TypeId} {p : String} {af : Array Edge} {d : Nat} {dd : Option Nat} {o : Op} {a b r v : Value} {x y c : Operand}
def Has (ps:List Pc) (q:Pc):Prop:=∃k,pk ps k=some q
theorem Has.z {q:Pc}:Has (q::ps) q:=⟨0,rfl⟩
theorem Has.s {q q':Pc} (h:Has ps q):Has (q'::ps) q:=by obtain⟨k,h⟩:=h; exact⟨k+1,h⟩
def EN (ps:List Pc) (q q':Pc) (ps':List Pc):Prop:=∃k,pk ps k=some q∧dv ps k q'=ps'
theorem EN.z {q q':Pc}:EN (q::ps) q q' (q'::ps):=⟨0,rfl,rfl⟩
theorem EN.s {q q' r:Pc} (h:EN ps q q' ps'):EN (r::ps) q q' (r::ps'):=by obtain⟨k,h,h'⟩:=h; exact⟨k+1,h,by rw[←h']; rfl⟩
def AS (ps:List Pc) (a:Option Addr):Prop:=∃k q,pk ps k=some q∧(Az a=q.mn∨a=none)
theorem AS.z {q:Pc} {a:Option Addr} (h:Az a=q.mn):AS (q::ps) a:=⟨0,q,rfl,.inl h⟩
theorem AS.s {q:Pc} {a:Option Addr} (h:AS ps a):AS (q::ps) a:=by obtain⟨k,r,h⟩:=h; exact⟨k+1,r,h⟩
end
structure Bx (Q:Prop):Prop where
 v:Q
section
variable {E : Env} {n : Nat} {m0 : AMem} {fs : Fs} {ps : List Pc} {fn : FuncId} {ro : Option Nat} {c : Code} {Q : AExit → Tm → AMem → Prop}
def Wl (E:Env) (n:Nat) (fn:FuncId) (ro:Option Nat) (c:Code) (Q:AExit→Tm→AMem→Prop) (m0:AMem) (fs:Fs) (ps:List Pc):Prop:=∀t m,Fr t fs→Hp m0 m ps→kl E n fn ro c Q t m
theorem Wl.round (h:Wk E n fn ro c (nw (kl E n fn ro c Q) Q) m0 fs ps):Wl E n fn ro c Q m0 fs ps:=fun t m hf hm=>.round (h t m hf hm)
end
section
variable {E : Env} {n : Nat} {m0 : AMem} {fs fs' : Fs} {ps ps' : List Pc} {ops : Array Oper} {os : List Oper} {K : Tm → AMem → Prop} {dr : Bool} {fn : FuncId} {ro : Option Nat} {c : Code} {Q : AExit → Tm → AMem → Prop}
variable {ty oty : TypeId} {p : String} {af : Array Edge} {d : Nat} {g : Option (Nat × Bool)} {x : Operand} {v : Value}
def ap {ρ:Type} {δ:ρ→Type} (X:(r:ρ)→δ r→En) (r:ρ):δ r→En:=X r
theorem lo {σ ρ γ:Type} {δ:ρ→Type} {body:σ→Option (σ ⊕ ρ)} {X:(r:ρ)→δ r→En} {N:Nat} {s:σ} {r:ρ} (h:dx body N s=some r) (g:γ) (ks:List Nat) (I:σ→γ→En)
  (hb:∀s g r,body s=some r→Wk E n fn ro c (match r with | .inl s'=>pS m0 (I s') | .inr r=>pS m0 (X r)) m0 (I s g).fs (I s g).ps)
  (hs:sub fs (I s g).fs:=by repeat first|exact sn|refine sc rfl ?_) (hd:mM ks=true:=by rfl) (hp:U ps ks=some (I s g).ps:=by rfl)
  (hn:∀s g,(I s g).e = .normal:=by exact fun _ _=>rfl) (hx:∀r g,(X r g).e≠.normal:=by intro r d; first | (intro e; cases e; done) | (rcases r with r|r<;>first | (intro e; cases e; done) | (rcases r with r|r<;>first | (intro e; cases e; done) | (rcases r with r|r<;>intro e<;>cases e)))):Wk E n fn ro (.loop c) (pS m0 (ap X r)) m0 fs ps:=.fu hs (aa.U ks hd hp) (Wk.loop body I X hb hn hx N s r h g)
theorem wb (k:∀b,Wo dr E n ops K os m0 ((d,ptr b 0)::fs) (.obj b (.cells v.cells.toList .own)::ps)) (h:ev E fs x=some v:=by rfl) (hd:Nat.blt d n=true:=by rfl):Wo dr E n ops K (⟨some d,.box oty x,ty,p,af,none⟩::os) m0 fs ps:=Wo.x (cQ h) gn hd k
theorem wa {z:Value} (hz:bO E.P oty=some z) (k:∀b,Wo dr E n ops K os m0 ((d,ptr b 0)::fs) (.obj b (.cells z.cells.toList .own)::ps)) (hp:aZ z=true:=by rfl) (hd:Nat.blt d n=true:=by rfl):Wo dr E n ops K (⟨some d,.alloc oty,ty,p,af,none⟩::os) m0 fs ps:=Wo.x (dG hz hp) gn hd k
variable {m : AMem} {a : Option Addr} {cap w l : Nat} {es : List (List Value)}
theorem Hp.q (h:Hp m0 m ps) (k:Nat) {p:Pc} (hp:pk ps k=some p:=by rfl) (hi:IsRd p a cap w l es:=by first|exact .rd _ _ _ _ _|exact .sl _ _ _ _|exact .arr _ _ _ _ _):Rd m a cap w l es:=h.rd hp hi
theorem Hp.i (h:Hp m0 m ps) (hr:Rd m a cap w l es) (ho:(ps.all Pc.F9)=true:=by rfl):Hp m0 m (.rd a cap w l es::ps):=h.vJ ho hr
variable {α : Type} {V : α → Value} {N : α → List Pc} {R : α → Pc} {f : Operand} {q : FuncId} {ars : Array Operand} {ts : Array TypeId} {args : List Value} {prs : List (Nat × Nat)} {ss : List Nk}
theorem wc (hg:vl ops fs g true) (hc:∀m,Hp m0 m ps→aR E q args m (fun v m'=>∃x,v=V x∧Hp m m' (N x))) (k:∀x,Wo dr E n ops K os m0 ((d,V x)::fs) (N x++ps)) (hf:ev E fs f=some (.func (.func q) #[] #[]):=by rfl) (ha:kW E fs ars.toList=some args:=by rfl) (ho:∀x,sK (N x)=true:=by exact fun _=>rfl) (hd:Nat.blt d n=true:=by rfl):Wo dr E n ops K (⟨some d,.call ⟨.value f,ars,ts⟩,ty,p,af,g⟩::os) m0 fs ps:=Wo.x (cL hf ha hc ho) hg hd k
theorem nc (hg:vl ops fs g true) (hc:∀m,Hp m0 m ps→aR E q args m (fun v m'=>∃x,v=V x∧Hp m m' (N x))) (k:∀x,Wn E n ops prs K os (.call::ss) m0 ((d,V x)::fs) (N x++ps)) (hf:ev E fs f=some (.func (.func q) #[] #[]):=by rfl) (ha:kW E fs ars.toList=some args:=by rfl) (ho:∀x,sK (N x)=true:=by exact fun _=>rfl) (hd:Nat.blt d n=true:=by rfl):Wn E n ops prs K (⟨some d,.call ⟨.value f,ars,ts⟩,ty,p,af,g⟩::os) ss m0 fs ps:=Wn.c (fJ hf ha hc ho) hg hd k
end
end Go.Ab.W
end

section
namespace Go.Proofs.YthmekkhpddehjaaGreat
open Go Go.Ab Go.Ab.W
def IK (_:Nat):Option Bool:=some true
theorem FY (n:Nat) (r:Bool) (hF:IK n=some r) (m:AMem):aR bq 18 [] m (fun v m'=>∃_:Unit,v = .bool r∧Hp m m' []):=by
 cases hF;exact aR.cb (p:=⟨lH⟩) rfl (v:=.bool true) (m':=m) rfl ⟨(),rfl,Hp.start m⟩
end Go.Proofs.YthmekkhpddehjaaGreat
end

section
namespace Go.Proofs.YthmekkhpddehjaaGreat
open Go Go.Ab Go.Ab.W
set_option maxRecDepth 10000
def Hc (_:Nat) (x1:Int) (x2:Int):Option (Bool) :=
ob (some (ma (ma (ma x1 (IntKind.wrap .i64 (0-x1))) x2) (IntKind.wrap .i64 (0-x2)))) fun y4 =>
br (decide (1000000<y4)) (
some true) (
some (decide (mi x1 x2 < -1000000)))
def xa (_:Nat) (x1:Int):Option (Bool) :=
some (!decide (x1=x1))
def DT (n:Nat) (x1:Int) (x2:Int):Option (Int) :=
ob (xa n x1) fun r4 =>
ob (xa n x2) fun r6 =>
br (r4) (
br (r6) (
some 0) (
some (-1))) (
br (r6) (
some 1) (
br (decide (x1<x2)) (
some (-1)) (
br (decide (x2<x1)) (
some 1) (
some 0))))
def AF (n:Nat) (x1:Int) (x2:Int) (x3:Int) (x4:Int) (x5:Int) (x6:Int):Option (Int) :=
ob (some (IntKind.wrap .i64 ((IntKind.wrap .i64 (x3-x1))*(IntKind.wrap .i64 (x6-x2))))) fun y10 =>
ob (some (IntKind.wrap .i64 ((IntKind.wrap .i64 (x4-x2))*(IntKind.wrap .i64 (x5-x1))))) fun y12 =>
ob (DT n y10 y12) fun r15 =>
some r15
def lK (_:Nat) (l1:List (Int)):Int→Option ((Int) ⊕ ((Int) ⊕ (Unit))):=fun v6 =>
br (decide (v6<(l1.length:Int))) (
gd (cX v6 l1.length) (
ob (l1[v6.toNat]?) fun x20 =>
br (!decide (x20=0)) (
some (.inr (.inl x20))) (
some (.inl (IntKind.wrap .i64 (v6+1)))))) (
some (.inr (.inr ())))
def Gw (n:Nat) (l1:List (Int)):Option (Int) :=
ob (α:=(Int) ⊕ (Unit)) (
dx (lK n l1) n 0) fun r24=>match r24 with
| .inl v15 =>
some v15
| .inr _ =>
some 0
def AA (n:Nat) (x1:Int) (x2:Int) (x3:Int) (x4:Int):Option (Int) :=
ob (DT n x1 x3) fun r8 =>
ob (DT n x2 x4) fun r10 =>
ob (Gw n ([r8,r10])) fun r13 =>
some r13
def y9 (n:Nat) (_:Int) (x2:Int) (x3:Int) (x4:Int) (x5:Int) (x6:Int) (x7:Int):Option (Bool) :=
ob (AF n x2 x3 x4 x5 x6 x7) fun r11 =>
br (!decide (r11=0)) (
some false) (
ob (
ob (AA n x2 x3 x4 x5) fun r23 =>
br (decide (0<r23)) (
some (x4,x5,x2,x3)) (
some (x2,x3,x4,x5))) fun(v18,v19,v20,v21) =>
ob (AA n v18 v19 x6 x7) fun r28 =>
br (decide (r28≤0)) (
ob (AA n x6 x7 v20 v21) fun r31 =>
some (decide (r31≤0))) (
some false))
def nj (n:Nat) (x2:Int) (x10:Int) (x11:Int) (x5:Int) (x7:Int) (x8:Int) (x9:Int) (x12:Int) (x1:Int) (x6:Int):(List ((Int × Int) × Bool) × Int)→Option ((List ((Int × Int) × Bool) × Int) ⊕ (List ((Int × Int) × Bool))):=fun(l0,v0) =>
br (decide (v0<4)) (
ob (
gd (cX v0 4) (
ob ([(x2,x10),(x11,x5),(x7,x8),(x9,x12)][v0.toNat]?) fun(x3,x4) =>
ob (
ob (y9 n x1 x2 x10 x11 x5 x3 x4) fun r0 =>
br (r0) (
ob (y9 n x6 x7 x8 x9 x12 x3 x4) fun r1 =>
some r1) (
some false)) fun v1 =>
br (v1) (
some (xo l0 (x3,x4) true)) (
some l0))) fun l1 =>
some (.inl (l1,IntKind.wrap .i64 (v0+1)))) (
some (.inr l0))
def HL (n:Nat) (x1:Int) (x2:Int) (x3:Int) (x4:Int) (x5:Int) (x6:Int) (x7:Int) (x8:Int) (x9:Int) (x10:Int):Option (Int) :=
ob (AF n x2 x3 x4 x5 x7 x8) fun r0 =>
ob (AF n x2 x3 x4 x5 x9 x10) fun r1 =>
ob (AF n x7 x8 x9 x10 x2 x3) fun r2 =>
ob (AF n x7 x8 x9 x10 x4 x5) fun r3 =>
ob (
dx (nj n x2 x3 x4 x5 x7 x8 x9 x10 x1 x6) n (([]:List ((Int × Int) × Bool)),0)) fun l0 =>
ob (some (l0.length)) fun y3 =>
br (decide (1<(y3:Int))) (
some 3) (
ob (some (l0.length)) fun y4 =>
br (decide ((y4:Int)=1)) (
some 1) (
ob (
br (decide (IntKind.wrap .i64 (r0*r1)<0)) (
some (decide (IntKind.wrap .i64 (r2*r3)<0))) (
some false)) fun v0 =>
br (v0) (
some 2) (
some 0)))
end Go.Proofs.YthmekkhpddehjaaGreat
end

section
namespace Go.Proofs.YthmekkhpddehjaaGreat
open Go Go.Ab Go.Ab.W
def IM (n:Nat) (x1:Int) (x2:Int) (x3:Int) (x4:Int):Option (Int) :=
ob (AA n x1 x2 x3 x4) fun r8 =>
some r8
end Go.Proofs.YthmekkhpddehjaaGreat
end

section
namespace Go.Proofs.YthmekkhpddehjaaGreat.W51
open Go Go.Ab Go.Ab.W
set_option maxRecDepth 10000
set_option maxHeartbeats 4000000
attribute [local irreducible] Tm.at Trie.set Trie.get AMem.get AMem.set AMem.alloc AMem.ww AMem.kill
theorem ax:TyI lN.P 33 true 2:=⟨by kernel_rfl,by kernel_rfl,by kernel_rfl⟩
theorem aJ:∀b o,aM lN.P 33 (ptr b o) 0=some (ptr b (o+0)):=fun _ _=>by kernel_rfl
theorem aW:TyI lN.P 3 false 1:=⟨by kernel_rfl,by kernel_rfl,by kernel_rfl⟩
theorem aF:∀b o,aM lN.P 33 (ptr b o) 1=some (ptr b (o+1)):=fun _ _=>by kernel_rfl
theorem GK:lN.P.underlying 102=some (.slice 3):=by kernel_rfl
theorem vY:SlT lN.P 102 3 1:=SlT.of (by kernel_rfl)
theorem z3:bO lN.P 3=some (.int .i64 0):=by kernel_rfl
theorem lX (n:Nat) (x1:Int)  (r:Bool) (hF:xa n x1=some r) (m:AMem)  :
  aR lN 103 [.int .i64 x1] m (fun v m'=>∃_:Unit,v = .bool r∧Hp m m' []):=by
 unfold xa at hF;refine aP (m0:=m) (ps:=[]) (N:=6) (rs:=[.tmp 2]) rfl Tryz.func103 rfl rfl rfl (Hp.start m)<|Wk.seq<|Wk.region<|Wo.od (ak rfl) rfl<|Wo.nil<|At.tn<|Wk.seq<|Wk.region<|Wo.od (ae rfl) rfl<|Wo.od (ae rfl) rfl<|Wo.od (aj rfl rfl (ep _ _)) rfl<|Wo.od (ak rfl) rfl<|Wo.nil<|At.tn<|Wk.ret ?_;cases hF;exact At.ret (.tmp rfl .nil) fun m' hm=>⟨(),rfl,(aa.U [] rfl rfl) m' hm⟩
theorem mE (n:Nat) (x1:Int) (x2:Int)  (r:Int) (hF:DT n x1 x2=some r) (m:AMem)  :
  aR lN 83 [.int .i64 x1,.int .i64 x2] m (fun v m'=>∃_:Unit,v = .int .i64 r∧Hp m m' []):=by
 unfold DT at hF;refine aP (m0:=m) (ps:=[]) (N:=20) (rs:=[.tmp 4]) rfl Tryz.func83 rfl rfl rfl (Hp.start m)<|Wk.seq<|Wk.region<|Wo.od (ak rfl) rfl<|Wo.nil<|At.tn<|Wk.seq<|Wk.region<|Wo.od (ae rfl) rfl ?_;obtain⟨r4,h3,hF⟩:=J hF;refine Wo.x (cL rfl rfl (fun m hm=>lX n x1  _ h3 m) fun _=>rfl) gn rfl ?_;rintro⟨⟩;refine Wo.od (ak rfl) rfl<|Wo.nil<|At.tn<|Wk.seq<|Wk.region<|Wo.od (ae rfl) rfl ?_;obtain⟨r6,h5,hF⟩:=J hF;refine Wo.x (cL rfl rfl (fun m hm=>lX n x2  _ h5 m) fun _=>rfl) gn rfl ?_;rintro⟨⟩;refine Wo.od (ak rfl) rfl<|Wo.nil<|At.tn<|Wk.seq<|Wk.seq<|Wk.region<|Wo.od (ae rfl) rfl<|Wo.nil<|At.tn ?_;rcases ah hF with⟨h7,hF⟩|⟨h7,hF⟩
 ·refine Wk.aB rfl h7<|Wk.seq<|Wk.seq<|Wk.region<|Wo.od (ae rfl) rfl<|Wo.nil<|At.tn ?_;rcases ah hF with⟨h8,hF⟩|⟨h8,hF⟩
  ·refine Wk.aB rfl h8<|Wk.seq<|Wk.region<|Wo.od (ak rfl) rfl<|Wo.nil<|At.tn<|Wk.ret<|At.tr<|At.tr ?_;cases hF;exact At.ret (.tmp rfl .nil) fun m' hm=>⟨(),rfl,(aa.U [] rfl rfl) m' hm⟩
  ·refine Wk.aA rfl h8<|Wk.skip<|At.tn<|Wk.seq<|Wk.region<|Wo.od (ak rfl) rfl<|Wo.nil<|At.tn<|Wk.ret<|At.tr ?_;cases hF;exact At.ret (.tmp rfl .nil) fun m' hm=>⟨(),rfl,(aa.U [] rfl rfl) m' hm⟩
 ·refine Wk.aA rfl h7<|Wk.skip<|At.tn<|Wk.seq<|Wk.seq<|Wk.region<|Wo.od (ae rfl) rfl<|Wo.nil<|At.tn ?_;rcases ah hF with⟨h9,hF⟩|⟨h9,hF⟩
  ·refine Wk.aB rfl h9<|Wk.seq<|Wk.region<|Wo.od (ak rfl) rfl<|Wo.nil<|At.tn<|Wk.ret<|At.tr ?_;cases hF;exact At.ret (.tmp rfl .nil) fun m' hm=>⟨(),rfl,(aa.U [] rfl rfl) m' hm⟩
  ·refine Wk.aA rfl h9<|Wk.skip<|At.tn<|Wk.seq<|Wk.seq<|Wk.region<|Wo.od (ae rfl) rfl<|Wo.od (ae rfl) rfl<|Wo.od (aj rfl rfl (bh _ _ _)) rfl<|Wo.nil<|At.tn ?_;rcases ah hF with⟨h10,hF⟩|⟨h10,hF⟩
   ·refine Wk.aB rfl h10<|Wk.seq<|Wk.region<|Wo.od (ak rfl) rfl<|Wo.nil<|At.tn<|Wk.ret<|At.tr ?_;cases hF;exact At.ret (.tmp rfl .nil) fun m' hm=>⟨(),rfl,(aa.U [] rfl rfl) m' hm⟩
   ·refine Wk.aA rfl h10<|Wk.skip<|At.tn<|Wk.seq<|Wk.seq<|Wk.region<|Wo.od (ae rfl) rfl<|Wo.od (ae rfl) rfl<|Wo.od (aj rfl rfl (bW _ _ _)) rfl<|Wo.nil<|At.tn ?_;rcases ah hF with⟨h11,hF⟩|⟨h11,hF⟩
    ·refine Wk.aB rfl h11<|Wk.seq<|Wk.region<|Wo.od (ak rfl) rfl<|Wo.nil<|At.tn<|Wk.ret<|At.tr ?_;cases hF;exact At.ret (.tmp rfl .nil) fun m' hm=>⟨(),rfl,(aa.U [] rfl rfl) m' hm⟩
    ·refine Wk.aA rfl h11<|Wk.skip<|At.tn<|Wk.seq<|Wk.region<|Wo.od (ak rfl) rfl<|Wo.nil<|At.tn<|Wk.ret ?_;cases hF;exact At.ret (.tmp rfl .nil) fun m' hm=>⟨(),rfl,(aa.U [] rfl rfl) m' hm⟩
theorem xy (n:Nat) (l1:List (Int)) (a2:Option Addr) (c3:Nat) (r:Int) (hF:Gw n l1=some r) (m:AMem) (h4:Rd m a2 c3 1 l1.length (l1.map (eI .i64))) :
  aR lN 82 [.slice a2 l1.length c3] m (fun v m'=>∃_:Unit,v = .int .i64 r∧Hp m m' []):=by
 unfold Gw at hF;refine aP (m0:=m) (ps:=[.rd a2 c3 1 l1.length (l1.map (eI .i64))]) (N:=18) (rs:=[.tmp 2]) rfl Tryz.func82 rfl rfl rfl ((Hp.start m).vJ rfl h4)<|Wk.seq<|Wk.region<|Wo.od (ak rfl) rfl<|Wo.nil<|At.tn<|Wk.seq<|Wk.region<|Wo.od (ak rfl) rfl<|Wo.nil<|At.tn<|Wk.seq<|Wk.seq<|Wk.region<|Wo.od (ae rfl) rfl<|Wo.od (fj (k:=0) GK rfl rfl (.inl rfl)) rfl<|Wo.od (ae rfl) rfl<|Wo.nil<|At.tn<|Wk.block ?_;obtain⟨r24,h23,hF⟩:=J hF;refine Wk.cut (G:=(fun(r:(Int) ⊕ (Unit)) (g:Unit)=>match r,g with | .inl v15,_=>⟨.ret,[(2,.int .i64 v15)],[]⟩ | .inr _,_=>⟨(.exit 0),[(3,.int .i64 0)],[]⟩) r24) ?_ ?_
 ·refine Wk.fu (fs':=[(3,.int .i64 0),(6,.slice a2 l1.length c3),(7,.int .i64 (l1.length:Int)),(8,.int .i64 0)]) (ps':=[.rd a2 c3 1 l1.length (l1.map (eI .i64))]) (sc rfl (sc rfl (sc rfl (sc rfl sn)))) (aa.U [0] rfl rfl) ?_;refine Wk.loop (σ:=Int) (ρ:=(Int) ⊕ (Unit)) (γ:=Unit) (δ:=fun _=>Unit) _ (fun(s:Int) (g:Unit)=>match s,g with|v6,_=>⟨.normal,[(3,.int .i64 0),(6,.slice a2 l1.length c3),(7,.int .i64 (l1.length:Int)),(8,.int .i64 v6)],[.rd a2 c3 1 l1.length (l1.map (eI .i64))]⟩) (fun(r:(Int) ⊕ (Unit)) (g:Unit)=>match r,g with | .inl v15,_=>⟨.ret,[(2,.int .i64 v15)],[]⟩ | .inr _,_=>⟨(.exit 0),[(3,.int .i64 0)],[]⟩) ?_ (fun _ _=>rfl) (fun r d=>by rcases r with _|_<;>(intro e; cases e)) _ _ _ h23 ()
  clear hF h23;rintro v6 ⟨⟩ r hF;unfold lK at hF;refine Wk.seq<|Wk.region<|Wo.od (aj rfl rfl (bh _ _ _)) rfl<|Wo.nil<|At.tn<|Wk.seq ?_;rcases ah hF with⟨h16,hF⟩|⟨h16,hF⟩
  ·refine Wk.aB rfl h16<|Wk.skip<|At.tn<|Wk.seq<|Wk.block<|Wk.seq<|Wk.region ?_;obtain⟨h17,hF⟩:=ay hF;replace h17:=aG h17;refine Wo.fF (k:=0) rfl (dq h17) ?_;rintro b18 o19 rfl;refine Wo.og (cq vY rfl rfl h17) gn rfl ?_;obtain⟨x20,h21,hF⟩:=J hF;refine Wo.od (cx (k:=0) aW rfl rfl (bp h21) rfl rfl) rfl<|Wo.od (ak rfl) rfl<|Wo.nil<|At.tn<|Wk.seq<|Wk.region<|Wo.od (ae rfl) rfl<|Wo.od (ae rfl) rfl<|Wo.od (aj rfl rfl (ep _ _)) rfl<|Wo.nil<|At.tn ?_;rcases ah hF with⟨h22,hF⟩|⟨h22,hF⟩
   ·refine Wk.aB rfl h22<|Wk.seq<|Wk.region<|Wo.od (ae rfl) rfl<|Wo.od (ak rfl) rfl<|Wo.nil<|At.tn<|Wk.ret<|At.br<|At.tr ?_;cases hF;exact At.en () rfl (sc rfl sn) (aa.U [] rfl rfl)
   ·refine Wk.aA rfl h22<|Wk.skip<|At.bn<|At.tn<|Wk.region<|Wo.od (aj rfl rfl (az _ _ _)) rfl<|Wo.od (ae rfl) rfl<|Wo.nil ?_;cases hF;exact At.en () rfl (sc rfl (sc rfl (sc rfl (sc rfl sn)))) (aa.U [1] rfl rfl)
  ·refine Wk.aA rfl h16<|Wk.exit<|At.te ?_;cases hF;exact At.en () rfl (sc rfl sn) (aa.U [] rfl rfl)
 ·clear h23;rcases r24 with v15|_
  ·rintro⟨⟩;refine At.br<|At.tr ?_;have hr:=Option.some.inj hF;subst r;exact At.ret (.tmp rfl .nil) fun m' hm=>⟨(),rfl,(aa.U [] rfl rfl) m' hm⟩
  ·rintro⟨⟩;refine At.be<|At.tn<|Wk.seq<|Wk.region<|Wo.od (ae rfl) rfl<|Wo.od (ak rfl) rfl<|Wo.nil<|At.tn<|Wk.ret ?_;cases hF;exact At.ret (.tmp rfl .nil) fun m' hm=>⟨(),rfl,(aa.U [] rfl rfl) m' hm⟩
theorem oV (n:Nat) (x1:Int) (x2:Int) (x3:Int) (x4:Int)  (r:Int) (hF:AA n x1 x2 x3 x4=some r) (m:AMem)  :
  aR lN 52 [.agg #[.int .i64 x1,.int .i64 x2],.agg #[.int .i64 x3,.int .i64 x4]] m (fun v m'=>∃_:Unit,v = .int .i64 r∧Hp m m' []):=by
 unfold AA at hF;refine aP (m0:=m) (ps:=[]) (N:=17) (rs:=[.tmp 4]) rfl Tryz.func52 rfl rfl rfl (Hp.start m)<|Wk.seq<|Wk.region<|Wo.x (cQ rfl) gn rfl fun b5=>?_;refine Wo.x (cQ rfl) gn rfl fun b6=>?_;refine Wo.od (ak rfl) rfl<|Wo.nil<|At.tn<|Wk.seq<|Wk.gP (prs:=[(4,6),(4,8)]) (by kernel_rfl)<|Wn.od (aw (r:=ptr b5 0) rfl (aJ _ _)) rfl<|Wn.od (ai (k:=1) aW rfl rfl rfl) rfl<|Wn.od (aw (r:=ptr b6 0) rfl (aJ _ _)) rfl<|Wn.od (ai (k:=0) aW rfl rfl rfl) rfl ?_
 obtain⟨r8,h7,hF⟩:=J hF;refine Wn.c (fJ rfl rfl (fun m hm=>mE n x1 x3  _ h7 m) fun _=>rfl) gn rfl ?_;rintro⟨⟩;refine Wn.od (aw (r:=ptr b5 1) rfl (aF _ _)) rfl<|Wn.od (ai (k:=1) aW rfl rfl rfl) rfl<|Wn.od (aw (r:=ptr b6 1) rfl (aF _ _)) rfl<|Wn.od (ai (k:=0) aW rfl rfl rfl) rfl ?_;obtain⟨r10,h9,hF⟩:=J hF;refine Wn.c (fJ rfl rfl (fun m hm=>mE n x2 x4  _ h9 m) fun _=>rfl) gn rfl ?_;rintro⟨⟩;refine Wn.x (vQ (es:=([r8,r10]:List (Int)).map (eI .i64)) vY rfl (w9 vY z3 rfl rfl) rfl rfl) gn rfl fun b11=>?_;obtain⟨r13,h12,hF⟩:=J hF;refine Wn.c (fJ rfl rfl (fun m hm=>xy n ([r8,r10]) (some ⟨b11,0,none⟩) 2 _ h12 m (hm.rd (k:=0) rfl (.arr _ _ _ _ _))) fun _=>rfl) gn rfl ?_;rintro⟨⟩;refine Wn.od (ak rfl) rfl<|Wn.nil (fun m hm=>hI.all rfl)<|At.tn<|Wk.ret ?_;have hr:=Option.some.inj hF;subst r;exact At.ret (.tmp rfl .nil) fun m' hm=>⟨(),rfl,(aa.U [] rfl rfl) m' hm⟩
theorem G0 (n:Nat) (x1:Int) (x2:Int) (x3:Int) (x4:Int)  (r:Int) (hF:IM n x1 x2 x3 x4=some r) (m:AMem)  :
  aR lN 51 [.agg #[.int .i64 x1,.int .i64 x2],.agg #[.int .i64 x3,.int .i64 x4]] m (fun v m'=>∃_:Unit,v = .int .i64 r∧Hp m m' []):=by
 unfold IM at hF;refine aP (m0:=m) (ps:=[]) (N:=8) (rs:=[.tmp 4]) rfl Tryz.func51 rfl rfl rfl (Hp.start m)<|Wk.seq<|Wk.region<|Wo.x (cQ rfl) gn rfl fun b5=>?_;refine Wo.x (cQ rfl) gn rfl fun b6=>?_;refine Wo.od (ak rfl) rfl<|Wo.nil<|At.tn<|Wk.seq<|Wk.region<|Wo.od (ai (k:=1) ax rfl rfl rfl) rfl<|Wo.od (ai (k:=0) ax rfl rfl rfl) rfl ?_;obtain⟨r8,h7,hF⟩:=J hF;refine Wo.x (cL rfl rfl (fun m hm=>oV n x1 x2 x3 x4  _ h7 m) fun _=>rfl) gn rfl ?_;rintro⟨⟩;refine Wo.od (ak rfl) rfl<|Wo.nil<|At.tn<|Wk.ret ?_;have hr:=Option.some.inj hF;subst r;exact At.ret (.tmp rfl .nil) fun m' hm=>⟨(),rfl,(aa.U [] rfl rfl) m' hm⟩
end Go.Proofs.YthmekkhpddehjaaGreat.W51
end

section
namespace Go.Ab
open Go
end Go.Ab
end

section
namespace Go.Ab.W
open Go Go.Ab
section
variable {σ ρ τ : Type}
end
end Go.Ab.W
end

section
namespace Go.Ab.B
open Go Go.Ab Go.Ab.W
section
variable {α β σ ρ : Type}
theorem ng (a b:Option β):br true a b=a:=rfl
theorem gC (a b:Option β):br false a b=b:=rfl
theorem cw (a:Option β):gd true a=a:=rfl
theorem av (x:α) (f:α→Option β):ob (some x) f=f x:=rfl
theorem aY {p:Prop} [Decidable p] (h:p) (a b:Option β):br (decide p) a b=a:=by rw[decide_eq_true h]; rfl
theorem aX {p:Prop} [Decidable p] (h:¬p) (a b:Option β):br (decide p) a b=b:=by rw[decide_eq_false h]; rfl
theorem FE (c:Bool) (a b:Option β):br c a b=if c then a else b:=by cases c<;>rfl
theorem pC (c d:Bool):br c (some true) (some d)=some (c || d):=by cases c<;>rfl
theorem dC (c d:Bool):br c (some d) (some false)=some (c && d):=by cases c<;>rfl
theorem bD {i n:Nat} (h:i<n):cX (i:Int) n=true:=decide_eq_true ⟨Int.natCast_nonneg i,by simpa using h⟩
theorem aq {x:Int} (h1 : -9223372036854775808≤x) (h2:x<9223372036854775808):IntKind.wrap .i64 x=x:=wrap_i64 x h1 (by omega)
theorem bw {i:Nat} (h:i<4611686018427387904):IntKind.wrap .i64 ((i:Int)+1)=((i+1:Nat):Int):=by rw[aq (by omega) (by omega)]; rfl
theorem cC {body:σ→Option (σ ⊕ ρ)} {n:Nat} {s s':σ} (h:body s=some (.inl s')):dx body (n+1) s=dx body n s':=by simp only[dx,h]
theorem eg {body:σ→Option (σ ⊕ ρ)} {n:Nat} {s:σ} {r:ρ} (h:body s=some (.inr r)):dx body (n+1) s=some r:=by simp only[dx,h]
end
theorem cZ {u v B C:Int} (_:0≤B) (hu1 : -B≤u) (hu2:u≤B) (hv1 : -C≤v) (hv2:v≤C) : -(B*C)≤u*v∧u*v≤B*C:=by
 have hC:0≤C:=by omega
 have h1:0≤(B-u)*(C-v):=Int.mul_nonneg (by omega) (by omega)
 have h2:0≤(B+u)*(C+v):=Int.mul_nonneg (by omega) (by omega)
 have h3:0≤(B-u)*(C+v):=Int.mul_nonneg (by omega) (by omega)
 have h4:0≤(B+u)*(C-v):=Int.mul_nonneg (by omega) (by omega)
 have e1:(B-u)*(C-v)=B*C-B*v-u*C+u*v:=by rw[Int.sub_mul,Int.mul_sub,Int.mul_sub]; omega
 have e2:(B+u)*(C+v)=B*C+B*v+u*C+u*v:=by rw[Int.add_mul,Int.mul_add,Int.mul_add]; omega
 have e3:(B-u)*(C+v)=B*C+B*v-u*C-u*v:=by rw[Int.sub_mul,Int.mul_add,Int.mul_add]; omega
 have e4:(B+u)*(C-v)=B*C-B*v+u*C-u*v:=by rw[Int.add_mul,Int.mul_sub,Int.mul_sub]; omega
 omega
theorem re {α:Type} [DecidableEq α]:∀{l m:List α},l.Nodup→(∀a ∈ l,a ∈ m)→l.length≤m.length
 | [],_,_,_=>Nat.zero_le _
 | a::l,m,hn,hs=>by
  obtain⟨n1,n2⟩:=List.nodup_cons.1 hn;have ha:=hs a List.mem_cons_self;have:=re (l:=l) (m:=m.erase a) n2 fun b hb=>by
   have hne:b≠a:=fun e=>n1 (e ▸ hb);exact(List.mem_erase_of_ne hne).2 (hs b (List.mem_cons_of_mem _ hb))
  rw[List.length_erase_of_mem ha] at this;have hp:0<m.length:=List.length_pos_of_mem ha;rw[List.length_cons]; omega
end Go.Ab.B
end
