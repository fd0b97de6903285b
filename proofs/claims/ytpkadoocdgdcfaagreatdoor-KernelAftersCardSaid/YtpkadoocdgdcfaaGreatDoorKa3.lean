/- A part of the proof. -/
import Derived.Test.YtpkadoocdgdcfaaGreatDoorKa2
import Derived.ChangeStays
import Derived.ChangeShapes
import Derived.OpenShut
import Derived.RowKit
import Derived.Shelf.Spec.BitsCarry
import Derived.Test.YtpkadoocdgdcfaaGreatDoorRows
import Derived.Test.YtpkadoocdgdcfaaGreatDoorTie
import Derived.Test.YtpkadoocdgdcfaaGreatDoorCards
import Derived.ProofKit
import Derived.LaidMore
import Derived.Stop.Joined
import Derived.SevenTiedAt
set_option linter.all false
section
namespace Go.Ab
open Go
structure Sem where
 run:Hand->WA Nat->Tm->V7->(V8->Tm->V7->Bool)->Bool
noncomputable def fi (e:V8) (a:Bool) (b:Nat->Bool) (c:Bool):Bool:=V8.rec (motive:=fun _=>Bool) a b c e
noncomputable def Ih (S:Sem):Nat->Hand->WA Nat->Tm->V7->(V8->Tm->V7->Bool)->Bool :=
 Nat.rec (fun _ _ _ _ _=>false) fun _ ih H ro t m K=>S.run H ro t m fun e t m=>fi e (ih H ro t m K) (fun id=>K (.exit id) t m) (K .ret t m)
noncomputable def ri (s:LoopState) (ready busy other:Bool):Bool:=LoopState.rec (motive:=fun _=>Bool) ready busy other other s
noncomputable def tT (ro:WA Nat) (m:V7) (x:Bool):Bool:=Option.rec (motive:=fun _=>Bool) x (fun l=>s7 m l fun _=>x) ro
noncomputable def J8 {α:Type} (o:WA α):Bool:=Option.rec (motive:=fun _=>Bool) true (fun _=>false) o
noncomputable def OO (E:Env) (H:Hand) (f:Fn) (first captured:WD Vs) (l:Nat) (m:V7) (K:Vs->V7->Bool):Bool :=
 Fn.rec (motive:=fun _=>Bool) (fun g=>dD (J8 (E.cQ g)) (kY first.toList [.func (.yield l) #[] #[]] fun ars=>kY ars captured.toList fun ars=>H.call g ars m K) false) (fun _=>false) (fun _ _=>false) (fun _ _ _ _=>false) (fun _=>false) f
noncomputable def iA (E:Env) (n:Nat) (fn:WJ):Code->Sem
 | .skip=>⟨fun _ _ t m K=>K .normal t m⟩
 | .label _=>⟨fun _ _ t m K=>K .normal t m⟩
 | .exit id=>⟨fun _ _ t m K=>K (.exit id) t m⟩
 | .ret=>⟨fun _ _ t m K=>K .ret t m⟩
 | .seq a b=>⟨fun H ro t m K=>(iA E n fn a).run H ro t m fun e t m=>fi e ((iA E n fn b).run H ro t m K) (fun id=>K (.exit id) t m) (K .ret t m)⟩
 | .cond x a b=>⟨fun H ro t m K=>(cU E x).run t fun v=>qo v (fun c=>dD c ((iA E n fn a).run H ro t m K) ((iA E n fn b).run H ro t m K)) false⟩
 | .block id a=>⟨fun H ro t m K=>(iA E n fn a).run H ro t m fun e t m=>fi e (K .normal t m) (fun id'=>dD (Nat.beq id' id) (K .normal t m) (K (.exit id') t m)) (K .ret t m)⟩
 | .scope a=>⟨fun H ro t m K=>(iA E n fn a).run H ro t m K⟩
 | .loop a=>⟨fun H ro t m K=>Ih (iA E n fn a) 1000000 H ro t m K⟩
 | .region _ ops draw=>⟨fun H _ t m K=>(Lz E n ops draw).run H t m fun t m=>K .normal t m⟩
 | .rangeFunc f params assign body=>⟨fun H ro t m K=>tT ro m ((cU E f).run t fun fv=>Hs fv fun g first captured =>
   de m (.loop { state:=.ready,pending:=none,fn:=fn,tmps:=t,n:=n,params:=params,assign:=assign,body:=body}) fun l m1=>OO E H g first captured l m1 fun _ m2 =>
    s7 m2 l fun r=>ALoop.rec (motive:=fun _=>Bool) (fun state pending fn' tmps' n' params' assign' body'=>ri state
     (cT m2 l (.loop ⟨.exhausted,pending,fn',tmps',n',params',assign',body'⟩) fun m3=>Option.rec (motive:=fun _=>Bool) (K .normal t m3) (fun c=>Code.rec (motive:=fun _=>Bool) false (fun _ _ _=>false) (fun _ _ _ _=>false) (fun _ _ _ _ _=>false) (fun _ _ _=>false) (fun _ _=>false) (fun _ _ _ _ _ _=>false) (fun id=>K (.exit id) t m3) (fun _ _=>false) (fun _=>false) (fun _=>false) (K .ret t m3) (fun _=>false) c) pending)
     false
     (cT m2 l (.loop ⟨.exhausted,pending,fn',tmps',n',params',assign',body'⟩) fun m3=>Option.rec (motive:=fun _=>Bool) (K .normal t m3) (fun c=>Code.rec (motive:=fun _=>Bool) false (fun _ _ _=>false) (fun _ _ _ _=>false) (fun _ _ _ _ _=>false) (fun _ _ _=>false) (fun _ _=>false) (fun _ _ _ _ _ _=>false) (fun id=>K (.exit id) t m3) (fun _ _=>false) (fun _=>false) (fun _=>false) (K .ret t m3) (fun _=>false) c) pending)) r)⟩
 | .goto _=>⟨fun _ _ _ _ _=>false⟩
 | .refuse _=>⟨fun _ _ _ _ _=>false⟩
section
variable{E:Env}{n:Nat}{fn:WJ}{ro:WA Nat}{Q:V8->Tm->V7->Prop}{t:Tm}{m:V7}
def OA(E:Env)(n:Nat)(fn:WJ)(ro:WA Nat)(t:Tm)(l:Nat)(Q:V8->Tm->V7->Prop)(m2:V7):Prop :=
 ∃r,m2.get l=some (.loop r)/\r.state≠.busy/\((r.pending=none/\Q .normal t (m2.set l (.loop { r with state:=.exhausted})))\/(∃c,r.pending=some c/\bu E n fn ro c Q t (m2.set l (.loop { r with state:=.exhausted}))))
def bu.rangeFunc{f:Vu}{params:WD Tmp}{assign body:Code}{g:WJ}{first captured:WD Vs}(hf:an E t f=some (.func (.func g) first captured))(ha:jU E ⟨t,n,fn,ro⟩ m f=true)
  (h:aB E g (first.toList++[.func (.yield m.next) #[] #[]]++captured.toList) (m.alloc (.loop { state:=.ready,pending:=none,fn:=fn,tmps:=t,n:=n,params:=params,assign:=assign,body:=body})) (fun _ m2=>OA E n fn ro t m.next Q m2)) :
  bu E n fn ro (.rangeFunc f params assign body) Q t m:=by
 obtain⟨v,m2,⟨k1,h1⟩,r,hr,hb,hq⟩:=h;rcases hq with⟨hp,hq⟩|⟨c,hp,e,t',m',⟨k2,h2⟩,hq⟩
 ·refine⟨_,_,_,aY (k:=k1) ?_,hq⟩;cases hs:r.state with
  | busy=>exact Tl hs hb
  | _=>simp only[step,hf,ha,h1,hr,hs,hp]
 ·refine⟨_,_,_,aY (k:=max k1 k2) ?_,hq⟩;obtain⟨state,pending,fn',tmps',n',params',assign',body'⟩:=r;have hp':pending=some c:=hp;subst hp';have h2':=kf (Nat.le_max_right k1 k2) h2;cases state with
  | busy=>exact Tl rfl hb
  | _=>simp only[step,hf,ha,kf (Nat.le_max_left k1 k2) h1,hr,h2']
def Sl(ro:WA Nat)(m:V7):Bool :=
 match ro with
 | none=>true
 | some l=>match m.get l with
  | some (.loop _)=>true
  | _=>false
def qI{x:Bool}(h:tT ro m x=true):x=true/\Sl ro m=true:=by
 cases ro with
 | none=>exact⟨h,rfl⟩
 | some l =>
  obtain⟨r,h1,h2⟩:=iG h;exact⟨h2,by simp only[Sl,h1]⟩
def cJ{e:V8}{a:Bool}{b:Nat->Bool}{c:Bool}(h:fi e a b c=true):(e=.normal/\a=true)\/(∃id,e=.exit id/\b id=true)\/(e=.ret/\c=true):=by
 cases e with
 | normal=>exact .inl ⟨rfl,h⟩
 | exit id=>exact .inr (.inl ⟨id,rfl,h⟩)
 | ret=>exact .inr (.inr ⟨rfl,h⟩)
def yP{H:Hand}{a:Code}{S:Sem}(hS:∀{t:Tm} {m:V7} {K:V8->Tm->V7->Bool},S.run H ro t m K=true->bu E n fn ro a (fun e t m=>K e t m=true) t m){K:V8->Tm->V7->Bool} :
  ∀(k:Nat) {t:Tm} {m:V7},Ih S k H ro t m K=true->vh E n fn ro a (fun e t m=>K e t m=true) t m
 | 0,t,m,h=>by cases h
 | k+1,t,m,h=>by
  have h':(S.run H ro t m fun e t m=>fi e (Ih S k H ro t m K) (fun id=>K (.exit id) t m) (K .ret t m))=true:=h;refine .round ((hS h').mono fun e t m h=>?_);rcases cJ h with⟨rfl,h⟩|⟨id,rfl,h⟩|⟨rfl,h⟩
  exact yP hS k h
  exact h
  exact h
def BY{c:Code}{a:Nat->Bool}{b:Bool}(h:Code.rec (motive:=fun _=>Bool) false (fun _ _ _=>false) (fun _ _ _ _=>false) (fun _ _ _ _ _=>false) (fun _ _ _=>false) (fun _ _=>false) (fun _ _ _ _ _ _=>false) a (fun _ _=>false) (fun _=>false) (fun _=>false) b (fun _=>false) c=true) :
  (∃id,c=.exit id/\a id=true)\/(c=.ret/\b=true):=by
 cases c<;>first|exact .inl ⟨_,rfl,h⟩|exact .inr ⟨rfl,h⟩|cases h
def lL{H:Hand}(hH:B1 E H):∀(c:Code) {ro:WA Nat} {t:Tm} {m:V7} {K:V8->Tm->V7->Bool},(iA E n fn c).run H ro t m K=true->bu E n fn ro c (fun e t m=>K e t m=true) t m:=by
 intro c
 induction c with
 | skip=>intro ro t m K h; exact .skip h
 | label l=>intro ro t m K h; exact .label h
 | exit id=>intro ro t m K h; exact .exit h
 | ret=>intro ro t m K h; exact .ret h
 | seq a b iha ihb =>
  intro ro t m K h;refine .seq ((iha (K:=fun e t m=>fi e ((iA E n fn b).run H ro t m K) (fun id=>K (.exit id) t m) (K .ret t m)) h).mono fun e t m h=>?_);rcases cJ h with⟨rfl,h⟩|⟨id,rfl,h⟩|⟨rfl,h⟩
  exact ihb h
  exact h
  exact h
 | cond x a b iha ihb =>
  intro ro t m K h;obtain⟨v,h1,h⟩:=aS (x:=x) h;obtain⟨c,rfl,h⟩:=iJ h;refine .cond h1 (fun hc=>?_) (fun hc=>?_)
  subst hc; exact iha h
  subst hc; exact ihb h
 | block id a ih =>
  intro ro t m K h;refine .block ((ih (K:=fun e t m=>fi e (K .normal t m) (fun id'=>dD (Nat.beq id' id) (K .normal t m) (K (.exit id') t m)) (K .ret t m)) h).mono fun e t m h=>?_);rcases cJ h with⟨rfl,h⟩|⟨id',rfl,h⟩|⟨rfl,h⟩
  exact h
  simp only[dV];rcases cA h with⟨h1,h⟩|⟨h1,h⟩
  rw[S7 (S0 h1)]; exact h
  rw[S8 (UF h1)]; exact h
  exact h
 | scope a ih=>intro ro t m K h; exact .scope (ih h)
 | loop a ih=>intro ro t m K h; exact .loop (yP (fun h=>ih h) 1000000 h)
 | region id ops draw=>intro ro t m K h; exact Dk hH (fun t m h=>h) h
 | rangeFunc f params assign body iha ihb =>
  intro ro t m K h;obtain⟨h,hro⟩:=qI h;obtain⟨fv,h1,h⟩:=aS (x:=f) h;have g:=tq h; clear h; obtain⟨g,first,captured,rfl,h⟩:=g
  rw[ca] at h;cases g with
  | func g =>
   have g':=aV h; clear h; obtain⟨hp,h⟩:=g';rw[fD,fD] at h;have hp':(E.cQ g).isNone=true:=by cases hg:E.cQ g with
    | none=>rfl
    | some p=>rw[hg] at hp; cases hp
   have hro':jU E ⟨t,n,fn,ro⟩ m f=true:=by
    unfold jU;simp only[h1,hp',Bool.true_and];exact hro
   refine .rangeFunc h1 hro' ((hH.1 h).mono fun v m2 h=>?_);obtain⟨r,hr,h⟩:=iG h;refine⟨r,hr,?_⟩;obtain⟨state,pending,fn',tmps',n',params',assign',body'⟩:=r;have key:∀{x:Bool},(x=cT m2 m.next (.loop ⟨.exhausted,pending,fn',tmps',n',params',assign',body'⟩) fun m3=>Option.rec (motive:=fun _=>Bool) (K .normal t m3) (fun c=>Code.rec (motive:=fun _=>Bool) false (fun _ _ _=>false) (fun _ _ _ _=>false) (fun _ _ _ _ _=>false) (fun _ _ _=>false) (fun _ _=>false) (fun _ _ _ _ _ _=>false) (fun id=>K (.exit id) t m3) (fun _ _=>false) (fun _=>false) (fun _=>false) (K .ret t m3) (fun _=>false) c) pending)->x=true ->
     ((pending=none/\K .normal t (m2.set m.next (.loop ⟨.exhausted,pending,fn',tmps',n',params',assign',body'⟩))=true)\/(∃c,pending=some c/\bu E n fn ro c (fun e t m=>K e t m=true) t (m2.set m.next (.loop ⟨.exhausted,pending,fn',tmps',n',params',assign',body'⟩)))):=by
    intro x hx hx';rw[hx,cK] at hx';cases pending with
    | none=>exact .inl ⟨rfl,hx'⟩
    | some c =>
     rcases BY hx' with⟨id,rfl,h⟩|⟨rfl,h⟩
     exact .inr ⟨_,rfl,.exit h⟩
     exact .inr ⟨_,rfl,.ret h⟩
   cases state with
   | busy=>cases h
   | ready=>exact⟨(by intro e; cases e),key rfl h⟩
   | done=>exact⟨(by intro e; cases e),key rfl h⟩
   | exhausted=>exact⟨(by intro e; cases e),key rfl h⟩
  | _=>cases h
 | goto l=>intro ro t m K h; cases h
 | refuse w=>intro ro t m K h; cases h
end
structure ResSem where
 run:Tm->V7->(WB Vs->Bool)->Bool
noncomputable def A2 (E:Env):WB ResultVar->ResSem
 | []=>⟨fun _ _ k=>k []⟩
 | .tmp i::rs=>⟨fun t m k=>(zm i).run t fun v=>(A2 E rs).run t m fun vs=>k (v::vs)⟩
 | .cell a ty::rs=>⟨fun t m k=>(zm a).run t fun p=>(zW E.P ty).run p m fun v=>(A2 E rs).run t m fun vs=>k (v::vs)⟩
def ml{E:Env}{t:Tm}{m:V7}:∀{rs:WB ResultVar} {k:WB Vs->Bool},(A2 E rs).run t m k=true->∃vs,bT E t m rs=some vs/\k vs=true
 | [],k,h=>⟨[],rfl,h⟩
 | .tmp i::rs,k,h=>by
  have h':=rO (d:=i) h;obtain⟨vs,h1,h2⟩:=ml h';exact⟨_,by simp only[bT,h1,SZ],h2⟩
 | .cell a ty::rs,k,h=>by
  have h':=rO (d:=a) h;obtain⟨v,h1,h'⟩:=tS h';obtain⟨vs,h2,h3⟩:=ml h';exact⟨_,by simp only[bT,h1,h2],h3⟩
noncomputable def Is (vs:WB Vs) (k:Vs->Bool):Bool :=
 List.rec (motive:=fun _=>Bool) (k (.tuple #[])) (fun v rest _=>List.rec (motive:=fun _=>Bool) (k v) (fun w rest' _=>k (.tuple ⟨v::w::rest'⟩)) rest) vs
def qX(vs:WB Vs)(k:Vs->Bool):Is vs k=k (fg vs):=by
 match vs with
 | []=>rfl
 | [v]=>rfl
 | v::w::rest=>rfl
noncomputable def xG (args:WB Vs):Nat->Tm->(Tm->Bool)->Bool :=
 List.rec (motive:=fun _=>Nat->Tm->(Tm->Bool)->Bool) (fun _ t k=>k t) (fun v _ ih i t k=>(gT i).run t v fun t=>fN (Nat.succ i) fun i=>ih i t k) args
def pT:∀(args:WB Vs) (i:Nat) (t:Tm) (k:Tm->Bool),i+args.length<=512->xG args i t k=k (Trie.ofList args i t)
 | [],i,t,k,_=>rfl
 | v::vs,i,t,k,h=>by
  have hi:i<512:=by simp at h; omega
  show(gT i).run t v (fun t=>fN (Nat.succ i) fun i=>xG vs i t k)=_
  rw[fQ i hi,cW,pT vs (i+1) _ k (by simp at h; omega)]
  rfl
structure FunSem where
 run:Hand->WB Vs->V7->(Vs->V7->Bool)->Bool
structure PSem where
 run:WB Vs->V7->(Vs->V7->Bool)->Bool
def Oo(E:Env)(F:WJ->WA PSem):Prop:=∀{f:WJ} {S:PSem},F f=some S->∃p,E.cQ f=some p/\∀{args:WB Vs} {m:V7} {K:Vs->V7->Bool},S.run args m K=true->∃v m',p.run args m=some (v,m')/\K v m'=true
noncomputable def DT (E:Env) (f:WJ):FunSem :=
 match E.P.funcs[f]? with
 | some fn=>match fn.body,Nat.ble fn.ntmps 512 with
  | some c,true=>⟨fun H args m K=>dD (Nat.ble args.length fn.ntmps) (xG args 0 .nil fun t=>(iA E fn.ntmps f c).run H none t m fun e t m=>fi e ((A2 E fn.results.toList).run t m fun vs=>Is vs fun v=>K v m) (fun _=>false) ((A2 E fn.results.toList).run t m fun vs=>Is vs fun v=>K v m)) false⟩
  | _,_=>⟨fun _ _ _ _=>false⟩
 | none=>⟨fun _ _ _ _=>false⟩
noncomputable def NJ (E:Env) (F:WJ->WA PSem) (f:WJ):FunSem :=
 match F f with
 | some S=>⟨fun _ args m K=>S.run args m K⟩
 | none=>match E.cQ f with
  | some p=>⟨fun H args m K=>Option.rec (motive:=fun _=>Bool) ((DT E f).run H args m K) (fun r=>Prod.rec (motive:=fun _=>Bool) (fun v m'=>fV v fun v=>fM m' fun m'=>K v m') r) (p.run args m)⟩
  | none=>DT E f
def aB.cQ{E:Env}{f:WJ}{p:Prim}{args:WB Vs}{m m':V7}{v:Vs}{R:Vs->V7->Prop}(hp:E.cQ f=some p)(h:p.run args m=some (v,m'))(hR:R v m'):aB E f args m R:=by
 have hpa:mT E f args m=some (v,m'):=by
  unfold mT;rw[hp];exact h
 exact⟨v,m',aY (k:=0) (by simp only[step,hpa]),hR⟩
def Ah{E:Env}{H:Hand}(hH:B1 E H){f:WJ}{args:WB Vs}{m:V7}(hpa:mT E f args m=none){K:Vs->V7->Bool}(h:(DT E f).run H args m K=true):aB E f args m fun v m'=>K v m'=true:=by
 unfold DT at h
 split at h
 rename_i F hf
 split at h
 rename_i c hb hn;have g:=aV h; clear h; obtain⟨h1,h⟩:=g;have hle:=S6 h1;have hn':=S6 hn;rw[pT args 0 _ _ (by omega)] at h
 have hmax:max args.length F.ntmps=F.ntmps:=Nat.max_eq_right hle;refine .O6 hpa hf hb ?_;rw[hmax];refine(lL hH c h).mono fun e t m h=>?_;rcases cJ h with⟨rfl,h⟩|⟨id,rfl,h⟩|⟨rfl,h⟩
 obtain⟨vs,h2,h⟩:=ml h;rw[qX] at h;exact⟨fun id e=>(by cases e),vs,h2,h⟩
 cases h
 obtain⟨vs,h2,h⟩:=ml h;rw[qX] at h;exact⟨fun id e=>(by cases e),vs,h2,h⟩
 cases h
 cases h
def JK{E:Env}{F:WJ->WA PSem}(hF:Oo E F){H:Hand}(hH:B1 E H){f:WJ}{args:WB Vs}{m:V7}{K:Vs->V7->Bool}(h:(NJ E F f).run H args m K=true):aB E f args m fun v m'=>K v m'=true:=by
 unfold NJ at h
 split at h
 rename_i S hS;obtain⟨p,hp,hS'⟩:=hF hS;obtain⟨v,m',h1,h2⟩:=hS' h;exact .cQ hp h1 h2
 split at h
 ·rename_i p hp;simp only at h;cases he:p.run args m with
  | none =>
   rw[he] at h;exact Ah hH (by unfold mT; rw[hp]; exact he) h
  | some r =>
   obtain⟨v,m'⟩:=r;rw[he] at h;simp only[C6,yr] at h;exact .cQ hp he h
 rename_i hp;exact Ah hH (by unfold mT; rw[hp]; rfl) h
noncomputable def kn (n:Nat):WB Tmp->WB Vs->Tm->(Tm->Bool)->Bool
 | p::ps,v::vs,t,k=>(kJ n (some p)).run t v fun t=>kn n ps vs t k
 | _,_,t,k=>k t
def oc{n:Nat}:∀{ps:WB Tmp} {vs:WB Vs} {t:Tm} {k:Tm->Bool},kn n ps vs t k=true->∃t',fu n t ps vs=some t'/\k t'=true
 | p::ps,v::vs,t,k,h=>by
  have h':((kJ n (some p)).run t v fun t=>kn n ps vs t k)=true:=by rw[kn] at h; exact h
  obtain⟨t',hp,h2⟩:=fb h';obtain⟨t'',h3,h4⟩:=oc h2;refine⟨t'',?_,h4⟩;unfold fu;unfold gb at hp;simp only at hp
  split at hp
  rename_i hb; cases hp; exact h3
  cases hp
 | [],vs,t,k,h=>⟨t,by unfold fu; rfl,by rw[kn] at h; exact h; intros; simp_all⟩
 | p::ps,[],t,k,h=>⟨t,by unfold fu; rfl,by rw[kn] at h; exact h; intros; simp_all⟩
noncomputable def Ip (E:Env) (H:Hand) (l:Nat) (args:WB Vs) (m:V7) (K:Vs->V7->Bool):Bool :=
 s7 m l fun r=>ALoop.rec (motive:=fun _=>Bool) (fun state _ fn tmps n params assign body=>ri state
  (dD (Nat.beq args.length params.size) (kn n params.toList args tmps fun t0=>(iA E n fn assign).run H (some l) t0 m fun e t1 m1=>fi e
   (s7 m1 l fun r1=>ALoop.rec (motive:=fun _=>Bool) (fun state1 pending1 fn1 tmps1 n1 params1 assign1 body1=>ri state1
    (cT m1 l (.loop ⟨.busy,pending1,fn1,tmps1,n1,params1,assign1,body1⟩) fun m1'=>(iA E n fn body).run H (some l) t1 m1' fun e _ m2=>s7 m2 l fun r2=>ALoop.rec (motive:=fun _=>Bool) (fun _ _ fn2 tmps2 n2 params2 assign2 body2 =>
     fi e (cT m2 l (.loop ⟨.ready,none,fn2,tmps2,n2,params2,assign2,body2⟩) fun m3=>K (.bool true) m3)
      (fun id=>cT m2 l (.loop ⟨.done,some (.exit id),fn2,tmps2,n2,params2,assign2,body2⟩) fun m3=>K (.bool false) m3)
      (cT m2 l (.loop ⟨.done,some .ret,fn2,tmps2,n2,params2,assign2,body2⟩) fun m3=>K (.bool false) m3)) r2)
    false false) r1)
   (fun _=>false) false) false)
  false false) r
def mU{s:LoopState}{a:Bool}(h:ri s a false false=true):s=.ready/\a=true:=by
 cases s<;>first|exact⟨rfl,h⟩|cases h
def Fh{E:Env}{H:Hand}(hH:B1 E H){l:Nat}{args:WB Vs}{m:V7}{K:Vs->V7->Bool}(h:Ip E H l args m K=true):wX E l args m fun v m'=>K v m'=true:=by
 obtain⟨r,hr,h⟩:=iG h;obtain⟨state,pending,fn,tmps,n,params,assign,body⟩:=r;have g:=mU h; clear h; obtain⟨rfl,h⟩:=g;obtain⟨h1,h⟩:=aV h;obtain⟨t0,h2,h⟩:=oc h;obtain⟨e,t1,m1,⟨k1,h3⟩,h⟩:=lL hH assign h;rcases cJ h with⟨rfl,h⟩|⟨id,rfl,h⟩|⟨rfl,h⟩
 obtain⟨r1,hr1,h⟩:=iG h;obtain⟨state1,pending1,fn1,tmps1,n1,params1,assign1,body1⟩:=r1;have g:=mU h; clear h; obtain⟨rfl,h⟩:=g;rw[cK] at h;obtain⟨e,t2,m2,⟨k2,h4⟩,h⟩:=lL hH body h;obtain⟨r2,hr2,h⟩:=iG h;obtain⟨state2,pending2,fn2,tmps2,n2,params2,assign2,body2⟩:=r2;have hlen:¬args.length≠params.size:=by have:=S0 h1; omega
 have hb:step E (run E (max k1 k2)) (.round l args m)=some (.val (.bool (xy e).isNone) (m2.set l (.loop ⟨if(xy e).isNone then .ready else .done,xy e,fn2,tmps2,n2,params2,assign2,body2⟩))):=by
  simp only[step,hr,S8 hlen,h2,kf (Nat.le_max_left k1 k2) h3,hr1,kf (Nat.le_max_right k1 k2) h4,hr2]
 rcases cJ h with⟨rfl,hz⟩|⟨id,rfl,hz⟩|⟨rfl,hz⟩
 rw[cK] at hz;exact⟨_,_,aY (k:=max k1 k2) hb,hz⟩
 rw[cK] at hz;exact⟨_,_,aY (k:=max k1 k2) hb,hz⟩
 rw[cK] at hz;exact⟨_,_,aY (k:=max k1 k2) hb,hz⟩
 cases h
 cases h
noncomputable def hand (E:Env) (F:WJ->WA PSem):Nat->Hand :=
 Nat.rec ⟨fun _ _ _ _=>false,fun _ _ _ _=>false⟩ fun _ ih=>⟨fun f args m K=>(NJ E F f).run ih args m K,fun l args m K=>Ip E ih l args m K⟩
def ou{E:Env}{F:WJ->WA PSem}(hF:Oo E F):∀n,B1 E (hand E F n)
 | 0=>⟨fun h=>(by cases h),fun h=>(by cases h)⟩
 | n+1=>⟨fun h=>JK hF (ou hF n) h,fun h=>Fh (ou hF n) h⟩
def wA{E:Env}{F:WJ->WA PSem}(hF:Oo E F){n:Nat}{f:WJ}{args:WB Vs}{m:V7}{K:Vs->V7->Bool}(h:(hand E F n).call f args m K=true):∃fuel v m',run E fuel (.call f args m)=some (.val v m')/\K v m'=true:=by
 obtain⟨v,m',⟨k,h1⟩,h2⟩:=(ou hF n).1 h;exact⟨k,v,m',h1,h2⟩
noncomputable def Pt (n:Nat) (v:Vs) (m:V7):Bool:=qo v (fun b=>dD b (Nat.ble n m.wl) false) false
def An{E:Env}{F:WJ->WA PSem}(hF:Oo E F){n g:Nat}{f:WJ}{args:WB Vs}{m:V7}(h:(hand E F n).call f args m (Pt g)=true):∃fuel m',run E fuel (.call f args m)=some (.val (.bool true) m')/\g<=m'.wl:=by
 obtain⟨k,v,m',h1,h2⟩:=wA hF h;obtain⟨b,rfl,h2⟩:=iJ h2;obtain⟨rfl,h2⟩:=aV h2;exact⟨k,m',h1,S6 h2⟩
section
variable{E:Env}{n:Nat}{t:Tm}{m:V7}{K:Tm->V7->Prop}{ops:WD Oper}{os:WB Oper}{ty:Vt}{p:String}{af:WD Edge}{d:Nat}
variable{L:Tm->V7->WB Note->Prop}{ns:WB Note}
variable{a b r v:Vs}{x y:Vu}{e e':Vt}
def Mz(h:an E t x=some v)(K':Vs->V7->Prop):bt E t m (.move x) K'=K' v m:=by rw[Lv,h]; rfl
def Hm(h:an E t x=some v)(K':Vs->V7->Prop):bt E t m (.assign x) K'=K' v m:=by rw[FF,h]; rfl
def JJ{c:Vu}(hc:an E t c=some (.bool true))(h:an E t x=some v)(K':Vs->V7->Prop):bt E t m (.pick c x y) K'=K' v m:=by rw[DZ,hc,BO,h]; rfl
def JM{c:Vu}(hc:an E t c=some (.bool false))(h:an E t y=some v)(K':Vs->V7->Prop):bt E t m (.pick c x y) K'=K' v m:=by rw[DZ,hc,yQ,h]; rfl
def P9(h:an E t x=some v)(K':Vs->V7->Prop):bt E t m (.box e x) K'=K' (ptr m.next 0) (m.alloc (.cells v.cells.toList .own)):=by rw[Nf,h]; rfl
def PM{op:BinOp}(h:an E t x=some a)(h':an E t y=some b)(hr:bf op e E.P a b=some r)(K':Vs->V7->Prop):bt E t m (.binOp op e x y e') K'=K' r m:=by rw[Gd,h,ee,h',ee,hr]; rfl
def JL{op:UnOp}(h:an E t x=some a)(hr:BL op a=some r)(K':Vs->V7->Prop):bt E t m (.unOp op e x) K'=K' r m:=by rw[K7,h,ee,hr]; rfl
def NB(h:an E t x=some a)(hr:fI E.P e e' a=some r)(K':Vs->V7->Prop):bt E t m (.convert e e' x) K'=K' r m:=by rw[Bp,h,ee,hr]; rfl
def Ir(h:an E t x=some a)(hr:dG E.P e a m=some r)(K':Vs->V7->Prop):bt E t m (.load e x) K'=K' r m:=by rw[Ll,h,ee,hr]; rfl
def Lh{m':V7}(h:an E t x=some a)(h':an E t y=some b)(hr:fj E.P e a b m=some m')(K':Vs->V7->Prop):bt E t m (.store e x y) K'=K' undef m':=by rw[Jo,h,ee,h',ee,hr]; rfl
def zy{f:Nat}(h:an E t x=some a)(hr:aM E.P e a f=some r)(K':Vs->V7->Prop):bt E t m (.fieldAddr e x f) K'=K' r m:=by rw[wS,h,ee,hr]; rfl
def J4{f:Nat}(h:an E t x=some a)(hr:eW E.P e a f=some r)(K':Vs->V7->Prop):bt E t m (.field e x f) K'=K' r m:=by rw[HX,h,ee,hr]; rfl
def Ay(h:an E t x=some a)(h':an E t y=some b)(hr:bJ E.P e a b=some r)(K':Vs->V7->Prop):bt E t m (.indexAddr e x y) K'=K' r m:=by rw[wx,h,ee,h',ee,hr]; rfl
def CT(h:an E t x=some a)(h':an E t y=some b)(hr:eS E.P e a b=some r)(K':Vs->V7->Prop):bt E t m (.index e x y) K'=K' r m:=by rw[HV,h,ee,h',ee,hr]; rfl
def EH{i:Nat}{vs:WD Vs}(h:an E t x=some (.tuple vs))(hr:vs[i]? = some r)(K':Vs->V7->Prop):bt E t m (.extract x i) K'=K' r m:=by rw[Br h,hr]; rfl
def Et{l h k:WA Vu}{l' h' k':WA Vs}(h1:an E t x=some a)(h2:di E t l=some l')(h3:di E t h=some h')(h4:di E t k=some k')(hr:cE E.P e a l' h' k' m=some r)(K':Vs->V7->Prop):bt E t m (.slice e x l h k) K'=K' r m:=by rw[Ht h1 h2 h3 h4,hr]; rfl
def Kg{z:Vs}(hz:bK E.P e=some z)(hp:bw z=true)(K':Vs->V7->Prop):bt E t m (.alloc e) K'=K' (ptr m.next 0) (m.alloc (.cells z.cells.toList .own)):=by
 rw[I1]; simp only[cH,hz,hp,if_true]; rfl
def fp{bi:Builtin}{ars:WD Vu}{ts:WD Vt}{vs:WB Vs}{m':V7}(h:bE E t ars.toList=some vs)(hr:bp E.P bi ts vs m=some (r,m'))(K':Vs->V7->Prop):bt E t m (.call ⟨.builtin bi,ars,ts⟩) K'=K' r m':=by rw[BZ,h,ee,hr]; rfl
def Ik{op:Op}{m':V7}(hc:xB op=none)(hr:cH E t m op=some (r,m'))(K':Vs->V7->Prop):bt E t m op K'=K' r m':=by
 unfold bt; rw[hc]; simp only[hr]; rfl
def Rx{ops:WD Oper}{t:Tm}{dst:WA Tmp}{o:Op}{ty:Vt}{p:String}{a:WD Edge}{j d:Nat}{b c:Bool}(hd:(ops[j]?).bind (·.dst)=some d)(h:t.at d=.bool c):aU ops ⟨dst,o,ty,p,a,some (j,b)⟩ t=(c==b):=by
 rw[JA]; unfold cP; rw[hd]; simp only[Db h]
end
section
variable{E:Env}{n:Nat}{fn:WJ}{ro:WA Nat}{Q:V8->Tm->V7->Prop}{t:Tm}{m:V7}{w:Nat}
def iN(E:Env)(n:Nat)(ops:WD Oper)(K:Tm->V7->Prop):WB Oper->Tm->V7->Nat->Prop
 | [],t,m,w=>K t (m.ww w)
 | o::os,t,m,w =>
  if aU ops o t then(∀b,aP E t o.op=some b->b<m.next)/\bt E t (m.ww m.next) o.op fun v m'=>I4 (gb n t o.dst v) fun t'=>iN E n ops K os t' m' (min w m'.wl)
  else I4 (gb n t o.dst undef) fun t'=>iN E n ops K os t' m w
def vu{r:WA Nat}{x y:Nat}{z:WA Nat}{u:Nat->Bool}(h:∀b,r=some b->b<y):db { read:=r,wl:=x,next:=y,wrote:=z,kept:=u}=true:=by
 cases r with
 | none=>rfl
 | some b =>
  have:=h b rfl
  show Nat.blt b y=true
  rw[UI]; exact this
def nz{ops:WD Oper}{K:Tm->V7->Prop}:∀{os:WB Oper} {t:Tm} {m:V7} {w:Nat} {ns:WB Note},iN E n ops K os t m w->ns.all db=true->dO E n ops (fun t m ns=>ns.all db=true/\K t m) os t (m.ww w) ns
 | [],t,m,w,ns,h,hn=>⟨by simpa using hn,h⟩
 | o::os,t,m,w,ns,h,hn=>by
  simp only[iN] at h;simp only[dO]
  split at h
  ·rename_i hw;rw[S7 hw];obtain⟨h1,h2⟩:=h;refine h2.A.mono fun v m' hv=>?_;obtain⟨t',hp,h3⟩:=hv.A;refine⟨t',hp,?_⟩;have:=nz (ns:={ read:=aP E t o.op,wl:=m'.wl,next:=m.next,wrote:=dU E t o.op,kept:=gQ m m'}::ns) h3 (by rw[Uo,hn,Bool.and_true]; exact vu h1)
   exact this
  rename_i hw;rw[S8 hw];obtain⟨t',hp,h2⟩:=h.A;exact⟨t',hp,nz h2 (by rw[Uo,hn]; rfl)⟩
def bu.PE{id:Nat}{ops:WD Oper}(hp:jj ops=some [])(h:∀K:Tm->V7->Prop,(∀t m,Q .normal t m->K t m)->iN E n ops K ops.toList t m m.wl):bu E n fn ro (.region id ops true) Q t m:=by
 refine .draw hp ?_;have h1:=nz (ns:=[]) (h (fun t m=>Q .normal t m) fun _ _ h=>h) rfl;have mono:∀{os:WB Oper} {t:Tm} {m:V7} {ns:WB Note},dO E n ops (fun t m ns=>ns.all db=true/\Q .normal t m) os t m ns->dO E n ops (fun t m ns=>(([]:WB (Nat×Nat)).all (dv ns ops)&&ns.all db)=true/\Q .normal t m) os t m ns:=by
  intro os t m ns h
  simpa using h
 exact mono h1
variable{K:Tm->V7->Prop}{ops:WD Oper}{os:WB Oper}{ty:Vt}{p:String}{af:WD Edge}{d:Nat}{g:WA (Nat×Bool)}{v a b r:Vs}{x y:Vu}{e:Vt}
def KW{xs:WB Vu}{vs:WB Vs}(h:an E t x=some v)(hs:bE E t xs=some vs):bE E t (x::xs)=some (v::vs):=by simp only[bE,h,hs]
end
end Go.Ab
end
section
namespace Go.Ab.W
open Go Go.Ab
abbrev Fs:=WB (Nat×Vs)
def lk:Fs->Nat->WA Vs
 | [],_=>none
 | p::l,i=>match Nat.beq p.1 i with
  | true=>some p.2
  | false=>lk l i
def Fr(t:Tm)(fs:Fs):Prop:=∀i v,lk fs i=some v->t.at i=v
def Fr.nil(t:Tm):Fr t []:=fun i v h=>by cases h
def Fr.set{t:Tm}{fs:Fs}{d:Nat}{v:Vs}(h:Fr t fs):Fr (Trie.set t d v) ((d,v)::fs):=by
 intro i x hx;unfold lk at hx;rw[at_set]
 split at hx
 rename_i e;have:d=i:=S0 e;rw[S7 this.symm]; exact S3 hx
 rename_i e;have:d≠i:=UF e;rw[S8 (Ne.symm this)]; exact h i x hx
def sub(fs:Fs):Fs->Prop
 | []=>True
 | p::l=>lk fs p.1=some p.2/\sub fs l
def Fr.sub{t:Tm}{fs:Fs}:∀{fs':Fs},Fr t fs->sub fs fs'->Fr t fs'
 | [],_,_=>Fr.nil t
 | p::l,h,hs=>by
  intro i v hv;unfold lk at hv
  split at hv
  rename_i e;have:p.1=i:=S0 e;subst this;cases hv;exact h _ _ hs.1
  exact Fr.sub h hs.2 i v hv
def ev(E:Env)(fs:Fs):Vu->WA Vs
 | .tmp i=>lk fs i
 | .const v=>match bw v with
  | true=>some v
  | false=>none
 | .global g=>match Nat.blt g E.glob with
  | true=>some (ptr g 0)
  | false=>none
 | .func f=>some (.func (.func f) #[] #[])
def kP(E:Env)(fs:Fs):WB Vu->WA (WB Vs)
 | []=>some []
 | x::xs=>match ev E fs x with
  | some v=>match kP E fs xs with
   | some vs=>some (v::vs)
   | none=>none
  | none=>none
def FY(E:Env)(fs:Fs):WA Vu->WA (WA Vs)
 | none=>some none
 | some x=>match ev E fs x with
  | some v=>some (some v)
  | none=>none
def JF(E:Env)(fs:Fs):WB (Nat×Vu)->WA (WB (Nat×Vs))
 | []=>some []
 | x::xs=>match ev E fs x.2 with
  | some v=>match JF E fs xs with
   | some vs=>some ((x.1,v)::vs)
   | none=>none
  | none=>none
section
variable{E:Env}{t:Tm}{fs:Fs}
def Fr.ev(h:Fr t fs):∀{x:Vu} {v:Vs},ev E fs x=some v->an E t x=some v
 | .tmp i,v,e=>by show some (t.at i)=some v; rw[h i v e]
 | .const c,v,e=>by
  simp only[Go.Ab.W.ev] at e
  split at e
  rename_i hp; cases e; simp only[an]; rw[S7 hp]
  cases e
 | .global g,v,e=>by
  simp only[Go.Ab.W.ev] at e
  split at e
  rename_i hp; cases e; simp only[an]; rw[S7 (by rwa[UI] at hp)]
  cases e
 | .func f,v,e=>by simp only[Go.Ab.W.ev] at e; exact e
def Fr.kP(h:Fr t fs):∀{xs:WB Vu} {vs:WB Vs},kP E fs xs=some vs->bE E t xs=some vs
 | [],vs,e=>by simp only[Go.Ab.W.kP] at e; exact e
 | x::xs,vs,e=>by
  simp only[Go.Ab.W.kP] at e
  split at e
  rename_i v hv
  split at e
  rename_i ws hw;cases e;exact KW (h.ev hv) (Fr.kP h hw)
  cases e
  cases e
def Fr.FY(h:Fr t fs):∀{x:WA Vu} {v:WA Vs},FY E fs x=some v->di E t x=some v
 | none,v,e=>by simp only[Go.Ab.W.FY] at e; exact e
 | some x,v,e=>by
  simp only[Go.Ab.W.FY] at e
  split at e
  rename_i w hw; cases e; simp only[di]; rw[h.ev hw]; rfl
  cases e
def Fr.JF(h:Fr t fs):∀{xs:WB (Nat×Vu)} {vs:WB (Nat×Vs)},JF E fs xs=some vs->df E t xs=some vs
 | [],vs,e=>by simp only[Go.Ab.W.JF] at e; exact e
 | x::xs,vs,e=>by
  simp only[Go.Ab.W.JF] at e
  split at e
  rename_i v hv
  split at e
  rename_i ws hw;cases e;obtain⟨i,y⟩:=x;unfold df;rw[h.ev hv,Fr.JF h hw]
  cases e
  cases e
end
def ot(m:V7)(b o w:Nat)(es:Vp):Prop :=
 b<m.next/\∃all tg,m.get b=some (.cells all tg)/\(∀sz,tg=.more sz->sz=w)/\∀i e,es[i]? = some e->(all.drop (o+i*w)).take w=e/\e.length=w
def dx:Vq->WA Nat
 | some a=>some a.block
 | none=>none
def Rd(m:V7)(a:Vq)(cap w n:Nat)(es:Vp):Prop :=
 es.length=n/\n<=cap/\((a=none/\n=0)\/(∃b sp,a=some ⟨b,0,some sp⟩/\n=0/\cap=0/\b<m.next)\/∃b o,a=some ⟨b,o,none⟩/\ot m b o w es)
def Rd.lt{m:V7}{a:Vq}{cap w n:Nat}{es:Vp}(h:Rd m a cap w n es){b:Nat}(hb:dx a=some b):b<m.next:=by
 rcases h.2.2 with⟨rfl,_⟩|⟨b',sp,rfl,_,_,h4⟩|⟨b',o,rfl,h4⟩
 cases hb
 cases hb; exact h4
 cases hb; exact h4.1
def BJ(lo:Nat)(m:V7)(b w n:Nat)(es:Vp)(tg:Tag):Prop :=
 lo<=b/\b<m.next/\m.get b=some (.cells es.flatten tg)/\es.length=n/\(∀e∈es,e.length=w)/\(tg=.own\/tg=.more w)/\0<w
structure GPc where
 ow:Nat->Prop
 rd:Nat->Prop
 P:V7->Prop
 st:∀m m':V7,P m->m.next<=m'.next->(∀b,ow b\/rd b->b<m.next->m'.get b=m.get b)->P m'
 lt:∀(m:V7) b,P m->ow b\/rd b->b<m.next
 fr:Bool:=false
inductive Pc
 | obj (b:Nat) (o:V9)
 | arr (b w n:Nat) (es:Vp) (tg:Tag)
 | sl (a:Vq) (w n:Nat) (es:Vp)
 | rd (a:Vq) (cap w n:Nat) (es:Vp)
 | ro (b o w n:Nat) (es:Vp)
 | gen (g:GPc)
def Pc.qQ:Pc->WA Nat
 | .obj b _=>some b
 | .arr b _ _ _ _=>some b
 | .sl a _ _ _=>dx a
 | .rd a _ _ _ _=>dx a
 | .ro b _ _ _ _=>some b
 | .gen _=>none
def Pc.own:Pc->Bool
 | .obj _ _|.arr _ _ _ _ _|.sl _ _ _ _=>true
 | _=>false
def Pc.Sj:Pc->Nat->Prop
 | .gen g=>g.ow
 | _=>fun _=>False
def Pc.EO:Pc->Nat->Prop
 | .gen g=>fun b=>g.ow b\/g.rd b
 | _=>fun _=>False
def Pc.ow(p:Pc)(b:Nat):Prop:=(p.own=true/\p.qQ=some b)\/p.Sj b
def Pc.any(p:Pc)(b:Nat):Prop:=p.qQ=some b\/p.EO b
def Pc.iP{p:Pc}{b:Nat}(h:p.ow b):p.any b:=by
 rcases h with h|h
 exact .inl h.2
 ·cases p with
  | gen g=>exact .inr (.inl h)
  | _=>exact h.elim
def Pc.PZ{p:Pc}{b:Nat}(ho:p.own=true)(hb:p.qQ=some b):p.ow b:=.inl ⟨ho,hb⟩
def Pc.AP{p:Pc}{b:Nat}(ho:p.own=true)(h:p.any b):p.qQ=some b:=by
 rcases h with h|h
 exact h
 ·cases p with
  | gen g=>cases ho
  | _=>exact h.elim
def Pc.ok(lo:Nat)(m:V7):Pc->Prop
 | .obj b o=>lo<=b/\b<m.next/\m.get b=some o
 | .arr b w n es tg=>BJ lo m b w n es tg
 | .sl a w n es=>(n=0/\es=[]/\a=none/\0<w)\/∃b tg,a=some ⟨b,0,none⟩/\BJ lo m b w n es tg
 | .rd a cap w n es=>Rd m a cap w n es
 | .ro b o w n es=>es.length=n/\ot m b o w es
 | .gen g=>g.P m/\(g.fr=false->∀b,g.ow b->lo<=b)
def Pc.bound:Pc->Bool
 | .gen g=>!g.fr
 | _=>true
def Pc.apart(p q:Pc):Prop:=(∀b,p.ow b->q.any b->False)/\∀b,q.ow b->p.any b->False
structure Hp(m0 m:V7)(ps:WB Pc):Prop where
 ext:Ext m0 m
 ok:∀p∈ps,p.ok m0.next m
 apart:ps.Pairwise Pc.apart
def pk:WB Pc->Nat->WA Pc
 | [],_=>none
 | p::_,0=>some p
 | _::l,k+1=>pk l k
def da:WB Pc->Nat->Pc->WB Pc
 | [],_,_=>[]
 | _::l,0,p=>p::l
 | q::l,k+1,p=>q::da l k p
def iX(p:Pc)(l:WB Pc):pk (p::l) 0=some p:=rfl
def fe(p:Pc)(l:WB Pc)(k:Nat):pk (p::l) (k+1)=pk l k:=rfl
def lB:∀{ps:WB Pc} {k:Nat} {p:Pc},pk ps k=some p->p∈ps:=by
 intro ps
 induction ps with
 | nil=>intro k p h; simp[pk] at h
 | cons q l ih =>
  intro k p h;cases k with
  | zero=>rw[iX] at h; have:=S3 h; simp[this]
  | succ k=>rw[fe] at h; have:=ih h; simp[this]
def jQ(q:Pc)(l:WB Pc)(p:Pc):da (q::l) 0 p=p::l:=rfl
def ie(q:Pc)(l:WB Pc)(k:Nat)(p:Pc):da (q::l) (k+1) p=q::da l k p:=rfl
def vQ:∀{l:WB Pc} {k:Nat} {p r:Pc},r∈da l k p->r∈l\/r=p:=by
 intro l
 induction l with
 | nil=>intro k p r h; simp[da] at h
 | cons a l ih =>
  intro k p r h;cases k with
  | zero =>
   rw[jQ,Tt] at h;rcases h with h|h
   exact .inr h
   exact .inl (by simp[h])
  | succ k =>
   rw[ie,Tt] at h;rcases h with h|h
   exact .inl (by simp[h])
   rcases ih h with h1|h1
   exact .inl (by simp[h1])
   exact .inr h1
def ot.lF{m m':V7}{b o w:Nat}{es:Vp}(h:ot m b o w es)(hn:m.next<=m'.next)(hg:m'.get b=m.get b):ot m' b o w es:=by
 obtain⟨h1,all,tg,h2,h3⟩:=h;exact⟨by omega,all,tg,by rw[hg]; exact h2,h3⟩
def BJ.lF{lo:Nat}{m m':V7}{b w n:Nat}{es:Vp}{tg:Tag}(h:BJ lo m b w n es tg)(hn:m.next<=m'.next)(hg:m'.get b=m.get b):BJ lo m' b w n es tg:=by
 obtain⟨h1,h2,h3,h4⟩:=h;exact⟨h1,by omega,by rw[hg]; exact h3,h4⟩
def Rd.lF{m m':V7}{a:Vq}{cap w n:Nat}{es:Vp}(h:Rd m a cap w n es)(hn:m.next<=m'.next)(hg:∀b,dx a=some b->b<m.next->m'.get b=m.get b):Rd m' a cap w n es:=by
 obtain⟨h1,h2,h4⟩:=h;refine⟨h1,h2,?_⟩;rcases h4 with h4|⟨b,sp,rfl,a1,a2,a3⟩|⟨b,o,rfl,h⟩
 exact .inl h4
 exact .inr (.inl ⟨b,sp,rfl,a1,a2,SY a3 hn⟩)
 exact .inr (.inr ⟨b,o,rfl,h.lF hn (hg b rfl h.1)⟩)
def Pc.ia{lo:Nat}{m m':V7}{p:Pc}(h:p.ok lo m)(hn:m.next<=m'.next)(hg:∀b,p.any b->b<m.next->m'.get b=m.get b):p.ok lo m':=by
 cases p with
 | obj b o=>exact⟨h.1,by have:=h.2.1; omega,by rw[hg b (.inl rfl) h.2.1]; exact h.2.2⟩
 | arr b w n es tg=>exact BJ.lF h hn (hg b (.inl rfl) h.2.1)
 | sl a w n es =>
  rcases h with h|⟨b,tg,rfl,h⟩
  exact .inl h
  exact .inr ⟨b,tg,rfl,h.lF hn (hg b (.inl rfl) h.2.1)⟩
 | rd a cap w n es=>exact Rd.lF h hn fun b hb=>hg b (.inl hb)
 | ro b o w n es=>exact⟨h.1,h.2.lF hn (hg b (.inl rfl) h.2.1)⟩
 | gen g=>exact⟨g.st m m' h.1 hn fun b hb=>hg b (.inr hb),h.2⟩
def Pc.fT{lo:Nat}{m:V7}{p:Pc}(h:p.ok lo m){b:Nat}(hb:p.any b):b<m.next:=by
 cases p with
 | obj b' o=>rcases hb with hb|hb; cases hb; exact h.2.1; exact hb.elim
 | arr b' w n es tg=>rcases hb with hb|hb; cases hb; exact h.2.1; exact hb.elim
 | sl a w n es =>
  rcases hb with hb|hb
  rcases h with⟨_,_,rfl,_⟩|⟨b',tg,rfl,h⟩
  cases hb
  cases hb; exact h.2.1
  exact hb.elim
 | rd a cap w n es=>rcases hb with hb|hb; exact Rd.lt h hb; exact hb.elim
 | ro b' o w n es=>rcases hb with hb|hb; cases hb; exact h.2.1; exact hb.elim
 | gen g=>rcases hb with hb|hb; cases hb; exact g.lt m b h.1 hb
def Pc.MY{lo:Nat}{m:V7}{p:Pc}(h:p.ok lo m){b:Nat}(hb:p.qQ=some b):b<m.next:=Pc.fT h (.inl hb)
def Pc.C0{lo:Nat}{m:V7}{p:Pc}(h:p.ok lo m)(hf:p.bound=true){b:Nat}(hb:p.ow b):lo<=b:=by
 rcases hb with⟨ho,hb⟩|hb
 ·cases p with
  | obj b' o=>cases hb; exact h.1
  | arr b' w n es tg=>cases hb; exact h.1
  | sl a w n es =>
   rcases h with⟨_,_,rfl,_⟩|⟨b',tg,rfl,h⟩
   cases hb
   cases hb; exact h.1
  | rd a cap w n es=>cases ho
  | ro b' o w n es=>cases ho
  | gen g=>cases ho
 ·cases p with
  | gen g=>exact h.2 (by simpa [Pc.bound] using hf) b hb
  | _=>exact hb.elim
def Pc.JB{lo:Nat}{m:V7}{p:Pc}(h:p.ok lo m)(ho:p.own=true){b:Nat}(hb:p.qQ=some b):lo<=b:=Pc.C0 h (by cases p<;>first|rfl|cases ho) (.inl ⟨ho,hb⟩)
section
variable{m0 m m':V7}{ps:WB Pc}
def Hp.get(h:Hp m0 m ps){k:Nat}{p:Pc}(hp:pk ps k=some p):p.ok m0.next m:=h.ok p (lB hp)
def Pc.fR{p r:Pc}(h:Pc.apart p r):Pc.apart r p:=⟨h.2,h.1⟩
def iI:∀{ps:WB Pc} {k:Nat} {p p':Pc},pk ps k=some p->(∀r∈ps,Pc.apart p r->Pc.apart p' r)->ps.Pairwise Pc.apart->(da ps k p').Pairwise Pc.apart:=by
 intro ps
 induction ps with
 | nil=>intro k p p' hk; simp[pk] at hk
 | cons q l ih =>
  intro k p p' hk hr h;rw[Tp] at h;cases k with
  | zero =>
   rw[iX] at hk;have hk:=S3 hk;subst hk;rw[jQ];exact Tp.2 ⟨fun r hm=>hr r (by simp[hm]) (h.1 r hm),h.2⟩
  | succ k =>
   rw[fe] at hk;rw[ie];refine Tp.2 ⟨fun r hm=>?_,ih hk (fun r hm=>hr r (by simp[hm])) h.2⟩
   rcases vQ hm with hm|hm
   exact h.1 r hm
   rw[hm]; exact Pc.fR (hr q (by simp) (Pc.fR (h.1 p (lB hk))))
def zG:∀{ps:WB Pc} {k:Nat} {p p' r:Pc},pk ps k=some p->ps.Pairwise Pc.apart->r∈da ps k p'->r=p'\/(r∈ps/\Pc.apart r p):=by
 intro ps
 induction ps with
 | nil=>intro k p p' r hk; simp[pk] at hk
 | cons q l ih =>
  intro k p p' r hk h hr;rw[Tp] at h;cases k with
  | zero =>
   rw[iX] at hk;have hk:=S3 hk;subst hk;rw[jQ,Tt] at hr;rcases hr with hr|hr
   exact .inl hr
   exact .inr ⟨by simp[hr],Pc.fR (h.1 r hr)⟩
  | succ k =>
   rw[fe] at hk;rw[ie,Tt] at hr;rcases hr with hr|hr
   rw[hr]; exact .inr ⟨by simp,h.1 p (lB hk)⟩
   rcases ih hk h.2 hr with h1|⟨h1,h2⟩
   exact .inl h1
   exact .inr ⟨by simp[h1],h2⟩
def Hp.Sb(h:Hp m0 m ps){k:Nat}{p p':Pc}(hp:pk ps k=some p)(how:∀b,p'.ow b->p.ow b\/m.next<=b)(hany:∀b,p'.any b->p.any b\/m.next<=b)(hn:m.next<=m'.next)(hext:Ext m0 m')
  (hok:p'.ok m0.next m') (hg:∀b,¬p.ow b->b<m.next->m'.get b=m.get b):Hp m0 m' (da ps k p') where
 ext:=hext
 apart:=iI hp (fun r hr ha=>⟨fun b a c=>(how b a).elim (fun a=>ha.1 b a c) fun a=>by have:=Pc.fT (h.ok r hr) c; omega,fun b a c=>(hany b c).elim (fun c=>ha.2 b a c) fun c=>by have:=Pc.fT (h.ok r hr) (Pc.iP a); omega⟩) h.apart
 ok:=fun r hr=>by
  rcases zG hp h.apart hr with rfl|⟨h1,h2⟩
  exact hok
  exact Pc.ia (h.ok r h1) hn fun b hb' hlt=>hg b (fun e=>h2.2 b e hb') hlt
def Hp.put(h:Hp m0 m ps){k:Nat}{p p':Pc}(hp:pk ps k=some p)(ho:p.own=true)(hb:p'.qQ=p.qQ)(ho':p'.own=true)(hn:m.next<=m'.next)(hext:Ext m0 m')
  (hok:p'.ok m0.next m') (hg:∀b,p.qQ≠some b->b<m.next->m'.get b=m.get b):Hp m0 m' (da ps k p') :=
 h.Sb hp (fun b a=>.inl (.inl ⟨ho,by rw[<-hb]; exact Pc.AP ho' (Pc.iP a)⟩)) (fun b a=>.inl (.inl (by rw[<-hb]; exact Pc.AP ho' a))) hn hext hok fun b hb' hlt=>hg b (fun e=>hb' (.inl ⟨ho,e⟩)) hlt
def Hp.Mo(h:Hp m0 m ps){p:Pc}(hn:m.next<=m'.next)(hext:Ext m0 m')(hsame:∀b,b<m.next->m'.get b=m.get b)(hp:p.ok m0.next m')(hb:∀b,p.any b->m.next<=b):Hp m0 m' (p::ps) where
 ext:=hext
 ok:=fun q hq=>by
  rcases Tt.1 hq with rfl|hq
  exact hp
  exact Pc.ia (h.ok q hq) hn fun b hb' hlt=>hsame b hlt
 apart:=Tp.2 ⟨fun q hq=>⟨fun b h1 h2=>by
  have:=Pc.fT (h.ok q hq) h2;have:=hb b (Pc.iP h1);omega,fun b h1 h2=>by
  have:=Pc.fT (h.ok q hq) (Pc.iP h1);have:=hb b h2;omega⟩,h.apart⟩
def Hp.cons(h:Hp m0 m ps){p:Pc}(hn:m.next<=m'.next)(hext:Ext m0 m')(hsame:∀b,b<m.next->m'.get b=m.get b)(hp:p.ok m0.next m')(hb:∀b,p.qQ=some b->m.next<=b)(hng:∀b,¬p.EO b:=by exact fun _ h=>h):Hp m0 m' (p::ps) :=
 h.Mo hn hext hsame hp fun b hb'=>hb'.elim (hb b) fun h=>Tl h (hng b)
def au(ps:WB Pc):WB Nat->WA (WB Pc)
 | []=>some []
 | k::ks=>match pk ps k with
  | some p=>match au ps ks with
   | some qs=>some (p::qs)
   | none=>none
  | none=>none
def k7:WB Nat->Bool
 | []=>true
 | k::ks=>!(ks.any (Nat.beq k))&&k7 ks
def uU:∀{ks:WB Nat} {qs:WB Pc},au ps ks=some qs->∀q∈qs,∃k∈ks,pk ps k=some q:=by
 intro ks
 induction ks with
 | nil=>intro qs h q hq; simp only[au,Option.some.injEq] at h; subst h; cases hq
 | cons k ks ih =>
  intro qs h q hq;simp only[au] at h
  split at h
  rename_i p hp
  split at h
  rename_i qs' hqs;simp only[Option.some.injEq] at h;subst h;rcases Tt.1 hq with rfl|hq
  exact⟨k,by simp,hp⟩
  obtain⟨k',h1,h2⟩:=ih hqs q hq;exact⟨k',by simp[h1],h2⟩
  cases h
  cases h
def gA:∀{ps:WB Pc} {i j:Nat} {p q:Pc},ps.Pairwise Pc.apart->pk ps i=some p->pk ps j=some q->i≠j->Pc.apart p q:=by
 intro ps
 induction ps with
 | nil=>intro i j p q _ h; simp[pk] at h
 | cons r l ih =>
  intro i j p q h hi hj hne;rw[Tp] at h;cases i with
  | zero =>
   cases j with
   | zero=>exact Tl rfl hne
   | succ j =>
    rw[iX] at hi;rw[fe] at hj;rw[<-S3 hi];exact h.1 q (lB hj)
  | succ i =>
   cases j with
   | zero =>
    rw[iX] at hj;rw[fe] at hi;rw[<-S3 hj];exact Pc.fR (h.1 p (lB hi))
   | succ j=>rw[fe] at hi hj; exact ih h.2 hi hj (fun e=>hne (by rw[e]))
def j8:∀{ps:WB Pc} {r:Pc},r∈ps->∃k,pk ps k=some r:=by
 intro ps
 induction ps with
 | nil=>intro r h; cases h
 | cons p l ih =>
  intro r h;rcases Tt.1 h with rfl|h
  exact⟨0,rfl⟩
  obtain⟨k,hk⟩:=ih h; exact⟨k+1,hk⟩
def Hp.DS(h:Hp m0 m ps){k:Nat}{p q:Pc}(hp:pk ps k=some p)(hpo:∀b,¬p.ow b)(hq:q.ok m0.next m)(hqo:∀b,¬q.ow b)(hb:∀b,q.any b->p.any b):Hp m0 m (q::ps) where
 ext:=h.ext
 ok:=fun r hr=>by
  rcases Tt.1 hr with rfl|hr
  exact hq
  exact h.ok r hr
 apart:=Tp.2 ⟨fun r hr=>⟨fun b h1 _=>hqo b h1,fun b h1 h2=>by
  obtain⟨k',hk'⟩:=j8 hr;have hne:k≠k':=fun e=>by
   rw[<-e,hp] at hk';exact hpo b (by rw[S3 hk']; exact h1)
  exact(gA h.apart hp hk' hne).2 b h1 (hb b h2)⟩,h.apart⟩
def Hp.more(h:Hp m0 m ps){k:Nat}{p q:Pc}(hp:pk ps k=some p)(hpo:p.own=false)(hq:q.ok m0.next m)(hqo:q.own=false)(hb:∀b,q.qQ=some b->p.qQ=some b)(hpg:∀b,¬p.Sj b:=by exact fun _ h=>h)(hqg:∀b,¬q.EO b:=by exact fun _ h=>h):Hp m0 m (q::ps) :=
 h.DS hp (fun b h=>h.elim (fun h=>by rw[hpo] at h; cases h.1) (hpg b)) hq (fun b h=>h.elim (fun h=>by rw[hqo] at h; cases h.1) fun h=>hqg b (by cases q with|gen g=>exact .inl h|_=>exact h)) fun b h=>h.elim (fun h=>.inl (hb b h)) fun h=>Tl h (hqg b)
def As(h:ps.Pairwise Pc.apart):∀{ks:WB Nat} {qs:WB Pc},k7 ks=true->au ps ks=some qs->qs.Pairwise Pc.apart:=by
 intro ks
 induction ks with
 | nil=>intro qs _ e; simp only[au,Option.some.injEq] at e; subst e; exact .nil
 | cons k ks ih =>
  intro qs hnd e;simp only[k7,SW,T1,List.any_eq_false] at hnd;simp only[au] at e
  split at e
  rename_i p hp
  split at e
  rename_i qs' hqs;simp only[Option.some.injEq] at e;subst e;refine Tp.2 ⟨fun q hq=>?_,ih hnd.2 hqs⟩;obtain⟨k',h1,h2⟩:=uU hqs q hq;exact gA h hp h2 fun e=>hnd.1 k' h1 (by rw[e]; exact Nat.beq_refl _)
  cases e
  cases e
def Hp.au(h:Hp m0 m ps)(ks:WB Nat){qs:WB Pc}(hnd:k7 ks=true)(e:W.au ps ks=some qs):Hp m0 m qs where
 ext:=h.ext
 ok:=fun q hq=>by
  obtain⟨k,_,hk⟩:=uU e q hq;exact h.ok q (lB hk)
 apart:=As h.apart hnd e
def Pc.FZ{lo lo':Nat}{m:V7}{p:Pc}(h:p.ok lo m)(hle:lo'<=lo):p.ok lo' m:=by
 have up:∀{b w n es tg},BJ lo m b w n es tg->BJ lo' m b w n es tg:=fun ho=>⟨Tb hle ho.1,ho.2⟩;cases p with
 | obj b o=>exact⟨Tb hle h.1,h.2⟩
 | arr b w n es tg=>exact up h
 | sl a w n es =>
  rcases h with h1|⟨b,tg,e,h1⟩
  exact .inl h1
  exact .inr ⟨b,tg,e,up h1⟩
 | rd a cap w n es=>exact h
 | ro b o w n es=>exact h
 | gen g=>exact⟨h.1,fun hf b hb=>Tb hle (h.2 hf b hb)⟩
def Hp.OZ(h:Hp m0 m ps){new:WB Pc}(h':Hp m m' new)(hbd:∀p∈new,p.bound=true)(hro:∀p∈new,∀b,p.any b->m.next<=b\/(¬p.ow b/\∃q∈ps,(∀b,¬q.ow b)/\q.any b)):Hp m0 m' (new++ps) where
 ext:=h.ext.trans h'.ext
 ok:=fun q hq=>by
  rcases T7.1 hq with hq|hq
  exact Pc.FZ (h'.ok q hq) h.ext.next
  exact Pc.ia (h.ok q hq) h'.ext.next fun b _ hlt=>h'.ext.same b hlt
 apart:=UO.2 ⟨h'.apart,h.apart,fun p hp q hq=>⟨fun b h1 h2=>by
  have:=Pc.C0 (h'.ok p hp) (hbd p hp) h1;have:=Pc.fT (h.ok q hq) h2;omega,fun b h1 h2=>by
  rcases hro p hp b h2 with h3|⟨_,r,hr,hr1,hr2⟩
  have:=Pc.fT (h.ok q hq) (Pc.iP h1);omega
  obtain⟨i,hi⟩:=j8 hq;obtain⟨j,hj⟩:=j8 hr;have hne:i≠j:=fun e=>by
   rw[e,hj] at hi;exact hr1 b (by rw[S3 hi]; exact h1)
  exact(gA h.apart hi hj hne).1 b h1 hr2⟩⟩
def Hp.after(h:Hp m0 m ps){new:WB Pc}(h':Hp m m' new)(hro:∀p∈new,p.own=true):Hp m0 m' (new++ps) :=
 h.OZ h' (fun p hp=>by have:=hro p hp; cases p<;>first|rfl|cases this) fun p hp b hb=>.inl (Pc.JB (h'.ok p hp) (hro p hp) (Pc.AP (hro p hp) hb))
def kL(ps:WB Pc)(b:Nat):Prop:=∃p∈ps,p.ow b
def Hp.aj(h:Hp m0 m ps):∀b,kL ps b->b<m.next:=fun _ ⟨p,hp,hb⟩=>Pc.fT (h.ok p hp) (Pc.iP hb)
def po(H:Vr):GPc:={ ow:=H,rd:=fun _=>False,P:=fun m=>∀b,H b->b<m.next,fr:=true,st:=fun _ _ h hn _ b hb=>SY (h b hb) hn,lt:=fun _ b h hb=>hb.elim (h b) fun h=>h.elim}
def Hp.bC(m:V7){H:Vr}(hH:∀b,H b->b<m.next):Hp m m [.gen (po H)]:=⟨.refl m,fun p h=>by rw[TG.1 h]; exact⟨hH,fun h=>by cases h⟩,List.pairwise_singleton ..⟩
def Hp.Ga(h:Hp m0 m ps){new:WB Pc}(h':Hp m m' (new++[.gen (po (kL ps))]))(hbd:∀p∈new,p.bound=true):Hp m0 m' (new++ps) where
 ext:=h.ext.trans h'.ext
 ok:=fun q hq=>by
  rcases T7.1 hq with hq|hq
  exact Pc.FZ (h'.ok q (Uu _ hq)) h.ext.next
  exact Pc.ia (h.ok q hq) h'.ext.next fun b _ hlt=>h'.ext.same b hlt
 apart:=UO.2 ⟨(UO.1 h'.apart).1,h.apart,fun p hp q hq=>⟨fun b h1 h2=>by
  have:=Pc.C0 (h'.ok p (Uu _ hp)) (hbd p hp) h1;have:=Pc.fT (h.ok q hq) h2;omega,fun b h1 h2=>((UO.1 h'.apart).2.2 p hp _ (TG.2 rfl)).2 b (.inr ⟨q,hq,h1⟩) h2⟩⟩
def Hp.Qp(h:Hp m0 m ps){k cap w n:Nat}{a:Vq}{es:Vp}(hp:pk ps k=some (.rd a cap w n es)):∀b,dx a=some b->¬kL ps b:=fun b hb ⟨q,hq,h1⟩=>by
 obtain⟨i,hi⟩:=j8 hq;have hne:i≠k:=fun e=>by
  rw[e,hp] at hi;cases hi;exact h1.elim (fun h=>by cases h.1) fun h=>h.elim
 exact(gA h.apart hi hp hne).1 b h1 (.inl hb)
end
structure TyI(P:Vv)(ty:Vt)(ag:Bool)(sz:Nat):Prop where
 known:known P ty=true
 agg:dZ P ty=ag
 size:aA P ty=sz
structure SlT(P:Vv)(ty elem:Vt)(w:Nat):Prop where
 und:P.underlying ty=some (.slice elem)
 known:known P elem=true
 size:aA P elem=w
 pos:0<w
 zero:(bK P elem).any (fun z=>z.cells.size==w&&z.cells.toList.all aL)=true
 bytes:∃i,P.info? elem=some i/\i.bytes≠0/\i.bytes<=1024
structure ArT(P:Vv)(ty elem:Vt)(len w:Nat):Prop where
 und:P.underlying ty=some (.array len elem)
 known:known P elem=true
 size:aA P elem=w
def QQ(P:Vv)(ty elem:Vt)(w:Nat):Bool :=
 (match P.underlying ty with|some (.slice e)=>Nat.beq e elem|_=>false)&&known P elem&&Nat.beq (aA P elem) w&&Nat.blt 0 w &&(bK P elem).any (fun z=>z.cells.size==w&&z.cells.toList.all aL) &&(match P.info? elem with|some i=>!(Nat.beq i.bytes 0)&&Nat.ble i.bytes 1024|none=>false)
def SlT.of{P:Vv}{ty elem:Vt}{w:Nat}(h:QQ P ty elem w=true):SlT P ty elem w:=by
 simp only[QQ,SW] at h;obtain⟨⟨⟨⟨⟨h1,h2⟩,h3⟩,h4⟩,h5⟩,h6⟩:=h;refine⟨?_,h2,S0 h3,by rwa[UI] at h4,h5,?_⟩
 split at h1
 rename_i e he; rw[he,S0 h1]
 cases h1
 split at h6
 rename_i i hi;simp only[SW,T1] at h6;exact⟨i,hi,UF h6.1,S6 h6.2⟩
 cases h6
section
variable{E:Env}{n:Nat}{m0:V7}{fs:Fs}{ps:WB Pc}
def Od(E:Env)(m0:V7)(fs:Fs)(ps:WB Pc)(o:Op)(v:Vs)(ps':WB Pc):Prop :=
 ∀t m,Fr t fs->Hp m0 m ps->(∀b,aP E t o=some b->b<m.next)/\∀K:Vs->V7->Prop,(∀m',Hp m0 m' ps'->K v m')->bt E t m o K
def Ox(E:Env)(m0:V7)(fs:Fs)(ps:WB Pc)(o:Op){α:Type}(V:α->Vs)(N:α->WB Pc):Prop :=
 ∀t m,Fr t fs->Hp m0 m ps->(∀b,aP E t o=some b->b<m.next)/\∀K:Vs->V7->Prop,(∀x m',Hp m0 m' (N x)->K (V x) m')->bt E t m o K
def Od.pure{o:Op}{v:Vs}(hr:∀t,aP E t o=none)(h:∀t m,Fr t fs->∀K,bt E t m o K=K v m):Od E m0 fs ps o v ps :=
 fun t m hf hp=>⟨fun b hb=>(by rw[hr] at hb; cases hb),fun K hK=>by rw[h t m hf]; exact hK m hp⟩
variable{x y z:Vu}{a b r v:Vs}{ty ty':Vt}
def aW(h:ev E fs x=some v):Od E m0 fs ps (.move x) v ps:=.pure (fun _=>rfl) fun _ _ hf=>Go.Ab.Mz (hf.ev h)
def cZ(h:ev E fs x=some v):Od E m0 fs ps (.assign x) v ps:=.pure (fun _=>rfl) fun _ _ hf=>Go.Ab.Hm (hf.ev h)
def PW{c:Vu}(hc:ev E fs c=some (.bool true))(h:ev E fs x=some v):Od E m0 fs ps (.pick c x y) v ps:=.pure (fun _=>rfl) fun _ _ hf=>Go.Ab.JJ (hf.ev hc) (hf.ev h)
def Qt{c:Vu}(hc:ev E fs c=some (.bool false))(h:ev E fs y=some v):Od E m0 fs ps (.pick c x y) v ps:=.pure (fun _=>rfl) fun _ _ hf=>Go.Ab.JM (hf.ev hc) (hf.ev h)
def aN{op:BinOp}(h:ev E fs x=some a)(h':ev E fs y=some b)(hr:bf op ty E.P a b=some r):Od E m0 fs ps (.binOp op ty x y ty') r ps:=.pure (fun _=>rfl) fun _ _ hf=>Go.Ab.PM (hf.ev h) (hf.ev h') hr
def JL{op:UnOp}(h:ev E fs x=some a)(hr:BL op a=some r):Od E m0 fs ps (.unOp op ty x) r ps:=.pure (fun _=>rfl) fun _ _ hf=>Go.Ab.JL (hf.ev h) hr
def iT(h:ev E fs x=some a)(hr:fI E.P ty ty' a=some r):Od E m0 fs ps (.convert ty ty' x) r ps:=.pure (fun _=>rfl) fun _ _ hf=>Go.Ab.NB (hf.ev h) hr
def bN{f:Nat}(h:ev E fs x=some a)(hr:aM E.P ty a f=some r):Od E m0 fs ps (.fieldAddr ty x f) r ps:=.pure (fun _=>rfl) fun _ _ hf=>Go.Ab.zy (hf.ev h) hr
def Ij{f:Nat}(h:ev E fs x=some a)(hr:eW E.P ty a f=some r):Od E m0 fs ps (.field ty x f) r ps:=.pure (fun _=>rfl) fun _ _ hf=>Go.Ab.J4 (hf.ev h) hr
def Nx(h:ev E fs x=some a)(h':ev E fs y=some b)(hr:bJ E.P ty a b=some r):Od E m0 fs ps (.indexAddr ty x y) r ps:=.pure (fun _=>rfl) fun _ _ hf=>Go.Ab.Ay (hf.ev h) (hf.ev h') hr
def Rj(h:ev E fs x=some a)(h':ev E fs y=some b)(hr:eS E.P ty a b=some r):Od E m0 fs ps (.index ty x y) r ps:=.pure (fun _=>rfl) fun _ _ hf=>Go.Ab.CT (hf.ev h) (hf.ev h') hr
def O1{i:Nat}{vs:WD Vs}(h:ev E fs x=some (.tuple vs))(hr:vs[i]? = some r):Od E m0 fs ps (.extract x i) r ps:=.pure (fun _=>rfl) fun _ _ hf=>Go.Ab.EH (hf.ev h) hr
def Oj{bi:Builtin}{ars:WD Vu}{ts:WD Vt}{vs:WB Vs}(h:kP E fs ars.toList=some vs)(hn:(match bi with|.len|.cap=>false|_=>true)=true)(hr:∀m,bp E.P bi ts vs m=some (r,m)):Od E m0 fs ps (.call ⟨.builtin bi,ars,ts⟩) r ps :=
 .pure (fun _=>by cases bi<;>first|rfl|cases hn) fun _ _ hf K=>Go.Ab.fp (hf.kP h) (hr _) K
def eY{parts:WD (Nat×Vu)}{vs:WB (Nat×Vs)}{z:Vs}(h:JF E fs parts.toList=some vs)(hz:bK E.P ty=some z)(hpz:bw z=true)(hr:kC E.P ty vs=some r):Od E m0 fs ps (.build ty parts) r ps :=
 .pure (fun _=>rfl) fun t m hf K=>by
  have:cH E t m (.build ty parts)=some (r,m):=by simp only[cH,hf.JF h,hz,hpz,if_true,hr,SZ]
  exact Go.Ab.Ik rfl this K
def yw(ag:Bool)(sz:Nat)(cs:WB Vs)(o:Nat):WA Vs :=
 match ag with
 | true=>match Nat.beq ((cs.drop o).take sz).length sz with
  | true=>some (.agg ((cs.drop o).take sz).toArray)
  | false=>none
 | false=>cs[o]?
def xb{P:Vv}{m:V7}{ag:Bool}{sz b o:Nat}{cs:WB Vs}{tg:Tag}(ht:TyI P ty ag sz)(hg:m.get b=some (.cells cs tg))(h:yw ag sz cs o=some v):dG P ty (ptr b o) m=some v:=by
 cases ag with
 | false=>exact Ly ht.known ht.agg hg h
 | true =>
  simp only[yw] at h
  split at h
  rename_i e;cases h;exact JX ht.known ht.agg ht.size hg rfl (S0 e)
  cases h
def xO(ag:Bool)(sz c w:Nat):Bool:=(match ag with|true=>true|false=>Nat.beq sz 1)&&Nat.ble (c+sz) w
def yf{ag:Bool}{sz c w:Nat}(h:xO ag sz c w=true):(ag=false->sz=1)/\c+sz<=w:=by
 simp only[xO,SW] at h;exact⟨fun e=>by subst e; exact S0 h.1,S6 h.2⟩
def Od.load{b o:Nat}(hx:ev E fs x=some (ptr b o))(h:∀m,Hp m0 m ps->b<m.next/\dG E.P ty (ptr b o) m=some v):Od E m0 fs ps (.load ty x) v ps :=
 fun t m hf hp=>⟨fun b' hb=>by
  simp only[aP,hf.ev hx] at hb;cases hb; exact(h m hp).1,fun K hK=>by
  rw[Go.Ab.Ir (hf.ev hx) (h m hp).2]; exact hK m hp⟩
def bh{ag:Bool}{sz b o k:Nat}{cs:WB Vs}{tg:Tag}(ht:TyI E.P ty ag sz)(hx:ev E fs x=some (ptr b o))(hp:pk ps k=some (.obj b (.cells cs tg)))(hv:yw ag sz cs o=some v):Od E m0 fs ps (.load ty x) v ps :=
 .load hx fun m h=>⟨(h.get hp).2.1,xb ht (h.get hp).2.2 hv⟩
def K0{ag:Bool}{sz o w c:Nat}{all e:WB Vs}(he:(all.drop o).take w=e)(hsz:ag=false->sz=1)(hc:c+sz<=w)(h:yw ag sz e c=some v):yw ag sz all (o+c)=some v:=by
 subst he;have key:((List.take w (List.drop o all)).drop c).take sz=(all.drop (o+c)).take sz:=by
  rw[List.drop_take,List.take_take,U0,T3 (by omega)]
 cases ag with
 | true=>simp only[yw,key] at h ⊢; exact h
 | false =>
  simp only[yw,UN,Um] at h ⊢
  split at h
  exact h
  cases h
def pX{P:Vv}{m:V7}{ag:Bool}{sz b o w j c:Nat}{es:Vp}{e:WB Vs}(ht:TyI P ty ag sz)(hl:ot m b o w es)(he:es[j]? = some e)(hv:yw ag sz e c=some v)(hsz:ag=false->sz=1)(hc:c+sz<=w):dG P ty (ptr b (o+j*w+c)) m=some v:=by
 obtain⟨_,all,tg,hg,_,h⟩:=hl;exact xb ht hg (K0 (h j e he).1 hsz hc hv)
def DI{w:Nat}:∀{es:Vp} {j:Nat} {e:WB Vs},(∀e∈es,e.length=w)->es[j]? = some e->(es.flatten.drop (j*w)).take w=e:=by
 intro es
 induction es with
 | nil=>intro j e _ h; simp at h
 | cons x es ih =>
  intro j e hw h;have hx:=hw x (by simp)
  cases j with
  | zero =>
   simp only[Tq,Option.some.injEq] at h;subst h;rw[T4,UA,Vd,List.take_left' hx]
  | succ j =>
   rw[TS] at h;rw[T4,UL,Nat.add_comm,<-U0,List.drop_left' hx];exact ih (fun e he=>hw e (by simp[he])) h
def BJ.MG{lo:Nat}{m:V7}{b w n:Nat}{es:Vp}{tg:Tag}(h:BJ lo m b w n es tg):ot m b 0 w es :=
 ⟨h.2.1,_,tg,h.2.2.1,fun sz e=>(by rcases h.2.2.2.2.2.1 with h1|h1<;>rw[h1] at e<;>cases e; rfl),fun i e he=>⟨by rw[TM]; exact DI h.2.2.2.2.1 he,h.2.2.2.2.1 e (Ti he)⟩⟩
def Ap{ag:Bool}{sz b w n j c k:Nat}{es:Vp}{tg:Tag}{e:WB Vs}(ht:TyI E.P ty ag sz)(hx:ev E fs x=some (ptr b (j*w+c)))(hp:pk ps k=some (.arr b w n es tg))(he:es[j]? = some e)(hv:yw ag sz e c=some v)(hs:xO ag sz c w=true):Od E m0 fs ps (.load ty x) v ps:=by
 have hs:=yf hs;refine .load hx fun m h=>⟨(h.get hp).2.1,?_⟩;have:=pX (P:=E.P) ht (BJ.MG (h.get hp)) he hv hs.1 hs.2;rwa[TM] at this
def vK{ag:Bool}{sz b o w n j c k:Nat}{es:Vp}{e:WB Vs}(ht:TyI E.P ty ag sz)(hx:ev E fs x=some (ptr b (o+j*w+c)))(hp:pk ps k=some (.ro b o w n es))(he:es[j]? = some e)(hv:yw ag sz e c=some v)(hs:xO ag sz c w=true):Od E m0 fs ps (.load ty x) v ps:=by
 have hs:=yf hs;exact .load hx fun m h=>⟨(h.get hp).2.1,pX (P:=E.P) ht (h.get hp).2 he hv hs.1 hs.2⟩
def oa{elem:Vt}{b o w n cap:Nat}{i:Int}{kd:IntKind}(ht:SlT E.P ty elem w)(hx:ev E fs x=some (.slice (some ⟨b,o,none⟩) n cap))(hy:ev E fs y=some (.int kd i))(hi:0<=i/\i.toNat<n):Od E m0 fs ps (.indexAddr ty x y) (ptr b (o+i.toNat*w+0)) ps:=by
 refine Nx hx hy ?_;have hd:decide ((0:Int)<=i/\i<(n:Nat))=true:=by simp; omega
 simp only[bJ,ht.und,ht.known,hd,Ud,if_true,ht.size,TP]
def pd{elem:Vt}{b w n cap:Nat}{i:Int}{kd:IntKind}(ht:SlT E.P ty elem w)(hx:ev E fs x=some (.slice (some ⟨b,0,none⟩) n cap))(hy:ev E fs y=some (.int kd i))(hi:0<=i/\i.toNat<n):Od E m0 fs ps (.indexAddr ty x y) (ptr b (i.toNat*w+0)) ps:=by
 have:=oa (m0:=m0) (ps:=ps) ht hx hy hi;rwa[TM] at this
def Hp.write{m:V7}(h:Hp m0 m ps){k b:Nat}{p p':Pc}{o':V9}(hp:pk ps k=some p)(ho:p.own=true)(hb:p.qQ=some b)(hb':p'.qQ=some b)(ho':p'.own=true)(hok:p'.ok m0.next (m.set b o')):Hp m0 (m.set b o') (da ps k p') :=
 h.put hp ho (hb'.trans hb.symm) ho' (SX _) (h.ext.set (Pc.JB (h.get hp) ho hb) _) hok fun x hx _=>by
  rw[V7.bX,S8 (fun e=>hx (by rw[e]; exact hb))]
def KG(cs:WB Vs)(o:Nat)(v:Vs)(sz:Nat):WA (WB Vs) :=
 match Nat.beq v.cells.toList.length sz&&Nat.blt 0 sz&&bo v.cells.toList&&Nat.ble (o+sz) cs.length with
 | true=>some (aI cs o v.cells.toList)
 | false=>none
def iE:∀(cs:WB Vs) (o:Nat) (vs:WB Vs),o+vs.length<=cs.length->(aI cs o vs).length=cs.length
 | cs,0,[],_=>by cases cs<;>rfl
 | [],0,v::vs,h=>by simp at h
 | c::cs,0,v::vs,h=>by simp only[aI,Tz]; rw[iE cs 0 vs (by simpa using h)]
 | [],o+1,vs,h=>by simp at h
 | c::cs,o+1,vs,h=>by simp only[aI,Tz]; rw[iE cs o vs (by simp at h; omega)]
def zz{P:Vv}{m:V7}{ag:Bool}{sz b o:Nat}{cs cs':WB Vs}{tg:Tag}(ht:TyI P ty ag sz)(hg:m.get b=some (.cells cs tg))(htg:tg≠.ro)(h:KG cs o v sz=some cs'):fj P ty (ptr b o) v m=some (m.set b (.cells cs' tg)):=by
 simp only[KG] at h
 split at h
 ·rename_i e;cases h;simp only[SW] at e;obtain⟨⟨⟨h1,h2⟩,h3⟩,h4⟩:=e;have h1:=S0 h1;have h2:0<sz:=by rwa[UI] at h2
  have h4:=S6 h4;have hs:(v.cells.size==aA P ty)=true:=by rw[ht.size,<-h1]; simp
  simp only[fj,ptr,ht.known,hs,h3,Ud,if_true,V7.dj];cases hc:v.cells.toList with
  | nil=>rw[hc] at h1; simp at h1; omega
  | cons x xs =>
   rw[hc] at h1;simp only[hg];cases tg with
   | ro=>exact Tl rfl htg
   | own=>rw[S7 (by rw[h1]; exact h4)]
   | more s=>rw[S7 (by rw[h1]; exact h4)]
 cases h
def Od.store{bk o:Nat}{p':WB Pc}(hx:ev E fs x=some (ptr bk o))(hy:ev E fs y=some v)(h:∀m,Hp m0 m ps->∃m',fj E.P ty (ptr bk o) v m=some m'/\Hp m0 m' p'):Od E m0 fs ps (.store ty x y) undef p' :=
 fun t m hf hp=>⟨fun b hb=>by simp[aP] at hb,fun K hK=>by
  obtain⟨m',h1,h2⟩:=h m hp;rw[Go.Ab.Lh (hf.ev hx) (hf.ev hy) h1]; exact hK m' h2⟩
def C7:Tag->Bool
 | .ro=>false
 | _=>true
def eo{ag:Bool}{sz b o k:Nat}{cs cs':WB Vs}{tg:Tag}(ht:TyI E.P ty ag sz)(hx:ev E fs x=some (ptr b o))(hy:ev E fs y=some v)(hp:pk ps k=some (.obj b (.cells cs tg)))(htg:C7 tg=true)(hv:KG cs o v sz=some cs'):Od E m0 fs ps (.store ty x y) undef (da ps k (.obj b (.cells cs' tg))) :=
 .store hx hy fun m h=>⟨_,zz ht (h.get hp).2.2 (fun e=>by rw[e] at htg; cases htg) hv,h.write hp rfl rfl rfl rfl ⟨(h.get hp).1,(h.get hp).2.1,by rw[V7.bX,S7 rfl]⟩⟩
def Bu:∀(l r vs:WB Vs) (c:Nat),c+vs.length<=l.length->aI (l++r) c vs=aI l c vs++r:=by
 intro l r
 induction l with
 | nil =>
  intro vs c h;have h0:c+vs.length<=0:=h;have h1:c=0:=by omega
  have h2:vs=[]:=Ux.1 (by omega)
  subst h1 h2;cases r<;>rfl
 | cons a l ihl =>
  intro vs c h;cases c with
  | zero=>cases vs with
   | nil=>rfl
   | cons v vs=>simp only[Vc,aI]; rw[ihl vs 0 (by simpa using h)]
  | succ c=>simp only[Vc,aI]; rw[ihl vs c (by simp at h; omega)]
def zX:∀(l r vs:WB Vs) (o:Nat),aI (l++r) (l.length+o) vs=l++aI r o vs:=by
 intro l r vs
 induction l with
 | nil=>intro o; simp
 | cons a l ihl=>intro o; rw[Vc,Tz,show l.length+1+o=(l.length+o)+1 by omega,aI,ihl o]; rfl
def zr{w c:Nat}{vs:WB Vs}:∀{es:Vp} {j:Nat} {e:WB Vs},(∀e∈es,e.length=w)->es[j]? = some e->c+vs.length<=w->aI es.flatten (j*w+c) vs=(es.set j (aI e c vs)).flatten:=by
 intro es
 induction es with
 | nil=>intro j e _ h; simp at h
 | cons x es ih =>
  intro j e hw h hc;have hx:=hw x (by simp)
  cases j with
  | zero =>
   simp only[Tq,Option.some.injEq] at h;subst h;rw[T4,UA,TM,Bu _ _ _ _ (by omega)]
   simp[T4]
  | succ j =>
   rw[TS] at h;rw[T4,UL,show j*w+w+c=x.length+(j*w+c) by omega,zX,ih (fun e he=>hw e (by simp[he])) h hc]
   simp[T4]
def CJ{ag:Bool}{sz b w n j c k:Nat}{es:Vp}{e e':WB Vs}{tg:Tag}(ht:TyI E.P ty ag sz)(hx:ev E fs x=some (ptr b (j*w+c)))(hy:ev E fs y=some v)(hp:pk ps k=some (.arr b w n es tg))(he:es[j]? = some e)(hv:KG e c v sz=some e'):Od E m0 fs ps (.store ty x y) undef (da ps k (.arr b w n (es.set j e') tg)):=by
 refine .store hx hy fun m h=>?_;obtain⟨g1,g2,g3,g4,g5,g6,g7⟩:=h.get hp;have hew:=g5 e (Ti he);simp only[KG] at hv
 split at hv
 ·rename_i e1;cases hv;simp only[SW] at e1;obtain⟨⟨⟨h1,h2⟩,h3⟩,h4⟩:=e1;have h1:=S0 h1;have h2':0<sz:=by rwa[UI] at h2
  have h4:=S6 h4;have hj:j<es.length:=(Tc.1 he).1;have hfl:∀(l:Vp),(∀e∈l,e.length=w)->l.flatten.length=l.length*w:=by
   intro l
   induction l with
   | nil=>intro _; simp
   | cons x l ih=>intro hl; rw[T4,S5,ih (fun e he=>hl e (by simp[he])),hl x (by simp),Tz,UL]; omega
  have hmul:(j+1)*w<=es.length*w:=T2 w hj;rw[UL] at hmul;have hst:KG es.flatten (j*w+c) v sz=some (aI es.flatten (j*w+c) v.cells.toList):=by
   have:(Nat.beq v.cells.toList.length sz&&Nat.blt 0 sz&&bo v.cells.toList&&Nat.ble (j*w+c+sz) es.flatten.length)=true:=by
    simp only[SW];exact⟨⟨⟨by rw[h1]; exact Nat.beq_refl _,h2⟩,h3⟩,TK (by rw[hfl es g5]; omega)⟩
   simp only[KG,this]
  refine⟨_,zz ht g3 (by rcases g6 with rfl|rfl<;>simp) hst,h.write hp rfl rfl rfl rfl ?_⟩
  refine⟨g1,g2,?_,by simpa using g4,fun e'' he''=>?_,g6,g7⟩
  rw[V7.bX,S7 rfl,zr g5 he (by omega)]
  rcases UH he'' with h5|h5
  exact g5 _ h5
  rw[h5,iE _ _ _ (by omega)]; exact hew
 cases hv
def Ox.made{o:Op}{ob:Nat->V9}{p:Nat->Pc}{V:Nat->Vs}(hr:∀t,aP E t o=none)(h:∀t m,Fr t fs->∀K,bt E t m o K=K (V m.next) (m.alloc (ob m.next)))
  (hb:∀b,(p b).qQ=some b) (hp:∀lo m b,lo<=b->b<m.next->m.get b=some (ob b)->(p b).ok lo m) (hpg:∀b x,¬(p b).EO x:=by exact fun _ _ h=>h):Ox E m0 fs ps o V (fun b=>p b::ps) :=
 fun t m hf hm=>⟨fun b hb=>(by rw[hr] at hb; cases hb),fun K hK=>by
  rw[h t m hf];refine hK m.next _ (hm.cons (Nat.le_succ _) (hm.ext.alloc _) (fun b hlt=>by rw[V7.bg,Vz]) (hp _ _ _ hm.ext.next (Uj _) (by rw[V7.bg,S7 rfl])) (fun b' h'=>?_) (hpg _))
  rw[hb] at h'; cases h'; exact SX _⟩
def HF{z:Vs}(hz:bK E.P ty=some z)(hp:bw z=true):Ox E m0 fs ps (.alloc ty) (fun b=>ptr b 0) (fun b=>.obj b (.cells z.cells.toList .own)::ps) :=
 .made (ob:=fun _=>.cells z.cells.toList .own) (p:=fun b=>.obj b (.cells z.cells.toList .own)) (fun _=>rfl) (fun _ _ _ K=>Go.Ab.Kg hz hp K) (fun _=>rfl) fun _ _ _ h1 h2 h3=>⟨h1,h2,h3⟩
def Rl(h:ev E fs x=some v):Ox E m0 fs ps (.box ty x) (fun b=>ptr b 0) (fun b=>.obj b (.cells v.cells.toList .own)::ps) :=
 .made (ob:=fun _=>.cells v.cells.toList .own) (p:=fun b=>.obj b (.cells v.cells.toList .own)) (fun _=>rfl) (fun _ _ hf K=>Go.Ab.P9 (hf.ev h) K) (fun _=>rfl) fun _ _ _ h1 h2 h3=>⟨h1,h2,h3⟩
def Q5(P:Vv)(elem:Vt)(w len:Nat)(vs:WB (Nat×Vs)):WA (WB Vs) :=
 match fH P elem len with
 | some zs=>match zs.all aL&&Nat.ble (len*w) 16777216 with
  | true=>gS (fun i=>some (i*w,w)) zs vs
  | false=>none
 | none=>none
def Qa(w:Nat)(es:Vp):Bool:=es.all fun e=>Nat.beq e.length w
def LP{w:Nat}{es:Vp}(h:Qa w es=true):∀e∈es,e.length=w:=fun e he=>S0 (Tk.1 h e he)
def gy{elem:Vt}{w len:Nat}{parts:WD (Nat×Vu)}{vs:WB (Nat×Vs)}{es:Vp}(ht:SlT E.P ty elem w)(h:JF E fs parts.toList=some vs)(hf:Q5 E.P elem w len vs=some es.flatten)(hl:Nat.beq es.length len=true)(hw:Qa w es=true) :
  Ox E m0 fs ps (.buildSlice ty len parts) (fun b=>.slice (some ⟨b,0,none⟩) len len) (fun b=>.arr b w len es .own::ps):=by
 refine .made (ob:=fun _=>.cells es.flatten .own) (p:=fun b=>.arr b w len es .own) (fun _=>rfl) (fun t m hfr K=>?_) (fun _=>rfl) fun _ _ _ h1 h2 h3=>⟨h1,h2,h3,S0 hl,LP hw,.inl rfl,ht.pos⟩;simp only[Q5] at hf
 split at hf
 rename_i zs hz
 split at hf
 rename_i hc;simp only[SW] at hc;have:cH E t m (.buildSlice ty len parts)=some (.slice (some ⟨m.next,0,none⟩) len len,m.alloc (.cells es.flatten .own)):=by
  have h2:¬(len*w>2 ^ 24):=by have:=S6 hc.2; omega
  simp only[cH,ht.und,hfr.JF h,ht.known,ht.size,hz,hc.1,hf,S9,Bool.false_or,Ta h2,if_true,SZ]
  rfl
 exact Go.Ab.Ik rfl this K
 cases hf
 cases hf
def lim(n:Nat):Bool:=Nat.ble n 1073741824
def qt{z:WB Vs}:∀n,cb z n=(List.replicate n z).flatten
 | 0=>rfl
 | n+1=>by rw[cb,qt n,Uh,T4]
def QF{elem:Vt}{w n:Nat}{i:Int}{z:Vs}(ht:SlT E.P ty elem w)(hx:ev E fs x=some (.int .i64 i))(hi:i=(n:Int))(hl:lim n=true)(hz:bK E.P elem=some z)(hp:z.cells.toList.all aL=true) :
  Ox E m0 fs ps (.makeSlice ty x x) (fun b=>.slice (some ⟨b,0,none⟩) n n) (fun b=>.arr b w n (List.replicate n z.cells.toList) .own::ps):=by
 subst hi;have hzs:z.cells.size=w:=by have:=ht.zero; rw[hz] at this; simp only[Option.any_some,SW,beq_iff_eq] at this; exact this.1
 refine .made (ob:=fun _=>.cells (List.replicate n z.cells.toList).flatten .own) (p:=fun b=>.arr b w n (List.replicate n z.cells.toList) .own) (fun _=>rfl) (fun t m hfr K=>?_) (fun _=>rfl) fun _ _ _ h1 h2 h3=>⟨h1,h2,h3,by simp,fun e he=>by rw[List.eq_of_mem_replicate he]; simpa using hzs,.inl rfl,ht.pos⟩
 have hln:n<=1073741824:=S6 hl;obtain⟨inf,hi1,hi2,hi3⟩:=ht.bytes;have hzz:fH E.P elem n=some (List.replicate n z.cells.toList).flatten:=by
  simp only[fH,hz,ht.size];rw[S7 hzs,qt]
 have ha:(List.replicate n z.cells.toList).flatten.all aL=true:=by
  rw[Tk];intro v hv;obtain⟨l,h1,h2⟩:=List.mem_flatten.1 hv;rw[List.eq_of_mem_replicate h1] at h2;exact Tk.1 hp v h2
 have hmul:inf.bytes*n<=1024*1073741824:=T0 hi3 hln;have:cH E t m (.makeSlice ty x x)=some (.slice (some ⟨m.next,0,none⟩) n n,m.alloc (.cells (List.replicate n z.cells.toList).flatten .own)):=by
  have hc:(0:Int)<=(n:Int)/\(n:Int)<=(n:Int)/\(E.P.info? elem).any (fun i=>i.bytes*(n:Int)<=2 ^ 40&&i.bytes != 0)=true/\known E.P elem=true:=by
   refine⟨by omega,by omega,?_,ht.known⟩
   rw[hi1];have h5:((inf.bytes*n:Nat):Int)<=(1024*1073741824:Nat):=Int.ofNat_le.2 hmul;have h6:((inf.bytes*n:Nat):Int)=(inf.bytes:Int)*(n:Int):=U1 _ _;simp only[Option.any_some,SW,Tv,bne_iff_ne,ne_eq];exact⟨by rw[<-h6]; omega,hi2⟩
  simp only[cH,ht.und,hfr.ev hx,SS,hzz];rw[S7 hc,S7 ha]
 exact Go.Ab.Ik rfl this K
end
end Go.Ab.W
section
open Go Go.Ab Go.Ab.W
abbrev VT:=@Hp.bC
end
end
section
namespace Go.Ab.W
open Go Go.Ab
attribute [local irreducible] Tm.at Trie.set Trie.get V7.get V7.set V7.alloc V7.ww V7.kill
section
variable{E:Env}{n:Nat}{m0 m m':V7}{fs:Fs}{ps:WB Pc}{x y:Vu}{v:Vs}{ty:Vt}
def BJ.rd{lo b w n:Nat}{es:Vp}{tg:Tag}(h:BJ lo m b w n es tg):Rd m (some ⟨b,0,none⟩) n w n es :=
 ⟨h.2.2.2.1,SX _,.inr (.inr ⟨b,0,rfl,h.MG⟩)⟩
inductive IsRd:Pc->Vq->Nat->Nat->Nat->Vp->Prop
 | arr (b w n:Nat) (es:Vp) (tg:Tag):IsRd (.arr b w n es tg) (some ⟨b,0,none⟩) n w n es
 | sl (a:Vq) (w n:Nat) (es:Vp):IsRd (.sl a w n es) a n w n es
 | rd (a:Vq) (cap w n:Nat) (es:Vp):IsRd (.rd a cap w n es) a cap w n es
 | nil {p:Pc} (w:Nat):IsRd p none 0 w 0 []
def Pc.OI{p:Pc}{a:Vq}{lo cap w n:Nat}{es:Vp}(h:p.ok lo m)(hi:IsRd p a cap w n es):Rd m a cap w n es:=by
 cases hi with
 | arr b w n es tg=>exact BJ.rd h
 | sl a w n es =>
  rcases h with⟨rfl,rfl,rfl,_⟩|⟨b,tg,rfl,h⟩
  exact⟨rfl,SX _,.inl ⟨rfl,rfl⟩⟩
  exact h.rd
 | rd a cap w n es=>exact h
 | nil w=>exact⟨rfl,SX _,.inl ⟨rfl,rfl⟩⟩
def Hp.rd(h:Hp m0 m ps){k:Nat}{p:Pc}{a:Vq}{cap w n:Nat}{es:Vp}(hp:pk ps k=some p)(hi:IsRd p a cap w n es):Rd m a cap w n es:=Pc.OI (h.get hp) hi
def Rd.nil(m:V7)(w:Nat):Rd m none 0 w 0 []:=⟨rfl,SX _,.inl ⟨rfl,rfl⟩⟩
def Rd.cells{a:Vq}{cap w n:Nat}{es:Vp}(h:Rd m a cap w n es):cd w (.slice a n cap) n m=some es.flatten:=by
 obtain⟨h1,h2,h4⟩:=h
 by_cases hn:n=0
 ·subst hn;have:es=[]:=Ux.1 h1;subst this;cases a with
  | none=>rfl
  | some a=>obtain⟨b,o,sp⟩:=a; cases sp<;>rfl
 ·rcases h4 with h4|⟨b,sp,rfl,h4,_⟩|⟨b,o,rfl,_,all,tg,hg,_,hl⟩
  exact Tl h4.2 hn
  exact Tl h4 hn
  ·simp only[cd,S8 hn,V7.dK,hg];have key:∀(es:Vp) (k:Nat),(∀i e,es[i]? = some e->(all.drop (o+(k+i)*w)).take w=e/\e.length=w)->(all.drop (o+k*w)).take (es.length*w)=es.flatten/\es.flatten.length=es.length*w:=by
    intro es
    induction es with
    | nil=>intro k _; simp
    | cons e es ih =>
     intro k hk;obtain⟨a1,a2⟩:=hk 0 e rfl;obtain⟨b1,b2⟩:=ih (k+1) fun i e' he'=>by
      have:=hk (i+1) e' (by simpa using he')
      rwa[show k+(i+1)=k+1+i by omega] at this
     rw[TP] at a1;refine⟨?_,by rw[T4,S5,a2,b2,Tz,UL]; omega⟩
     rw[Tz,UL,Nat.add_comm,List.take_add,a1,U0,T4,<-b1,UL,UY]
   have:=key es 0 (fun i e he=>by rw[TM]; exact hl i e he)
   rw[UA,TP,h1] at this;rw[this.1,S7 this.2]
def Hp.renew(h:Hp m0 m ps){k:Nat}{p p':Pc}(hp:pk ps k=some p)(hn:m.next<=m'.next)(hext:Ext m0 m')(hok:p'.ok m0.next m')(hb:∀b,p'.qQ=some b->m.next<=b)(hpo:p.own=true)(hg:∀b,p.qQ≠some b->b<m.next->m'.get b=m.get b)(hng:∀b,¬p'.EO b:=by exact fun _ h=>h):Hp m0 m' (da ps k p') :=
 h.Sb hp (fun b a=>.inr ((Pc.iP a).elim (hb b) fun h=>Tl h (hng b))) (fun b a=>.inr (a.elim (hb b) fun h=>Tl h (hng b))) hn hext hok fun b hb' hlt=>hg b (fun e=>hb' (.inl ⟨hpo,e⟩)) hlt
def fG(es:Vp):Prop:=∀e∈es,e.all lH=true
def Bh{α:Type}{f:α->WB Vs}(h:∀x,(f x).all lH=true)(xs:WB α):fG (xs.map f):=fun e he=>by
 obtain⟨x,_,rfl⟩:=UZ.1 he; exact h x
def zV{es:Vp}(h:fG es):bo es.flatten=true:=by
 unfold bo;rw[Tk];intro v hv;obtain⟨l,h1,h2⟩:=List.mem_flatten.1 hv;exact Tk.1 (h l h1) v h2
def zN{w:Nat}:∀{l:Vp},(∀e∈l,e.length=w)->l.flatten.length=l.length*w:=by
 intro l
 induction l with
 | nil=>intro _; simp
 | cons x l ih=>intro hl; rw[T4,S5,ih (fun e he=>hl e (by simp[he])),hl x (by simp),Tz,UL]; omega
def mw {P:Vv} {elem ty2:Vt} {w k n2 c0:Nat} {a a0:Vq} {es es2:Vp} (ht:SlT P ty elem w) (h6:∃e2,P.underlying ty2=some (.slice e2)) (h:Hp m0 m ps) (hp:pk ps k=some (.sl a w n es)) (hr:Rd m a0 c0 w n2 es2) (h5:∀e ∈ es2,e.length=w) (ho:fG es2) (hl:lim (n+n2)=true) :
  ∃a' m',dB P ty (some ty2) (.slice a n n) (.slice a0 n2 c0) m=some (.slice a' (n+n2) (n+n2),m')/\Hp m0 m' (da ps k (.sl a' w (n+n2) (es++es2))):=by
 obtain⟨e2,h7⟩:=h6;obtain⟨inf,h8,h9,h10⟩:=ht.bytes;have hln:n+n2<=1073741824:=S6 hl;have hc:=hr.cells;have hlen2:es2.flatten.length=n2*w:=by rw[zN h5,hr.1]
 have hnew:iK P elem (some ty2) (.slice a0 n2 c0) m=some (n2,es2.flatten):=by
  simp only[iK,TF,h7,ht.size];have:cd w (.slice a0 n2 c0) n2 m=some es2.flatten:=hc;rw[this]; rfl
 have hfit:(P.info? elem).any (fun i=>gp i.bytes (n+n2)&&i.bytes != 0)=true:=by
  rw[h8];have hmul:(2*(n+n2)+2000)*inf.bytes<=(2*1073741824+2000)*1024:=T0 (by omega) h10
  simp only[Option.any_some,gp,SW,Tv,bne_iff_ne,ne_eq];exact⟨by omega,h9⟩
 have hzero:(bK P elem).any (fun z=>z.cells.size==w&&z.cells.toList.all aL)=true:=ht.zero;have hpos:=ht.pos;have h11:(w==0)=false:=by simp; omega
 have hguard:(!(known P elem)||aA P elem==0 || !bo es2.flatten || !(P.info? elem).any (fun i=>gp i.bytes (n+n2)&&i.bytes != 0)||es2.flatten.length != n2*aA P elem || !(bK P elem).any (fun z=>z.cells.size==aA P elem&&z.cells.toList.all aL))=false:=by
  rw[ht.size,ht.known,hfit,hzero,zV ho,h11,hlen2]; simp
 have hres:∀a',(∃m',(.slice a' (n+n2) (n+n2),m')=((.slice a' (n+n2) (n+n2),m'):Vs×V7)):=fun a'=>⟨m,rfl⟩;have hpc:=h.get hp;have hext:=h.ext;rcases hpc with⟨rfl,rfl,rfl,_⟩|⟨b,tg,rfl,hb⟩
 ·
  by_cases h0:n2=0
  ·subst h0;have hes:es2=[]:=Ux.1 hr.1;subst hes;refine⟨none,m,?_,?_⟩
   unfold dB;simp only[ht.und,hnew];rw[S8 (by rw[hguard]; exact Uv)]
   rfl
   ·have:da ps k (.sl none w (0+0) ([]++[]))=ps:=by
     have:∀(l:WB Pc) (k:Nat) (p:Pc),pk l k=some p->da l k p=l:=by
      intro l
      induction l with
      | nil=>intro k p h; simp[pk] at h
      | cons q l ih =>
       intro k p h;cases k with
       | zero=>rw[iX] at h; rw[jQ,S3 h]
       | succ k=>rw[fe] at h; rw[ie,ih k p h]
     exact this ps k _ hp
    rw[this]; exact h
  refine⟨some ⟨m.next,0,none⟩,m.alloc (.cells es2.flatten (.more w)),?_,?_⟩
  unfold dB;simp only[ht.und,hnew];rw[S8 (by rw[hguard]; exact Uv)]
  simp only[ht.size];rw[S8 (by simp),S8 h0,TM]
  refine h.renew hp (by simp only[V7.next_alloc]; omega) (hext.alloc _) (.inr ⟨m.next,.more w,rfl,hext.next,(by rw[V7.next_alloc]; omega),?_,?_,?_,.inr rfl,hpos⟩) (fun b' hb'=>?_) rfl fun b' _ hlt=>?_
  rw[V7.bg,S7 rfl,Us]
  rw[Us,hr.1,TM]
  rw[Us]; exact h5
  cases hb'; exact SX _
  rw[V7.bg,Vz]
 ·obtain⟨g4,g5,g0,g1,g2,g3,g6⟩:=hb;have hlen:es.flatten.length=n*w:=by rw[zN g2,g1]
  by_cases h0:n2=0
  ·subst h0;have hes:es2=[]:=Ux.1 hr.1;subst hes;refine⟨some ⟨b,0,none⟩,m,?_,?_⟩
   unfold dB;simp only[ht.und,hnew];rw[S8 (by rw[hguard]; exact Uv)]
   simp only[g0];rw[S7 (Nat.le_of_eq (TP n))];simp[V7.dj]
   ·rw[T8,TP];have:da ps k (.sl (some ⟨b,0,none⟩) w n es)=ps:=by
     have:∀(l:WB Pc) (k:Nat) (p:Pc),pk l k=some p->da l k p=l:=by
      intro l
      induction l with
      | nil=>intro k p h; simp[pk] at h
      | cons q l ih =>
       intro k p h;cases k with
       | zero=>rw[iX] at h; rw[jQ,S3 h]
       | succ k=>rw[fe] at h; rw[ie,ih k p h]
     exact this ps k _ hp
    rw[this]; exact h
  have hcap:¬(n+n2<=n):=by omega
  have htake:es.flatten.take (n*w)=es.flatten:=UG (by omega)
  have hok:∀(mm:V7),m.next<=mm.next->Pc.ok m0.next (mm.alloc (.cells (es.flatten++es2.flatten) (.more w))) (.sl (some ⟨mm.next,0,none⟩) w (n+n2) (es++es2)):=fun mm hmm =>
   .inr ⟨mm.next,.more w,rfl,Tb hext.next hmm,(by rw[V7.next_alloc]; omega),by rw[V7.bg,S7 rfl,List.flatten_append],by rw[S5,g1,hr.1],fun e he=>by
    rcases T7.1 he with he|he
    exact g2 e he
    exact h5 e he,.inr rfl,hpos⟩
  rcases g3 with rfl|rfl
  refine⟨some ⟨m.next,0,none⟩,m.alloc (.cells (es.flatten++es2.flatten) (.more w)),?_,?_⟩
  unfold dB;simp only[ht.und,hnew];rw[S8 (by rw[hguard]; exact Uv)]
  simp only[ht.size,g0];rw[S8 hcap];have hld:m.dK b 0 (n*w)=some es.flatten:=by
   simp only[V7.dK,g0,Vd,htake];rw[S7 hlen]
  simp only[hld]
  refine h.renew hp (by simp only[V7.next_alloc]; omega) (hext.alloc _) (hok m (SX _)) (fun b' hb'=>?_) rfl fun b' _ hlt=>?_
  cases hb'; exact SX _
  rw[V7.bg,Vz]
  refine⟨some ⟨(m.kill b).next,0,none⟩,(m.kill b).alloc (.cells (es.flatten++es2.flatten) (.more w)),?_,?_⟩
  unfold dB;simp only[ht.und,hnew];rw[S8 (by rw[hguard]; exact Uv)]
  simp only[ht.size,g0];rw[S8 hcap];simp only[and_self,if_true,htake,hlen,V7.next_kill]
  have hk:Ext m0 (m.kill b):=⟨by rw[V7.next_kill]; exact hext.next,fun x hx=>by rw[V7.fP,Vz]; exact hext.same x hx,by
   rw[V7.wl_kill];have:=hext.wl; omega⟩
  refine h.renew hp (by simp only[V7.next_alloc,V7.next_kill]; omega) (hk.alloc _) (hok (m.kill b) (by rw[V7.next_kill]; exact SX _)) (fun b' hb'=>?_) rfl fun b' hb' hlt=>?_
  cases hb'; rw[V7.next_kill]; exact SX _
  rw[V7.bg,S8 (by simp; omega),V7.fP,S8 (fun e=>hb' (by rw[e]; rfl))]
def Qy{elem ty2:Vt}{w k k2 n2 c0:Nat}{a a0:Vq}{es es2:Vp}{ars:WD Vu}{p0:Pc}(ht:SlT E.P ty elem w)(h0:∃e2,E.P.underlying ty2=some (.slice e2))(ha:kP E fs ars.toList=some [.slice a n n,.slice a0 n2 c0])(hp:pk ps k=some (.sl a w n es))(h5:pk ps k2=some p0)(hr:IsRd p0 a0 c0 w n2 es2)(h6:∀e∈es2,e.length=w)(ho:fG es2)(hl:lim (n+n2)=true) :
  Ox E m0 fs ps (.call ⟨.builtin .append,ars,#[ty,ty2]⟩) (fun a':Vq=>.slice a' (n+n2) (n+n2)) (fun a'=>da ps k (.sl a' w (n+n2) (es++es2))) :=
 fun t m hf h=>⟨fun b hb=>(by simp[aP] at hb),fun K hK=>by
  obtain⟨a',m',h1,h2⟩:=mw (n:=n) ht h0 h hp (h.rd h5 hr) h6 ho hl;have:bp E.P .append #[ty,ty2] [.slice a n n,.slice a0 n2 c0] m=some (.slice a' (n+n2) (n+n2),m'):=h1;rw[Go.Ab.fp (hf.kP ha) this];exact hK a' m' h2⟩
def rQ{k cap:Nat}{a:Vq}{ars:WD Vu}{p:Pc}{elem:Vt}(hu:E.P.underlying ty=some (.slice elem))(ha:kP E fs ars.toList=some [.slice a n cap])(hp:pk ps k=some p)(hb:dx a=p.qQ\/a=none) :
  Od E m0 fs ps (.call ⟨.builtin .len,ars,#[ty]⟩) (.int .i64 (n:Int)) ps :=
 fun t m hf h=>⟨fun b hb'=>by
  simp only[aP,hf.kP ha] at hb';have hab:fO (.slice a n cap)=dx a:=by cases a<;>rfl
  rw[hab] at hb';exact hb.elim (fun hb=>Pc.MY (h.get hp) (hb▸hb')) (fun hb=>by rw[hb] at hb'; exact nomatch hb'),fun K hK=>by
  have:bp E.P .len #[ty] [.slice a n cap] m=some (.int .i64 (n:Int),m):=by
   have ht:(#[ty]:WD Vt)[0]? = some ty:=rfl;simp only[bp,ht,TF,hu]
  rw[Go.Ab.fp (hf.kP ha) this]; exact hK m h⟩
def pZ{n cap lo hi:Nat}(h1:lo<=hi)(h2:hi<=cap){l h:WA Vs}(hl:l=none/\lo=0\/∃k,l=some (.int k (lo:Int)))(hh:h=none/\hi=n\/∃k,h=some (.int k (hi:Int))):eQ n cap l h none=some (lo,hi,cap):=by
 have hb:∀(k:IntKind) (x y:Nat),x<=y->kD (.int k (x:Int)) y=some x:=fun k x y hxy=>by
  simp only[kD]; rw[S7 ⟨by omega,by omega⟩,SS]
 rcases hl with⟨rfl,rfl⟩|⟨k1,rfl⟩<;>rcases hh with⟨rfl,rfl⟩|⟨k2,rfl⟩<;>(unfold eQ; simp only[hb _ _ _ h1,hb _ _ _ h2])
def ot.drop{b o w:Nat}{es:Vp}(h:ot m b o w es)(lo k:Nat):ot m b (o+lo*w) w ((es.drop lo).take k):=by
 obtain⟨h1,all,tg,h2,hs,h3⟩:=h;refine⟨h1,all,tg,h2,hs,fun i e he=>?_⟩;rw[UN] at he
 split at he
 rw[Um] at he;have:=h3 (lo+i) e he;rwa[TI,<-UY] at this
 cases he
def Ic{P:Vv}{elem:Vt}{cap w lo hi:Nat}{a:Vq}{es:Vp}{l h:WA Vs}(ht:SlT P ty elem w)(hr:Rd m a cap w n es)(h1:lo<=hi)(h2:hi<=n)(hl:l=none/\lo=0\/∃k,l=some (.int k (lo:Int)))(hh:h=none/\hi=n\/∃k,h=some (.int k (hi:Int))) :
  ∃a' cap',cE P ty (.slice a n cap) l h none m=some (.slice a' (hi-lo) cap')/\Rd m a' cap' w (hi-lo) ((es.drop lo).take (hi-lo))/\(dx a'=dx a):=by
 obtain⟨r1,r2,r4⟩:=hr;have hlen:((es.drop lo).take (hi-lo)).length=hi-lo:=by rw[TW,UU,r1]; omega
 have hb:=pZ (n:=n) (cap:=cap) h1 (Tb h2 r2) hl hh;rcases r4 with⟨rfl,rfl⟩|⟨b,sp,rfl,rfl,rfl,hlt⟩|⟨b,o,rfl,hli⟩
 refine⟨none,cap-lo,?_,⟨hlen,by omega,.inl ⟨rfl,by omega⟩⟩,rfl⟩
 simp only[cE,ht.und,ht.known,if_true,hb]
 have e1:lo=0:=by omega
 have e2:hi=0:=by omega
 subst e1 e2;refine⟨some ⟨b,0,some sp⟩,0,?_,⟨hlen,SX _,.inr (.inl ⟨b,sp,rfl,rfl,rfl,hlt⟩)⟩,rfl⟩;simp only[cE,ht.und,ht.known,if_true,hb,U4]
 ·have hli':=hli.drop lo (hi-lo);obtain⟨hlt,all,tg,hg,hs,hall⟩:=hli;have plain:(∀sz,tg≠.more sz)->∃a' cap',cE P ty (.slice (some ⟨b,o,none⟩) n cap) l h none m=some (.slice a' (hi-lo) cap')/\Rd m a' cap' w (hi-lo) ((es.drop lo).take (hi-lo))/\(dx a'=dx (some ⟨b,o,none⟩)):=by
   intro hne;have:cE P ty (.slice (some ⟨b,o,none⟩) n cap) l h none m=some (.slice (some (if cap=lo then⟨b,o,none⟩ else⟨b,o+lo*w,none⟩)) (hi-lo) (cap-lo)):=by
    cases tg with
    | more sz=>exact Tl rfl (hne sz)
    | ro=>simp only[cE,ht.und,ht.known,if_true,hg,hb,ht.size]
    | own=>simp only[cE,ht.und,ht.known,if_true,hg,hb,ht.size]
   by_cases hc:cap=lo
   rw[S7 hc] at this;have e0:hi-lo=0:=by omega
   refine⟨_,_,this,⟨hlen,by omega,.inr (.inr ⟨b,o,rfl,hlt,all,tg,hg,hs,fun i e he=>?_⟩)⟩,rfl⟩
   rw[e0,List.take_zero] at he; simp at he
   rw[S8 hc] at this;exact⟨_,_,this,⟨hlen,by omega,.inr (.inr ⟨b,_,rfl,hli'⟩)⟩,rfl⟩
  cases tg with
  | ro=>exact plain fun sz e=>(by cases e)
  | own=>exact plain fun sz e=>(by cases e)
  | more sz =>
   have hsz:=hs sz rfl;subst hsz;have hb':=pZ (n:=n) (cap:=cap) h1 (Tb h2 r2) hl hh
   by_cases hc:cap=lo
   have e0:hi-lo=0:=by omega
   have e1:((es.drop lo).take (hi-lo))=[]:=by rw[e0]; rfl
   refine⟨some ⟨b,0,some 0⟩,0,?_,⟨hlen,by omega,.inr (.inl ⟨b,0,rfl,e0,rfl,hlt⟩)⟩,rfl⟩
   simp only[cE,ht.und,ht.known,if_true,hg,hb',ht.size,ne_eq,not_true_eq_false,if_false,e0,gG];rw[S7 hc]
   refine⟨some ⟨b,o+lo*sz,none⟩,cap-lo,?_,⟨hlen,by omega,.inr (.inr ⟨b,_,rfl,hli'⟩)⟩,rfl⟩
   simp only[cE,ht.und,ht.known,if_true,hg,hb',ht.size,hc,ne_eq,not_true_eq_false,if_false]
def PS{elem:Vt}{k cap w lo hi:Nat}{a:Vq}{es:Vp}{x:Vu}{lx hx:WA Vu}{l h:WA Vs}(ht:SlT E.P ty elem w)(hv:ev E fs x=some (.slice a n cap))(e1:FY E fs lx=some l)(e2:FY E fs hx=some h)(hp:pk ps k=some (.rd a cap w n es))(h1:lo<=hi)(h2:hi<=n)(hl:l=none/\lo=0\/∃k,l=some (.int k (lo:Int)))(hh:h=none/\hi=n\/∃k,h=some (.int k (hi:Int))) :
  Ox E m0 fs ps (.slice ty x lx hx none) (fun r:Vq×Nat=>.slice r.1 (hi-lo) r.2) (fun r=>.rd r.1 r.2 w (hi-lo) ((es.drop lo).take (hi-lo))::ps) :=
 fun t m hf hm=>by
  obtain⟨a',cap',s1,s2,s3⟩:=Ic ht (hm.get hp) h1 h2 hl hh;refine⟨fun b hb=>?_,fun K hK=>?_⟩
  have hab:fO (.slice a n cap)=dx a:=by cases a<;>rfl
  simp only[aP,hf.ev hv,TF,hab] at hb;exact Rd.lt (hm.get hp) hb
  rw[Go.Ab.Et (hf.ev hv) (hf.FY e1) (hf.FY e2) rfl s1];exact hK (a',cap') m (hm.more hp rfl s2 rfl fun b hb=>by
   have:dx a'=some b:=hb;rw[s3] at this; exact this)
def xW(ps:WB Pc):Bool:=ps.all Pc.own
def M4{α:Type}{V:α->Vs}{N:α->WB Pc}{f:Vu}{g:WJ}{first cap:WD Vs}{ars:WD Vu}{ts:WD Vt}{args:WB Vs}(hf:ev E fs f=some (.func (.func g) first cap))(ha:kP E fs ars.toList=some args)(hc:∀m,Hp m0 m ps->aB E g (first.toList++args++cap.toList) m (fun v m'=>∃x,v=V x/\Hp m0 m' (N x))):Ox E m0 fs ps (.call ⟨.value f,ars,ts⟩) V N :=
 fun t m hfr hm=>⟨fun b hb=>(by simp[aP] at hb),fun K hK=>by
  have hev:an E t f=some (.func (.func g) first cap):=by
   cases f with
   | tmp i=>exact hfr.ev hf
   | const c=>exact hfr.ev hf
   | global g=>exact hfr.ev hf
   | func g=>exact hfr.ev hf
  show lO E (an E t f) (bE E t ars.toList) m _
  rw[hev,hfr.kP ha]
  show aB E g (first.toList++args++cap.toList) m K
  exact(hc m hm).mono fun v m' ⟨x,e,h⟩=>by rw[e]; exact hK x m' h⟩
def Ro{α:Type}{V:α->Vs}{N:α->WB Pc}{f:Vu}{g:WJ}{ars:WD Vu}{ts:WD Vt}{args:WB Vs}(hf:ev E fs f=some (.func (.func g) #[] #[]))(ha:kP E fs ars.toList=some args)(hc:∀m,Hp m0 m ps->aB E g args m (fun v m'=>∃x,v=V x/\Hp m m' (N x)))(ho:∀x,xW (N x)=true):Ox E m0 fs ps (.call ⟨.value f,ars,ts⟩) V (fun x=>N x++ps) :=
 M4 hf ha fun m hm=>by
  simp only[Us,T8];exact(hc m hm).mono fun v m' ⟨x,e,h⟩=>⟨x,e,hm.after h fun p hp=>Tk.1 (ho x) p hp⟩
end
def Ext.PT{m0 m:V7}(h:Ext m0 m){w:Nat}(hw:min m0.wl m0.next<=w):Ext m0 (m.ww w):=⟨by rw[V7.next_ww]; exact h.next,fun b hb=>by rw[V7.get_ww]; exact h.same b hb,by rw[V7.wl_ww]; exact hw⟩
def Hp.ww{m0 m:V7}{ps:WB Pc}(h:Hp m0 m ps){w:Nat}(hw:min m0.wl m0.next<=w):Hp m0 (m.ww w) ps :=
 ⟨Ext.PT h.ext hw,fun p hp=>Pc.ia (h.ok p hp) (by rw[V7.next_ww]; exact SX _) (fun b _ _=>by rw[V7.get_ww]),h.apart⟩
section
variable{E:Env}{n:Nat}{m0:V7}{fs:Fs}{ps ps':WB Pc}{ops:WD Oper}{os:WB Oper}{K:Tm->V7->Prop}{dr:Bool}
def Wo(dr:Bool)(E:Env)(n:Nat)(ops:WD Oper)(K:Tm->V7->Prop)(os:WB Oper)(m0:V7)(fs:Fs)(ps:WB Pc):Prop :=
 match dr with
 | false=>∀t m,Fr t fs->Hp m0 m ps->pt E n ops K os t m
 | true=>∀t m w,Fr t fs->Hp m0 m ps->min m0.wl m0.next<=w->iN E n ops K os t m w
variable{ty:Vt}{p:String}{af:WD Edge}{d:Nat}{o:Op}{g:WA (Nat×Bool)}{v:Vs}
def sD(ops:WD Oper)(fs:Fs)(g:WA (Nat×Bool))(b:Bool):Prop:=∀t d o ty p af,Fr t fs->aU ops ⟨d,o,ty,p,af,g⟩ t=b
def gn:sD ops fs none true:=fun _ _ _ _ _ _ _=>rfl
def gg{j d:Nat}{b c r:Bool}(hd:(ops[j]?).bind (·.dst)=some d)(h:lk fs d=some (.bool c))(hr:(c==b)=r):sD ops fs (some (j,b)) r:=fun t d' o ty p af hf=>by
 rw[<-hr]; exact Rx hd (hf d _ h)
def Wo.x{α:Type}{V:α->Vs}{N:α->WB Pc}(h:Ox E m0 fs ps o V N)(hg:sD ops fs g true)(hd:Nat.blt d n=true)(k:∀x,Wo dr E n ops K os m0 ((d,V x)::fs) (N x)):Wo dr E n ops K (⟨some d,o,ty,p,af,g⟩::os) m0 fs ps:=by
 have hd':d<n:=by rwa[UI] at hd
 cases dr with
 | false =>
  intro t m hf hm;simp only[pt,hg t _ _ _ _ _ hf,if_true];refine(h t m hf hm).2 _ fun x m' hm'=>?_;rw[cD,S7 hd'];exact k x _ m' hf.set hm'
 | true =>
  intro t m w hf hm hw;simp only[iN,hg t _ _ _ _ _ hf,if_true];have hx:=hm.ext.next
  have hm':Hp m0 (m.ww m.next) ps:=hm.ww (by omega)
  refine⟨fun b hb=>?_,?_⟩
  have:=(h t _ hf hm').1 b hb;rwa[V7.next_ww] at this
  refine(h t _ hf hm').2 _ fun x m' hm''=>?_;rw[cD,S7 hd'];have:=hm''.ext.wl;exact k x _ m' _ hf.set hm'' (by omega)
def Wo.x0{α:Type}{V:α->Vs}{N:α->WB Pc}(h:Ox E m0 fs ps o V N)(hg:sD ops fs g true)(k:∀x,Wo dr E n ops K os m0 fs (N x)):Wo dr E n ops K (⟨none,o,ty,p,af,g⟩::os) m0 fs ps:=by
 cases dr with
 | false =>
  intro t m hf hm;simp only[pt,hg t _ _ _ _ _ hf,if_true];refine(h t m hf hm).2 _ fun x m' hm'=>?_;exact k x _ m' hf hm'
 | true =>
  intro t m w hf hm hw;simp only[iN,hg t _ _ _ _ _ hf,if_true];have hx:=hm.ext.next
  have hm':Hp m0 (m.ww m.next) ps:=hm.ww (by omega)
  refine⟨fun b hb=>?_,?_⟩
  have:=(h t _ hf hm').1 b hb;rwa[V7.next_ww] at this
  refine(h t _ hf hm').2 _ fun x m' hm''=>?_;have:=hm''.ext.wl;exact k x _ m' _ hf hm'' (by omega)
def Od.x(h:Od E m0 fs ps o v ps'):Ox E m0 fs ps o (fun _:WC=>v) (fun _=>ps'):=fun t m hf hm=>⟨(h t m hf hm).1,fun K hK=>(h t m hf hm).2 K fun m' hm'=>hK () m' hm'⟩
def Wo.od(h:Od E m0 fs ps o v ps')(hd:Nat.blt d n=true)(k:Wo dr E n ops K os m0 ((d,v)::fs) ps'):Wo dr E n ops K (⟨some d,o,ty,p,af,none⟩::os) m0 fs ps:=Wo.x h.x gn hd fun _=>k
def Wo.o0(h:Od E m0 fs ps o v ps')(k:Wo dr E n ops K os m0 fs ps'):Wo dr E n ops K (⟨none,o,ty,p,af,none⟩::os) m0 fs ps:=Wo.x0 h.x gn fun _=>k
def Wo.og(h:Od E m0 fs ps o v ps')(hg:sD ops fs g true)(hd:Nat.blt d n=true)(k:Wo dr E n ops K os m0 ((d,v)::fs) ps'):Wo dr E n ops K (⟨some d,o,ty,p,af,g⟩::os) m0 fs ps:=Wo.x h.x hg hd fun _=>k
def Wo.s(hg:sD ops fs g false)(hd:Nat.blt d n=true)(k:Wo dr E n ops K os m0 ((d,undef)::fs) ps):Wo dr E n ops K (⟨some d,o,ty,p,af,g⟩::os) m0 fs ps:=by
 have hd':d<n:=by rwa[UI] at hd
 cases dr with
 | false =>
  intro t m hf hm;simp only[pt,hg t _ _ _ _ _ hf,Tf,if_false];rw[cD,S7 hd'];exact k _ m hf.set hm
 | true =>
  intro t m w hf hm hw;simp only[iN,hg t _ _ _ _ _ hf,Tf,if_false];rw[cD,S7 hd'];exact k _ m w hf.set hm hw
def ai(m0:V7)(ps:WB Pc)(qs:WB Pc):Prop:=∀m,Hp m0 m ps->Hp m0 m qs
def Wo.bR(h:ai m0 ps ps')(k:Wo dr E n ops K os m0 fs ps'):Wo dr E n ops K os m0 fs ps:=by
 cases dr with
 | false=>exact fun t m hf hm=>k t m hf (h m hm)
 | true=>exact fun t m w hf hm hw=>k t m w hf (h m hm) hw
def Wo.open{k w l:Nat}{a:Vq}{es:Vp}(hp:pk ps k=some (.sl a w l es))(hl:0<l)(h:∀b tg,a=some ⟨b,0,none⟩->C7 tg=true->Wo dr E n ops K os m0 fs (da ps k (.arr b w l es tg))):Wo dr E n ops K os m0 fs ps:=by
 have key:∀m,Hp m0 m ps->∃b tg,a=some ⟨b,0,none⟩/\C7 tg=true/\Hp m0 m (da ps k (.arr b w l es tg)):=by
  intro m hm;have h0:=hm.get hp;rcases h0 with⟨h1,_⟩|⟨b,tg,rfl,h1⟩
  omega
  refine⟨b,tg,rfl,by rcases h1.2.2.2.2.2.1 with rfl|rfl<;>rfl,hm.put hp rfl rfl rfl (SX _) hm.ext h1 fun _ _ _=>rfl⟩
 cases dr with
 | false=>intro t m hf hm; obtain⟨b,tg,h1,h2,h3⟩:=key m hm; exact h b tg h1 h2 t m hf h3
 | true=>intro t m w' hf hm hw; obtain⟨b,tg,h1,h2,h3⟩:=key m hm; exact h b tg h1 h2 t m w' hf h3 hw
def Wo.bA{k w l cap:Nat}{a:Vq}{es:Vp}(hp:pk ps k=some (.rd a cap w l es))(hl:0<l)(h:∀b o,a=some ⟨b,o,none⟩->Wo dr E n ops K os m0 fs (.ro b o w l es::ps)):Wo dr E n ops K os m0 fs ps:=by
 have key:∀m,Hp m0 m ps->∃b o,a=some ⟨b,o,none⟩/\Hp m0 m (.ro b o w l es::ps):=by
  intro m hm;obtain⟨h1,h2,h3⟩:=hm.get hp;rcases h3 with⟨_,h3⟩|⟨_,_,_,h3,_⟩|⟨b,o,rfl,h3⟩
  omega
  omega
  exact⟨b,o,rfl,hm.more hp rfl ⟨h1,h3⟩ rfl fun b' hb=>hb⟩
 cases dr with
 | false=>intro t m hf hm; obtain⟨b,o,h1,h3⟩:=key m hm; exact h b o h1 t m hf h3
 | true=>intro t m w' hf hm hw; obtain⟨b,o,h1,h3⟩:=key m hm; exact h b o h1 t m w' hf h3 hw
def ai.trans{ps'':WB Pc}(h:ai m0 ps ps')(h':ai m0 ps' ps''):ai m0 ps ps'':=fun m hm=>h' m (h m hm)
def ai.au(ks:WB Nat)(hnd:k7 ks=true)(e:W.au ps ks=some ps'):ai m0 ps ps':=fun _ h=>h.au ks hnd e
def ai.close{k b w l:Nat}{es:Vp}{tg:Tag}(hp:pk ps k=some (.arr b w l es tg)):ai m0 ps (da ps k (.sl (some ⟨b,0,none⟩) w l es)):=fun _ h =>
 h.put hp rfl rfl rfl (SX _) h.ext (.inr ⟨b,tg,rfl,h.get hp⟩) fun _ _ _=>rfl
def ai.nil(w:Nat)(hw:Nat.blt 0 w=true):ai m0 ps (.sl none w 0 []::ps):=fun m h =>
 h.cons (SX _) h.ext (fun _ _=>rfl) (.inl ⟨rfl,rfl,rfl,by rwa[UI] at hw⟩) fun b hb=>(by cases hb)
def tZ{ps:WB Pc}{k:Nat}{p p':Pc}(hk:pk ps k=some p)(ho:p'.own=false)(hb:∀b,p'.qQ=some b->p.qQ=some b/\p.own=true)(h:ps.Pairwise Pc.apart)(hng:∀b,¬p'.EO b:=by exact fun _ h=>h):(da ps k p').Pairwise Pc.apart :=
 iI hk (fun r _ ha=>⟨fun b a c=>a.elim (fun a=>by rw[ho] at a; cases a.1) fun a=>hng b (by cases p' with|gen g=>exact .inl a|_=>exact a),fun b a c=>ha.2 b a (c.elim (fun c=>.inl (hb b c).1) fun c=>Tl c (hng b))⟩) h
def ai.freeze{k w l:Nat}{a:Vq}{es:Vp}(hp:pk ps k=some (.sl a w l es)):ai m0 ps (da ps k (.rd a l w l es)):=fun m h =>
 ⟨h.ext,fun q hq=>by
  rcases zG hp h.apart hq with rfl|⟨h1,_⟩
  exact Pc.OI (h.get hp) (.sl a w l es)
  exact h.ok q h1,tZ hp rfl (fun b hb=>⟨hb,rfl⟩) h.apart⟩
variable{fn:WJ}{ro:WA Nat}{Q:V8->Tm->V7->Prop}
def Wk(E:Env)(n:Nat)(fn:WJ)(ro:WA Nat)(c:Code)(Q:V8->Tm->V7->Prop)(m0:V7)(fs:Fs)(ps:WB Pc):Prop:=∀t m,Fr t fs->Hp m0 m ps->bu E n fn ro c Q t m
def At(Q:V8->Tm->V7->Prop)(e:V8)(m0:V7)(fs:Fs)(ps:WB Pc):Prop:=∀t m,Fr t fs->Hp m0 m ps->Q e t m
variable{a b c:Code}{id id':Nat}
def Wk.seq(h:Wk E n fn ro a (lS (bu E n fn ro b Q) Q) m0 fs ps):Wk E n fn ro (.seq a b) Q m0 fs ps:=fun t m hf hm=>.seq (h t m hf hm)
def Wk.skip(h:At Q .normal m0 fs ps):Wk E n fn ro .skip Q m0 fs ps:=fun t m hf hm=>.skip (h t m hf hm)
def Wk.exit(h:At Q (.exit id) m0 fs ps):Wk E n fn ro (.exit id) Q m0 fs ps:=fun t m hf hm=>.exit (h t m hf hm)
def Wk.ret(h:At Q .ret m0 fs ps):Wk E n fn ro .ret Q m0 fs ps:=fun t m hf hm=>.ret (h t m hf hm)
def Wk.cond{x:Vu}{r:Bool}(hx:ev E fs x=some (.bool r))(ht:r=true->Wk E n fn ro a Q m0 fs ps)(hf:r=false->Wk E n fn ro b Q m0 fs ps):Wk E n fn ro (.cond x a b) Q m0 fs ps:=fun t m hfr hm=>.cond (hfr.ev hx) (fun h=>ht h t m hfr hm) (fun h=>hf h t m hfr hm)
def Wk.fm{x:Vu}{r:Bool}(hx:ev E fs x=some (.bool r))(hr:r=true)(ht:Wk E n fn ro a Q m0 fs ps):Wk E n fn ro (.cond x a b) Q m0 fs ps:=.cond hx (fun _=>ht) (fun h=>by rw[hr] at h; cases h)
def Wk.lE{x:Vu}{r:Bool}(hx:ev E fs x=some (.bool r))(hr:r=false)(ht:Wk E n fn ro b Q m0 fs ps):Wk E n fn ro (.cond x a b) Q m0 fs ps:=.cond hx (fun h=>by rw[hr] at h; cases h) (fun _=>ht)
def Wk.block(h:Wk E n fn ro a (dV id Q) m0 fs ps):Wk E n fn ro (.block id a) Q m0 fs ps:=fun t m hf hm=>.block (h t m hf hm)
def Wk.region(h:Wo false E n ops (Q .normal) ops.toList m0 fs ps):Wk E n fn ro (.region id ops false) Q m0 fs ps:=fun t m hf hm=>.Kv (h t m hf hm)
def A1{t:Tm}{m:V7}{o:Op}{K K':Vs->V7->Prop}(h:bt E t m o K)(hk:∀v m',K v m'->K' v m'):bt E t m o K':=by
 unfold bt at h ⊢;cases hc:xB o with
 | some p =>
  obtain⟨f,ars⟩:=p;rw[hc] at h;simp only at h ⊢;cases hf:an E t f with
  | none=>rw[hf] at h; exact h.elim
  | some v =>
   cases ha:bE E t ars with
   | none=>rw[hf,ha] at h; unfold lO at h; split at h<;>first |(rename_i h1 h2; cases h2)|exact h.elim
   | some vs =>
    rw[hf,ha] at h;unfold lO at h ⊢
    split at h
    rename_i h1 h2;cases h1; cases h2;exact h.mono hk
    rename_i h1 h2;cases h1; cases h2;obtain⟨v,m',h5,hv⟩:=h;exact⟨v,m',h5,hk v m' hv⟩
    exact h.elim
 | none =>
  rw[hc] at h;simp only at h ⊢;cases he:cH E t m o with
  | none=>rw[he] at h; exact h.elim
  | some r=>rw[he] at h; exact hk r.1 r.2 h
def A6{K K':Tm->V7->Prop}(hK:∀t m,K t m->K' t m):∀(os:WB Oper) (t:Tm) (m:V7) (w:Nat),iN E n ops K os t m w->iN E n ops K' os t m w:=by
 intro os
 induction os with
 | nil=>intro t m w hk; exact hK _ _ hk
 | cons o os ih =>
  intro t m w hk;simp only[iN] at hk ⊢
  split at hk
  rename_i hw;rw[S7 hw];refine⟨hk.1,A1 hk.2 fun v m' hv=>?_⟩;obtain⟨t',e,h4⟩:=hv.A
  show I4 (gb n t o.dst v) fun t'=>iN E n ops K' os t' m' (min w m'.wl)
  rw[e]; exact ih _ _ _ h4
  rename_i hw;rw[S8 hw];obtain⟨t',e,h4⟩:=hk.A;rw[e]; exact ih _ _ _ h4
def Wk.draw(hp:jj ops=some [])(h:Wo true E n ops (Q .normal) ops.toList m0 fs ps):Wk E n fn ro (.region id ops true) Q m0 fs ps:=fun t m hf hm=>.PE hp fun K hK=>by
 exact A6 hK _ _ _ _ (h t m m.wl hf hm hm.ext.wl)
def Wo.nil(h:At Q .normal m0 fs ps):Wo dr E n ops (Q .normal) [] m0 fs ps:=by
 cases dr with
 | false=>exact fun t m hf hm=>h t m hf hm
 | true=>exact fun t m w hf hm hw=>h t _ hf (hm.ww hw)
def At.tn(h:Wk E n fn ro b Q m0 fs ps):At (lS (bu E n fn ro b Q) Q) .normal m0 fs ps:=h
def At.te{K:Tm->V7->Prop}(h:At Q (.exit id) m0 fs ps):At (lS K Q) (.exit id) m0 fs ps:=h
def At.tr{K:Tm->V7->Prop}(h:At Q .ret m0 fs ps):At (lS K Q) .ret m0 fs ps:=h
def At.bn(h:At Q .normal m0 fs ps):At (dV id Q) .normal m0 fs ps:=h
def At.be(h:At Q .normal m0 fs ps):At (dV id Q) (.exit id) m0 fs ps:=fun t m hf hm=>by rw[Ek,S7 rfl]; exact h t m hf hm
def At.bx(hne:Nat.beq id' id=false)(h:At Q (.exit id') m0 fs ps):At (dV id Q) (.exit id') m0 fs ps:=fun t m hf hm=>by rw[Ek,S8 (UF hne)]; exact h t m hf hm
def At.br(h:At Q .ret m0 fs ps):At (dV id Q) .ret m0 fs ps:=h
def At.bR{e:V8}(h:ai m0 ps ps')(k:At Q e m0 fs ps'):At Q e m0 fs ps:=fun t m hf hm=>k t m hf (h m hm)
def Wk.bR(h:ai m0 ps ps')(k:Wk E n fn ro c Q m0 fs ps'):Wk E n fn ro c Q m0 fs ps:=fun t m hf hm=>k t m hf (h m hm)
def Wk.Jt{fs':Fs}(hs:sub fs fs')(h:ai m0 ps ps')(k:Wk E n fn ro c Q m0 fs' ps'):Wk E n fn ro c Q m0 fs ps:=fun t m hf hm=>k t m (hf.sub hs) (h m hm)
structure En where
 e:V8
 fs:Fs
 ps:WB Pc
def nH(m0:V7){γ:Type}(G:γ->En)(e:V8)(t:Tm)(m:V7):Prop:=∃g,e=(G g).e/\Fr t (G g).fs/\Hp m0 m (G g).ps
def At.en{γ:Type}{G:γ->En}{e:V8}(g:γ)(he:e=(G g).e)(hs:sub fs (G g).fs)(ht:ai m0 ps (G g).ps):At (nH m0 G) e m0 fs ps:=fun _ m hf hm=>⟨g,he,hf.sub hs,ht m hm⟩
def Wk.cut{γ:Type}{G:γ->En}(h:Wk E n fn ro c (nH m0 G) m0 fs ps)(k:∀g,At Q (G g).e m0 (G g).fs (G g).ps):Wk E n fn ro c Q m0 fs ps:=fun t m hf hm =>
 (h t m hf hm).mono fun e t' m' ⟨g,h1,h2,h3⟩=>by rw[h1]; exact k g t' m' h2 h3
def bH{σ ρ:Type}(body:σ->WA (σ⊕ρ)):Nat->σ->WA ρ
 | 0,_=>none
 | k+1,s=>match body s with
  | some (.inl s')=>bH body k s'
  | some (.inr r)=>some r
  | none=>none
def Wk.loop{σ ρ γ:Type}{δ:ρ->Type}(body:σ->WA (σ⊕ρ))(I:σ->γ->En)(X:(r:ρ)->δ r->En)
  (hb:∀s g r,body s=some r->Wk E n fn ro c (match r with|.inl s'=>nH m0 (I s')|.inr r=>nH m0 (X r)) m0 (I s g).fs (I s g).ps)
  (hn:∀s g,(I s g).e=.normal) (hx:∀r g,(X r g).e≠.normal) :
  ∀(N:Nat) (s:σ) (r:ρ),bH body N s=some r->∀g,Wk E n fn ro (.loop c) (nH m0 (X r)) m0 (I s g).fs (I s g).ps:=by
 intro N
 induction N with
 | zero=>intro s r h; cases h
 | succ N ih =>
  intro s r h g t m hf hm;refine .loop (.round ?_);simp only[bH] at h
  split at h
  ·rename_i s' hs;refine(hb s g _ hs t m hf hm).mono fun e t' m' ⟨g',h1,h2,h3⟩=>?_;rw[h1,hn];have:=ih s' r h g' t' m' h2 h3;obtain⟨e2,t2,m2,⟨k2,hk2⟩,q2⟩:=this;cases k2 with
   | zero=>cases hk2
   | succ k2=>exact⟨e2,t2,m2,⟨k2,hk2⟩,q2⟩
  ·rename_i r' hs;simp only[Option.some.injEq] at h;subst h;refine(hb s g _ hs t m hf hm).mono fun e t' m' ⟨g',h1,h2,h3⟩=>?_;have hq:nH m0 (X r') e t' m':=⟨g',h1,h2,h3⟩;cases he:e with
   | normal=>rw[h1] at he; exact Tl he (hx _ _)
   | exit id=>rw[he] at hq; exact hq
   | ret=>rw[he] at hq; exact hq
  cases h
def uZ:WB Vs->Nat->Fs->Fs
 | [],_,fs=>fs
 | v::vs,i,fs=>uZ vs (i+1) ((i,v)::fs)
def Fr.args:∀(vs:WB Vs) (i:Nat) (fs:Fs) (t:Tm),Fr t fs->Fr (Trie.ofList vs i t) (uZ vs i fs)
 | [],_,_,_,h=>h
 | _::vs,i,_,_,h=>Fr.args vs (i+1) _ _ h.set
def hJ{f:WJ}{F:Func}{c:Code}{args:WB Vs}{rs:WB ResultVar}{N:Nat}{R:Vs->V7->Prop}(hp:E.cQ f=none)(hf:E.P.funcs[f]? = some F)(hb:F.body=some c)(hrs:F.results.toList=rs)(hN:max args.length F.ntmps=N)
  {m:V7} (hm:Hp m0 m ps) (h:Wk E N f none c (lU E rs R) m0 (uZ args 0 []) ps):aB E f args m R :=
 aB.MJ hp hf hb hrs hN (h _ m (Fr.args args 0 [] _ (Fr.nil _)) hm)
def Hp.start(m:V7):Hp m m []:=⟨.refl m,fun p h=>(by cases h),.nil⟩
inductive Res1(E:Env)(fs:Fs)(ps:WB Pc):WB ResultVar->WB Vs->Prop
 | nil:Res1 E fs ps [] []
 | tmp {i:Nat} {v:Vs} {rs:WB ResultVar} {vs:WB Vs} (h:lk fs i=some v) (k:Res1 E fs ps rs vs):Res1 E fs ps (.tmp i::rs) (v::vs)
 | cell {i k b o sz:Nat} {ty:Vt} {v:Vs} {rs:WB ResultVar} {vs:WB Vs} {cs:WB Vs} {tg:Tag} {ag:Bool} (ht:TyI E.P ty ag sz) (h:lk fs i=some (ptr b o)) (hp:pk ps k=some (.obj b (.cells cs tg))) (hv:yw ag sz cs o=some v) (k:Res1 E fs ps rs vs):Res1 E fs ps (.cell i ty::rs) (v::vs)
def Res1.ok{fs:Fs}{ps:WB Pc}{t:Tm}{m:V7}(hf:Fr t fs)(hm:Hp m0 m ps):∀{rs:WB ResultVar} {vs:WB Vs},Res1 E fs ps rs vs->bT E t m rs=some vs:=by
 intro rs vs h
 induction h with
 | nil=>rfl
 | tmp h _ ih=>simp only[bT,ih,hf _ _ h,SZ]
 | cell ht h hp hv _ ih=>simp only[bT,hf _ _ h,xb ht (hm.get hp).2.2 hv,ih]
def At.ret{rs:WB ResultVar}{vs:WB Vs}{R:Vs->V7->Prop}(h:Res1 E fs ps rs vs)(k:∀m,Hp m0 m ps->R (fg vs) m):At (lU E rs R) .ret m0 fs ps:=fun t m hf hm=>by
 rw[Il,h.ok hf hm]; exact k m hm
def At.fin{rs:WB ResultVar}{vs:WB Vs}{R:Vs->V7->Prop}(h:Res1 E fs ps rs vs)(k:∀m,Hp m0 m ps->R (fg vs) m):At (lU E rs R) .normal m0 fs ps:=fun t m hf hm=>by
 rw[uV,h.ok hf hm]; exact k m hm
end
end Go.Ab.W
section
open Go Go.Ab Go.Ab.W
abbrev VN:=@Wo.x
abbrev VB:=@Wo.od
abbrev VV:=@Wo.o0
abbrev VY:=@Wo.og
abbrev VU:=@Wo.bR
abbrev VZ:=@Wo.open
abbrev VP:=@Wo.bA
abbrev VC:=@Wk.seq
abbrev V0:=@Wk.fm
abbrev VF:=@Wk.block
abbrev VE:=@Wk.region
abbrev VL:=@Wo.nil
abbrev VI:=@At.tn
abbrev VG:=@Hp.start
abbrev VH:=@At.ret
end
end
section
namespace Go.Ab.W
open Go Go.Ab
def ob{α β:Type}(o:WA α)(f:α->WA β):WA β :=
 match o with
 | some x=>f x
 | none=>none
def gd{β:Type}(b:Bool)(k:WA β):WA β :=
 match b with
 | true=>k
 | false=>none
def br{β:Type}(b:Bool)(k l:WA β):WA β :=
 match b with
 | true=>k
 | false=>l
section
variable{α β:Type}
def aa{o:WA α}{f:α->WA β}{r:β}(h:ob o f=some r):∃x,o=some x/\f x=some r:=by
 cases o with
 | none=>cases h
 | some x=>exact⟨x,rfl,h⟩
def ax{b:Bool}{k:WA β}{r:β}(h:gd b k=some r):b=true/\k=some r:=by
 cases b with
 | false=>cases h
 | true=>exact⟨rfl,h⟩
def ah{b:Bool}{k l:WA β}{r:β}(h:br b k l=some r):(b=true/\k=some r)\/(b=false/\l=some r):=by
 cases b with
 | false=>exact .inr ⟨rfl,h⟩
 | true=>exact .inl ⟨rfl,h⟩
def bG(i:Int)(n:Nat):Bool:=decide (0<=i/\i.toNat<n)
def iF{i:Int}{n:Nat}(h:bG i n=true):0<=i/\i.toNat<n:=of_decide_eq_true h
def gK{f:α->β}{xs:WB α}{i:Nat}{x:α}(h:xs[i]? = some x):(xs.map f)[i]? = some (f x):=by
 rw[Tn,h]; rfl
def aG{i:Int}{n:Nat}(h:0<=i/\i.toNat<n):0<n:=by omega
def okB(lo hi:Int)(n:Nat):Bool:=decide (0<=lo/\lo<=hi/\hi<=(n:Int))
def yR{lo hi:Int}{n:Nat}(h:okB lo hi n=true):0<=lo/\lo<=hi/\hi<=(n:Int):=of_decide_eq_true h
end
def eI(k:IntKind)(x:Int):WB Vs:=[.int k x]
def eN(k:IntKind)(x:Nat):WB Vs:=[.int k (x:Int)]
def eB(b:Bool):WB Vs:=[.bool b]
def eP{α β:Type}(f:α->WB Vs)(g:β->WB Vs)(p:α×β):WB Vs:=f p.1++g p.2
structure Enc{α:Type}(f:α->WB Vs)(w:Nat):Prop where
 len:∀x,(f x).length=w
 one:∀x,(f x).all lH=true
def K8(k:IntKind):Enc (eI k) 1:=⟨fun _=>rfl,fun _=>rfl⟩
def cz(k:IntKind):Enc (eN k) 1:=⟨fun _=>rfl,fun _=>rfl⟩
def AF:Enc eB 1:=⟨fun _=>rfl,fun _=>rfl⟩
def dc{α β:Type}{f:α->WB Vs}{g:β->WB Vs}{w v:Nat}(h:Enc f w)(h':Enc g v):Enc (eP f g) (w+v) :=
 ⟨fun x=>by simp[eP,h.len,h'.len],fun x=>by simp only[eP,List.all_append,h.one,h'.one,Ud]⟩
def Enc.qZ{α:Type}{f:α->WB Vs}{w:Nat}(h:Enc f w)(xs:WB α):∀e∈xs.map f,e.length=w:=fun e he=>by
 obtain⟨x,_,rfl⟩:=UZ.1 he; exact h.len x
def Enc.fG{α:Type}{f:α->WB Vs}{w:Nat}(h:Enc f w)(xs:WB α):W.fG (xs.map f):=Bh h.one xs
def LK{α:Type}{f:α->WB Vs}{xs:WB α}{i:Nat}{x:α}:(xs.map f).set i (f x)=(xs.set i x).map f:=(List.map_set).symm
def Kh{α:Type}{f:α->WB Vs}{xs:WB α}{i k:Nat}:((xs.map f).drop i).take k=((xs.drop i).take k).map f:=by rw[<-List.map_drop,<-List.map_take]
def Lr{α:Type}{f:α->WB Vs}{n:Nat}{x:α}:List.replicate n (f x)=(List.replicate n x).map f:=by simp
def uM(k:IntKind):Nat:=2 ^ k.bits
def uw(k:IntKind)(n:Nat):Nat:=n%uM k
def ui(k:IntKind)(i:Int):Nat:=(i%(uM k:Int)).toNat
def iS(k:IntKind)(a b:Nat):Nat:=uw k (a+(uM k-uw k b))
def JY(k:IntKind)(a:Nat):Nat:=uw k (uM k-uw k a)
def eT(k:IntKind)(a b:Nat):Nat:=uw k (a*2 ^ (min b k.bits))
def cG(k:IntKind)(a b:Nat):Nat:=a/2 ^ (min b k.bits)
def Bz(k:IntKind)(a:Int)(b:Nat):Int:=k.wrap (a*2 ^ (min b k.bits))
def Hr(k:IntKind)(a:Int)(b:Nat):Int:=a.fdiv (2 ^ (min b k.bits))
def mi{α:Type}[LT α][DecidableRel (α:=α) (· < ·)](a b:α):α:=if b<a then b else a
def GI(k:IntKind):0<uM k:=Nat.two_pow_pos _
def Qb(k:IntKind)(n:Nat):uw k n<uM k:=TN _ (GI k)
def sY{k:IntKind}(h:k.signed=false)(n:Int):k.wrap n=((ui k n:Nat):Int):=by
 have h0:(0:Int)<=n%(uM k:Int):=Int.emod_nonneg _ (by have:=GI k; omega)
 simp only[IntKind.wrap,h,Bool.false_and,Tf,if_false,ui];rw[Ua h0];simp[uM]
def BD(k:IntKind)(n:Nat):ui k (n:Int)=uw k n:=by
 unfold ui uw;rw[<-Int.natCast_emod,SS]
def jR{k:IntKind}(h:k.signed=false)(n:Nat):k.wrap (n:Int)=((uw k n:Nat):Int):=by rw[sY h,BD]
section
variable{k kd:IntKind}{ty:Vt}{P:Vv}
def B9(h:k.signed=false)(a b:Nat):bf .add ty P (.int k (a:Int)) (.int k (b:Int))=some (.int k ((uw k (a+b):Nat):Int)):=by
 rw[dy,<-Int.natCast_add,jR h]
def eJ(h:k.signed=false)(a b:Nat):bf .mul ty P (.int k (a:Int)) (.int k (b:Int))=some (.int k ((uw k (a*b):Nat):Int)):=by
 rw[md,<-U1,jR h]
def wj(h:k.signed=false)(a b:Nat):bf .sub ty P (.int k (a:Int)) (.int k (b:Int))=some (.int k ((iS k a b:Nat):Int)):=by
 rw[jn,sY h];have hlt:=Qb k b;have e:((a:Int)-(b:Int))%(uM k:Int)=(((a+(uM k-uw k b)):Nat):Int)%(uM k:Int):=by
  have h1:(b:Int)=(uM k:Int)*((b/uM k:Nat):Int)+((uw k b:Nat):Int):=by
   have:=Ur b (uM k);unfold uw;rw[<-U1,<-Int.natCast_add]; exact Up Int.ofNat this.symm
  have h2:(((a+(uM k-uw k b)):Nat):Int)=((a:Int)-(b:Int))+(uM k:Int)*(1+((b/uM k:Nat):Int)):=by
   rw[Int.natCast_add,Int.natCast_sub (UQ hlt),Int.mul_add]; omega
  rw[h2,Int.add_mul_emod_self_left]
 have e2:ui k ((a:Int)-(b:Int))=iS k a b:=by
  unfold ui;rw[e,<-Int.natCast_emod,SS]; rfl
 rw[e2]
def nw(h:k.signed=false)(a b:Nat)(hb:(0<b)):bf .quo ty P (.int k (a:Int)) (.int k (b:Int))=some (.int k ((uw k (a/b):Nat):Int)):=by
 rw[Ds _ _ _ (by omega),Int.tdiv_eq_ediv_of_nonneg (Ue _),<-Int.natCast_ediv,jR h]
def lV(a b:Nat)(hb:0<b):bf .rem ty P (.int k (a:Int)) (.int k (b:Int))=some (.int k ((a%b:Nat):Int)):=by
 rw[Di _ _ _ (by omega),Int.tmod_eq_emod_of_nonneg (Ue _),<-Int.natCast_emod]
def oY(k:IntKind)(a:Nat):(BitVec.ofInt k.bits (a:Int)).toNat=uw k a:=by simp[uw,uM]
def Jg(h:k.signed=false)(a b:Nat):bf .and ty P (.int k (a:Int)) (.int k (b:Int))=some (.int k ((uw k (uw k a &&& uw k b):Nat):Int)):=by
 simp only[bf,if_true]; rw[BitVec.toNat_and,oY,oY,jR h]
def DD(h:k.signed=false)(a b:Nat):bf .or ty P (.int k (a:Int)) (.int k (b:Int))=some (.int k ((uw k (uw k a ||| uw k b):Nat):Int)):=by
 simp only[bf,if_true]; rw[BitVec.toNat_or,oY,oY,jR h]
def MH(a b:Nat):bf .lss ty P (.int k (a:Int)) (.int k (b:Int))=some (.bool (decide (a<b))):=by rw[gZ]; congr 2; exact decide_eq_decide.2 Int.ofNat_lt
def MN(a b:Nat):bf .leq ty P (.int k (a:Int)) (.int k (b:Int))=some (.bool (decide (a<=b))):=by rw[ra]; congr 2; exact decide_eq_decide.2 Int.ofNat_le
def Nh(a b:Nat):bf .gtr ty P (.int k (a:Int)) (.int k (b:Int))=some (.bool (decide (b<a))):=by rw[wZ]; congr 2; exact decide_eq_decide.2 Int.ofNat_lt
def OY(a b:Nat):bf .geq ty P (.int k (a:Int)) (.int k (b:Int))=some (.bool (decide (b<=a))):=by rw[wW]; congr 2; exact decide_eq_decide.2 Int.ofNat_le
def ML(a b:Nat):bf .eql ty P (.int k (a:Int)) (.int k (b:Int))=some (.bool (decide (a=b))):=by rw[oV]; congr 2; exact decide_eq_decide.2 Int.ofNat_inj
def OD(a b:Nat):bf .neq ty P (.int k (a:Int)) (.int k (b:Int))=some (.bool (!decide (a=b))):=by
 rw[Dh]; congr 2
 by_cases h:a=b
 simp[h]
 have:¬((a:Int)=(b:Int)):=by omega
 simp[h,this]
def Jx(a b:Int):bf .neq ty P (.int k a) (.int k b)=some (.bool (!decide (a=b))):=by
 rw[Dh]; congr 2; by_cases h:a=b<;>simp[h]
def lj(h:k.signed=false)(a:Nat)(b:Int)(hb:decide (0<=b)=true):bf .shl ty P (.int k (a:Int)) (.int kd b)=some (.int k ((eT k a b.toNat:Nat):Int)):=by
 have h0:¬(b<0):=by have:=of_decide_eq_true hb; omega
 simp only[bf,S8 h0];have h2:((a:Int)*2 ^ (min b.toNat k.bits))=((a*2 ^ (min b.toNat k.bits):Nat):Int):=by simp
 rw[h2,jR h]; rfl
def eu(a:Nat)(b:Int)(hb:decide (0<=b)=true):bf .shr ty P (.int k (a:Int)) (.int kd b)=some (.int k ((cG k a b.toNat:Nat):Int)):=by
 have h0:¬(b<0):=by have:=of_decide_eq_true hb; omega
 simp only[bf,S8 h0,cG]
 congr 2
 have h2:((2:Int) ^ (min b.toNat k.bits))=((2 ^ (min b.toNat k.bits):Nat):Int):=by simp
 rw[h2,Int.fdiv_eq_ediv_of_nonneg _ (Ue _)];exact(Int.natCast_ediv a _).symm
def Nl(a:Int)(b:Int)(hb:decide (0<=b)=true):bf .shl ty P (.int k a) (.int kd b)=some (.int k (Bz k a b.toNat)):=by
 have h0:¬(b<0):=by have:=of_decide_eq_true hb; omega
 simp only[bf,S8 h0,Bz]
def OE(a:Int)(b:Int)(hb:decide (0<=b)=true):bf .shr ty P (.int k a) (.int kd b)=some (.int k (Hr k a b.toNat)):=by
 have h0:¬(b<0):=by have:=of_decide_eq_true hb; omega
 simp only[bf,S8 h0,Hr]
def lg(a b:Int)(h:decide (b≠0)=true):bf .quo ty P (.int k a) (.int k b)=some (.int k (k.wrap (a.tdiv b))):=Ds k a b (of_decide_eq_true h)
def jw(a b:Int)(h:decide (b≠0)=true):bf .rem ty P (.int k a) (.int k b)=some (.int k (a.tmod b)):=Di k a b (of_decide_eq_true h)
def Oa(h:k.signed=false)(a:Nat):BL .neg (.int k (a:Int))=some (.int k ((JY k a:Nat):Int)):=by
 have:=wj (ty:=0) (P:=default) h 0 a;rw[jn] at this;simp only[BL];have e:iS k 0 a=JY k a:=by unfold iS JY; rw[TM]
 rw[e] at this; exact this
def pM{s d:Vt}{x:Int}(hs:(P.underlying s).isSome=true)(hd:P.underlying d=some (.int k)):fI P s d (.int kd x)=some (.int k (k.wrap x)):=by
 cases h:P.underlying s with
 | none=>rw[h] at hs; cases hs
 | some u=>simp only[fI,h,hd]
def uq{s d:Vt}{x:Int}(hs:(P.underlying s).isSome=true)(hd:P.underlying d=some (.int k))(hk:k.signed=false):fI P s d (.int kd x)=some (.int k ((ui k x:Nat):Int)):=by
 rw[pM hs hd,sY hk]
def Pw{s d:Vt}{x:Nat}(hs:(P.underlying s).isSome=true)(hd:P.underlying d=some (.int k))(hk:k.signed=false):fI P s d (.int kd (x:Int))=some (.int k ((uw k x:Nat):Int)):=by
 rw[uq hs hd hk,BD]
def Gh(a b:Int){ts:WD Vt}(m:V7):bp P .min ts [.int k a,.int k b] m=some (.int k (mi a b),m):=rfl
def Mj{a b:Bool}(hu:P.underlying ty=some .bool):bf .eql ty P (.bool a) (.bool b)=some (.bool (a==b)):=by
 simp only[bf,Op.maxDepth,kX,hu,SZ]
def Du{a b:Bool}(hu:P.underlying ty=some .bool):bf .neq ty P (.bool a) (.bool b)=some (.bool (!(a==b))):=by
 simp only[bf,Op.maxDepth,kX,hu,SZ]
end
def Lq{c:Bool}(h:c=true):(c==true)=true:=by rw[h]; rfl
def sj{c:Bool}(h:c=false):(c==false)=true:=by rw[h]; rfl
def LG{c:Bool}(h:c=true):(c==false)=false:=by rw[h]; rfl
def SK{c:Bool}(h:c=false):(c==true)=false:=by rw[h]; rfl
section
variable{E:Env}{n:Nat}{m0:V7}{fs:Fs}{ps:WB Pc}{x y:Vu}{v:Vs}{ty:Vt}
def Pz{c:Vu}{b:Bool}(hc:ev E fs c=some (.bool b))(hb:b=true)(h:ev E fs x=some v):Od E m0 fs ps (.pick c x y) v ps:=PW (by rw[hc,hb]) h
def Pn{c:Vu}{b:Bool}(hc:ev E fs c=some (.bool b))(hb:b=false)(h:ev E fs y=some v):Od E m0 fs ps (.pick c x y) v ps:=Qt (by rw[hc,hb]) h
def jI{α:Type}{f:α->WB Vs}{elem ty2:Vt}{w k k2 c0 l l2:Nat}{a a0:Vq}{xs ys:WB α}{ars:WD Vu}{p0:Pc}(he:Enc f w)(ht:SlT E.P ty elem w)(h5:∃e2,E.P.underlying ty2=some (.slice e2))(ha:kP E fs ars.toList=some [.slice a l l,.slice a0 l2 c0])(hp:pk ps k=some (.sl a w l (xs.map f)))(h0:pk ps k2=some p0)(hr:IsRd p0 a0 c0 w l2 (ys.map f))(hl:lim (xs++ys).length=true) :
  Ox E m0 fs ps (.call ⟨.builtin .append,ars,#[ty,ty2]⟩) (fun a':Vq=>.slice a' (xs++ys).length (xs++ys).length) (fun a'=>da ps k (.sl a' w (xs++ys).length ((xs++ys).map f))):=by
 intro t m hf hm;have h1:l=xs.length:=by
  have:=hm.get hp;rcases this with⟨h6,h1,_⟩|⟨b,tg,_,h1⟩
  rw[h6,List.map_eq_nil_iff.1 h1]; rfl
  have:=h1.2.2.2.1; rw[Tw] at this; exact this.symm
 have h2:l2=ys.length:=by
  have:=(hm.rd h0 hr).1; rw[Tw] at this; exact this.symm
 have:=Qy (m0:=m0) ht h5 ha hp h0 hr (he.qZ ys) (he.fG ys) (by rw[h1,h2,<-S5]; exact hl) t m hf hm
 have e1:xs.map f++ys.map f=(xs++ys).map f:=List.map_append.symm;have e2:l+l2=(xs++ys).length:=by rw[h1,h2,S5]
 rw[e1,e2] at this;exact this
def uY{α:Type}{f:α->WB Vs}{elem:Vt}{k cap w l:Nat}{lo hi:Int}{a:Vq}{xs:WB α}{lx hx:WA Vu}{lv hv:WA Vs}(ht:SlT E.P ty elem w)(hv':ev E fs x=some (.slice a l cap))(e1:FY E fs lx=some lv)(e2:FY E fs hx=some hv)(hp:pk ps k=some (.rd a cap w l (xs.map f)))(hb:okB lo hi l=true)(hl:lv=none/\lo=0\/∃k,lv=some (.int k lo))(hh:hv=none/\hi=(l:Int)\/∃k,hv=some (.int k hi)) :
  Ox E m0 fs ps (.slice ty x lx hx none) (fun r:Vq×Nat=>.slice r.1 ((xs.drop lo.toNat).take (hi.toNat-lo.toNat)).length r.2) (fun r=>.rd r.1 r.2 w ((xs.drop lo.toNat).take (hi.toNat-lo.toNat)).length (((xs.drop lo.toNat).take (hi.toNat-lo.toNat)).map f)::ps):=by
 intro t m hf hm;obtain⟨b1,b2,b3⟩:=yR hb;have h1:xs.length=l:=by have:=(hm.get hp).1; rw[Tw] at this; exact this
 have elo:((lo.toNat:Nat):Int)=lo:=Ua b1;have ehi:((hi.toNat:Nat):Int)=hi:=Ua (by omega)
 have hlen:((xs.drop lo.toNat).take (hi.toNat-lo.toNat)).length=hi.toNat-lo.toNat:=by rw[TW,UU,h1]; omega
 have:=PS (m0:=m0) (lo:=lo.toNat) (hi:=hi.toNat) ht hv' e1 e2 hp (by omega) (by omega) (by
  rcases hl with⟨h,h'⟩|⟨k,h⟩
  exact .inl ⟨h,by omega⟩
  exact .inr ⟨k,by rw[elo]; exact h⟩) (by
  rcases hh with⟨h,h'⟩|⟨k,h⟩
  exact .inl ⟨h,by omega⟩
  exact .inr ⟨k,by rw[ehi]; exact h⟩) t m hf hm
 rw[Kh] at this;rw[hlen];exact this
def jb{α:Type}{f:α->WB Vs}{z0:α}{elem:Vt}{w:Nat}{i:Int}{z:Vs}(ht:SlT E.P ty elem w)(hx:ev E fs x=some (.int .i64 i))(hi:decide (0<=i)=true)(hl:lim i.toNat=true)(hz:bK E.P elem=some z)(hp:z.cells.toList.all aL=true)(hzf:z.cells.toList=f z0) :
  Ox E m0 fs ps (.makeSlice ty x x) (fun b=>.slice (some ⟨b,0,none⟩) i.toNat i.toNat) (fun b=>.arr b w i.toNat ((List.replicate i.toNat z0).map f) .own::ps):=by
 have:=QF (m0:=m0) (ps:=ps) ht hx (Ua (of_decide_eq_true hi)).symm hl hz hp;rw[hzf,Lr] at this;exact this
def cX{α:Type}{f:α->WB Vs}{ag:Bool}{sz b w l j c k:Nat}{xs:WB α}{x1 x2:α}{tg:Tag}(ht:TyI E.P ty ag sz)(hx:ev E fs x=some (ptr b (j*w+c)))(hy:ev E fs y=some v)(hp:pk ps k=some (.arr b w l (xs.map f) tg))(he:xs[j]? = some x1)(hv:KG (f x1) c v sz=some (f x2)):Od E m0 fs ps (.store ty x y) undef (da ps k (.arr b w l ((xs.set j x2).map f) tg)):=by
 have:=CJ (m0:=m0) ht hx hy hp (gK he) hv;rwa[LK] at this
end
def KR:Tag->Bool
 | .more _=>false
 | _=>true
def NY:Tag->Bool
 | .own=>true
 | _=>false
def sn{fs:Fs}:sub fs []:=trivial
def sc{fs l:Fs}{i:Nat}{v:Vs}(h:lk fs i=some v)(k:sub fs l):sub fs ((i,v)::l):=⟨h,k⟩
def cI{k:IntKind}{e y:Int}(h:some e=some y):some (Value.int k e)=some (.int k y):=by rw[S3 h]
def cN{k:IntKind}{e y:Nat}(h:some e=some y):some (Value.int k (e:Int))=some (.int k (y:Int)):=by rw[S3 h]
def nn(b:Nat):decide (0<=(b:Int))=true:=S4 (Ue b)
section
variable{P:Vv}{ty el:Vt}{w len:Nat}
def P2(h:ArT P ty el len w){b o i:Nat}{kd:IntKind}(hi:i<len):bJ P ty (ptr b o) (.int kd (i:Int))=some (ptr b (o+i*w)):=MM h.und h.known h.size hi
def Gw{cs:WD Vs}{off sz:Nat}{v:Vs}(h:TyI P ty true sz)(hv:(Value.agg (cs.extract off (off+sz)))=v):eD P ty cs off=some v:=by
 simp only[eD,h.known,h.agg,h.size,S9,Tf,if_false,if_true,hv]
def im{cs:WD Vs}{off sz:Nat}{v:Vs}(h:TyI P ty false sz)(hv:cs[off]? = some v):eD P ty cs off=some v:=by
 simp only[eD,h.known,h.agg,S9,Tf,if_false,hv]
def yY(h:ArT P ty el len w){cs:WD Vs}{i:Nat}{kd:IntKind}{v:Vs}(hi:i<len)(hp:eD P el cs (i*w)=some v):eS P ty (.agg cs) (.int kd (i:Int))=some v:=by
 simp only[eS,h.und,h.size,SS];rw[S7 ⟨by omega,by omega⟩]; exact hp
structure BdT(P:Vv)(ty:Vt)(z:Vs)(offs:WB (Nat×Nat)):Prop where
 bd:∀parts,(parts.all fun p=>Nat.blt p.1 offs.length)=true->kC P ty parts=(gS (fun i=>offs[i]?) z.cells.toList parts).map fun cs=>.agg cs.toArray
def Sx(P:Vv)(ty:Vt)(z:Vs)(offs:WB (Nat×Nat)):Prop :=
 bK P ty=some z/\match P.underlying ty with
  | some (.struct fields)=>fields.toList.all (fun f=>known P f.type)=true/\fields.toList.map (fun f=>(f.offset,aA P f.type))=offs
  | some (.array n elem)=>known P elem=true/\(List.range n).map (fun i=>(i*aA P elem,aA P elem))=offs
  | _=>False
def lG{p q:Nat->WA (Nat×Nat)}{n:Nat}(h:∀i,i<n->p i=q i):∀(parts:WB (Nat×Vs)) (cs:WB Vs),(parts.all fun p=>Nat.blt p.1 n)=true->gS p cs parts=gS q cs parts
 | [],_,_=>rfl
 |(i,v)::rest,cs,hp=>by
  rw[Uo,SW] at hp;have hi:i<n:=by have:=hp.1; rwa[UI] at this
  simp only[gS,h i hi];cases q i with
  | none=>rfl
  | some r=>simp only[]; split; rfl; exact lG h rest _ hp.2
def BdT.of{z:Vs}{offs:WB (Nat×Nat)}(h:Sx P ty z offs):BdT P ty z offs:=⟨fun parts hp=>by
 obtain⟨hz,h⟩:=h;unfold kC;rw[hz];cases hu:P.underlying ty with
 | none=>rw[hu] at h; exact h.elim
 | some u =>
  rw[hu] at h;cases u with
  | struct fields =>
   simp only at h ⊢;rw[S7 h.1]
   congr 1
   refine lG (n:=offs.length) (fun i hi=>?_) parts _ hp;rw[<-h.2,Tn]; simp
  | array n elem =>
   simp only at h ⊢;rw[S7 h.1]
   congr 1
   refine lG (n:=offs.length) (fun i hi=>?_) parts _ hp;have hl:offs.length=n:=by rw[<-h.2]; simp
   rw[<-h.2,Tn,List.getElem?_range (by omega)]; rfl
  | _=>exact h.elim⟩
def Si(P:Vv)(ty:Vt)(offs:WB (Nat×Nat)):Bool :=
 match P.underlying ty with
 | some (.struct fields)=>fields.toList.all (fun f=>known P f.type)&&decide (fields.toList.map (fun f=>(f.offset,aA P f.type))=offs)
 | some (.array n elem)=>known P elem&&decide ((List.range n).map (fun i=>(i*aA P elem,aA P elem))=offs)
 | _=>false
def BdT.mk'{z:Vs}{offs:WB (Nat×Nat)}(hz:bK P ty=some z)(h:Si P ty offs=true):BdT P ty z offs:=by
 refine .of ⟨hz,?_⟩;unfold Si at h;cases hu:P.underlying ty with
 | none=>rw[hu] at h; cases h
 | some u =>
  rw[hu] at h;cases u with
  | struct fields=>simp only[SW,Tv] at h ⊢; exact h
  | array n elem=>simp only[SW,Tv] at h ⊢; exact h
  | _=>cases h
def eX{z r:Vs}{offs:WB (Nat×Nat)}{parts:WB (Nat×Vs)}{cs:WB Vs}(h:BdT P ty z offs)(hp:(parts.all fun p=>Nat.blt p.1 offs.length)=true)(hr:gS (fun i=>offs[i]?) z.cells.toList parts=some cs)(e:Value.agg cs.toArray=r):kC P ty parts=some r:=by
 rw[h.bd parts hp,hr]; exact Up some e
def gB{n:Nat}{vs:WB (Nat×Vs)}{z:Vs}{cs:WB Vs}(ht:SlT P ty el w)(hz:bK P el=some z)(h1:((cb z.cells.toList n).all aL&&Nat.ble (n*w) 16777216)=true)(hr:gS (fun i=>some (i*w,w)) (cb z.cells.toList n) vs=some cs):Q5 P el w n vs=some cs:=by
 have hzs:z.cells.size=w:=by have:=ht.zero; rw[hz] at this; simp only[Option.any_some,SW,beq_iff_eq] at this; exact this.1
 have:fH P el n=some (cb z.cells.toList n):=by simp only[fH,hz,ht.size]; rw[S7 hzs]
 simp only[Q5,this,h1]; exact hr
def QC{xs ys:WD Vs}{b:Bool}(h:P.eqGuardType P.depth ty=false)(hb:kX P Op.maxDepth ty (.agg xs) (.agg ys)=some b):bf .neq ty P (.agg xs) (.agg ys)=some (.bool (!b)):=by
 simp only[bf,h,Tf,if_false,hb,SZ]
end
section
variable{E:Env}{n:Nat}{m0:V7}{fs:Fs}{ps:WB Pc}{x y:Vu}{v:Vs}{ty:Vt}
def PX{el:Vt}{len w b o k:Nat}{cs:WB Vs}{tg:Tag}(ht:ArT E.P ty el len w)(hx:ev E fs x=some (ptr b o))(hp:pk ps k=some (.obj b (.cells cs tg)))(htg:KR tg=true)(hlen:Nat.blt 0 len=true):Od E m0 fs ps (.slice ty x none none none) (.slice (some ⟨b,o,none⟩) len len) ps :=
 fun t m hf h=>⟨fun b' hb=>by
  have:fO (ptr b o)=some b:=rfl;simp only[aP,hf.ev hx,TF,this] at hb;cases hb; exact(h.get hp).2.1,fun K hK=>by
  have hg:=(h.get hp).2.2;have hb:eQ len len none none none=some (0,len,len):=pZ (Uw _) (SX _) (.inl ⟨rfl,rfl⟩) (.inl ⟨rfl,rfl⟩);have hl:len≠0:=by rw[UI] at hlen; omega
  have:cE E.P ty (ptr b o) none none none m=some (.slice (some ⟨b,o,none⟩) len len):=by
   cases tg with
   | more s=>cases htg
   | ro=>simp only[cE,ptr,ht.und,ht.known,if_true,hg,hb,U4,S8 hl,UA,TP]
   | own=>simp only[cE,ptr,ht.und,ht.known,if_true,hg,hb,U4,S8 hl,UA,TP]
  rw[Go.Ab.Et (hf.ev hx) rfl rfl rfl this]; exact hK m h⟩
variable{ops:WD Oper}{os:WB Oper}{K:Tm->V7->Prop}{dr:Bool}
def Wo.len{α:Type}{f:α->WB Vs}{k w l:Nat}{a:Vq}{xs:WB α}(hp:pk ps k=some (.sl a w l (xs.map f)))(h:l=xs.length->Wo dr E n ops K os m0 fs ps):Wo dr E n ops K os m0 fs ps:=by
 have key:∀m,Hp m0 m ps->l=xs.length:=fun m hm=>by
  rcases hm.get hp with⟨h0,h1,_⟩|⟨b,tg,_,h1⟩
  rw[h0,List.map_eq_nil_iff.1 h1]; rfl
  have:=h1.2.2.2.1; rw[Tw] at this; exact this.symm
 cases dr with
 | false=>exact fun t m hf hm=>h (key m hm) t m hf hm
 | true=>exact fun t m w hf hm hw=>h (key m hm) t m w hf hm hw
end
def ai.RG{m0:V7}{ps:WB Pc}(w:Nat):ai m0 ps (.rd none 0 w 0 []::ps):=fun m h =>
 h.cons (SX _) h.ext (fun _ _=>rfl) (Rd.nil m w) fun b hb=>(by cases hb)
def Hp.SL{m0 m:V7}{ps:WB Pc}{α:Type}{xs:WB α}{f:α->WB Vs}{k b o w l:Nat}{cs:WB Vs}{tg:Tag}(h:Hp m0 m ps)(hp:pk ps k=some (.obj b (.cells cs tg)))(htg:NY tg=true)(hl:Nat.beq xs.length l=true)(hc:(cs.drop o).take (l*w)=(xs.map f).flatten)(he:Enc f w):Rd m (some ⟨b,o,none⟩) l w l (xs.map f):=by
 have hl:=S0 hl;have hnm:∀sz,tg=.more sz->sz=w:=fun sz e=>by rw[e] at htg; cases htg
 have hg:=(h.get hp).2.2;refine⟨by rw[Tw]; exact hl,SX _,.inr (.inr ⟨b,o,rfl,(h.get hp).2.1,cs,tg,hg,hnm,fun i e hi=>?_⟩)⟩
 have hw:=he.qZ xs;have h1:=DI hw hi;have hlt:i<l:=by have:=(Tc.1 hi).1; rw[Tw,hl] at this; exact this
 refine⟨?_,hw e (Ti hi)⟩;rw[<-hc] at h1;rw[<-h1,List.drop_take,List.take_take,U0];have:w<=l*w-i*w:=by
  have:(i+1)*w<=l*w:=T2 w hlt;rw[UL] at this; omega
 rw[T3 this]
def gu{ops:WD Oper}{fs:Fs}{j d:Nat}{b:Bool}(hd:(ops[j]?).bind (·.dst)=some d)(h:lk fs d=some undef):sD ops fs (some (j,b)) false:=fun t d' o ty p af hf=>by
 rw[JA];have hat:=hf d _ h;unfold cP;rw[hd];unfold Tm.at at hat;cases hg:Trie.get t d with
 | none=>simp only[hg]
 | some v=>rw[hg] at hat; have hv:v=undef:=hat; subst hv; simp only[hg]; rfl
section
variable{E:Env}{n:Nat}{m0:V7}{fs:Fs}{ps:WB Pc}{x y:Vu}{v:Vs}{ty:Vt}
def QA{s:ByteArray}{kd:IntKind}{i:Int}{b:Nat}(tab:WB Nat)(hu:E.P.underlying ty=some .string)(hx:ev E fs x=some (.string s))(hs:s.data.toList.map (·.toNat)=tab)(hy:ev E fs y=some (.int kd i))(hi:bG i tab.length=true)(hb:tab[i.toNat]? = some b):Od E m0 fs ps (.index ty x y) (.int .u8 (b:Int)) ps:=by
 refine Rj hx hy ?_;have h0:=(iF hi).1;simp only[eS,hu];rw[S7 h0];subst hs;rw[Tn] at hb;have:s[i.toNat]? = s.data.toList[i.toNat]?:=by
  cases hs:s.data.toList[i.toNat]? with
  | none =>
   have:=List.getElem?_eq_none_iff.1 hs;exact getElem?_neg s i.toNat (by have e:s.size=s.data.toList.length:=U2.symm; omega)
  | some u =>
   obtain⟨h1,h2⟩:=Tc.1 hs;have h3:i.toNat<s.size:=by have e:s.size=s.data.toList.length:=U2.symm; omega
   rw[getElem?_pos s i.toNat h3]
   congr 1
 rw[this];cases hs:s.data.toList[i.toNat]? with
 | none=>rw[hs] at hb; cases hb
 | some u=>rw[hs] at hb; simp only[SZ,Option.some.injEq] at hb ⊢; rw[hb]
def IN{α:Type}{V:α->Vs}{N:α->WB Pc}{a b:Vs}(hx:ev E fs x=some a)(hy:ev E fs y=some b)(h:∀m,Hp m0 m ps->∃z,eS E.P ty a b=some (V z)/\Hp m0 m (N z)):Ox E m0 fs ps (.index ty x y) V N :=
 fun t m hf hm=>⟨fun b hb=>(by simp[aP] at hb),fun K hK=>by
  obtain⟨z,h1,h2⟩:=h m hm;rw[Go.Ab.CT (hf.ev hx) (hf.ev hy) h1]; exact hK z m h2⟩
end
def Hp.dup{m0 m:V7}{ps:WB Pc}{a:Vq}{k cap w l:Nat}{es:Vp}(h:Hp m0 m ps)(hp:pk ps k=some (.rd a cap w l es)):Hp m0 m (.rd a cap w l es::ps):=h.more hp rfl (h.get hp) rfl fun _ h=>h
end Go.Ab.W
end
section
namespace Go.Ab
open Go Go.Ab.W
def Ph(j:aJ)(u:Vs):∃v,VR j v u:=by
 match h:u with
 | .agg cs =>
  have:∀i (hi:i<cs.size),∃v,VR j v cs[i]:=fun i hi=>Ph j cs[i];refine⟨.agg (Array.ofFn fun i:Fin cs.size=>Classical.choose (this i.1 i.2)),.agg (by simp) fun i a b=>?_⟩
  have hi:i<cs.size:=b;have:=UJ (this i hi)
  simpa using this
 | .tuple cs =>
  have:∀i (hi:i<cs.size),∃v,VR j v cs[i]:=fun i hi=>Ph j cs[i];refine⟨.tuple (Array.ofFn fun i:Fin cs.size=>Classical.choose (this i.1 i.2)),.tuple (by simp) fun i a b=>?_⟩
  have hi:i<cs.size:=b;have:=UJ (this i hi)
  simpa using this
 | .bool b=>exact⟨_,.bool b⟩
 | .int k n=>exact⟨_,.int k n⟩
 | .float k b=>exact⟨_,.junk rfl⟩
 | .complex k a b=>exact⟨_,.junk rfl⟩
 | .string s=>exact⟨_,.string s⟩
 | .pointer none=>exact⟨_,.pnil⟩
 | .pointer (some a)=>exact⟨_,.junk rfl⟩
 | .slice none l c=>exact⟨_,.snil l c⟩
 | .slice (some a) l c=>exact⟨_,.junk rfl⟩
 | .map none=>exact⟨_,.mnil⟩
 | .map (some r)=>exact⟨_,.junk rfl⟩
 | .chan r=>exact⟨_,.junk rfl⟩
 | .func f a b=>exact⟨_,.junk rfl⟩
 | .nilFunc=>exact⟨_,.nilFunc⟩
 | .iface t v=>exact⟨_,.junk rfl⟩
 | .nilIface=>exact⟨_,.nilIface⟩
termination_by SizeOf.sizeOf u
decreasing_by
 all_goals
  subst h;have:=Array.sizeOf_getElem cs i hi;simp only[Value.agg.sizeOf_spec,Value.tuple.sizeOf_spec];omega
open Classical in
noncomputable def seen (j:aJ) (v':Vs):Vs:=if aL v' then v' else match v' with
 | .slice (some _) 0 _=>.slice (some ⟨0,0,some 0⟩) 0 0
 | .slice (some a) (l+1) c=>if a.spot=none/\j a.block=some ⟨a.block,none⟩ then .slice (some a) (l+1) c else Classical.choose (Ph j (.slice (some a) (l+1) c))
 | v'=>Classical.choose (Ph j v')
def xA(j:aJ)(v':Vs):VR j (seen j v') v':=by
 unfold seen
 split
 rename_i h; exact .aL h
 split
 exact .gG
 rename_i a l c _
 split
 rename_i h;obtain⟨b,o,s⟩:=a;obtain⟨h1,h2⟩:=h;cases h1;exact .slice (k:=⟨b,none⟩) h2 rfl
 exact UJ (Ph j _)
 exact UJ (Ph j _)
def Ks{j:aJ}{a:Addr}{l c:Nat}(h0:l≠0)(h1:a.spot=none)(h2:j a.block=some ⟨a.block,none⟩):seen j (.slice (some a) l c)=.slice (some a) l c:=by
 obtain⟨l,rfl⟩:∃k,l=k+1:=⟨l-1,by omega⟩
 unfold seen;rw[S8 (fun h=>by cases h)]
 dsimp only
 rw[S7 ⟨h1,h2⟩]
def It{j:aJ}{a:Addr}{c:Nat}:seen j (.slice (some a) 0 c)=.slice (some ⟨0,0,some 0⟩) 0 0:=by
 unfold seen;rw[S8 (fun h=>by cases h)]
def nD{j:aJ}{v':Vs}(h:aL v'=true):seen j v'=v':=by unfold seen; rw[S7 h]
def dH(W:Vw):aJ:=fun b=>if b<W.heap.size then some ⟨b,none⟩ else none
noncomputable def dE (W:Vw):V7:={ next:=W.heap.size,wl:=W.heap.size,bQ:=.nil,base:=fun b=>match W.heap[b]? with
 | some (.cells c _ _)=>some (.cells (c.toList.map (seen (dH W))) .ro)
 | _=>none}
def sQ(W:Vw)(b:Nat):(dE W).get b=match W.heap[b]? with
 | some (.cells c _ _)=>some (.cells (c.toList.map (seen (dH W))) .ro)
 | _=>none:=by
 simp[V7.get,dE,Heap.get_nil]
def oq{W:Vw}{b:Nat}{c:WD Vs}{t:Vt}{fz:Nat×Nat}(h:W.heap[b]? = some (.cells c t fz)):(dE W).get b=some (.cells (c.toList.map (seen (dH W))) .ro):=by
 rw[sQ,h]
def NA{E:Env}{W:Vw}(hg:E.glob<=W.heap.size):MR E (dH W) (dE W) W:=by
 have hj:∀b k,dH W b=some k->b<W.heap.size/\k=⟨b,none⟩:=by
  intro b k h;unfold dH at h
  split at h
  rename_i hb; cases h; exact⟨hb,rfl⟩
  cases h
 refine⟨fun b k h=>?_,fun b o k ho h=>?_,fun b b' k k' h h' _ _ hc=>?_,fun g hgl=>?_⟩
 obtain⟨h1,rfl⟩:=hj b k h;exact⟨h1,h1⟩
 obtain⟨h1,rfl⟩:=hj b k h;rw[sQ] at ho
 split at ho
 rename_i c t fz hc;cases ho;refine⟨_,hc,⟨rfl,by simp⟩,fun i v hi=>?_⟩
 rw[Tn] at hi;obtain⟨x,hx,rfl⟩:=Uz.1 hi;exact⟨x,by simpa using hx,xA _ _⟩
 cases ho
 obtain⟨_,rfl⟩:=hj b k h;obtain⟨_,rfl⟩:=hj b' k' h';exact hc
 unfold dH;rw[VA]
inductive Lf where
 | int (k:IntKind)
 | bool
 | sl (e:Vt)
 deriving DecidableEq
def CU(Eb:Vt->WA (WB Lf))(P:Vv):WB Field->Nat->WA (WB Lf)
 | [],_=>some []
 | f::fs,off=>match Eb f.type,CU Eb P fs (off+P.cellsOf f.type) with
  | some l,some r=>if f.offset=off/\l.length=P.cellsOf f.type then some (l++r) else none
  | _,_=>none
def Eb(P:Vv):Nat->Vt->WA (WB Lf)
 | 0,_=>none
 | d+1,t=>match P.underlying t with
  | some (.int k)=>some [.int k]
  | some .bool=>some [.bool]
  | some (.slice e)=>some [.sl e]
  | some (.array n e)=>match Eb P d e with
   | some l=>if l.length=P.cellsOf e/\P.cellsOf t=n*P.cellsOf e then some (List.replicate n l).flatten else none
   | none=>none
  | some (.struct fs)=>match CU (Eb P d) P fs.toList 0 with
   | some l=>if l.length=P.cellsOf t then some l else none
   | none=>none
  | _=>none
def oH{H:Type}(enc:Vt×Vs->H)(P:Vv)(W:Vw)(base:Nat)(sp:Nat->Bool)(held:Bool):Lf->Vs->Prop
 | .int k,v=>∃n,v=.int k n/\(Lit.int k n).wf=true
 | .bool,v=>∃b,v=.bool b
 | .sl e,v=>(v=.slice none 0 0)\/∃(a:Addr) (len cap:Nat) (n:Nat),v=.slice (some a) len cap/\len<=cap/\cap<=maxLen/\base<=a.block /\
   ∀i,i<len->∃cs x,W.cells? base (a.add (i*P.cellsOf e)) (P.cellsOf e)=some cs/\DataW.trod enc P W base sp held n e cs=some x
inductive All2{α β:Type}(R:α->β->Prop):WB α->WB β->Prop
 | nil:All2 R [] []
 | cons {a:α} {b:β} {l:WB α} {r:WB β} (h:R a b) (t:All2 R l r):All2 R (a::l) (b::r)
def All2.append{α β:Type}{R:α->β->Prop}{l l':WB α}{r r':WB β}(h:All2 R l r)(h':All2 R l' r'):All2 R (l++l') (r++r'):=by
 induction h with
 | nil=>exact h'
 | cons h _ ih=>exact .cons h ih
section
variable{H:Type}{enc:Vt×Vs->H}{P:Vv}{W:Vw}{base:Nat}{sp:Nat->Bool}{held:Bool}
theorem uX{R:Lf->Vs->Prop}{l:WB Lf}:∀(n w:Nat) (cs:WB Vs),cs.length=n*w->(∀i,i<n->All2 R l ((cs.drop (i*w)).take w))->All2 R (List.replicate n l).flatten cs
 | 0,w,cs,hl,_=>by
  have:cs=[]:=Ux.1 (by simpa using hl)
  subst this; exact .nil
 | n+1,w,cs,hl,h=>by
  rw[Uh,T4];have h0:=h 0 (by omega)
  simp only[UA,Vd] at h0;have hw:w<=cs.length:=by rw[hl,TI]; omega
  rw[<-List.take_append_drop w cs];refine All2.append h0 (uX n w _ (by rw[UU,hl,TI]; omega) fun i hi=>?_)
  have:=h (i+1) (by omega)
  rw[U0];have e:w+i*w=(i+1)*w:=by rw[TI]; omega
  rw[e]; exact this
theorem jV:∀(d:Nat) (t:Vt) (L:WB Lf),Eb P d t=some L->∀(n:Nat) (cs:WB Vs) (x:DataW H×WB MemPlace),DataW.trod enc P W base sp held n t cs=some x->All2 (oH enc P W base sp held) L cs:=by
 intro d
 induction d with
 | zero=>intro t L h; cases h
 | succ d ih =>
  intro t L hL n cs x hx;unfold Eb at hL
  split at hL
  rename_i k hu;cases hL;obtain⟨m,rfl,_,hwf⟩:=DataW.trod_int hu hx;exact .cons ⟨m,rfl,hwf⟩ .nil
  rename_i hu;cases hL;obtain⟨b,rfl,_⟩:=DataW.trod_bool hu hx;exact .cons ⟨b,rfl⟩ .nil
  rename_i e hu;cases hL;rcases DataW.trod_slice hu hx with⟨rfl,_⟩|⟨a,len,cap,elems,rest,m,rfl,rfl,_,hb,h1,h2,h3,h4,_⟩
  exact .cons (.inl rfl) .nil
  refine .cons (.inr ⟨a,len,cap,m,rfl,h1,h2,hb,fun i hi=>?_⟩) .nil;have:=h4 i hi;have hi':i<elems.length:=by omega
  rw[SU hi'] at this;obtain⟨cs,h5,h6⟩:=Option.bind_eq_some_iff.1 this;exact⟨cs,_,h5,h6⟩
  rename_i m e hu
  split at hL
  rename_i l hl
  split at hL
  rename_i hc;cases hL;obtain⟨xs,m',rfl,_,hcl,hxl,hel⟩:=DataW.trod_array hu hx;refine uX m (P.cellsOf e) cs (hcl.trans hc.2) fun i hi=>?_;have:=hel i hi;rw[SU (by omega)] at this
  exact ih e l hl m' _ _ this
  cases hL
  cases hL
  ·rename_i fs hu
   split at hL
   ·rename_i l hl
    split at hL
    ·rename_i hc;cases hL;obtain⟨xs,m',rfl,_,hcl,hxl,hel⟩:=DataW.trod_struct hu hx;have hfield:∀f∈fs.toList,∃y,DataW.trod enc P W base sp held m' f.type ((cs.drop f.offset).take (P.cellsOf f.type))=some y:=by
      intro f hf;obtain⟨i,hi,hif⟩:=List.getElem_of_mem hf;have hi':i<fs.size:=by simpa using hi
      have:=hel i f (by rw[<-hif]; simp[hi'])
      rw[SU (by omega)] at this
      exact⟨_,this⟩
     have key:∀(l1:WB Field) (off:Nat) (r:WB Lf),CU (Eb P d) P l1 off=some r->(∀f∈l1,∃y,DataW.trod enc P W base sp held m' f.type ((cs.drop f.offset).take (P.cellsOf f.type))=some y)->All2 (oH enc P W base sp held) r ((cs.drop off).take r.length):=by
      intro l1
      induction l1 with
      | nil=>intro off r hr _; cases hr; simp only[List.length_nil,List.take_zero]; exact .nil
      | cons f l1 ih1 =>
       intro off r hr hf;unfold CU at hr
       split at hr
       rename_i l2 r2 hl2 hr2
       split at hr
       rename_i ho;cases hr;obtain⟨y,hy⟩:=hf f (by simp)
       have h1:=ih f.type l2 hl2 m' _ _ hy;have h2:=ih1 _ _ hr2 fun g hg=>hf g (by simp[hg])
       rw[ho.1,<-ho.2] at h1;rw[<-ho.2] at h2;have:=All2.append h1 h2;rw[S5,List.take_add,U0];exact this
       cases hr
       cases hr
     have:=key fs.toList 0 _ hl hfield;rw[Vd,hc,<-hcl,List.take_length] at this;exact this
    cases hL
   cases hL
  cases hL
end
end Go.Ab
end
section
namespace Go.Ab
open Go Go.Ab.W Go.ChangeShapes Go.WideShapes Go.RowKit
section
variable{H:Type}{enc:Vt×Vs->H}{P:Vv}{W:Vw}{sp:Nat->Bool}{held:Bool}
theorem Ad{a:Addr}(h:a.spot=none)(n:Nat):a.add n=⟨a.block,a.off+n,none⟩:=by
 unfold Addr.add
 split
 rename_i e; subst e; cases a; cases h; rfl
 rfl
theorem pY{W:Vw}{a:Addr}{v:Vs}(h:W.cell? a=some v):a.spot=none/\∃c t fz,W.heap[a.block]? = some (.cells c t fz)/\c[a.off]? = some v:=by
 unfold World.cell? at h
 split at h
 rename_i c t fz hc
 split at h
 cases h
 rename_i hs;refine⟨by simpa using hs,c,t,fz,hc,h⟩
 cases h
theorem we{α:Type}{f:α->WB Vs}{R:α->Prop}{e w:Nat}(hw:P.cellsOf e=w)(hw0:0<w)(hsz:0<W.heap.size)
  (hdec:∀n cs x,DataW.trod enc P W 0 sp held n e cs=some x->∃p,cs.map (seen (dH W))=f p/\R p) {v:Vs} (h:oH enc P W 0 sp held (.sl e) v) :
  ∃(a:Vq) (cap:Nat) (l:WB α),seen (dH W) v=.slice a l.length cap/\(∀b,dx a=some b->b<W.heap.size)/\Rd (dE W) a cap w l.length (l.map f)/\(∀p∈l,R p)/\l.length<=maxLen:=by
 rcases h with rfl|⟨a,len,cap,n,rfl,h1,h2,_,h3⟩
 exact⟨none,0,[],nD rfl,fun b h=>(by cases h),Rd.nil _ _,fun p hp=>(by cases hp),Uw _⟩
 by_cases h0:len=0
 subst h0;exact⟨some ⟨0,0,some 0⟩,0,[],It,fun b h=>(by cases h; exact hsz),⟨rfl,SX _,.inr (.inl ⟨0,0,rfl,rfl,rfl,hsz⟩)⟩,fun p hp=>(by cases hp),Uw _⟩
 rw[hw] at h3;have hg:∀i:Fin len,∃(p:α) (cs:WB Vs),W.cells? 0 (a.add (i.1*w)) w=some cs/\cs.map (seen (dH W))=f p/\R p:=by
  intro i;obtain⟨cs,x,h4,h5⟩:=h3 i.1 i.2;obtain⟨p,he,hR⟩:=hdec _ _ _ h5;exact⟨p,cs,h4,he,hR⟩
 obtain⟨g,q,hg⟩:∃(g:Fin len->α) (q:Fin len->WB Vs),∀i,W.cells? 0 (a.add (i.1*w)) w=some (q i)/\(q i).map (seen (dH W))=f (g i)/\R (g i):=⟨fun i=>Classical.choose (hg i),fun i=>Classical.choose (UJ (hg i)),fun i=>UJ (UJ (hg i))⟩;have hat:∀(i:Fin len) (k:Nat),k<w->W.cell? ((a.add (i.1*w)).add k)=(q i)[k]?:=fun i k hk=>(World.cells?_some (hg i).1).2.2 k hk;have hql:∀i,(q i).length=w:=fun i=>(World.cells?_some (hg i).1).2.1;have hfl:∀i,(f (g i)).length=w:=fun i=>by rw[<-(hg i).2.1,Tw,hql]
 have hsm:∀(i:Fin len) (k:Nat),k<w->∃x,(q i)[k]? = some x:=fun i k hk=>⟨_,SU (by rw[hql]; exact hk)⟩
 have hspot:a.spot=none:=by
  obtain⟨x,hx⟩:=hsm ⟨0,by omega⟩ 0 hw0
  have:=hat ⟨0,by omega⟩ 0 hw0
  rw[hx] at this;have:=(pY this).1
  simpa [Addr.add] using this
 obtain⟨c,t,fz,hc⟩:∃c t fz,W.heap[a.block]? = some (.cells c t fz):=by
  obtain⟨x,hx⟩:=hsm ⟨0,by omega⟩ 0 hw0
  have:=hat ⟨0,by omega⟩ 0 hw0
  rw[hx] at this;obtain⟨_,c,t,fz,hc,_⟩:=pY this;refine⟨c,t,fz,?_⟩
  simpa [Addr.add] using hc
 have hcell:∀(i:Fin len) (k:Nat),k<w->c[a.off+i.1*w+k]? =(q i)[k]?:=by
  intro i k hk;obtain⟨x,hx⟩:=hsm i k hk;have:=hat i k hk;rw[hx] at this;rw[hx];rw[Ad hspot,Ad rfl] at this;obtain⟨_,c',t',fz',hc',h6⟩:=pY this;rw[hc] at hc';cases hc';exact h6
 have hb:a.block<W.heap.size:=by
  rcases TO a.block W.heap.size with h|h
  exact h
  rw[Array.getElem?_eq_none h] at hc; cases hc
 have ha:a=⟨a.block,a.off,none⟩:=by cases a; cases hspot; rfl
 refine⟨some a,cap,List.ofFn g,?_,fun b h=>?_,?_,fun p hp=>?_,?_⟩
 rw[List.length_ofFn];exact Ks h0 hspot (by unfold dH; rw[S7 hb])
 cases h; exact hb
 refine⟨by simp,by simpa using h1,.inr (.inr ⟨a.block,a.off,by rw[<-ha],hb,_,_,oq hc,fun sz e=>(by cases e),fun i e he=>?_⟩)⟩
 rw[Tn] at he;obtain⟨p,hp,rfl⟩:=Uz.1 he;have hi:i<len:=by
  have:=(Tc.1 hp).1
  simpa using this
 have hpg:p=g ⟨i,hi⟩:=by
  rw[List.getElem?_ofFn] at hp;simp[hi] at hp;exact hp.symm
 subst hpg;refine⟨?_,hfl _⟩;apply Uy;intro k
 by_cases hk:k<w
 rw[List.getElem?_take_of_lt hk,Um,Tn];have h7:=hcell ⟨i,hi⟩ k hk;obtain⟨x,hx⟩:=hsm ⟨i,hi⟩ k hk;rw[hx] at h7;have h8:c.toList[a.off+i*w+k]? = some x:=by simpa using h7
 rw[h8,<-(hg ⟨i,hi⟩).2.1,Tn,hx]
 rw[TL (by rw[TW]; omega),TL (by rw[hfl]; omega)]
 obtain⟨i,hi,rfl⟩:=List.getElem_of_mem hp;simp only[List.getElem_ofFn];exact(hg _).2.2
 rw[List.length_ofFn]; omega
theorem Hw{α:Type}{f:α->WB Vs}{R:α->Prop}{e w:Nat}(hw:P.cellsOf e=w)(hw0:0<w)(hsz:0<W.heap.size)(hf:∀p,(f p).all aL=true)
  (hdec:∀n cs x,DataW.trod enc P W 0 sp held n e cs=some x->∃p,cs=f p/\R p) {v:Vs} (h:oH enc P W 0 sp held (.sl e) v) :
  ∃(a:Vq) (cap:Nat) (l:WB α),VR (dH W) (.slice a l.length cap) v/\Rd (dE W) a cap w l.length (l.map f)/\(∀p∈l,R p)/\l.length<=maxLen:=by
 obtain⟨a,cap,l,h1,_,h2,h3,h4⟩:=we (f:=f) (R:=R) hw hw0 hsz (fun n cs x hx=>by
  obtain⟨p,rfl,hR⟩:=hdec n cs x hx;refine⟨p,?_,hR⟩;have:∀(l:WB Vs),l.all aL=true->l.map (seen (dH W))=l:=fun l hl=>by
   induction l with
   | nil=>rfl
   | cons x l ih =>
    rw[Uo,SW] at hl;rw[Va,nD hl.1,ih hl.2]
  exact this _ (hf p)) h
 exact⟨a,cap,l,by rw[<-h1]; exact xA _ _,h2,h3,h4⟩
theorem wL{base:Nat}{v:Vs}(h:oH enc P W base sp held (.int .u8) v):∃n:Nat,v=.int .u8 (n:Int)/\n<256:=by
 obtain⟨n,rfl,hw⟩:=h;have:=bounds_u8 hw;exact⟨n.toNat,by rw[Ua this.1],by omega⟩
theorem JR{base:Nat}{v:Vs}(h:oH enc P W base sp held (.int .u64) v):∃n:Nat,v=.int .u64 (n:Int)/\n<2 ^ 64:=by
 obtain⟨n,rfl,hw⟩:=h;have:=bounds_u64 hw;exact⟨n.toNat,by rw[Ua this.1],by omega⟩
theorem eK{α β:Type}{R:α->β->Prop}{a:α}{l:WB α}{r:WB β}(h:All2 R (a::l) r):∃b r',r=b::r'/\R a b/\All2 R l r':=by
 cases h with
 | cons h t=>exact⟨_,_,rfl,h,t⟩
theorem oO{α β:Type}{R:α->β->Prop}{r:WB β}(h:All2 R [] r):r=[]:=by cases h; rfl
theorem sT{base d t n:Nat}{cs:WD Vs}{L:WB Lf}{x:DataW H×WB MemPlace}(hl:Eb P d t=some L)(h:DataW.trod enc P W base sp held n t (Value.agg cs).cells.toList=some x):All2 (oH enc P W base sp held) L cs.toList:=jV d t L hl n _ x h
theorem Jk{j:aJ}{l:WB Vs}{cs:WD Vs}(h:LR j l cs.toList):VR j (.agg l.toArray) (.agg cs):=.AZ (by simpa using h)
theorem AW{t1 t2 t3 t4 t5:Vt}{base:Nat}{args:WD Vs}{ds:WB (DataW H)}{ps:WB MemPlace}(h:DataW.TrodAll enc P W base sp held [t1,t2,t3,t4,t5] args.toList ds ps) :
  ∃v1 v2 v3 v4 v5 d1 d2 d3 d4 d5 p1 p2 p3 p4 p5,args=#[v1,v2,v3,v4,v5]/\ds=[d1,d2,d3,d4,d5]/\ps=p1++p2++p3++p4++p5/\DataW.Trod enc P W base sp held t1 v1 d1 p1/\DataW.Trod enc P W base sp held t2 v2 d2 p2/\DataW.Trod enc P W base sp held t3 v3 d3 p3/\DataW.Trod enc P W base sp held t4 v4 d4 p4/\DataW.Trod enc P W base sp held t5 v5 d5 p5:=by
 obtain⟨v1,w1,d1,e1,p1,q1,hargs,rfl,rfl,h1,g1⟩:=trodAll_cons h;obtain⟨v2,w2,d2,e2,p2,q2,rfl,rfl,rfl,h2,g2⟩:=trodAll_cons g1;obtain⟨v3,w3,d3,e3,p3,q3,rfl,rfl,rfl,h3,g3⟩:=trodAll_cons g2;obtain⟨v4,w4,d4,e4,p4,q4,rfl,rfl,rfl,h4,g4⟩:=trodAll_cons g3;obtain⟨v5,w5,d5,e5,p5,q5,rfl,rfl,rfl,h5,g5⟩:=trodAll_cons g4;obtain⟨rfl,rfl,rfl⟩:=trodAll_nil g5;exact⟨v1,v2,v3,v4,v5,d1,d2,d3,d4,d5,p1,p2,p3,p4,p5,by cases args; simp_all,rfl,by simp,h1,h2,h3,h4,h5⟩
theorem mO{T:Vt->Prop}(K:Kids P T)(hsz:∀{t e:Vt},T t->P.underlying t=some (.slice e)->0<P.cellsOf e){W':Vw}{sp':Nat->Bool}:∀{ts:WB Vt} {vs:WB Vs} {ds:WB (DataW H)} {ps:WB MemPlace},
  (∀t∈ts,T t)->DataW.TrodAll enc P W 0 (fun _=>true) true ts vs ds ps->(∀p∈ps,W.sameAt W' p)->(∀p∈ps,sp' p.block=true)->DataW.TrodAll enc P W' 0 sp' true ts vs ds ps
 | [],[],[],_,_,h,_,_=>h
 | t::ts,v::vs,d::ds,_,hT,⟨p,q,⟨n,hn⟩,hs,e⟩,h1,h2=>by
  subst e;refine⟨p,q,⟨n,DataW.trod_stays K hsz (fun h=>(by cases h)) (hT t (by simp)) hn (fun x hx=>h1 x (by simp[hx])) fun x hx=>h2 x (by simp[hx])⟩,mO K hsz (fun t' ht'=>hT t' (by simp[ht'])) hs (fun x hx=>h1 x (by simp[hx])) (fun x hx=>h2 x (by simp[hx])),rfl⟩
theorem E5{w w':Vw}{p:MemPlace}(h:w'.heap[p.block]? = w.heap[p.block]?):w.sameAt w' p:=by
 cases p with
 | cell b o=>simp only[World.sameAt,World.cell?]; rw[show w'.heap[b]? = w.heap[b]? from h]
 | map b=>simp only[World.sameAt]; rw[show w'.heap[b]? = w.heap[b]? from h]
def sizedB(P:Vv):Bool:=(List.range P.types.size).all fun t=>match P.underlying t with
 | some (.slice e)=>decide (0<P.cellsOf e)
 | _=>true
theorem Fa(h:sizedB P=true){t e:Vt}(ht:t<P.types.size)(hu:P.underlying t=some (.slice e)):0<P.cellsOf e:=by
 have:=Tk.1 h t (by simpa using ht)
 rw[hu] at this
 simpa using this
theorem HH{f:Func}{s:ChangeSpec}{W':Vw}{args:WD Vs}{ds:WB (DataW H)}{before:WB MemPlace}{tb:Vt}{fresh handsOn:Bool}(hlo:laidOutB P=true)(hm:mapsRowed P=true)(hsz:sizedB P=true)
  (hvars:s.vars=[]) (hres:f.resultTypes.toList=[tb]) (hrs:f.resultTypes.size=1) (htb:P.underlying tb=some .bool) (hpt:∀t∈f.params.toList,t<P.types.size) (hfn:s.fn H ds ={ results:=[.lit (.bool true)],args:=ds,vars:=[]})
  (hW:DataW.Whole enc P f.params.toList s.vars false W args.toList ds [] before) {E:Env} (hcalm:iC E W W') (hg:∀c,c<W.heap.size->W'.heap[c]? = W.heap[c]?) :
  s.post enc P f false fresh handsOn false W args (.bool true) W':=by
 have hW':=hW;obtain⟨p,q,hA,hV,rfl,_,_⟩:=hW;rw[hvars] at hV;obtain⟨_,rfl⟩:=trodVars_none hV;have hlt:=hW'.lt;refine⟨ds,[],_,[],p,[],hW',?_,?_,?_,qL hcalm hg _,fun h=>by cases h⟩
 rw[T8,hfn,hres]
 show DataW.TrodAll enc P W' _ _ handsOn [tb] ((Value.bool true).resultList f.resultTypes.size) [.lit (.bool true)] []
 rw[hrs];exact trodAll_mk1 (shut_bool htb true)
 rw[T8,hfn];refine mO (kids_rows hlo hm) (fun ht hu=>Fa hsz ht hu) hpt hA (fun x hx=>E5 (hg _ (hlt x (by simp[hx])))) fun x hx=>by
  have:=hlt x (by simp[hx])
  simpa using this
 rw[T8,hfn,hvars];exact rfl
end
end Go.Ab
end
section
namespace Go.Ab
open Go
def xf(x y c:Nat):Vs:=.tuple #[.int .u64 (.ofNat ((x+y+c)%18446744073709551616)),.int .u64 (.ofNat ((x+y+c)/18446744073709551616))]
def uk(x y c:Nat):Vs:=.tuple #[.int .u64 (.ofNat ((x+18446744073709551616-y-c)%18446744073709551616)),.int .u64 (.ofNat (if x<y+c then 1 else 0))]
def dJ(V:Nat->Nat->Nat->Vs)(args:WB Vs)(m:V7):WA (Vs×V7) :=
 match args with
 | [.int .u64 (.ofNat x),.int .u64 (.ofNat y),.int .u64 (.ofNat c)]=>if Nat.ble c 1 then some (V x y c,m) else none
 | _=>none
def uv{V:Nat->Nat->Nat->Vs}{args:WB Vs}{m m':V7}{v:Vs}(h:dJ V args m=some (v,m')) :
  ∃x y c:Nat,args=[.int .u64 x,.int .u64 y,.int .u64 c]/\c<=1/\v=V x y c/\m'=m:=by
 unfold dJ at h
 split at h
 rename_i x y c
 split at h
 rename_i hc;cases h;exact⟨x,y,c,rfl,S6 hc,rfl,rfl⟩
 cases h
 cases h
section
variable{E:Env}{j:aJ}{m:V7}{w:Vw}
def LR.CS:∀{l l':WB Vs},l.all Ab.aL=true->LR j l l'->l'=l:=by
 intro l
 induction l with
 | nil=>intro l' _ h; exact h.dg
 | cons v l ih =>
  intro l' hp h;obtain⟨v1,vs,rfl,h1,h2⟩:=h.cons_inv;rw[Uo,SW] at hp;rw[eL hp.1 h1,ih hp.2 h2]
def oi{V:Nat->Nat->Nat->Vs}{f:WJ}(hV:∀x y c,bw (V x y c)=true)(hrun:∀(x y c:Nat) (w:Vw),c<=1->(callFunc f #[.int .u64 x,.int .u64 y,.int .u64 c]).run E.P w=.ok (.value (V x y c)) w)(hpr:(E.cQ f).isSome=true)
  {args args':WB Vs} {v:Vs} {m':V7} (he:dJ V args m=some (v,m')) (h:MR E j m w) (hl:LR j args args') :
  dN E.P (E.cQ f).isSome f args'.toArray w (fy E j m w v m'):=by
 obtain⟨x,y,c,rfl,hc,rfl,rfl⟩:=uv he;rw[LR.CS rfl hl];exact .inr ⟨hpr,V x y c,w,hrun x y c w hc,j,.refl h,.bw (hV x y c)⟩
end
def BN(x y c:Nat):bw (xf x y c)=true:=rfl
def BH(x y c:Nat):bw (uk x y c)=true:=rfl
section
variable{P:Vv}{f:WJ}{fn:Func}
def Lm (hf : P.funcs[f]? = some fn) (hname : (fn.name == "runtime.NumGoroutine") = false) (hb : fn.body.isNone = true) (hn : Extern.findNext fn = none) (he : Extern.find fn = some add64Entry) (x y c : Nat) (w : Vw) (hc : c <= 1) :
  (callFunc f #[.int .u64 x,.int .u64 y,.int .u64 c]).run P w=.ok (.value (xf x y c)) w:=by
 rw[run_callFunc_extern hf hname hb hn he,run_add64 x y c (by omega) (by omega) (by omega) (by omega)]
 simp only[Result.andThen,xf]
 congr 5
def Le (hf : P.funcs[f]? = some fn) (hname : (fn.name == "runtime.NumGoroutine") = false) (hb : fn.body.isNone = true) (hn : Extern.findNext fn = none) (he : Extern.find fn = some Go.Proofs.sub64Entry) (x y c : Nat) (w : Vw) (hc : c <= 1) :
  (callFunc f #[.int .u64 x,.int .u64 y,.int .u64 c]).run P w=.ok (.value (uk x y c)) w:=by
 rw[run_callFunc_extern hf hname hb hn he,Go.Proofs.run_sub64 x y c hc]
 rfl
end
noncomputable def Ls (v:Vs) (k:Nat->Bool):Bool:=mF v fun kd z=>dD (kq kd .u64) (E0 z k false) false
def pR{v:Vs}{k:Nat->Bool}(h:Ls v k=true):∃x:Nat,v=.int .u64 x/\k x=true:=by
 obtain⟨kd,z,rfl,h⟩:=cB h;obtain⟨h1,h⟩:=aV h;cases eh h1;rcases il h with⟨x,rfl,h⟩|h
 exact⟨x,rfl,h⟩
 cases h
noncomputable def w9 (W:Nat->Nat->Nat->(Vs->Bool)->Bool) (args:WB Vs) (m:V7) (K:Vs->V7->Bool):Bool :=
 dD (Jq args 3) (yK 0 args fun a=>yK 1 args fun b=>yK 2 args fun d=>Ls a fun x=>Ls b fun y=>Ls d fun c=>dD (Nat.ble c 1) (W x y c fun v=>K v m) false) false
noncomputable def NH (x y c:Nat) (k:Vs->Bool):Bool:=fN ((x+y+c)%18446744073709551616) fun s=>fN ((x+y+c)/18446744073709551616) fun d=>k (.tuple #[.int .u64 (.ofNat s),.int .u64 (.ofNat d)])
noncomputable def OL (x y c:Nat) (k:Vs->Bool):Bool:=fN ((x+18446744073709551616-y-c)%18446744073709551616) fun s=>dD (Nat.blt x (y+c)) (k (.tuple #[.int .u64 (.ofNat s),.int .u64 (.ofNat 1)])) (k (.tuple #[.int .u64 (.ofNat s),.int .u64 (.ofNat 0)]))
def CF(x y c:Nat)(k:Vs->Bool):NH x y c k=k (xf x y c):=by unfold NH xf; rw[cW,cW]
def DR(x y c:Nat)(k:Vs->Bool):OL x y c k=k (uk x y c):=by
 unfold OL uk;rw[cW]
 by_cases h:x<y+c
 have:Nat.blt x (y+c)=true:=by rw[UI]; exact h
 rw[this,S7 h]; rfl
 ·have:Nat.blt x (y+c)=false:=by
   cases hb:Nat.blt x (y+c) with
   | false=>rfl
   | true=>rw[UI] at hb; exact Tl hb h
  rw[this,S8 h]; rfl
def my{V:Nat->Nat->Nat->Vs}{W:Nat->Nat->Nat->(Vs->Bool)->Bool}(hW:∀x y c k,W x y c k=k (V x y c)){args:WB Vs}{m:V7}{K:Vs->V7->Bool}(h:w9 W args m K=true):∃v m',dJ V args m=some (v,m')/\K v m'=true:=by
 unfold w9 at h;obtain⟨hl,h⟩:=aV h;obtain⟨a,ha,h⟩:=ga h;obtain⟨b,hb,h⟩:=ga h;obtain⟨d,hd,h⟩:=ga h;obtain⟨x,ea,h⟩:=pR h;obtain⟨y,eb,h⟩:=pR h;obtain⟨c,ed,h⟩:=pR h;rw[ea] at ha; rw[eb] at hb; rw[ed] at hd;obtain⟨hc,h⟩:=aV h;rw[hW] at h;have hargs:args=[.int .u64 x,.int .u64 y,.int .u64 c]:=by
  have:=mg hl
  match args,this,ha,hb,hd with
  | [p,q,r],_,ha,hb,hd=>cases ha; cases hb; cases hd; rfl
 refine⟨_,_,?_,h⟩;rw[hargs]
 show(if Nat.ble c 1 then some (V x y c,m) else none)=_
 rw[hc]; rfl
end Go.Ab
end
section
section
open Go Go.Ab Go.Ab.W
def V1:Nat->Nat->WB Nat
 | _,0=>[]
 | a,n+1=>a::V1 (a+1) n
abbrev V2{α:Type}(l:WB α)(k:Int):WB α:=(l.drop Vy).take ((mi (l.length:Int) k).toNat-Vy)
end
namespace Go.Proofs.YtpkadoocdgdcfaaGreatDoor
open Go.ChangeShapes Go.WideShapes Go.ChangeAt Go.WideMaps Go.WideElems Go.RowKit Go.Ab
def Pq:ownKnob Tryz.prog.godebug=none:=by kernel_rfl
def Rc : Tryz.prog.globalNamed "math/bits.deBruijn64tab" = some 0 := by kernel_rfl
def kK:WB Int:=[0,1,56,2,57,49,28,3,61,58,42,50,38,29,17,4,62,47,59,36,45,43,51,22,53,39,33,30,24,18,12,5,63,55,48,27,60,41,37,16,46,35,44,21,52,32,23,11,54,26,40,15,34,20,31,10,25,14,19,9,13,8,7,6]
abbrev sX : WB (String × DataW WC) := [("math/bits.deBruijn64tab", Rows.laid_math_bits_deBruijn64tab)]
def fw:Nat->WA (WB Vs):=fun b=>if b=0 then some (kK.map (.int .u8)) else none
def Sm:V7:=FC 1 fw
noncomputable def wB (p q r:WA Prim) (f:WJ):WA Prim:=if f=234 then some ⟨dJ xf⟩ else if f=251 then some ⟨dJ uk⟩ else if f=66 then p else if f=11 then q else if f=70 then r else none
noncomputable def dm (p q r:WA Prim):Env:={ P:=Tryz.prog,glob:=1,cQ:=wB p q r,mono:=False}
noncomputable abbrev mX:Env:=dm none none none
def Jw:Cn Tryz.prog=true:=by kernel_rfl
def tQ{p q r:WA Prim}(hp:∀c,p=some c->∀args m v m',c.run args m=some (v,m')->∀(j:aJ) (w:Vw) (args':WB Vs),MR (dm p q r) j m w->LR j args args'->dN Tryz.prog true 66 args'.toArray w (fy (dm p q r) j m w v m'))
  (hq:∀c,q=some c->∀args m v m',c.run args m=some (v,m')->∀(j:aJ) (w:Vw) (args':WB Vs),MR (dm p q r) j m w->LR j args args'->dN Tryz.prog true 11 args'.toArray w (fy (dm p q r) j m w v m'))
  (hr:∀c,r=some c->∀args m v m',c.run args m=some (v,m')->∀(j:aJ) (w:Vw) (args':WB Vs),MR (dm p q r) j m w->LR j args args'->dN Tryz.prog true 70 args'.toArray w (fy (dm p q r) j m w v m')):EnvOk (dm p q r):=Jz Jw fun f pc hf args m v m' hrun j w args' hm hl=>by
 have hp':wB p q r f=some pc:=hf;unfold wB at hp'
 split at hp'
 rename_i hf;subst hf;cases hp';exact oi (E:=dm p q r) BN (fun x y c w hc=>Lm Tryz.func234 (by kernel_rfl) (by kernel_rfl) (by kernel_rfl) (by kernel_rfl) x y c w hc) rfl hrun hm hl
 split at hp'
 rename_i hf;subst hf;cases hp';exact oi (E:=dm p q r) BH (fun x y c w hc=>Le Tryz.func251 (by kernel_rfl) (by kernel_rfl) (by kernel_rfl) (by kernel_rfl) x y c w hc) rfl hrun hm hl
 split at hp'
 rename_i hf;subst hf;have e:((dm p q r).cQ 66).isSome=true:=by show(wB p q r 66).isSome=true; unfold wB; simp[hp']
 rw[e];exact hp pc hp' args m v m' hrun j w args' hm hl
 split at hp'
 rename_i hf;subst hf;have e:((dm p q r).cQ 11).isSome=true:=by show(wB p q r 11).isSome=true; unfold wB; simp[hp']
 rw[e];exact hq pc hp' args m v m' hrun j w args' hm hl
 split at hp'
 rename_i hf;subst hf;have e:((dm p q r).cQ 70).isSome=true:=by show(wB p q r 70).isSome=true; unfold wB; simp[hp']
 rw[e];exact hr pc hp' args m v m' hrun j w args' hm hl
 cases hp'
def oL:EnvOk mX:=tQ (fun c h=>by cases h) (fun c h=>by cases h) (fun c h=>by cases h)
def Bc(os:Os)(args:WD Vs):laidMetH Tryz.prog sX ((World.doorLaid Tryz.prog 400 os).forCall (fun _ _=>0) ⟨#[],args,[]⟩).memory :=
 laidMetH_of_parts3 (fuel:=8) (laidMet_of_run' 8 (by kernel_rfl) (by kernel_rfl)) (by kernel_rfl) (by kernel_rfl)
noncomputable def lJ (f:WJ):WA PSem:=if f=234 then some ⟨w9 NH⟩ else if f=251 then some ⟨w9 OL⟩ else none
def p6(p q r:WA Prim):Oo (dm p q r) lJ:=by
 intro f S hS;unfold lJ at hS
 split at hS
 rename_i e; cases hS; subst e;exact⟨⟨dJ xf⟩,rfl,fun h=>my CF h⟩
 split at hS
 rename_i e; cases hS; subst e;exact⟨⟨dJ uk⟩,rfl,fun h=>my DR h⟩
 cases hS
end Go.Proofs.YtpkadoocdgdcfaaGreatDoor
end
section
namespace Go.Ab.W
open Go Go.Ab
attribute [local irreducible] Tm.at Trie.set Trie.get V7.get V7.set V7.alloc V7.ww V7.kill
section
variable{E:Env}{n:Nat}{m0:V7}{fs:Fs}{ps ps':WB Pc}{ops:WD Oper}{os:WB Oper}{K:Tm->V7->Prop}{prs:WB (Nat×Nat)}
variable{ty:Vt}{p:String}{af:WD Edge}{d:Nat}{o:Op}{g:WA (Nat×Bool)}{v:Vs}
inductive Nk
 | any
 | call
 | rd (b:Nat)
 | wr (b:Nat)
 | low (b:Nat)
 | kp (l:WB Nat)
 | rn (o:WA Nat)
 | ka (l:WB (WA Nat))
def Nk.of:Nk->Note->Prop
 | .any,_=>True
 | .call,x=>x.next<=x.wl
 | .rd b,x=>x.read=some b
 | .wr b,x=>x.wrote=some b
 | .low b,x=>b<x.wl
 | .kp l,x=>∀b∈l,x.kept b=true
 | .rn o,x=>x.read=o
 | .ka l,x=>∀b,some b∈l->x.kept b=true
def NR:WB Nk->WB Note->Prop
 | [],[]=>True
 | b::bs,x::xs=>db x=true/\b.of x/\NR bs xs
 | _,_=>False
def NR.at:∀{bs:WB Nk} {ns:WB Note} {i:Nat} {b:Nk},NR bs ns->bs[i]? = some b->∃x,ns[i]? = some x/\b.of x
 | b::bs,x::xs,0,c,h,e=>by simp only[Tq,Option.some.injEq] at e; subst e; exact⟨x,rfl,h.2.1⟩
 | b::bs,x::xs,i+1,c,h,e=>by rw[TS] at e ⊢; exact NR.at h.2.2 e
 | [],[],i,c,h,e=>by simp at e
 | [],_::_,_,_,h,_=>h.elim
 | _::_,[],_,_,h,_=>h.elim
def NR.all:∀{bs:WB Nk} {ns:WB Note},NR bs ns->ns.all db=true
 | [],[],_=>rfl
 | _::_,_::_,h=>by rw[Uo,h.1,NR.all h.2.2]; rfl
 | [],_::_,h=>h.elim
 | _::_,[],h=>h.elim
def NR.snoc:∀{bs:WB Nk} {ns:WB Note} {b:Nk} {x:Note},NR bs ns->db x=true->b.of x->NR (bs++[b]) (ns++[x])
 | [],[],_,_,_,h1,h2=>⟨h1,h2,trivial⟩
 | _::_,_::_,_,_,h,h1,h2=>⟨h.1,h.2.1,NR.snoc h.2.2 h1 h2⟩
 | [],_::_,_,_,h,_,_=>h.elim
 | _::_,[],_,_,h,_,_=>h.elim
def Nk.Px:Nk->Bool
 | .call=>true
 | _=>false
def GQ(ops:WD Oper)(ss:WB Nk)(p:Nat×Nat):Prop :=
 match ss[p.1]?,ss[p.2]? with
  | some (.rd b),some (.wr b')=>b≠b'/\aE (ops.getD p.1 default).op=false
  | some (.wr b),some (.rd b')=>b'≠b/\aE (ops.getD p.2 default).op=false
  | some (.rd b),some (.low b')=>b<=b'/\aE (ops.getD p.1 default).op=false
  | some (.low b),some (.rd b')=>b'<=b/\aE (ops.getD p.2 default).op=false
  | some (.rd b),some (.kp l)=>b∈l/\aE (ops.getD p.1 default).op=false
  | some (.kp l),some (.rd b)=>b∈l/\aE (ops.getD p.2 default).op=false
  | some (.rd b),some (.ka l)=>some b∈l/\aE (ops.getD p.1 default).op=false
  | some (.ka l),some (.rd b)=>some b∈l/\aE (ops.getD p.2 default).op=false
  | some (.rn o),some (.ka l)=>o∈l/\aE (ops.getD p.1 default).op=false
  | some (.ka l),some (.rn o)=>o∈l/\aE (ops.getD p.2 default).op=false
  | some a,some b=>((a.Px || !(aE (ops.getD p.1 default).op)) &&(b.Px || !(aE (ops.getD p.2 default).op)))=true
  | _,_=>False
def gi(ops:WD Oper)(ss:WB Nk):WB (Nat×Nat)->Prop
 | []=>True
 | p::ps=>GQ ops ss p/\gi ops ss ps
def OB(ops:WD Oper)(ss:WB Nk):WB (Nat×Nat)->Bool
 | []=>true
 | p::ps=>(match ss[p.1]?,ss[p.2]? with
  | some (.rd _),some (.wr _)=>false
  | some (.wr _),some (.rd _)=>false
  | some (.rd _),some (.low _)=>false
  | some (.low _),some (.rd _)=>false
  | some (.rd _),some (.kp _)=>false
  | some (.kp _),some (.rd _)=>false
  | some (.rd _),some (.ka _)=>false
  | some (.ka _),some (.rd _)=>false
  | some (.rn _),some (.ka _)=>false
  | some (.ka _),some (.rn _)=>false
  | some a,some b=>((a.Px || !(aE (ops.getD p.1 default).op)) &&(b.Px || !(aE (ops.getD p.2 default).op)))
  | _,_=>false)&&OB ops ss ps
def gi.all{ops:WD Oper}{ss:WB Nk}:∀{ps:WB (Nat×Nat)},OB ops ss ps=true->gi ops ss ps
 | [],_=>trivial
 | p::ps,h=>by
  simp only[OB,SW] at h;refine⟨?_,gi.all h.2⟩;have h1:=h.1;unfold GQ
  split at h1
  cases h1
  cases h1
  cases h1
  cases h1
  cases h1
  cases h1
  cases h1
  cases h1
  cases h1
  cases h1
  rename_i a b ha hb hn1 hn2;exact h1
  cases h1
def gi.nil{ops:WD Oper}{ss:WB Nk}:gi ops ss []:=trivial
section
variable{ops:WD Oper}{ss:WB Nk}{ps:WB (Nat×Nat)}{i j b b':Nat}{l:WB Nat}{o:WA Nat}{la:WB (WA Nat)}
def gi.rw(h1:ss[i]? = some (.rd b))(h2:ss[j]? = some (.wr b'))(he:aE (ops.getD i default).op=false)(hne:b≠b')(k:gi ops ss ps):gi ops ss ((i,j)::ps):=by
 refine⟨?_,k⟩;simp only[GQ,h1,h2]; exact⟨hne,he⟩
def gi.rk(h1:ss[i]? = some (.rd b))(h2:ss[j]? = some (.kp l))(he:aE (ops.getD i default).op=false)(hm:b∈l)(k:gi ops ss ps):gi ops ss ((i,j)::ps):=by
 refine⟨?_,k⟩;simp only[GQ,h1,h2]; exact⟨hm,he⟩
end
def KH{r e:Note}(h:e.next<=e.wl):Note.ok r e=true:=by
 unfold Note.ok
 split
 rfl
 rename_i b _
 by_cases hb:b<e.wl
 simp[hb]
 have:e.next<=b:=by omega
 simp[this]
def D8{r e:Note}{b b':Nat}(h1:r.read=some b)(h2:e.wrote=some b')(hne:b≠b'):Note.ok r e=true:=by
 unfold Note.ok;rw[h1,h2];simp[hne]
def Ax{r e:Note}{b b':Nat}(h1:r.read=some b)(h2:b'<e.wl)(hne:b<=b'):Note.ok r e=true:=by
 unfold Note.ok;rw[h1];simp[show b<e.wl by omega]
def CZ{r e:Note}{b:Nat}{l:WB Nat}(h1:r.read=some b)(h2:∀b∈l,e.kept b=true)(hm:b∈l):Note.ok r e=true:=by
 unfold Note.ok;rw[h1];simp[h2 b hm]
def vX{r e:Note}{b:Nat}{l:WB (WA Nat)}(h1:r.read=some b)(h2:∀b,some b∈l->e.kept b=true)(hm:some b∈l):Note.ok r e=true:=by
 unfold Note.ok;rw[h1];simp[h2 b hm]
def Dv{r e:Note}{o:WA Nat}{l:WB (WA Nat)}(h1:r.read=o)(h2:∀b,some b∈l->e.kept b=true)(hm:o∈l):Note.ok r e=true:=by
 cases o with
 | none=>unfold Note.ok; rw[h1]
 | some b=>exact vX h1 h2 hm
def Nk.ok{a b:Nk}{x y:Note}(_:a.of x)(hy:b.of y)(h:b.Px=true):Note.ok x y=true:=by
 cases b with
 | call=>exact KH hy
 | _=>cases h
def yM{ops:WD Oper}{ss:WB Nk}{ns:WB Note}(h:NR ss ns):∀{prs:WB (Nat×Nat)},gi ops ss prs->prs.all (dv ns ops)=true
 | [],_=>rfl
 | p::prs,hk=>by
  rw[Uo,yM h hk.2,Bool.and_true];have h1:=hk.1;unfold GQ at h1
  split at h1
  rename_i b b' ha hb;obtain⟨x,hx1,hx2⟩:=h.at ha;obtain⟨y,hy1,hy2⟩:=h.at hb;simp only[dv,hx1,hy1,D8 hx2 hy2 h1.1,h1.2,U6,To,U5,Ud]
  rename_i b b' ha hb;obtain⟨x,hx1,hx2⟩:=h.at ha;obtain⟨y,hy1,hy2⟩:=h.at hb;simp only[dv,hx1,hy1,D8 hy2 hx2 h1.1,h1.2,U6,To,U5,Ud]
  rename_i b b' ha hb;obtain⟨x,hx1,hx2⟩:=h.at ha;obtain⟨y,hy1,hy2⟩:=h.at hb;simp only[dv,hx1,hy1,Ax hx2 hy2 h1.1,h1.2,U6,To,U5,Ud]
  rename_i b b' ha hb;obtain⟨x,hx1,hx2⟩:=h.at ha;obtain⟨y,hy1,hy2⟩:=h.at hb;simp only[dv,hx1,hy1,Ax hy2 hx2 h1.1,h1.2,U6,To,U5,Ud]
  rename_i b b' ha hb;obtain⟨x,hx1,hx2⟩:=h.at ha;obtain⟨y,hy1,hy2⟩:=h.at hb;simp only[dv,hx1,hy1,CZ hx2 hy2 h1.1,h1.2,U6,To,U5,Ud]
  rename_i b b' ha hb;obtain⟨x,hx1,hx2⟩:=h.at ha;obtain⟨y,hy1,hy2⟩:=h.at hb;simp only[dv,hx1,hy1,CZ hy2 hx2 h1.1,h1.2,U6,To,U5,Ud]
  rename_i b l ha hb;obtain⟨x,hx1,hx2⟩:=h.at ha;obtain⟨y,hy1,hy2⟩:=h.at hb;simp only[dv,hx1,hy1,vX hx2 hy2 h1.1,h1.2,U6,To,U5,Ud]
  rename_i b l ha hb;obtain⟨x,hx1,hx2⟩:=h.at ha;obtain⟨y,hy1,hy2⟩:=h.at hb;simp only[dv,hx1,hy1,vX hy2 hx2 h1.1,h1.2,U6,To,U5,Ud]
  rename_i b l ha hb;obtain⟨x,hx1,hx2⟩:=h.at ha;obtain⟨y,hy1,hy2⟩:=h.at hb;simp only[dv,hx1,hy1,Dv hx2 hy2 h1.1,h1.2,U6,To,U5,Ud]
  rename_i b l ha hb;obtain⟨x,hx1,hx2⟩:=h.at ha;obtain⟨y,hy1,hy2⟩:=h.at hb;simp only[dv,hx1,hy1,Dv hy2 hx2 h1.1,h1.2,U6,To,U5,Ud]
  rename_i a b _ _ _ _ _ _ _ _ _ _ ha hb;obtain⟨x,hx1,hx2⟩:=h.at ha;obtain⟨y,hy1,hy2⟩:=h.at hb;simp only[SW,Ul,T1] at h1;simp only[dv,hx1,hy1,SW,Ul,T1];refine⟨?_,?_⟩
  rcases h1.2 with h2|h2
  exact .inr (Nk.ok hx2 hy2 h2)
  exact .inl h2
  rcases h1.1 with h2|h2
  exact .inr (Nk.ok hy2 hx2 h2)
  exact .inl h2
  exact h1.elim
def NR.rev:∀{bs:WB Nk} {ns:WB Note},NR bs ns->NR bs.reverse ns.reverse
 | [],[],_=>trivial
 | b::bs,x::xs,h=>by
  rw[List.reverse_cons,List.reverse_cons];exact(NR.rev h.2.2).snoc h.1 h.2.1
 | [],_::_,h=>h.elim
 | _::_,[],h=>h.elim
variable{ss:WB Nk}
def Wn(E:Env)(n:Nat)(ops:WD Oper)(prs:WB (Nat×Nat))(K:Tm->V7->Prop)(os:WB Oper)(ss:WB Nk)(m0:V7)(fs:Fs)(ps:WB Pc):Prop :=
 ∀t m ns,Fr t fs->Hp m0 m ps->NR ss ns->dO E n ops (fun t m ns=>(prs.all (dv ns ops)&&ns.all db)=true/\K t m) os t m ns
def Wn.nil{Q:V8->Tm->V7->Prop}(hk:∀m,Hp m0 m ps->gi ops ss.reverse prs)(h:At Q .normal m0 fs ps):Wn E n ops prs (Q .normal) [] ss m0 fs ps:=fun t m ns hf hm hn=>by
 refine⟨?_,h t m hf hm⟩;rw[yM hn.rev (hk m hm),hn.rev.all]; rfl
def Wn.xg{α:Type}{V:α->Vs}{N:α->WB Pc}{c:Nk}(h:∀t m,Fr t fs->Hp m0 m ps->m.wl=m.next->(∀b,aP E t o=some b->b<m.next)/\∀K:Vs->V7->Prop,(∀x m',Hp m0 m' (N x)->c.of { read:=aP E t o,wl:=m'.wl,next:=m.next,wrote:=dU E t o,kept:=gQ m m'}->K (V x) m')->bt E t m o K)
  (hg:sD ops fs g true) (dst:WA Nat) (hd:∀d,dst=some d->Nat.blt d n=true) (k:∀x,Wn E n ops prs K os (c::ss) m0 (match dst with|some d=>(d,V x)::fs|none=>fs) (N x)):Wn E n ops prs K (⟨dst,o,ty,p,af,g⟩::os) ss m0 fs ps:=by
 intro t m ns hf hm hn;simp only[dO,hg t _ _ _ _ _ hf,if_true];have hx:=hm.ext.next
 have hm':Hp m0 (m.ww m.next) ps:=hm.ww (by omega)
 have hwl:(m.ww m.next).wl=(m.ww m.next).next:=by rw[V7.wl_ww,V7.next_ww]
 have e0:({ next:=m.next,wl:=m.next,bQ:=m.bQ,base:=m.base}:V7)=m.ww m.next:=by unfold V7.ww; rfl
 rw[e0];obtain⟨h1,h2⟩:=h t _ hf hm' hwl;rw[V7.next_ww] at h1;refine bt.A (h2 _ fun x m' hm'' hc=>?_);rw[V7.next_ww] at hc;have hw:=hm''.ext.wl;have e1:({ next:=m'.next,wl:=min m.wl m'.wl,bQ:=m'.bQ,base:=m'.base}:V7)=m'.ww (min m.wl m'.wl):=by unfold V7.ww; rfl
 have hw0:=hm.ext.wl;have hfin:Hp m0 (m'.ww (min m.wl m'.wl)) (N x):=hm''.ww (by omega)
 have hkp:gQ (m.ww m.next) m'=gQ m m':=by
  funext b
  unfold gQ;rw[V7.get_ww]
 rw[hkp] at hc;have hnr:NR (c::ss) ({ read:=aP E t o,wl:=m'.wl,next:=m.next,wrote:=dU E t o,kept:=gQ m m'}::ns):=⟨vu h1,hc,hn⟩
 cases dst with
 | none=>exact⟨t,rfl,by rw[e1]; exact k x t _ _ hf hfin hnr⟩
 | some d =>
  have hd':d<n:=by have:=hd d rfl; rwa[UI] at this
  exact⟨t.set d (V x),by rw[cD,S7 hd'],by rw[e1]; exact k x _ _ _ hf.set hfin hnr⟩
def Wn.x{α:Type}{V:α->Vs}{N:α->WB Pc}(h:Ox E m0 fs ps o V N)(hg:sD ops fs g true)(hd:Nat.blt d n=true)(k:∀x,Wn E n ops prs K os (.any::ss) m0 ((d,V x)::fs) (N x)):Wn E n ops prs K (⟨some d,o,ty,p,af,g⟩::os) ss m0 fs ps :=
 Wn.xg (c:=.any) (fun t m hf hm _=>⟨(h t m hf hm).1,fun K hK=>(h t m hf hm).2 K fun x m' h1=>hK x m' h1 trivial⟩) hg (some d) (fun d' e=>by cases e; exact hd) k
def Wn.x0{α:Type}{V:α->Vs}{N:α->WB Pc}(h:Ox E m0 fs ps o V N)(hg:sD ops fs g true)(k:∀x,Wn E n ops prs K os (.any::ss) m0 fs (N x)):Wn E n ops prs K (⟨none,o,ty,p,af,g⟩::os) ss m0 fs ps :=
 Wn.xg (c:=.any) (fun t m hf hm _=>⟨(h t m hf hm).1,fun K hK=>(h t m hf hm).2 K fun x m' h1=>hK x m' h1 trivial⟩) hg none (fun d' e=>by cases e) k
def Bo:Vs->Bool
 | .int _ _|.bool _|.slice _ _ _|.map _|.pointer _=>true
 | _=>false
def Qd:Vs->Bool
 | .func (.func _) a c=>a.toList.all Bo&&c.toList.all Bo
 | v=>Bo v
def EW{α:Type}(ps:WB Pc)(N:α->WB Pc):WB Nat->Prop
 | []=>True
 | b::l=>(∃cs k,pk ps k=some (.obj b (.cells cs .own))/\cs.all Qd=true/\∀x,∃k',pk (N x) k'=some (.obj b (.cells cs .own)))/\EW ps N l
def I7{m m':V7}{b:Nat}(h:m.get b=m'.get b):gQ m m' b=true:=by
 unfold gQ;rw[Ul];exact .inr (@decide_eq_true _ (Classical.propDecidable _) h)
def EW.kept{α:Type}{N:α->WB Pc}{m m':V7}{x:α}(hm:Hp m0 m ps)(hm':Hp m0 m' (N x)):∀{l:WB Nat},EW ps N l->∀b∈l,gQ m m' b=true
 | [],_,b,hb=>by cases hb
 | c::l,h,b,hb=>by
  rcases Tt.1 hb with rfl|hb
  obtain⟨cs,k,h1,h2,h3⟩:=h.1;obtain⟨k',h4⟩:=h3 x;exact I7 (by rw[(hm.get h1).2.2,(hm'.get h4).2.2])
  exact EW.kept hm hm' h.2 b hb
def Wn.xk{α:Type}{V:α->Vs}{N:α->WB Pc}{l:WB Nat}(h:Ox E m0 fs ps o V N)(hl:EW ps N l)(hg:sD ops fs g true)(hd:Nat.blt d n=true)(k:∀x,Wn E n ops prs K os (.kp l::ss) m0 ((d,V x)::fs) (N x)):Wn E n ops prs K (⟨some d,o,ty,p,af,g⟩::os) ss m0 fs ps :=
 Wn.xg (c:=.kp l) (fun t m hf hm _=>⟨(h t m hf hm).1,fun K hK=>(h t m hf hm).2 K fun x m' h1=>hK x m' h1 (EW.kept hm h1 hl)⟩) hg (some d) (fun d' e=>by cases e; exact hd) k
def Hp.ne{m:V7}{i j b b':Nat}{x y:Pc}(h:Hp m0 m ps)(hx:pk ps i=some x)(hy:pk ps j=some y)(hb:x.qQ=some b)(hb':y.qQ=some b')(hne:i≠j)(ho:x.own=true):b≠b':=fun e=>(gA h.apart hx hy hne).1 b (Pc.PZ ho hb) (.inl (by rw[e]; exact hb'))
def Oc(E:Env)(m0:V7)(fs:Fs)(ps:WB Pc)(o:Op){α:Type}(V:α->Vs)(N:α->WB Pc):Prop :=
 ∀t m,Fr t fs->Hp m0 m ps->m.wl=m.next->(∀b,aP E t o=some b->b<m.next)/\∀K:Vs->V7->Prop,(∀x m',Hp m0 m' (N x)->m.next<=m'.wl->K (V x) m')->bt E t m o K
def RY{α:Type}{V:α->Vs}{N:α->WB Pc}{f:Vu}{g:WJ}{ars:WD Vu}{ts:WD Vt}{args:WB Vs}(hf:ev E fs f=some (.func (.func g) #[] #[]))(ha:kP E fs ars.toList=some args)(hc:∀m,Hp m0 m ps->aB E g args m (fun v m'=>∃x,v=V x/\Hp m m' (N x)))(ho:∀x,xW (N x)=true):Oc E m0 fs ps (.call ⟨.value f,ars,ts⟩) V (fun x=>N x++ps) :=
 fun t m hfr hm hwl=>⟨fun b hb=>(by simp[aP] at hb),fun K hK=>by
  show lO E (an E t f) (bE E t ars.toList) m _
  rw[hfr.ev hf,hfr.kP ha,tP];refine(hc m hm).mono fun v m' ⟨x,e,h⟩=>?_;rw[e];refine hK x m' (hm.after h fun p hp=>Tk.1 (ho x) p hp) ?_;have:=h.ext.wl;omega⟩
def Wn.c{α:Type}{V:α->Vs}{N:α->WB Pc}(h:Oc E m0 fs ps o V N)(hg:sD ops fs g true)(hd:Nat.blt d n=true)(k:∀x,Wn E n ops prs K os (.call::ss) m0 ((d,V x)::fs) (N x)):Wn E n ops prs K (⟨some d,o,ty,p,af,g⟩::os) ss m0 fs ps :=
 Wn.xg (c:=.call) (fun t m hf hm hw=>⟨(h t m hf hm hw).1,fun K hK=>(h t m hf hm hw).2 K fun x m' h1 h2=>hK x m' h1 h2⟩) hg (some d) (fun d' e=>by cases e; exact hd) k
def Wn.od(h:Od E m0 fs ps o v ps')(hd:Nat.blt d n=true)(k:Wn E n ops prs K os (.any::ss) m0 ((d,v)::fs) ps'):Wn E n ops prs K (⟨some d,o,ty,p,af,none⟩::os) ss m0 fs ps:=Wn.x h.x gn hd fun _=>k
def Wn.o0(h:Od E m0 fs ps o v ps')(k:Wn E n ops prs K os (.any::ss) m0 fs ps'):Wn E n ops prs K (⟨none,o,ty,p,af,none⟩::os) ss m0 fs ps:=Wn.x0 h.x gn fun _=>k
def Wn.og(h:Od E m0 fs ps o v ps')(hg:sD ops fs g true)(hd:Nat.blt d n=true)(k:Wn E n ops prs K os (.any::ss) m0 ((d,v)::fs) ps'):Wn E n ops prs K (⟨some d,o,ty,p,af,g⟩::os) ss m0 fs ps:=Wn.x h.x hg hd fun _=>k
def Wn.SC{x:Vu}{b off:Nat}{ty':Vt}(hx:ev E fs x=some (ptr b off))(h:Od E m0 fs ps (.load ty' x) v ps')(hg:sD ops fs g true)(hd:Nat.blt d n=true)(k:Wn E n ops prs K os (.rd b::ss) m0 ((d,v)::fs) ps'):Wn E n ops prs K (⟨some d,.load ty' x,ty,p,af,g⟩::os) ss m0 fs ps :=
 Wn.xg (V:=fun _:WC=>v) (N:=fun _=>ps') (c:=.rd b) (fun t m hf hm _=>⟨(h t m hf hm).1,fun K hK=>(h t m hf hm).2 K fun m' h1=>hK () m' h1 (by show aP E t (.load ty' x)=some b; simp only[aP,hf.ev hx]; rfl)⟩) hg (some d) (fun d' e=>by cases e; exact hd) fun _=>k
def Wn.Q8{x:Vu}{b off:Nat}{ty':Vt}(hx:ev E fs x=some (ptr b off))(h:Od E m0 fs ps (.load ty' x) v ps')(hd:Nat.blt d n=true)(k:Wn E n ops prs K os (.rd b::ss) m0 ((d,v)::fs) ps'):Wn E n ops prs K (⟨some d,.load ty' x,ty,p,af,none⟩::os) ss m0 fs ps:=Wn.SC hx h gn hd k
def Wn.R9{x y:Vu}{b off:Nat}{ty':Vt}(hx:ev E fs x=some (ptr b off))(h:Od E m0 fs ps (.store ty' x y) v ps')(hg:sD ops fs g true)(k:Wn E n ops prs K os (.wr b::ss) m0 fs ps'):Wn E n ops prs K (⟨none,.store ty' x y,ty,p,af,g⟩::os) ss m0 fs ps :=
 Wn.xg (V:=fun _:WC=>v) (N:=fun _=>ps') (c:=.wr b) (fun t m hf hm _=>⟨(h t m hf hm).1,fun K hK=>(h t m hf hm).2 K fun m' h1=>hK () m' h1 (by show dU E t (.store ty' x y)=some b; simp only[dU,hf.ev hx]; rfl)⟩) hg none (fun d' e=>by cases e) fun _=>k
def Wn.Sc{x y:Vu}{b off:Nat}{ty':Vt}(hx:ev E fs x=some (ptr b off))(h:Od E m0 fs ps (.store ty' x y) v ps')(k:Wn E n ops prs K os (.wr b::ss) m0 fs ps'):Wn E n ops prs K (⟨none,.store ty' x y,ty,p,af,none⟩::os) ss m0 fs ps:=Wn.R9 hx h gn k
def Wn.s(hg:sD ops fs g false)(hd:Nat.blt d n=true)(k:Wn E n ops prs K os (.call::ss) m0 ((d,undef)::fs) ps):Wn E n ops prs K (⟨some d,o,ty,p,af,g⟩::os) ss m0 fs ps:=by
 have hd':d<n:=by rwa[UI] at hd
 intro t m ns hf hm hn;simp only[dO,hg t _ _ _ _ _ hf,Tf,if_false];exact⟨t.set d undef,by rw[cD,S7 hd'],k _ _ _ hf.set hm ⟨rfl,SX _,hn⟩⟩
def Wn.bR(h:ai m0 ps ps')(k:Wn E n ops prs K os ss m0 fs ps'):Wn E n ops prs K os ss m0 fs ps:=fun t m ns hf hm hn=>k t m ns hf (h m hm) hn
def Wn.bA{k w l cap:Nat}{a:Vq}{es:Vp}(hp:pk ps k=some (.rd a cap w l es))(hl:0<l)(h:∀b o,a=some ⟨b,o,none⟩->Wn E n ops prs K os ss m0 fs (.ro b o w l es::ps)):Wn E n ops prs K os ss m0 fs ps:=by
 intro t m ns hf hm hn;obtain⟨h1,h2,h3⟩:=hm.get hp;rcases h3 with⟨_,h3⟩|⟨_,_,_,h3,_⟩|⟨b,o,rfl,h3⟩
 omega
 omega
 exact h b o rfl t m ns hf (hm.more hp rfl ⟨h1,h3⟩ rfl fun b' hb=>hb) hn
def Wn.len{α:Type}{f:α->WB Vs}{k w l:Nat}{a:Vq}{xs:WB α}(hp:pk ps k=some (.sl a w l (xs.map f)))(h:l=xs.length->Wn E n ops prs K os ss m0 fs ps):Wn E n ops prs K os ss m0 fs ps:=fun t m ns hf hm hn=>by
 refine h ?_ t m ns hf hm hn;rcases hm.get hp with⟨h0,h1,_⟩|⟨b,tg,_,h1⟩
 rw[h0,List.map_eq_nil_iff.1 h1]; rfl
 have:=h1.2.2.2.1; rw[Tw] at this; exact this.symm
def Wk.cF{fn:WJ}{ro:WA Nat}{Q:V8->Tm->V7->Prop}{id:Nat}(hp:jj ops=some prs)(h:Wn E n ops prs (Q .normal) ops.toList [] m0 fs ps):Wk E n fn ro (.region id ops true) Q m0 fs ps:=fun t m hf hm=>.draw hp (h t m [] hf hm trivial)
end
section
variable{E:Env}{n:Nat}{fn:WJ}{m0:V7}{fs:Fs}{ps:WB Pc}{Q:V8->Tm->V7->Prop}
structure Rn where
 st:LoopState
 pe:WA Code
 ps:WB Pc
end
section
variable{α β:Type}[DecidableEq α]
structure KeyE(P:Vv)(kt:Vt)(kE:α->Vs):Prop where
 eq:∀a b,kX P Op.maxDepth kt (kE a) (kE b)=some (decide (a=b))
 ok:∀a,iY P kt (kE a)=true
 plain:∀a,bw (kE a)=true
 same:∀a,Instr.sameBits 10000 (kE a) (kE a)=true
end
section
variable{E:Env}{n:Nat}{m0 m:V7}{fs:Fs}{ps:WB Pc}{x y z:Vu}{ty:Vt}
variable{α β:Type}[DecidableEq α]
def sM{γ:Type}{f:γ->WB Vs}{xs:WB γ}{k cap w l:Nat}{a:Vq}(h:Hp m0 m ps)(hp:pk ps k=some (.rd a cap w l (xs.map f))):l=xs.length:=by
 have:=(h.get hp).1;rw[Tw] at this;exact this.symm
end
end Go.Ab.W
section
open Go Go.Ab Go.Ab.W
abbrev VS:=@Wn.nil
abbrev VD:=@Wn.od
abbrev VX:=@Wn.o0
abbrev VW:=@Wk.cF
end
end
section
namespace Go.Ab.W
open Go Go.Ab
set_option maxRecDepth 10000
attribute [local irreducible] Tm.at Trie.set Trie.get V7.get V7.set V7.alloc V7.ww
def Ex(ps:WB Pc):∀(k:Nat) (p:Pc),pk ps k=some p->da ps k p=ps:=by
 induction ps with
 | nil=>intro k p h; exact nomatch h
 | cons q l ih =>
  intro k p h;cases k with
  | zero=>rw[iX] at h; cases h; rfl
  | succ k=>rw[fe] at h; simp only[da,ih k p h]
end Go.Ab.W
end
section
namespace Go.Ab.W
open Go Go.Ab
attribute [local irreducible] Tm.at Trie.set Trie.get V7.get V7.set V7.alloc V7.ww V7.kill
section
variable{α:Type}
def KV:WB α->WA (α×α×α×α×α×α×α×α)
 | [a,b,c,d,e,f,g,h]=>some (a,b,c,d,e,f,g,h)
 | _=>none
def ov{xs:WB α}{a b c d e f g h:α}(hx:KV xs=some (a,b,c,d,e,f,g,h)):xs=[a,b,c,d,e,f,g,h]:=by
 unfold KV at hx
 split at hx
 cases hx; rfl
 cases hx
end
section
variable{E:Env}{n:Nat}{m0 m:V7}{fs:Fs}{ps:WB Pc}{x y z:Vu}{ty:Vt}
def ai.qA{α:Type}{xs:WB α}{f:α->WB Vs}{k b w l:Nat}{cs:WB Vs}(hp:pk ps k=some (.obj b (.cells cs .own)))(hx:cs=(xs.map f).flatten)(hl:xs.length=l)(he:Enc f w)(h0:Nat.blt 0 w=true):ai m0 ps (da ps k (.arr b w l (xs.map f) .own)):=fun m h=>by
 subst hx;exact h.put hp rfl rfl rfl (SX _) h.ext ⟨(h.get hp).1,(h.get hp).2.1,(h.get hp).2.2,by rw[Tw]; exact hl,fun e hm=>by obtain⟨x,_,rfl⟩:=UZ.1 hm; exact he.1 x,.inl rfl,by rwa[UI] at h0⟩ fun _ _ _=>rfl
def ai.yl{α:Type}{xs ys:WB α}{f:α->WB Vs}{k b w l:Nat}{cs:WB Vs}{tg:Tag}(hp:pk ps k=some (.arr b w l (xs.map f) tg))(hx:xs=ys)(hc:(ys.map f).flatten=cs):ai m0 ps (da ps k (.obj b (.cells cs tg))):=fun m h=>by
 subst hx hc;exact h.put hp rfl rfl rfl (SX _) h.ext ⟨(h.get hp).1,(h.get hp).2.1,(h.get hp).2.2.1⟩ fun _ _ _=>rfl
def kU{el:Vt}{b len w:Nat}{i:Int}{kd:IntKind}(h:ArT E.P ty el len w)(hx:ev E fs x=some (ptr b 0))(hy:ev E fs y=some (.int kd i))(hi:0<=i/\i.toNat<len):Od E m0 fs ps (.indexAddr ty x y) (ptr b (i.toNat*w+0)) ps:=by
 obtain⟨j,rfl⟩:=Int.eq_ofNat_of_zero_le hi.1;have hj:j<len:=by simpa using hi.2
 refine Nx hx hy ?_;rw[P2 h (b:=b) (o:=0) hj];simp
end
section
variable{E:Env}{n:Nat}{m0 m:V7}{fs:Fs}{ps:WB Pc}
def jF(l:WB Pc):Bool:=l.all Pc.bound
def Gt{α:Type}{V:α->Vs}{N:α->WB Pc}{f:Vu}{g:WJ}{ars:WD Vu}{ts:WD Vt}{args:WB Vs}(hf:ev E fs f=some (.func (.func g) #[] #[]))(ha:kP E fs ars.toList=some args)(hc:∀m,Hp m0 m ps->aB E g args m (fun v m'=>∃x,v=V x/\Hp m m' (N x++[.gen (po (kL ps))])))(ho:∀x,jF (N x)=true):Ox E m0 fs ps (.call ⟨.value f,ars,ts⟩) V (fun x=>N x++ps) :=
 M4 hf ha fun m hm=>by
  simp only[Us,T8];exact(hc m hm).mono fun v m' ⟨x,e,h⟩=>⟨x,e,hm.Ga h fun p hp=>Tk.1 (ho x) p hp⟩
def Mc{α:Type}{V:α->Vs}{N:α->WB Pc}{f:Vu}{g:WJ}{ars:WD Vu}{ts:WD Vt}{args:WB Vs}(hf:ev E fs f=some (.func (.func g) #[] #[]))(ha:kP E fs ars.toList=some args)(hc:∀m,Hp m0 m ps->aB E g args m (fun v m'=>∃x,v=V x/\Hp m m' (N x++[.gen (po (kL ps))])))(ho:∀x,jF (N x)=true):Oc E m0 fs ps (.call ⟨.value f,ars,ts⟩) V (fun x=>N x++ps) :=
 fun t m hfr hm hwl=>⟨fun b hb=>(by simp[aP] at hb),fun K hK=>by
  show lO E (an E t f) (bE E t ars.toList) m _
  rw[hfr.ev hf,hfr.kP ha,tP];refine(hc m hm).mono fun v m' ⟨x,e,h⟩=>?_;rw[e];refine hK x m' (hm.Ga h fun p hp=>Tk.1 (ho x) p hp) ?_;have:=h.ext.wl;omega⟩
end
section
variable{E:Env}{n:Nat}{m0:V7}{fs:Fs}{ps:WB Pc}{ops:WD Oper}{os:WB Oper}{dr:Bool}
def Wo.aF{K:Tm->V7->Prop}{α:Type}{f:α->WB Vs}{k w l cap:Nat}{a:Vq}{xs:WB α}(hp:pk ps k=some (.rd a cap w l (xs.map f)))(h:l=xs.length->Wo dr E n ops K os m0 fs ps):Wo dr E n ops K os m0 fs ps:=by
 have key:∀m,Hp m0 m ps->l=xs.length:=fun m hm=>sM hm hp;cases dr with
 | false=>exact fun t m hf hm=>h (key m hm) t m hf hm
 | true=>exact fun t m w hf hm hw=>h (key m hm) t m w hf hm hw
def Wn.aF{prs:WB (Nat×Nat)}{K:Tm->V7->Prop}{ss:WB Nk}{α:Type}{f:α->WB Vs}{k w l cap:Nat}{a:Vq}{xs:WB α}(hp:pk ps k=some (.rd a cap w l (xs.map f)))(h:l=xs.length->Wn E n ops prs K os ss m0 fs ps):Wn E n ops prs K os ss m0 fs ps :=
 fun t m ns hf hm hn=>h (sM hm hp) t m ns hf hm hn
end
section
variable{E:Env}{m0:V7}{fs:Fs}{ps:WB Pc}{ty:Vt}
def Pp{α:Type}{f:α->WB Vs}{elem ty2:Vt}{w k c0 l l2:Nat}{a a0:Vq}{xs ys:WB α}{ars:WD Vu}(he:Enc f w)(ht:SlT E.P ty elem w)(h0:∃e2,E.P.underlying ty2=some (.slice e2))(ha:kP E fs ars.toList=some [.slice a l l,.slice a0 l2 c0])(hp:pk ps k=some (.sl a w l (xs.map f)))(hr:∀m,Hp m0 m ps->Rd m a0 c0 w l2 (ys.map f))(hl:lim (xs++ys).length=true) :
  Ox E m0 fs ps (.call ⟨.builtin .append,ars,#[ty,ty2]⟩) (fun a':Vq=>.slice a' (xs++ys).length (xs++ys).length) (fun a'=>da ps k (.sl a' w (xs++ys).length ((xs++ys).map f))):=fun t m hf hm=>⟨fun b hb=>(by simp[aP] at hb),fun K hK=>by
 have h1:l=xs.length:=by
  have:=hm.get hp;rcases this with⟨h5,h1,_⟩|⟨b,tg,_,h1⟩
  rw[h5,List.map_eq_nil_iff.1 h1]; rfl
  have:=h1.2.2.2.1; rw[Tw] at this; exact this.symm
 have h2:l2=ys.length:=by
  have:=(hr m hm).1; rw[Tw] at this; exact this.symm
 have e2:l+l2=(xs++ys).length:=by rw[h1,h2,S5]
 obtain⟨a',m',h3,h4⟩:=mw (n:=l) ht h0 hm hp (hr m hm) (he.qZ ys) (he.fG ys) (by rw[e2]; exact hl)
 have:bp E.P .append #[ty,ty2] [.slice a l l,.slice a0 l2 c0] m=some (.slice a' (l+l2) (l+l2),m'):=h3;rw[Go.Ab.fp (hf.kP ha) this];have e1:xs.map f++ys.map f=(xs++ys).map f:=List.map_append.symm;rw[e1,e2] at h4;rw[e2];exact hK a' m' h4⟩
end
section
def oC(c:Vs)(cs:WB Vs)(o:Nat)(vs:WB Vs):aI (c::cs) (o+1) vs=c::aI cs o vs:=by cases vs<;>rfl
def ft:∀(cs:WB Vs) (o:Nat),aI cs o []=cs
 | [],0=>rfl
 | _::_,0=>rfl
 | [],_+1=>rfl
 | c::cs,o+1=>by rw[oC,ft cs o]
def qC{f:Nat->WB Vs}{v:Nat->Vs}(hf:∀x,f x=[v x]):∀{ys xs zs:WB Nat},ys++xs.drop ys.length=zs->ys.length<=xs.length->aI (xs.map f).flatten 0 (ys.map f).flatten=(zs.map f).flatten
 | [],xs,zs,h,_=>by
  rw[Us,List.length_nil,Vd] at h;rw[h];exact ft _ 0
 | y::ys,[],zs,_,hl=>by simp at hl
 | y::ys,x::xs,zs,h,hl=>by
  have ih:=qC hf (ys:=ys) (xs:=xs) (zs:=ys++xs.drop ys.length) rfl (by simpa using hl)
  subst h;simp only[Va,T4,hf,Vc,Us,Tz,List.drop_succ_cons] at ih ⊢
  show v y::aI _ 0 _=_
  rw[ih]
def Qo{f:Nat->WB Vs}{v:Nat->Vs}(hf:∀x,f x=[v x]){c:Vs}{ys xs zs:WB Nat}(h:ys++xs.drop ys.length=zs)(hl:ys.length<=xs.length):aI (c::(xs.map f).flatten) 1 (ys.map f).flatten=c::(zs.map f).flatten:=by
 rw[show(1:Nat)=0+1 from rfl,oC,qC hf h hl]
variable{E:Env}{m0:V7}{fs:Fs}{ps:WB Pc}{ty:Vt}
def QE{f:Nat->WB Vs}{elem ty2:Vt}{k b o q c0 l2:Nat}{a0:Vq}{cs cs':WB Vs}{ys:WB Nat}{ars:WD Vu}(he:Enc f 1)(ht:SlT E.P ty elem 1)(ha:kP E fs ars.toList=some [.slice (some ⟨b,o,none⟩) q q,.slice a0 l2 c0])(hp:pk ps k=some (.obj b (.cells cs .own)))(hr:∀m,Hp m0 m ps->Rd m a0 c0 1 l2 (ys.map f))(hq:decide (ys.length<=q)=true)(ho:Nat.ble (o+q) cs.length=true)(hs:aI cs o (ys.map f).flatten=cs') :
  Od E m0 fs ps (.call ⟨.builtin .copy,ars,#[ty,ty2]⟩) (.int .i64 (ys.length:Int)) (da ps k (.obj b (.cells cs' .own))):=fun t m hf hm=>⟨fun b hb=>(by simp[aP] at hb),fun K hK=>by
 have h2:l2=ys.length:=by
  have:=(hr m hm).1; rw[Tw] at this; exact this.symm
 have hq':=of_decide_eq_true hq;have ho':=S6 ho;have hc:=(hr m hm).cells;have hmin:min l2 q=l2:=by omega
 have hone:bo (ys.map f).flatten=true:=by
  unfold bo;rw[Tk];intro x hx;obtain⟨e,h3,h4⟩:=List.mem_flatten.1 hx;exact Tk.1 (he.fG ys e h3) x h4
 have hlen:(ys.map f).flatten.length=ys.length:=by
  clear hs hr hq hK h2 hq' hc hone
  induction ys with
  | nil=>rfl
  | cons x l ih=>rw[Va,T4,S5,ih,he.1 x,Tz]; omega
 have hg:=(hm.get hp).2.2;have hsrc:cd (aA E.P elem) (.slice a0 l2 c0) (min l2 q) m=some (ys.map f).flatten:=by rw[ht.size,hmin]; exact hc
 cases hy:ys with
 | nil =>
  subst hy;have e1:cs'=cs:=by rw[<-hs]; exact ft cs o
  have h0:min l2 q=0:=by rw[hmin,h2]; rfl
  have:bp E.P .copy #[ty,ty2] [.slice (some ⟨b,o,none⟩) q q,.slice a0 l2 c0] m=some (.int .i64 0,m):=by
   show td E.P ty _ _ m=_
   unfold td;rw[h0] at hsrc;simp only[ht.und,ht.known,S9,Tf,if_false,h0,hsrc,hone]
  rw[Go.Ab.fp (hf.kP ha) this];exact hK m (by rw[e1]; exact hm.put hp rfl rfl rfl (SX _) hm.ext (hm.get hp) fun _ _ _=>rfl)
 | cons y y2 =>
  have h5:min l2 q=y2.length+1:=by rw[hmin,h2,hy]; rfl
  have hst:m.dj b o (ys.map f).flatten=some (m.set b (.cells cs' .own)):=by
   have hne:(ys.map f).flatten≠[]:=fun e=>by rw[e,hy] at hlen; cases hlen
   unfold V7.dj
   split
   rename_i e; exact Tl e hne
   rw[hg];simp only[hlen];rw[VA,hs]
  have:bp E.P .copy #[ty,ty2] [.slice (some ⟨b,o,none⟩) q q,.slice a0 l2 c0] m=some (.int .i64 (ys.length:Int),m.set b (.cells cs' .own)):=by
   show td E.P ty _ _ m=_
   unfold td;rw[h5] at hsrc;simp only[ht.und,ht.known,S9,Tf,if_false,h5,hsrc,hone,hst,SZ];rw[hy]; rfl
  rw[Go.Ab.fp (hf.kP ha) this];have hw:Hp m0 (m.set b (.cells cs' .own)) (da ps k (.obj b (.cells cs' .own))):=hm.write (o':=.cells cs' .own) (p':=.obj b (.cells cs' .own)) hp rfl rfl rfl rfl ⟨(hm.get hp).1,by rw[V7.next_set]; exact(hm.get hp).2.1,by rw[V7.bX,S7 rfl]⟩
  exact hK _ hw⟩
end
end Go.Ab.W
section
open Go Go.Ab Go.Ab.W
abbrev VJ:=@Wo.aF
abbrev VK:=@Wn.aF
end
end
section
namespace Go.Ab.W
open Go Go.Ab
attribute [local irreducible] Tm.at Trie.set Trie.get V7.get V7.set V7.alloc V7.ww V7.kill
section
variable{α:Type}{E:Env}{m0 m:V7}{fs:Fs}{ps:WB Pc}{f:α->WB Vs}{w:Nat}{ty:Vt}
def K2{β:Type}{V:β->Vs}{N:β->WB Pc}{x:Vu}{b off:Nat}(hx:ev E fs x=some (ptr b off))(hb:∀m,Hp m0 m ps->b<m.next)(h:∀m,Hp m0 m ps->∃z,dG E.P ty (ptr b off) m=some (V z)/\Hp m0 m (N z)):Ox E m0 fs ps (.load ty x) V N :=
 fun t m hf hm=>⟨fun b' hb'=>by
  have hx':an E t x=some (ptr b off):=hf.ev hx;simp only[aP,hx',TF] at hb';cases hb'; exact hb m hm,fun K hK=>by
  obtain⟨z,h1,h2⟩:=h m hm;rw[Go.Ab.Ir (hf.ev hx) h1]; exact hK z m h2⟩
end
def Qw(m:V7)(RW:Vr)(rb:Nat)(row:WB (Bool×WB Nat)):Prop :=
 rb<m.next/\∃vs,m.get rb=some (.cells vs .own)/\vs.length=row.length*2/\∀(j:Nat) (x:Bool×WB Nat),row[j]? = some x->vs[j*2]? = some (.bool x.1)/\∃a c,vs[j*2+1]? = some (.slice a x.2.length c)/\Rd m a c 1 x.2.length (x.2.map (eN .u64))/\∀b,dx a=some b->RW b
def RE(ρ:Nat->Nat)(L:WB (WB (Bool×WB Nat)))(x:Nat):Prop:=∃i row,L[i]? = some row/\row≠[]/\x=ρ i
structure MatAt(m:V7)(b n:Nat)(ρ:Nat->Nat)(RW:Vr)(L:WB (WB (Bool×WB Nat))):Prop where
 lt:b<m.next
 len:n=L.length
 cells:∃cs,m.get b=some (.cells cs .own)/\cs.length=n/\∀(i:Nat) (row:WB (Bool×WB Nat)),L[i]? = some row->(row=[]/\cs[i]? = some (.slice none 0 0))\/(row≠[]/\cs[i]? = some (.slice (some ⟨ρ i,0,none⟩) row.length row.length))
 rows:∀(i:Nat) (row:WB (Bool×WB Nat)),L[i]? = some row->row≠[]->Qw m RW (ρ i) row
 rw:∀x,RW x->x<m.next/\x≠b/\¬RE ρ L x
 out:∀(i:Nat) (row:WB (Bool×WB Nat)),L[i]? = some row->row≠[]->ρ i≠b
 inj:∀(i j:Nat) (row row':WB (Bool×WB Nat)),L[i]? = some row->L[j]? = some row'->row≠[]->row'≠[]->ρ i=ρ j->i=j
end Go.Ab.W
end
section
namespace Go.Ab.W
open Go Go.Ab
section
variable{P:Vv}{ty el:Vt}
def gj{eq:Vt->Vs->Vs->WA Bool}{xs ys:WD Vs}{t off:Nat}{rest:WB (Vt×Nat)}{x y:Vs}{b r:Bool}(h1:eD P t xs off=some x)(h2:eD P t ys off=some y)(h3:eq t x y=some b)(h4:hZ eq P xs ys rest=some r):hZ eq P xs ys ((t,off)::rest)=some (b&&r):=by
 unfold hZ;rw[h1,h2]
 dsimp only
 rw[h3];cases b with
 | true=>exact h4
 | false=>rfl
def ql{k:IntKind}(he:P.underlying el=some (.int k))(d:Nat)(x y:Nat):kX P (d+1) el (.int k ((x:Nat):Int)) (.int k ((y:Nat):Int))=some (decide (x=y)):=by
 simp only[kX,he,if_true]
 congr 1
 rw[Vg];simp only[beq_iff_eq,Tv];omega
def IM{k:IntKind}(hu:P.underlying ty=some (.array 8 el))(hk:known P el=true)(hs:aA P el=1)(ha:dZ P el=false)(he:P.underlying el=some (.int k))(d:Nat)(x0 y0 x1 y1 x2 y2 x3 y3 x4 y4 x5 y5 x6 y6 x7 y7:Nat) :
  kX P (d+2) ty (.agg #[.int k ((x0:Nat):Int),.int k ((x1:Nat):Int),.int k ((x2:Nat):Int),.int k ((x3:Nat):Int),.int k ((x4:Nat):Int),.int k ((x5:Nat):Int),.int k ((x6:Nat):Int),.int k ((x7:Nat):Int)])
   (.agg #[.int k ((y0:Nat):Int),.int k ((y1:Nat):Int),.int k ((y2:Nat):Int),.int k ((y3:Nat):Int),.int k ((y4:Nat):Int),.int k ((y5:Nat):Int),.int k ((y6:Nat):Int),.int k ((y7:Nat):Int)]) =
   some (decide (x0=y0)&&decide (x1=y1)&&decide (x2=y2)&&decide (x3=y3)&&decide (x4=y4)&&decide (x5=y5)&&decide (x6=y6)&&decide (x7=y7)):=by
 have hp:∀(cs:WD Vs) (i:Nat) (v:Vs),cs[i]? = some v->eD P el cs i=some v:=fun cs i v h=>by
  unfold eD;rw[hk,ha,h]; rfl
 show kX P ((d+1)+1) ty _ _=_
 unfold kX;simp only[hu,hk,if_true,hs]
 show hZ _ P _ _ [(el,0),(el,1),(el,2),(el,3),(el,4),(el,5),(el,6),(el,7)]=_
 simp only[Bool.and_assoc];rw[gj (hp _ 0 _ rfl) (hp _ 0 _ rfl) (ql he d x0 y0) (gj (hp _ 1 _ rfl) (hp _ 1 _ rfl) (ql he d x1 y1) (gj (hp _ 2 _ rfl) (hp _ 2 _ rfl) (ql he d x2 y2) (gj (hp _ 3 _ rfl) (hp _ 3 _ rfl) (ql he d x3 y3) (gj (hp _ 4 _ rfl) (hp _ 4 _ rfl) (ql he d x4 y4) (gj (hp _ 5 _ rfl) (hp _ 5 _ rfl) (ql he d x5 y5) (gj (hp _ 6 _ rfl) (hp _ 6 _ rfl) (ql he d x6 y6) (gj (hp _ 7 _ rfl) (hp _ 7 _ rfl) (ql he d x7 y7) rfl)))))))];simp only[Bool.and_true]
def QJ {k : IntKind} {w : Vt} {fs : WD _} (hu2 : P.underlying ty = some (.struct fs)) (hst : (P.stoodInHeld ty || fs.any (·.name == "_")) = false) (hm : fs.toList.map (fun f => (f.type, f.offset)) = [(w, 0), (w, 8)])
  (hkw:known P w=true) (haw:dZ P w=true) (hsw:aA P w=8)
  (hu:P.underlying w=some (.array 8 el)) (hk:known P el=true) (hs:aA P el=1) (ha:dZ P el=false) (he:P.underlying el=some (.int k)) (x0 y0 x1 y1 x2 y2 x3 y3 x4 y4 x5 y5 x6 y6 x7 y7 x8 y8 x9 y9 x10 y10 x11 y11 x12 y12 x13 y13 x14 y14 x15 y15:Nat) :
  kX P Op.maxDepth ty (.agg #[.int k ((x0:Nat):Int),.int k ((x1:Nat):Int),.int k ((x2:Nat):Int),.int k ((x3:Nat):Int),.int k ((x4:Nat):Int),.int k ((x5:Nat):Int),.int k ((x6:Nat):Int),.int k ((x7:Nat):Int),.int k ((x8:Nat):Int),.int k ((x9:Nat):Int),.int k ((x10:Nat):Int),.int k ((x11:Nat):Int),.int k ((x12:Nat):Int),.int k ((x13:Nat):Int),.int k ((x14:Nat):Int),.int k ((x15:Nat):Int)]) (.agg #[.int k ((y0:Nat):Int),.int k ((y1:Nat):Int),.int k ((y2:Nat):Int),.int k ((y3:Nat):Int),.int k ((y4:Nat):Int),.int k ((y5:Nat):Int),.int k ((y6:Nat):Int),.int k ((y7:Nat):Int),.int k ((y8:Nat):Int),.int k ((y9:Nat):Int),.int k ((y10:Nat):Int),.int k ((y11:Nat):Int),.int k ((y12:Nat):Int),.int k ((y13:Nat):Int),.int k ((y14:Nat):Int),.int k ((y15:Nat):Int)])=some (decide (x0=y0)&&decide (x1=y1)&&decide (x2=y2)&&decide (x3=y3)&&decide (x4=y4)&&decide (x5=y5)&&decide (x6=y6)&&decide (x7=y7)&&decide (x8=y8)&&decide (x9=y9)&&decide (x10=y10)&&decide (x11=y11)&&decide (x12=y12)&&decide (x13=y13)&&decide (x14=y14)&&decide (x15=y15)):=by
 have hp0:∀a0 a1 a2 a3 a4 a5 a6 a7 b0 b1 b2 b3 b4 b5 b6 b7:Vs,eD P w #[a0,a1,a2,a3,a4,a5,a6,a7,b0,b1,b2,b3,b4,b5,b6,b7] 0=some (.agg #[a0,a1,a2,a3,a4,a5,a6,a7]):=fun _ _ _ _ _ _ _ _ _ _ _ _ _ _ _ _=>by
  unfold eD;rw[hkw,haw,hsw]; rfl
 have hp8:∀a0 a1 a2 a3 a4 a5 a6 a7 b0 b1 b2 b3 b4 b5 b6 b7:Vs,eD P w #[a0,a1,a2,a3,a4,a5,a6,a7,b0,b1,b2,b3,b4,b5,b6,b7] 8=some (.agg #[b0,b1,b2,b3,b4,b5,b6,b7]):=fun _ _ _ _ _ _ _ _ _ _ _ _ _ _ _ _=>by
  unfold eD;rw[hkw,haw,hsw]; rfl
 show kX P (9999+1) ty _ _=_
 unfold kX;simp only[hu2,hst,Tf,if_false,hm];rw[gj (hp0 ..) (hp0 ..) (IM hu hk hs ha he 9997 x0 y0 x1 y1 x2 y2 x3 y3 x4 y4 x5 y5 x6 y6 x7 y7) (gj (hp8 ..) (hp8 ..) (IM hu hk hs ha he 9997 x8 y8 x9 y9 x10 y10 x11 y11 x12 y12 x13 y13 x14 y14 x15 y15) rfl)];simp only[Bool.and_true,Bool.and_assoc]
def Qj(P:Vv)(ty w:Vt):Bool:=match P.underlying ty with
 | some (.struct fs) => !(P.stoodInHeld ty || fs.any (·.name == "_")) && (fs.toList.map (fun f => (f.type, f.offset)) == [(w, 0), (w, 8)]) && known P w && dZ P w && (aA P w == 8)
 | _=>false
def NU{k:IntKind}{w:Vt}(h:Qj P ty w=true)
  (hu:P.underlying w=some (.array 8 el)) (hk:known P el=true) (hs:aA P el=1) (ha:dZ P el=false) (he:P.underlying el=some (.int k)) (x0 y0 x1 y1 x2 y2 x3 y3 x4 y4 x5 y5 x6 y6 x7 y7 x8 y8 x9 y9 x10 y10 x11 y11 x12 y12 x13 y13 x14 y14 x15 y15:Nat) :
  kX P Op.maxDepth ty (.agg #[.int k ((x0:Nat):Int),.int k ((x1:Nat):Int),.int k ((x2:Nat):Int),.int k ((x3:Nat):Int),.int k ((x4:Nat):Int),.int k ((x5:Nat):Int),.int k ((x6:Nat):Int),.int k ((x7:Nat):Int),.int k ((x8:Nat):Int),.int k ((x9:Nat):Int),.int k ((x10:Nat):Int),.int k ((x11:Nat):Int),.int k ((x12:Nat):Int),.int k ((x13:Nat):Int),.int k ((x14:Nat):Int),.int k ((x15:Nat):Int)]) (.agg #[.int k ((y0:Nat):Int),.int k ((y1:Nat):Int),.int k ((y2:Nat):Int),.int k ((y3:Nat):Int),.int k ((y4:Nat):Int),.int k ((y5:Nat):Int),.int k ((y6:Nat):Int),.int k ((y7:Nat):Int),.int k ((y8:Nat):Int),.int k ((y9:Nat):Int),.int k ((y10:Nat):Int),.int k ((y11:Nat):Int),.int k ((y12:Nat):Int),.int k ((y13:Nat):Int),.int k ((y14:Nat):Int),.int k ((y15:Nat):Int)])=some (decide (x0=y0)&&decide (x1=y1)&&decide (x2=y2)&&decide (x3=y3)&&decide (x4=y4)&&decide (x5=y5)&&decide (x6=y6)&&decide (x7=y7)&&decide (x8=y8)&&decide (x9=y9)&&decide (x10=y10)&&decide (x11=y11)&&decide (x12=y12)&&decide (x13=y13)&&decide (x14=y14)&&decide (x15=y15)):=by
 unfold Qj at h
 split at h
 rename_i fs hf;simp only[SW,T1,beq_iff_eq] at h;exact QJ hf h.1.1.1.1 h.1.1.1.2 h.1.1.2 h.1.2 h.2 hu hk hs ha he x0 y0 x1 y1 x2 y2 x3 y3 x4 y4 x5 y5 x6 y6 x7 y7 x8 y8 x9 y9 x10 y10 x11 y11 x12 y12 x13 y13 x14 y14 x15 y15
 cases h
end
attribute [local irreducible] Tm.at Trie.set Trie.get V7.get V7.set V7.alloc V7.ww V7.kill
structure Rep(α:Type) where
 w:Nat
 G:Type
 V:α->G->WB Vs
 A:V7->(Nat->Prop)->α->G->Prop
 N:α->G->(Nat->Prop)->WB Pc
 mono:∀{m:V7} {R R':Vr} {x:α} {g:G},A m R x g->(∀b,R b->R' b)->A m R' x g
 st:∀{m m':V7} {R:Vr} {x:α} {g:G},A m R x g->m.next<=m'.next->(∀b,R b->b<m.next->m'.get b=m.get b)->A m' R x g
 len:∀x g,(V x g).length=w
 one:∀x g,(V x g).all lH=true
 hN:∀{lo:Nat} {m:V7} {R:Vr} {x:α} {g:G},A m R x g->(∀b,R b->b<m.next)->∀p∈N x g R,p.ok lo m/\(∀b,¬p.ow b)/\∀b,p.any b->R b
section
variable{α β:Type}
def fK(r:Rep α)(m:V7)(R:Vr)(L:WB α)(es:Vp):Prop :=
 es.length=L.length/\∀(i:Nat) (x:α),L[i]? = some x->∃g,es[i]? = some (r.V x g)/\r.A m R x g
def fK.mono{r:Rep α}{m:V7}{R R':Vr}{L:WB α}{es:Vp}(h:fK r m R L es)(hR:∀b,R b->R' b):fK r m R' L es :=
 ⟨h.1,fun i x hi=>by obtain⟨g,h1,h2⟩:=h.2 i x hi; exact⟨g,h1,r.mono h2 hR⟩⟩
def fK.st{r:Rep α}{m m':V7}{R:Vr}{L:WB α}{es:Vp}(h:fK r m R L es)(hn:m.next<=m'.next)(hg:∀b,R b->b<m.next->m'.get b=m.get b):fK r m' R L es :=
 ⟨h.1,fun i x hi=>by obtain⟨g,h1,h2⟩:=h.2 i x hi; exact⟨g,h1,r.st h2 hn hg⟩⟩
def fK.nil{r:Rep α}{m:V7}{R:Vr}:fK r m R [] []:=⟨rfl,fun i x h=>by simp at h⟩
def fK.cons{r:Rep α}{m:V7}{R:Vr}{L:WB α}{es:Vp}{x:α}{g:r.G}(hx:r.A m R x g)(h:fK r m R L es):fK r m R (x::L) (r.V x g::es) :=
 ⟨by simp[h.1],fun i y hi=>by
  cases i with
  | zero=>cases hi; exact⟨g,rfl,hx⟩
  | succ i=>exact h.2 i y (by simpa using hi)⟩
def fK.append{r:Rep α}{m:V7}{R:Vr}{L L':WB α}{es es':Vp}(h:fK r m R L es)(h':fK r m R L' es'):fK r m R (L++L') (es++es') :=
 ⟨by simp[h.1,h'.1],fun i y hi=>by
  by_cases hlt:i<L.length
  rw[TH hlt] at hi;rw[TH (by rw[h.1]; exact hlt)]
  exact h.2 i y hi
  rw[Tu (by omega)] at hi
  rw[Tu (by rw[h.1]; omega),h.1]
  exact h'.2 _ y hi⟩
def fK.sub{r:Rep α}{m:V7}{R:Vr}{L:WB α}{es:Vp}(h:fK r m R L es)(lo k:Nat):fK r m R ((L.drop lo).take k) ((es.drop lo).take k) :=
 ⟨by simp[h.1],fun i y hi=>by
  rw[UN] at hi ⊢
  split at hi
  rename_i hlt;rw[S7 hlt,Um];rw[Um] at hi;exact h.2 _ y hi
  cases hi⟩
def fK.set{r:Rep α}{m:V7}{R:Vr}{L:WB α}{es:Vp}{x:α}{g:r.G}(h:fK r m R L es)(j:Nat)(hx:r.A m R x g):fK r m R (L.set j x) (es.set j (r.V x g)) :=
 ⟨by simp[h.1],fun i y hi=>by
  rw[List.getElem?_set] at hi ⊢
  split at hi
  rename_i e;subst e
  split at hi
  rename_i hlt;cases hi;rw[S7 rfl,S7 (by rw[h.1]; exact hlt)]
  exact⟨g,rfl,hx⟩
  cases hi
  rename_i e;rw[S8 e];exact h.2 i y hi⟩
def fK.fG{r:Rep α}{m:V7}{R:Vr}{L:WB α}{es:Vp}(h:fK r m R L es):W.fG es:=fun e he=>by
 obtain⟨i,hi,rfl⟩:=List.mem_iff_getElem.1 he;obtain⟨g,h1,_⟩:=h.2 i (L[i]'(by rw[<-h.1]; exact hi)) (by simp)
 rw[SU hi] at h1;rw[S3 h1]; exact r.one _ _
def fK.width{r:Rep α}{m:V7}{R:Vr}{L:WB α}{es:Vp}(h:fK r m R L es):∀e∈es,e.length=r.w:=fun e he=>by
 obtain⟨i,hi,rfl⟩:=List.mem_iff_getElem.1 he;obtain⟨g,h1,_⟩:=h.2 i (L[i]'(by rw[<-h.1]; exact hi)) (by simp)
 rw[SU hi] at h1;rw[S3 h1]; exact r.len _ _
def ef(r:Rep α)(R:Vr)(L:WB α)(es:Vp):GPc where
 ow _:=False
 rd b:=R b
 P m:=fK r m R L es/\∀b,R b->b<m.next
 st _ _ h hn hg:=⟨h.1.st hn fun b hb hlt=>hg b (.inr hb) hlt,fun b hb=>SY (h.2 b hb) hn⟩
 lt _ b h hb:=hb.elim (fun h=>h.elim) (h.2 b)
def fE{r:Rep α}{R:Vr}{L:WB α}{es:Vp}{b:Nat}:¬Pc.ow (.gen (ef r R L es)) b:=fun h=>h.elim (fun h=>by cases h.1) fun h=>h
def rh{r:Rep α}{R:Vr}{L:WB α}{es:Vp}{b:Nat}(h:Pc.any (.gen (ef r R L es)) b):R b:=h.elim (fun h=>by cases h) fun h=>h.elim (fun h=>h.elim) id
def zS{a:Vq}{cap w n:Nat}{es:Vp}{b:Nat}:¬Pc.ow (.rd a cap w n es) b:=fun h=>h.elim (fun h=>by cases h.1) fun h=>h.elim
def Ia{a:Vq}{cap w n:Nat}{es:Vp}{b:Nat}(h:Pc.any (.rd a cap w n es) b):dx a=some b:=h.elim id fun h=>h.elim
def rF(f:α->WB Vs)(w:Nat)(h:Enc f w):Rep α where
 w:=w
 G:=WC
 V x _:=f x
 A _ _ _ _:=True
 N _ _ _:=[]
 mono _ _:=trivial
 st _ _ _:=trivial
 len x _:=h.len x
 one x _:=h.one x
 hN _ _ p hp:=by cases hp
def rS(f:α->WB Vs)(w:Nat):Rep (WB α) where
 w:=1
 G:=Vq×Nat
 V l g:=[.slice g.1 l.length g.2]
 A m R l g:=Rd m g.1 g.2 w l.length (l.map f)/\∀b,dx g.1=some b->R b
 N l g _:=[.rd g.1 g.2 w l.length (l.map f)]
 mono h hR:=⟨h.1,fun b hb=>hR b (h.2 b hb)⟩
 st h hn hg:=⟨h.1.lF hn fun b hb hlt=>hg b (h.2 b hb) hlt,h.2⟩
 len _ _:=rfl
 one _ _:=rfl
 hN h _ p hp:=by
  rw[TG.1 hp];exact⟨h.1,fun b=>zS,fun b hb=>h.2 b (Ia hb)⟩
def rP(r:Rep α)(s:Rep β):Rep (α×β) where
 w:=r.w+s.w
 G:=r.G×s.G
 V x g:=r.V x.1 g.1++s.V x.2 g.2
 A m R x g:=r.A m R x.1 g.1/\s.A m R x.2 g.2
 N x g R:=r.N x.1 g.1 R++s.N x.2 g.2 R
 mono h hR:=⟨r.mono h.1 hR,s.mono h.2 hR⟩
 st h hn hg:=⟨r.st h.1 hn hg,s.st h.2 hn hg⟩
 len x g:=by rw[S5,r.len,s.len]
 one x g:=by rw[List.all_append,r.one,s.one]; rfl
 hN h hlt p hp:=by
  rcases T7.1 hp with hp|hp
  exact r.hN h.1 hlt p hp
  exact s.hN h.2 hlt p hp
end
section
variable{α β:Type}{E:Env}{n:Nat}{m0 m:V7}{fs:Fs}{ps:WB Pc}{r:Rep α}{r2:Rep β}{x:Vu}{ty:Vt}
def uS:∀(l:WB Pc) (k:Nat),pk (l++ps) (l.length+k)=pk ps k
 | [],k=>by rw[Us,List.length_nil,TM]
 | p::l,k=>by rw[Vc,Tz,show l.length+1+k=(l.length+k)+1 by omega,fe,uS l k]
def Hp.HY{q:Nat}{p:Pc}(h:Hp m0 m ps)(hq:pk ps q=some p)(hpo:∀b,¬p.ow b):∀new:WB Pc,(∀r∈new,r.ok m0.next m/\(∀b,¬r.ow b)/\∀b,r.any b->p.any b)->Hp m0 m (new++ps)
 | [],_=>h
 | r::l,hl=>(h.HY hq hpo l fun r' h'=>hl r' (TB _ h')).DS (k:=l.length+q) (by rw[uS]; exact hq) hpo (hl r (T5 ..)).1 (hl r (T5 ..)).2.1 (hl r (T5 ..)).2.2
def QL{ag:Bool}{sz b o w j c q off:Nat}{R:Vr}{L:WB α}{es:Vp}{z:α}{V:r.G->Vs}{N:r.G->WB Pc}(ht:TyI E.P ty ag sz)(hx:ev E fs x=some (ptr b off))(ho:off=o+j*w+c)(hli:∀m,Hp m0 m ps->ot m b o w es)(hq:pk ps q=some (.gen (ef r R L es)))(hl:L[j]? = some z)(hv:∀g,yw ag sz (r.V z g) c=some (V g))(hs:xO ag sz c w=true)(hN:∀g,N g=r.N z g R++ps):Ox E m0 fs ps (.load ty x) V N:=by
 subst ho;refine K2 hx (fun m hm=>(hli m hm).1) fun m hm=>?_;have hP:=(hm.get hq).1;obtain⟨g,h1,h2⟩:=hP.1.2 j z hl;have hs:=yf hs;refine⟨g,pX ht (hli m hm) h1 (hv g) hs.1 hs.2,?_⟩;rw[hN];exact hm.HY hq (fun b=>fE) _ fun p hp=>by
  obtain⟨a1,a2,a3⟩:=r.hN h2 hP.2 p hp;exact⟨a1,a2,fun b hb=>.inr (.inr (a3 b hb))⟩
def Bg{k b w l:Nat}{es:Vp}{tg:Tag}(hp:pk ps k=some (.arr b w l es tg)):∀m,Hp m0 m ps->ot m b 0 w es:=fun _ h=>BJ.MG (h.get hp)
def uK{k b o w l:Nat}{es:Vp}(hp:pk ps k=some (.ro b o w l es)):∀m,Hp m0 m ps->ot m b o w es:=fun _ h=>(h.get hp).2
def Hp.tD{j q:Nat}{R:Vr}{L:WB α}{es:Vp}{z:α}(hm:Hp m0 m ps)(hq:pk ps q=some (.gen (ef r R L es)))(hl:L[j]? = some z):∃g,es[j]? = some (r.V z g)/\Hp m0 m (r.N z g R++ps):=by
 have hP:=(hm.get hq).1;obtain⟨g,h1,h2⟩:=hP.1.2 j z hl;exact⟨g,h1,hm.HY hq (fun b=>fE) _ fun p hp=>by
  obtain⟨a1,a2,a3⟩:=r.hN h2 hP.2 p hp;exact⟨a1,a2,fun b hb=>.inr (.inr (a3 b hb))⟩⟩
def Ni(a c:Nat):a+c=0+a+c:=by rw[TM]
def Lf(m0:V7)(ps:WB Pc)(r:Rep α)(z:α)(g:r.G)(S:Vr):Prop:=∀m,Hp m0 m ps->r.A m S z g/\∀b,S b->∃q∈ps,(∀b,¬q.ow b)/\q.any b
def Lf.f{f:α->WB Vs}{w:Nat}(h:Enc f w)(z:α):Lf m0 ps (rF f w h) z () (fun _=>False):=fun _ _=>⟨trivial,fun _ h=>h.elim⟩
def Lf.s{f:α->WB Vs}{a:Vq}{k cap w:Nat}{l:WB α}(hp:pk ps k=some (.rd a cap w l.length (l.map f))):Lf m0 ps (rS f w) l (a,cap) (fun b=>dx a=some b):=fun _ hm =>
 ⟨⟨hm.get hp,fun _ h=>h⟩,fun _ hb=>⟨_,lB hp,fun _=>zS,.inl hb⟩⟩
def Lf.s0{f:α->WB Vs}{w:Nat}:Lf m0 ps (rS f w) [] (none,0) (fun _=>False):=fun _ _=>⟨⟨Rd.nil _ _,fun _ h=>(by cases h)⟩,fun _ h=>h.elim⟩
def Lf.p{z:α}{y:β}{g:r.G}{g':r2.G}{S S':Vr}(h:Lf m0 ps r z g S)(h':Lf m0 ps r2 y g' S'):Lf m0 ps (rP r r2) (z,y) (g,g') (fun b=>S b\/S' b):=fun m hm =>
 ⟨⟨r.mono (h m hm).1 fun _ h=>.inl h,r2.mono (h' m hm).1 fun _ h=>.inr h⟩,fun b hb=>hb.elim ((h m hm).2 b) ((h' m hm).2 b)⟩
def qv(m0:V7)(ps:WB Pc)(r:Rep α)(L:WB α)(es:Vp)(S:Vr):Prop:=∀m,Hp m0 m ps->fK r m S L es/\∀b,S b->∃q∈ps,(∀b,¬q.ow b)/\q.any b
def qv.nil:qv m0 ps r [] [] (fun _=>False):=fun _ _=>⟨.nil,fun _ h=>h.elim⟩
def qv.cons{z:α}{g:r.G}{S S':Vr}{L:WB α}{es:Vp}(h:Lf m0 ps r z g S)(h':qv m0 ps r L es S'):qv m0 ps r (z::L) (r.V z g::es) (fun b=>S b\/S' b):=fun m hm =>
 ⟨.cons (r.mono (h m hm).1 fun _ h=>.inl h) ((h' m hm).1.mono fun _ h=>.inr h),fun b hb=>hb.elim ((h m hm).2 b) ((h' m hm).2 b)⟩
def Hp.K3{S:Vr}{p:Pc}(h:Hp m0 m ps)(hp:p.ok m0.next m)(ho:∀b,¬p.ow b)(ha:∀b,p.any b->∃q∈ps,(∀b,¬q.ow b)/\q.any b):Hp m0 m (p::ps) :=
 ⟨h.ext,fun q hq=>by
  rcases Tt.1 hq with rfl|hq
  exact hp
  exact h.ok q hq,Tp.2 ⟨fun q hq=>⟨fun b h1 _=>ho b h1,fun b h1 h2=>by
  obtain⟨q',hq',h3,h4⟩:=ha b h2;obtain⟨i,hi⟩:=j8 hq;obtain⟨j,hj⟩:=j8 hq'
  by_cases e:i=j
  subst e;rw[hi] at hj;exact h3 b (by rw[<-S3 hj]; exact h1)
  exact(gA h.apart hi hj e).1 b h1 h4⟩,h.apart⟩⟩
def ai.dp{L:WB α}{es:Vp}{S:Vr}(h:qv m0 ps r L es S):ai m0 ps (.gen (ef r S L es)::ps):=fun m hm=>by
 obtain⟨h1,h2⟩:=h m hm;refine hm.K3 (S:=S) ⟨⟨h1,fun b hb=>?_⟩,fun _ b hb=>hb.elim⟩ (fun _=>fE) fun b hb=>h2 b (rh hb);obtain⟨q,hq,_,h4⟩:=h2 b hb;exact Pc.fT (hm.ok q hq) h4
def ai.zI:ai m0 ps (.gen (ef r (fun _=>False) [] [])::ps):=ai.dp .nil
def Hp.IJ{q:Nat}{R S:Vr}{L L':WB α}{es es':Vp}(h:Hp m0 m ps)(hq:pk ps q=some (.gen (ef r R L es)))(h1:fK r m (fun b=>R b\/S b) L' es')(h2:∀b,S b->∃q∈ps,(∀b,¬q.ow b)/\q.any b):Hp m0 m (da ps q (.gen (ef r (fun b=>R b\/S b) L' es'))):=by
 have hP:=h.get hq;refine⟨h.ext,fun p hp=>?_,iI hq (fun p hp ha=>⟨fun b h3 _=>(fE h3).elim,fun b h3 h4=>?_⟩) h.apart⟩
 rcases vQ hp with hp|rfl
 exact h.ok p hp
 refine⟨⟨h1,fun b hb=>hb.elim (hP.1.2 b) fun hb=>?_⟩,fun _ b hb=>hb.elim⟩;obtain⟨q',hq',_,h5⟩:=h2 b hb;exact Pc.fT (h.ok q' hq') h5
 rcases rh h4 with h4|h4
 exact ha.2 b h3 (.inr (.inr h4))
 obtain⟨q',hq',h5,h6⟩:=h2 b h4;obtain⟨i,hi⟩:=j8 hp;obtain⟨j,hj⟩:=j8 hq'
 by_cases e:i=j
 subst e;rw[hi] at hj;exact h5 b (by rw[<-S3 hj]; exact h3)
 exact(gA h.apart hi hj e).1 b h3 h6
def ai.u6{q j:Nat}{R S:Vr}{L:WB α}{es:Vp}{z:α}{g:r.G}(hq:pk ps q=some (.gen (ef r R L es)))(h:Lf m0 ps r z g S):ai m0 ps (da ps q (.gen (ef r (fun b=>R b\/S b) (L.set j z) (es.set j (r.V z g))))):=fun m hm =>
 hm.IJ hq (((hm.get hq).1.1.mono fun _ h=>.inl h).set j (r.mono (h m hm).1 fun _ h=>.inr h)) (h m hm).2
def ai.IY{q q2:Nat}{R S:Vr}{L L':WB α}{es es':Vp}(hq:pk ps q=some (.gen (ef r R L es)))(hq2:pk ps q2=some (.gen (ef r S L' es'))):ai m0 ps (da ps q (.gen (ef r (fun b=>R b\/S b) (L++L') (es++es')))):=fun m hm =>
 hm.IJ hq (((hm.get hq).1.1.mono fun _ h=>.inl h).append ((hm.get hq2).1.1.mono fun _ h=>.inr h)) fun _ hb=>⟨_,lB hq2,fun _=>fE,.inr (.inr hb)⟩
def ai.H8{q:Nat}{R:Vr}{L:WB α}{es:Vp}(hq:pk ps q=some (.gen (ef r R L es))):ai m0 ps (.gen (ef r R L es)::ps):=fun m hm =>
 hm.DS hq (fun _=>fE) (hm.get hq) (fun _=>fE) fun _ h=>h
def Pc.Ca{lo w l:Nat}{a:Vq}{es:Vp}(h:Pc.ok lo m (.sl a w l es)):l=es.length:=by
 rcases h with⟨h0,h1,_⟩|⟨b,tg,_,h1⟩
 rw[h0,h1]; rfl
 exact h1.2.2.2.1.symm
def vI{elem ty2:Vt}{w k k2 q q2 c0 l l2:Nat}{a a0:Vq}{R S:Vr}{L L':WB α}{es es':Vp}{ars:WD Vu}{p0:Pc}(ht:SlT E.P ty elem w)(h6:∃e2,E.P.underlying ty2=some (.slice e2))(ha:kP E fs ars.toList=some [.slice a l l,.slice a0 l2 c0])(hp:pk ps k=some (.sl a w l es))(hq:pk ps q=some (.gen (ef r R L es)))(h5:pk ps k2=some p0)(hr:IsRd p0 a0 c0 w l2 es')(h0:pk ps q2=some (.gen (ef r S L' es')))(hw:r.w=w)(hl:lim (L++L').length=true) :
  Ox E m0 fs ps (.call ⟨.builtin .append,ars,#[ty,ty2]⟩) (fun y:Vq ×(Nat->Prop)=>.slice y.1 (L++L').length (L++L').length) (fun y=>da (da ps q (.gen (ef r y.2 (L++L') (es++es')))) k (.sl y.1 w (L++L').length (es++es'))):=fun t m hf hm=>⟨fun b hb=>(by simp[aP] at hb),fun K hK=>by
 have e1:l=L.length:=by rw[Pc.Ca (hm.get hp),(hm.get hq).1.1.1]
 have e2:l2=L'.length:=by rw[<-(hm.rd h5 hr).1,(hm.get h0).1.1.1]
 have e0:l+l2=(L++L').length:=by rw[e1,e2,S5]
 have h1:=ai.IY (m0:=m0) hq h0 m hm;have hkq:k≠q:=fun e=>by rw[e,hq] at hp; cases hp
 have h7:pk (da ps q (.gen (ef r (fun b=>R b\/S b) (L++L') (es++es')))) k=some (.sl a w l es):=by
  have:∀(l:WB Pc) (q k:Nat) (x:Pc),k≠q->pk (da l q x) k=pk l k:=by
   intro l
   induction l with
   | nil=>intro q k x _; rfl
   | cons p l ih =>
    intro q k x hne;cases q with
    | zero =>
     cases k with
     | zero=>exact Tl rfl hne
     | succ k=>rfl
    | succ q =>
     cases k with
     | zero=>rfl
     | succ k=>rw[ie,fe,fe]; exact ih q k x fun e=>hne (by rw[e])
  rw[this ps q k _ hkq]; exact hp
 obtain⟨a',m',h3,h4⟩:=mw (n:=l) ht h6 h1 h7 (hm.rd h5 hr) (fun e he=>by rw[<-hw]; exact(hm.get h0).1.1.width e he) (hm.get h0).1.1.fG (by rw[e0]; exact hl)
 have:bp E.P .append #[ty,ty2] [.slice a l l,.slice a0 l2 c0] m=some (.slice a' (l+l2) (l+l2),m'):=h3;rw[Go.Ab.fp (hf.kP ha) this];rw[e0] at h4 ⊢;exact hK (a',_) m' h4⟩
def Qu{elem:Vt}{k q cap w l:Nat}{lo hi:Int}{a:Vq}{R:Vr}{L:WB α}{es:Vp}{lx hx:WA Vu}{lv hv:WA Vs}(ht:SlT E.P ty elem w)(hv':ev E fs x=some (.slice a l cap))(e1:FY E fs lx=some lv)(e2:FY E fs hx=some hv)(hp:pk ps k=some (.rd a cap w l es))(hq:pk ps q=some (.gen (ef r R L es)))(hb:okB lo hi l=true)(hl:lv=none/\lo=0\/∃k,lv=some (.int k lo))(hh:hv=none/\hi=(l:Int)\/∃k,hv=some (.int k hi)) :
  Ox E m0 fs ps (.slice ty x lx hx none) (fun z:Vq×Nat=>.slice z.1 ((L.drop lo.toNat).take (hi.toNat-lo.toNat)).length z.2) (fun z=>.rd z.1 z.2 w ((L.drop lo.toNat).take (hi.toNat-lo.toNat)).length ((es.drop lo.toNat).take (hi.toNat-lo.toNat))::.gen (ef r R ((L.drop lo.toNat).take (hi.toNat-lo.toNat)) ((es.drop lo.toNat).take (hi.toNat-lo.toNat)))::ps):=by
 intro t m hf hm;obtain⟨b1,b2,b3⟩:=yR hb;have h1:es.length=l:=(hm.get hp).1;have h2:es.length=L.length:=(hm.get hq).1.1.1;have elo:((lo.toNat:Nat):Int)=lo:=Ua b1;have ehi:((hi.toNat:Nat):Int)=hi:=Ua (by omega)
 have hlen:((L.drop lo.toNat).take (hi.toNat-lo.toNat)).length=hi.toNat-lo.toNat:=by rw[TW,UU,<-h2,h1]; omega
 obtain⟨g1,g2⟩:=PS (m0:=m0) (lo:=lo.toNat) (hi:=hi.toNat) ht hv' e1 e2 hp (by omega) (by omega) (by
  rcases hl with⟨h,h'⟩|⟨k,h⟩
  exact .inl ⟨h,by omega⟩
  exact .inr ⟨k,by rw[elo]; exact h⟩) (by
  rcases hh with⟨h,h'⟩|⟨k,h⟩
  exact .inl ⟨h,by omega⟩
  exact .inr ⟨k,by rw[ehi]; exact h⟩) t m hf hm
 refine⟨g1,fun K hK=>g2 K fun z m' hm'=>?_⟩;have h3:=hK z m';rw[hlen] at h3;refine h3 ?_;have hq':pk (.rd z.1 z.2 w (hi.toNat-lo.toNat) ((es.drop lo.toNat).take (hi.toNat-lo.toNat))::ps) (q+1)=some (.gen (ef r R L es)):=hq;have h5:=hm'.DS (q:=.gen (ef r R ((L.drop lo.toNat).take (hi.toNat-lo.toNat)) ((es.drop lo.toNat).take (hi.toNat-lo.toNat)))) hq' (fun _=>fE) ⟨⟨(hm'.get hq').1.1.sub _ _,(hm'.get hq').1.2⟩,fun _ b hb=>hb.elim⟩ (fun _=>fE) fun b hb=>hb;refine⟨h5.ext,fun p hp=>h5.ok p ?_,?_⟩
 rcases Tt.1 hp with rfl|hp
 exact TB _ (T5 ..)
 rcases Tt.1 hp with rfl|hp
 exact T5 ..
 exact TB _ (TB _ hp)
 obtain⟨x1,x2⟩:=Tp.1 h5.apart;obtain⟨x3,x4⟩:=Tp.1 x2;refine Tp.2 ⟨fun p hp=>?_,Tp.2 ⟨fun p hp=>x1 p (TB _ hp),x4⟩⟩;rcases Tt.1 hp with rfl|hp
 exact Pc.fR (x1 _ (T5 ..))
 exact x3 p hp
def Hp.dp{q:Nat}{R:Vr}{L:WB α}{es:Vp}(h:Hp m0 m ps)(hq:pk ps q=some (.gen (ef r R L es))):(ef r R L es).P m:=(h.get hq).1
def Hp.ub{R:Vr}{L:WB α}{es:Vp}(h:Hp m0 m ps)(ho:∀p∈ps,∀b,¬p.ow b)(hd:(ef r R L es).P m):Hp m0 m (.gen (ef r R L es)::ps) :=
 ⟨h.ext,fun p hp=>by
  rcases Tt.1 hp with rfl|hp
  exact⟨hd,fun _ b hb=>hb.elim⟩
  exact h.ok p hp,Tp.2 ⟨fun q hq=>⟨fun b h1 _=>(fE h1).elim,fun b h1 _=>(ho q hq b h1).elim⟩,h.apart⟩⟩
def Hp.cr{a:Vq}{cap w l:Nat}{es:Vp}(h:Hp m0 m ps)(ho:∀p∈ps,∀b,¬p.ow b)(hr:Rd m a cap w l es):Hp m0 m (.rd a cap w l es::ps) :=
 ⟨h.ext,fun p hp=>by
  rcases Tt.1 hp with rfl|hp
  exact hr
  exact h.ok p hp,Tp.2 ⟨fun q hq=>⟨fun b h1 _=>(zS h1).elim,fun b h1 _=>(ho q hq b h1).elim⟩,h.apart⟩⟩
def Hp.D7{l0:WB Pc}{H R:Vr}{L:WB α}{es:Vp}(h:Hp m0 m (l0++[.gen (po H)]))(ho:∀p∈l0,∀b,¬p.ow b)(hd:(ef r R L es).P m)(ha:∀b,R b->¬H b):Hp m0 m (.gen (ef r R L es)::(l0++[.gen (po H)])) :=
 ⟨h.ext,fun p hp=>by
  rcases Tt.1 hp with rfl|hp
  exact⟨hd,fun _ b hb=>hb.elim⟩
  exact h.ok p hp,Tp.2 ⟨fun q hq=>⟨fun b h1 _=>(fE h1).elim,fun b h1 h2=>by
  rcases T7.1 hq with hq|hq
  exact(ho q hq b h1).elim
  rw[TG.1 hq] at h1;rcases h1 with h1|h1
  cases h1.1
  exact ha b (rh h2) h1⟩,h.apart⟩⟩
def Hp.bq{l0:WB Pc}{H:Vr}{a:Vq}{cap w l:Nat}{es:Vp}(h:Hp m0 m (l0++[.gen (po H)]))(ho:∀p∈l0,∀b,¬p.ow b)(hr:Rd m a cap w l es)(ha:∀b,dx a=some b->¬H b):Hp m0 m (.rd a cap w l es::(l0++[.gen (po H)])) :=
 ⟨h.ext,fun p hp=>by
  rcases Tt.1 hp with rfl|hp
  exact hr
  exact h.ok p hp,Tp.2 ⟨fun q hq=>⟨fun b h1 _=>(zS h1).elim,fun b h1 h2=>by
  rcases T7.1 hq with hq|hq
  exact(ho q hq b h1).elim
  rw[TG.1 hq] at h1;rcases h1 with h1|h1
  cases h1.1
  exact ha b (Ia h2) h1⟩,h.apart⟩⟩
def bS:∀p ∈([]:WB Pc),∀b,¬p.ow b:=fun _ h=>by cases h
def dw{l:WB Pc}{a:Vq}{cap w k:Nat}{es:Vp}(h:∀p∈l,∀b,¬p.ow b):∀p ∈(Pc.rd a cap w k es::l),∀b,¬p.ow b:=fun p hp=>by
 rcases Tt.1 hp with rfl|hp
 exact fun _=>zS
 exact h p hp
def Pg{l:WB Pc}{R:Vr}{L:WB α}{es:Vp}(h:∀p∈l,∀b,¬p.ow b):∀p ∈(Pc.gen (ef r R L es)::l),∀b,¬p.ow b:=fun p hp=>by
 rcases Tt.1 hp with rfl|hp
 exact fun _=>fE
 exact h p hp
def Hp.wy{q:Nat}{R:Vr}{L:WB α}{es:Vp}(h:Hp m0 m ps)(hq:pk ps q=some (.gen (ef r R L es))):∀b,R b->¬kL ps b:=fun b hb ⟨p,hp,h1⟩=>by
 obtain⟨i,hi⟩:=j8 hp
 by_cases e:i=q
 rw[e,hq] at hi;rw[<-S3 hi] at h1;exact fE h1
 exact(gA h.apart hi hq e).1 b h1 (.inr (.inr hb))
end
section
variable{α:Type}{E:Env}{n:Nat}{m0:V7}{fs:Fs}{ps:WB Pc}{ops:WD Oper}{os:WB Oper}{dr:Bool}{K:Tm->V7->Prop}{r:Rep α}
def Wo.Dl{β:Type}{N:β->WB Pc}(h:∀m,Hp m0 m ps->∃y,Hp m0 m (N y))(k:∀y,Wo dr E n ops K os m0 fs (N y)):Wo dr E n ops K os m0 fs ps:=by
 cases dr with
 | false=>intro t m hf hm; obtain⟨y,hy⟩:=h m hm; exact k y t m hf hy
 | true=>intro t m w hf hm hw; obtain⟨y,hy⟩:=h m hm; exact k y t m w hf hy hw
def Wo.tD{j q:Nat}{R:Vr}{L:WB α}{es:Vp}{z:α}{N:r.G->WB Pc}(hq:pk ps q=some (.gen (ef r R L es)))(hl:L[j]? = some z)(hN:∀g,N g=r.N z g R++ps)(k:∀g,es[j]? = some (r.V z g)->Wo dr E n ops K os m0 fs (N g)):Wo dr E n ops K os m0 fs ps:=by
 cases dr with
 | false=>intro t m hf hm; obtain⟨g,h1,h2⟩:=hm.tD hq hl; exact k g h1 t m hf (by rw[hN]; exact h2)
 | true=>intro t m w hf hm hw; obtain⟨g,h1,h2⟩:=hm.tD hq hl; exact k g h1 t m w hf (by rw[hN]; exact h2) hw
end
section
variable{α:Type}{E:Env}{n:Nat}{m0:V7}{fs:Fs}{ps:WB Pc}{ops:WD Oper}{os:WB Oper}{dr:Bool}{K:Tm->V7->Prop}{r:Rep α}{prs:WB (Nat×Nat)}{ss:WB Nk}
def Wo.dp{L:WB α}{es:Vp}{S:Vr}(h:qv m0 ps r L es S)(k:∀R,Wo dr E n ops K os m0 fs (.gen (ef r R L es)::ps)):Wo dr E n ops K os m0 fs ps:=VU (ai.dp h) (k _)
def Wo.u6{q j:Nat}{R S:Vr}{L:WB α}{es:Vp}{z:α}{g:r.G}(hq:pk ps q=some (.gen (ef r R L es)))(h:Lf m0 ps r z g S)(k:∀R',Wo dr E n ops K os m0 fs (da ps q (.gen (ef r R' (L.set j z) (es.set j (r.V z g)))))):Wo dr E n ops K os m0 fs ps:=VU (ai.u6 hq h) (k _)
def Wn.u6{q j:Nat}{R S:Vr}{L:WB α}{es:Vp}{z:α}{g:r.G}(hq:pk ps q=some (.gen (ef r R L es)))(h:Lf m0 ps r z g S)(k:∀R',Wn E n ops prs K os ss m0 fs (da ps q (.gen (ef r R' (L.set j z) (es.set j (r.V z g)))))):Wn E n ops prs K os ss m0 fs ps:=Wn.bR (ai.u6 hq h) (k _)
def Ju{m:V7}{q:Nat}{R:Vr}{L:WB α}{es:Vp}(hm:Hp m0 m ps)(hq:pk ps q=some (.gen (ef r R L es))):es.length=L.length:=(hm.get hq).1.1.1
def Hx{lo k w l:Nat}{m:V7}{p:Pc}{a:Vq}{es:Vp}(hm:Hp m0 m ps)(hp:pk ps k=some p)(h:p=.sl a w l es\/(∃c,p=.rd a c w l es)\/∃b tg,p=.arr b w l es tg):l=es.length:=by
 have h0:=hm.get hp;rcases h with rfl|⟨c,rfl⟩|⟨b,tg,rfl⟩
 exact Pc.Ca h0
 exact h0.1.symm
 exact h0.2.2.2.1.symm
def Wo.Ev{k q w l:Nat}{a:Vq}{p:Pc}{R:Vr}{L:WB α}{es:Vp}(hp:pk ps k=some p)(hp':p=.sl a w l es\/(∃c,p=.rd a c w l es)\/∃b tg,p=.arr b w l es tg)(hq:pk ps q=some (.gen (ef r R L es)))(h:l=L.length->Wo dr E n ops K os m0 fs ps):Wo dr E n ops K os m0 fs ps:=by
 have key:∀m,Hp m0 m ps->l=L.length:=fun m hm=>(Hx (lo:=0) hm hp hp').trans (Ju hm hq);cases dr with
 | false=>exact fun t m hf hm=>h (key m hm) t m hf hm
 | true=>exact fun t m w hf hm hw=>h (key m hm) t m w hf hm hw
def Wn.Ev{k q w l:Nat}{a:Vq}{p:Pc}{R:Vr}{L:WB α}{es:Vp}(hp:pk ps k=some p)(hp':p=.sl a w l es\/(∃c,p=.rd a c w l es)\/∃b tg,p=.arr b w l es tg)(hq:pk ps q=some (.gen (ef r R L es)))(h:l=L.length->Wn E n ops prs K os ss m0 fs ps):Wn E n ops prs K os ss m0 fs ps :=
 fun t m ns hf hm hn=>h ((Hx (lo:=0) hm hp hp').trans (Ju hm hq)) t m ns hf hm hn
def Wn.tD{j q:Nat}{R:Vr}{L:WB α}{es:Vp}{z:α}{N:r.G->WB Pc}(hq:pk ps q=some (.gen (ef r R L es)))(hl:L[j]? = some z)(hN:∀g,N g=r.N z g R++ps)(k:∀g,es[j]? = some (r.V z g)->Wn E n ops prs K os ss m0 fs (N g)):Wn E n ops prs K os ss m0 fs ps:=fun t m ns hf hm hn=>by
 obtain⟨g,h1,h2⟩:=hm.tD hq hl; exact k g h1 t m ns hf (by rw[hN]; exact h2) hn
end
end Go.Ab.W
section
open Go Go.Ab Go.Ab.W
abbrev VO:=@Hp.cr
abbrev VM:=@Hp.bq
end
end
