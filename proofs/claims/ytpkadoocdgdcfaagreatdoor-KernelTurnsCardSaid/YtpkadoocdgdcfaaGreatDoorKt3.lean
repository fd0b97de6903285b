/- A part of the proof. -/
import Derived.Test.YtpkadoocdgdcfaaGreatDoorKt2
import Derived.ChangeStays
import Derived.ChangeShapes
import Derived.OpenShut
import Derived.RowKit
import Derived.Shelf.Spec.BitsCarry
import Derived.Test.YtpkadoocdgdcfaaGreatDoorRows
import Derived.Test.YtpkadoocdgdcfaaGreatDoorTie
import Derived.Test.YtpkadoocdgdcfaaGreatDoorCards
import Derived.ProofKit
import Derived.LaidMore
import Derived.Stop.Joined
import Derived.SevenTiedAt
set_option linter.all false
section
namespace Go.Ab
open Go
structure Sem where
 run:Hand->XA Nat->Tm->Xq->(Xr->Tm->Xq->Bool)->Bool
noncomputable def fq (e:Xr) (a:Bool) (b:Nat->Bool) (c:Bool):Bool:=Xr.rec (motive:=fun _=>Bool) a b c e
noncomputable def J6 (S:Sem):Nat->Hand->XA Nat->Tm->Xq->(Xr->Tm->Xq->Bool)->Bool :=
 Nat.rec (fun _ _ _ _ _=>false) fun _ ih H ro t m K=>S.run H ro t m fun e t m=>fq e (ih H ro t m K) (fun id=>K (.exit id) t m) (K .ret t m)
noncomputable def su (s:LoopState) (ready busy other:Bool):Bool:=LoopState.rec (motive:=fun _=>Bool) ready busy other other s
noncomputable def uy (ro:XA Nat) (m:Xq) (x:Bool):Bool:=Option.rec (motive:=fun _=>Bool) x (fun l=>sX m l fun _=>x) ro
noncomputable def Lq {α:Type} (o:XA α):Bool:=Option.rec (motive:=fun _=>Bool) true (fun _=>false) o
noncomputable def N1 (E:Env) (H:Hand) (f:Fn) (first captured:XD WJ) (l:Nat) (m:Xq) (K:WJ->Xq->Bool):Bool :=
 Fn.rec (motive:=fun _=>Bool) (fun g=>dL (Lq (E.cT g)) (mE first.toList [.func (.yield l) #[] #[]] fun ars=>mE ars captured.toList fun ars=>H.call g ars m K) false) (fun _=>false) (fun _ _=>false) (fun _ _ _ _=>false) (fun _=>false) f
noncomputable def iU (E:Env) (n:Nat) (fn:XI):Code->Sem
 | .skip=>⟨fun _ _ t m K=>K .normal t m⟩
 | .label _=>⟨fun _ _ t m K=>K .normal t m⟩
 | .exit id=>⟨fun _ _ t m K=>K (.exit id) t m⟩
 | .ret=>⟨fun _ _ t m K=>K .ret t m⟩
 | .seq a b=>⟨fun H ro t m K=>(iU E n fn a).run H ro t m fun e t m=>fq e ((iU E n fn b).run H ro t m K) (fun id=>K (.exit id) t m) (K .ret t m)⟩
 | .cond x a b=>⟨fun H ro t m K=>(dg E x).run t fun v=>rp v (fun c=>dL c ((iU E n fn a).run H ro t m K) ((iU E n fn b).run H ro t m K)) false⟩
 | .block id a=>⟨fun H ro t m K=>(iU E n fn a).run H ro t m fun e t m=>fq e (K .normal t m) (fun id'=>dL (Nat.beq id' id) (K .normal t m) (K (.exit id') t m)) (K .ret t m)⟩
 | .scope a=>⟨fun H ro t m K=>(iU E n fn a).run H ro t m K⟩
 | .loop a=>⟨fun H ro t m K=>J6 (iU E n fn a) 1000000 H ro t m K⟩
 | .region _ ops draw=>⟨fun H _ t m K=>(Kx E n ops draw).run H t m fun t m=>K .normal t m⟩
 | .rangeFunc f params assign body=>⟨fun H ro t m K=>uy ro m ((dg E f).run t fun fv=>IN fv fun g first captured =>
   dt m (.loop { state:=.ready,pending:=none,fn:=fn,tmps:=t,n:=n,params:=params,assign:=assign,body:=body}) fun l m1=>N1 E H g first captured l m1 fun _ m2 =>
    sX m2 l fun r=>ALoop.rec (motive:=fun _=>Bool) (fun state pending fn' tmps' n' params' assign' body'=>su state
     (de m2 l (.loop ⟨.exhausted,pending,fn',tmps',n',params',assign',body'⟩) fun m3=>Option.rec (motive:=fun _=>Bool) (K .normal t m3) (fun c=>Code.rec (motive:=fun _=>Bool) false (fun _ _ _=>false) (fun _ _ _ _=>false) (fun _ _ _ _ _=>false) (fun _ _ _=>false) (fun _ _=>false) (fun _ _ _ _ _ _=>false) (fun id=>K (.exit id) t m3) (fun _ _=>false) (fun _=>false) (fun _=>false) (K .ret t m3) (fun _=>false) c) pending)
     false
     (de m2 l (.loop ⟨.exhausted,pending,fn',tmps',n',params',assign',body'⟩) fun m3=>Option.rec (motive:=fun _=>Bool) (K .normal t m3) (fun c=>Code.rec (motive:=fun _=>Bool) false (fun _ _ _=>false) (fun _ _ _ _=>false) (fun _ _ _ _ _=>false) (fun _ _ _=>false) (fun _ _=>false) (fun _ _ _ _ _ _=>false) (fun id=>K (.exit id) t m3) (fun _ _=>false) (fun _=>false) (fun _=>false) (K .ret t m3) (fun _=>false) c) pending)) r)⟩
 | .goto _=>⟨fun _ _ _ _ _=>false⟩
 | .refuse _=>⟨fun _ _ _ _ _=>false⟩
section
variable{E:Env}{n:Nat}{fn:XI}{ro:XA Nat}{Q:Xr->Tm->Xq->Prop}{t:Tm}{m:Xq}
def NK(E:Env)(n:Nat)(fn:XI)(ro:XA Nat)(t:Tm)(l:Nat)(Q:Xr->Tm->Xq->Prop)(m2:Xq):Prop :=
 ∃r,m2.get l=some (.loop r)/\r.state≠.busy/\((r.pending=none/\Q .normal t (m2.set l (.loop { r with state:=.exhausted})))\/(∃c,r.pending=some c/\bD E n fn ro c Q t (m2.set l (.loop { r with state:=.exhausted}))))
def bD.rangeFunc{f:WM}{params:XD Tmp}{assign body:Code}{g:XI}{first captured:XD WJ}(hf:aq E t f=some (.func (.func g) first captured))(ha:jS E ⟨t,n,fn,ro⟩ m f=true)
  (h:ax E g (first.toList++[.func (.yield m.next) #[] #[]]++captured.toList) (m.alloc (.loop { state:=.ready,pending:=none,fn:=fn,tmps:=t,n:=n,params:=params,assign:=assign,body:=body})) (fun _ m2=>NK E n fn ro t m.next Q m2)) :
  bD E n fn ro (.rangeFunc f params assign body) Q t m:=by
 obtain⟨v,m2,⟨k1,h1⟩,r,hr,hb,hq⟩:=h;rcases hq with⟨hp,hq⟩|⟨c,hp,e,t',m',⟨k2,h2⟩,hq⟩
 ·refine⟨_,_,_,bh (k:=k1) ?_,hq⟩;cases hs:r.state with
  | busy=>exact Uy hs hb
  | _=>simp only[step,hf,ha,h1,hr,hs,hp]
 ·refine⟨_,_,_,bh (k:=max k1 k2) ?_,hq⟩;obtain⟨state,pending,fn',tmps',n',params',assign',body'⟩:=r;have hp':pending=some c:=hp;subst hp';have h2':=kT (Nat.le_max_right k1 k2) h2;cases state with
  | busy=>exact Uy rfl hb
  | _=>simp only[step,hf,ha,kT (Nat.le_max_left k1 k2) h1,hr,h2']
def Th(ro:XA Nat)(m:Xq):Bool :=
 match ro with
 | none=>true
 | some l=>match m.get l with
  | some (.loop _)=>true
  | _=>false
def rz{x:Bool}(h:uy ro m x=true):x=true/\Th ro m=true:=by
 cases ro with
 | none=>exact⟨h,rfl⟩
 | some l =>
  obtain⟨r,h1,h2⟩:=jd h;exact⟨h2,by simp only[Th,h1]⟩
def cS{e:Xr}{a:Bool}{b:Nat->Bool}{c:Bool}(h:fq e a b c=true):(e=.normal/\a=true)\/(∃id,e=.exit id/\b id=true)\/(e=.ret/\c=true):=by
 cases e with
 | normal=>exact .inl ⟨rfl,h⟩
 | exit id=>exact .inr (.inl ⟨id,rfl,h⟩)
 | ret=>exact .inr (.inr ⟨rfl,h⟩)
def AM{H:Hand}{a:Code}{S:Sem}(hS:∀{t:Tm} {m:Xq} {K:Xr->Tm->Xq->Bool},S.run H ro t m K=true->bD E n fn ro a (fun e t m=>K e t m=true) t m){K:Xr->Tm->Xq->Bool} :
  ∀(k:Nat) {t:Tm} {m:Xq},J6 S k H ro t m K=true->wj E n fn ro a (fun e t m=>K e t m=true) t m
 | 0,t,m,h=>by cases h
 | k+1,t,m,h=>by
  have h':(S.run H ro t m fun e t m=>fq e (J6 S k H ro t m K) (fun id=>K (.exit id) t m) (K .ret t m))=true:=h;refine .round ((hS h').mono fun e t m h=>?_);rcases cS h with⟨rfl,h⟩|⟨id,rfl,h⟩|⟨rfl,h⟩
  exact AM hS k h
  exact h
  exact h
def Cx{c:Code}{a:Nat->Bool}{b:Bool}(h:Code.rec (motive:=fun _=>Bool) false (fun _ _ _=>false) (fun _ _ _ _=>false) (fun _ _ _ _ _=>false) (fun _ _ _=>false) (fun _ _=>false) (fun _ _ _ _ _ _=>false) a (fun _ _=>false) (fun _=>false) (fun _=>false) b (fun _=>false) c=true) :
  (∃id,c=.exit id/\a id=true)\/(c=.ret/\b=true):=by
 cases c<;>first|exact .inl ⟨_,rfl,h⟩|exact .inr ⟨rfl,h⟩|cases h
def mh{H:Hand}(hH:CK E H):∀(c:Code) {ro:XA Nat} {t:Tm} {m:Xq} {K:Xr->Tm->Xq->Bool},(iU E n fn c).run H ro t m K=true->bD E n fn ro c (fun e t m=>K e t m=true) t m:=by
 intro c
 induction c with
 | skip=>intro ro t m K h; exact .skip h
 | label l=>intro ro t m K h; exact .label h
 | exit id=>intro ro t m K h; exact .exit h
 | ret=>intro ro t m K h; exact .ret h
 | seq a b iha ihb =>
  intro ro t m K h;refine .seq ((iha (K:=fun e t m=>fq e ((iU E n fn b).run H ro t m K) (fun id=>K (.exit id) t m) (K .ret t m)) h).mono fun e t m h=>?_);rcases cS h with⟨rfl,h⟩|⟨id,rfl,h⟩|⟨rfl,h⟩
  exact ihb h
  exact h
  exact h
 | cond x a b iha ihb =>
  intro ro t m K h;obtain⟨v,h1,h⟩:=aW (x:=x) h;obtain⟨c,rfl,h⟩:=iK h;refine .cond h1 (fun hc=>?_) (fun hc=>?_)
  subst hc; exact iha h
  subst hc; exact ihb h
 | block id a ih =>
  intro ro t m K h;refine .block ((ih (K:=fun e t m=>fq e (K .normal t m) (fun id'=>dL (Nat.beq id' id) (K .normal t m) (K (.exit id') t m)) (K .ret t m)) h).mono fun e t m h=>?_);rcases cS h with⟨rfl,h⟩|⟨id',rfl,h⟩|⟨rfl,h⟩
  exact h
  simp only[ee];rcases cJ h with⟨h1,h⟩|⟨h1,h⟩
  rw[Ui (Ue h1)]; exact h
  rw[Uk (VM h1)]; exact h
  exact h
 | scope a ih=>intro ro t m K h; exact .scope (ih h)
 | loop a ih=>intro ro t m K h; exact .loop (AM (fun h=>ih h) 1000000 h)
 | region id ops draw=>intro ro t m K h; exact Ek hH (fun t m h=>h) h
 | rangeFunc f params assign body iha ihb =>
  intro ro t m K h;obtain⟨h,hro⟩:=rz h;obtain⟨fv,h1,h⟩:=aW (x:=f) h;have g:=uA h; clear h; obtain⟨g,first,captured,rfl,h⟩:=g
  rw[cp] at h;cases g with
  | func g =>
   have g':=aY h; clear h; obtain⟨hp,h⟩:=g';rw[fK,fK] at h;have hp':(E.cT g).isNone=true:=by cases hg:E.cT g with
    | none=>rfl
    | some p=>rw[hg] at hp; cases hp
   have hro':jS E ⟨t,n,fn,ro⟩ m f=true:=by
    unfold jS;simp only[h1,hp',Bool.true_and];exact hro
   refine .rangeFunc h1 hro' ((hH.1 h).mono fun v m2 h=>?_);obtain⟨r,hr,h⟩:=jd h;refine⟨r,hr,?_⟩;obtain⟨state,pending,fn',tmps',n',params',assign',body'⟩:=r;have key:∀{x:Bool},(x=de m2 m.next (.loop ⟨.exhausted,pending,fn',tmps',n',params',assign',body'⟩) fun m3=>Option.rec (motive:=fun _=>Bool) (K .normal t m3) (fun c=>Code.rec (motive:=fun _=>Bool) false (fun _ _ _=>false) (fun _ _ _ _=>false) (fun _ _ _ _ _=>false) (fun _ _ _=>false) (fun _ _=>false) (fun _ _ _ _ _ _=>false) (fun id=>K (.exit id) t m3) (fun _ _=>false) (fun _=>false) (fun _=>false) (K .ret t m3) (fun _=>false) c) pending)->x=true ->
     ((pending=none/\K .normal t (m2.set m.next (.loop ⟨.exhausted,pending,fn',tmps',n',params',assign',body'⟩))=true)\/(∃c,pending=some c/\bD E n fn ro c (fun e t m=>K e t m=true) t (m2.set m.next (.loop ⟨.exhausted,pending,fn',tmps',n',params',assign',body'⟩)))):=by
    intro x hx hx';rw[hx,cX] at hx';cases pending with
    | none=>exact .inl ⟨rfl,hx'⟩
    | some c =>
     rcases Cx hx' with⟨id,rfl,h⟩|⟨rfl,h⟩
     exact .inr ⟨_,rfl,.exit h⟩
     exact .inr ⟨_,rfl,.ret h⟩
   cases state with
   | busy=>cases h
   | ready=>exact⟨(by intro e; cases e),key rfl h⟩
   | done=>exact⟨(by intro e; cases e),key rfl h⟩
   | exhausted=>exact⟨(by intro e; cases e),key rfl h⟩
  | _=>cases h
 | goto l=>intro ro t m K h; cases h
 | refuse w=>intro ro t m K h; cases h
end
structure ResSem where
 run:Tm->Xq->(XB WJ->Bool)->Bool
noncomputable def Du (E:Env):XB ResultVar->ResSem
 | []=>⟨fun _ _ k=>k []⟩
 | .tmp i::rs=>⟨fun t m k=>(Aa i).run t fun v=>(Du E rs).run t m fun vs=>k (v::vs)⟩
 | .cell a ty::rs=>⟨fun t m k=>(Aa a).run t fun p=>(AH E.P ty).run p m fun v=>(Du E rs).run t m fun vs=>k (v::vs)⟩
def mQ{E:Env}{t:Tm}{m:Xq}:∀{rs:XB ResultVar} {k:XB WJ->Bool},(Du E rs).run t m k=true->∃vs,bZ E t m rs=some vs/\k vs=true
 | [],k,h=>⟨[],rfl,h⟩
 | .tmp i::rs,k,h=>by
  have h':=uO (d:=i) h;obtain⟨vs,h1,h2⟩:=mQ h';exact⟨_,by simp only[bZ,h1,Uh],h2⟩
 | .cell a ty::rs,k,h=>by
  have h':=uO (d:=a) h;obtain⟨v,h1,h'⟩:=tN h';obtain⟨vs,h2,h3⟩:=mQ h';exact⟨_,by simp only[bZ,h1,h2],h3⟩
noncomputable def Jb (vs:XB WJ) (k:WJ->Bool):Bool :=
 List.rec (motive:=fun _=>Bool) (k (.tuple #[])) (fun v rest _=>List.rec (motive:=fun _=>Bool) (k v) (fun w rest' _=>k (.tuple ⟨v::w::rest'⟩)) rest) vs
def sx(vs:XB WJ)(k:WJ->Bool):Jb vs k=k (fw vs):=by
 match vs with
 | []=>rfl
 | [v]=>rfl
 | v::w::rest=>rfl
noncomputable def zl (args:XB WJ):Nat->Tm->(Tm->Bool)->Bool :=
 List.rec (motive:=fun _=>Nat->Tm->(Tm->Bool)->Bool) (fun _ t k=>k t) (fun v _ ih i t k=>(ia i).run t v fun t=>fN (Nat.succ i) fun i=>ih i t k) args
def qm:∀(args:XB WJ) (i:Nat) (t:Tm) (k:Tm->Bool),i+args.length<=512->zl args i t k=k (Trie.ofList args i t)
 | [],i,t,k,_=>rfl
 | v::vs,i,t,k,h=>by
  have hi:i<512:=by simp at h; omega
  show(ia i).run t v (fun t=>fN (Nat.succ i) fun i=>zl vs i t k)=_
  rw[gh i hi,dj,qm vs (i+1) _ k (by simp at h; omega)]
  rfl
structure FunSem where
 run:Hand->XB WJ->Xq->(WJ->Xq->Bool)->Bool
structure PSem where
 run:XB WJ->Xq->(WJ->Xq->Bool)->Bool
def PA(E:Env)(F:XI->XA PSem):Prop:=∀{f:XI} {S:PSem},F f=some S->∃p,E.cT f=some p/\∀{args:XB WJ} {m:Xq} {K:WJ->Xq->Bool},S.run args m K=true->∃v m',p.run args m=some (v,m')/\K v m'=true
noncomputable def EO (E:Env) (f:XI):FunSem :=
 match E.P.funcs[f]? with
 | some fn=>match fn.body,Nat.ble fn.ntmps 512 with
  | some c,true=>⟨fun H args m K=>dL (Nat.ble args.length fn.ntmps) (zl args 0 .nil fun t=>(iU E fn.ntmps f c).run H none t m fun e t m=>fq e ((Du E fn.results.toList).run t m fun vs=>Jb vs fun v=>K v m) (fun _=>false) ((Du E fn.results.toList).run t m fun vs=>Jb vs fun v=>K v m)) false⟩
  | _,_=>⟨fun _ _ _ _=>false⟩
 | none=>⟨fun _ _ _ _=>false⟩
noncomputable def PI (E:Env) (F:XI->XA PSem) (f:XI):FunSem :=
 match F f with
 | some S=>⟨fun _ args m K=>S.run args m K⟩
 | none=>match E.cT f with
  | some p=>⟨fun H args m K=>Option.rec (motive:=fun _=>Bool) ((EO E f).run H args m K) (fun r=>Prod.rec (motive:=fun _=>Bool) (fun v m'=>fV v fun v=>fM m' fun m'=>K v m') r) (p.run args m)⟩
  | none=>EO E f
def ax.cT{E:Env}{f:XI}{p:Prim}{args:XB WJ}{m m':Xq}{v:WJ}{R:WJ->Xq->Prop}(hp:E.cT f=some p)(h:p.run args m=some (v,m'))(hR:R v m'):ax E f args m R:=by
 have hpa:nS E f args m=some (v,m'):=by
  unfold nS;rw[hp];exact h
 exact⟨v,m',bh (k:=0) (by simp only[step,hpa]),hR⟩
def Bq{E:Env}{H:Hand}(hH:CK E H){f:XI}{args:XB WJ}{m:Xq}(hpa:nS E f args m=none){K:WJ->Xq->Bool}(h:(EO E f).run H args m K=true):ax E f args m fun v m'=>K v m'=true:=by
 unfold EO at h
 split at h
 rename_i F hf
 split at h
 rename_i c hb hn;have g:=aY h; clear h; obtain⟨h1,h⟩:=g;have hle:=Ul h1;have hn':=Ul hn;rw[qm args 0 _ _ (by omega)] at h
 have hmax:max args.length F.ntmps=F.ntmps:=Nat.max_eq_right hle;refine .Oa hpa hf hb ?_;rw[hmax];refine(mh hH c h).mono fun e t m h=>?_;rcases cS h with⟨rfl,h⟩|⟨id,rfl,h⟩|⟨rfl,h⟩
 obtain⟨vs,h2,h⟩:=mQ h;rw[sx] at h;exact⟨fun id e=>(by cases e),vs,h2,h⟩
 cases h
 obtain⟨vs,h2,h⟩:=mQ h;rw[sx] at h;exact⟨fun id e=>(by cases e),vs,h2,h⟩
 cases h
 cases h
def MK{E:Env}{F:XI->XA PSem}(hF:PA E F){H:Hand}(hH:CK E H){f:XI}{args:XB WJ}{m:Xq}{K:WJ->Xq->Bool}(h:(PI E F f).run H args m K=true):ax E f args m fun v m'=>K v m'=true:=by
 unfold PI at h
 split at h
 rename_i S hS;obtain⟨p,hp,hS'⟩:=hF hS;obtain⟨v,m',h1,h2⟩:=hS' h;exact .cT hp h1 h2
 split at h
 ·rename_i p hp;simp only at h;cases he:p.run args m with
  | none =>
   rw[he] at h;exact Bq hH (by unfold nS; rw[hp]; exact he) h
  | some r =>
   obtain⟨v,m'⟩:=r;rw[he] at h;simp only[DR,Ay] at h;exact .cT hp he h
 rename_i hp;exact Bq hH (by unfold nS; rw[hp]; rfl) h
noncomputable def kW (n:Nat):XB Tmp->XB WJ->Tm->(Tm->Bool)->Bool
 | p::ps,v::vs,t,k=>(kJ n (some p)).run t v fun t=>kW n ps vs t k
 | _,_,t,k=>k t
def pI{n:Nat}:∀{ps:XB Tmp} {vs:XB WJ} {t:Tm} {k:Tm->Bool},kW n ps vs t k=true->∃t',fE n t ps vs=some t'/\k t'=true
 | p::ps,v::vs,t,k,h=>by
  have h':((kJ n (some p)).run t v fun t=>kW n ps vs t k)=true:=by rw[kW] at h; exact h
  obtain⟨t',hp,h2⟩:=fj h';obtain⟨t'',h3,h4⟩:=pI h2;refine⟨t'',?_,h4⟩;unfold fE;unfold gz at hp;simp only at hp
  split at hp
  rename_i hb; cases hp; exact h3
  cases hp
 | [],vs,t,k,h=>⟨t,by unfold fE; rfl,by rw[kW] at h; exact h; intros; simp_all⟩
 | p::ps,[],t,k,h=>⟨t,by unfold fE; rfl,by rw[kW] at h; exact h; intros; simp_all⟩
noncomputable def II (E:Env) (H:Hand) (l:Nat) (args:XB WJ) (m:Xq) (K:WJ->Xq->Bool):Bool :=
 sX m l fun r=>ALoop.rec (motive:=fun _=>Bool) (fun state _ fn tmps n params assign body=>su state
  (dL (Nat.beq args.length params.size) (kW n params.toList args tmps fun t0=>(iU E n fn assign).run H (some l) t0 m fun e t1 m1=>fq e
   (sX m1 l fun r1=>ALoop.rec (motive:=fun _=>Bool) (fun state1 pending1 fn1 tmps1 n1 params1 assign1 body1=>su state1
    (de m1 l (.loop ⟨.busy,pending1,fn1,tmps1,n1,params1,assign1,body1⟩) fun m1'=>(iU E n fn body).run H (some l) t1 m1' fun e _ m2=>sX m2 l fun r2=>ALoop.rec (motive:=fun _=>Bool) (fun _ _ fn2 tmps2 n2 params2 assign2 body2 =>
     fq e (de m2 l (.loop ⟨.ready,none,fn2,tmps2,n2,params2,assign2,body2⟩) fun m3=>K (.bool true) m3)
      (fun id=>de m2 l (.loop ⟨.done,some (.exit id),fn2,tmps2,n2,params2,assign2,body2⟩) fun m3=>K (.bool false) m3)
      (de m2 l (.loop ⟨.done,some .ret,fn2,tmps2,n2,params2,assign2,body2⟩) fun m3=>K (.bool false) m3)) r2)
    false false) r1)
   (fun _=>false) false) false)
  false false) r
def nD{s:LoopState}{a:Bool}(h:su s a false false=true):s=.ready/\a=true:=by
 cases s<;>first|exact⟨rfl,h⟩|cases h
def Gf{E:Env}{H:Hand}(hH:CK E H){l:Nat}{args:XB WJ}{m:Xq}{K:WJ->Xq->Bool}(h:II E H l args m K=true):yB E l args m fun v m'=>K v m'=true:=by
 obtain⟨r,hr,h⟩:=jd h;obtain⟨state,pending,fn,tmps,n,params,assign,body⟩:=r;have g:=nD h; clear h; obtain⟨rfl,h⟩:=g;obtain⟨h1,h⟩:=aY h;obtain⟨t0,h2,h⟩:=pI h;obtain⟨e,t1,m1,⟨k1,h3⟩,h⟩:=mh hH assign h;rcases cS h with⟨rfl,h⟩|⟨id,rfl,h⟩|⟨rfl,h⟩
 obtain⟨r1,hr1,h⟩:=jd h;obtain⟨state1,pending1,fn1,tmps1,n1,params1,assign1,body1⟩:=r1;have g:=nD h; clear h; obtain⟨rfl,h⟩:=g;rw[cX] at h;obtain⟨e,t2,m2,⟨k2,h4⟩,h⟩:=mh hH body h;obtain⟨r2,hr2,h⟩:=jd h;obtain⟨state2,pending2,fn2,tmps2,n2,params2,assign2,body2⟩:=r2;have hlen:¬args.length≠params.size:=by have:=Ue h1; omega
 have hb:step E (run E (max k1 k2)) (.round l args m)=some (.val (.bool (yd e).isNone) (m2.set l (.loop ⟨if(yd e).isNone then .ready else .done,yd e,fn2,tmps2,n2,params2,assign2,body2⟩))):=by
  simp only[step,hr,Uk hlen,h2,kT (Nat.le_max_left k1 k2) h3,hr1,kT (Nat.le_max_right k1 k2) h4,hr2]
 rcases cS h with⟨rfl,hz⟩|⟨id,rfl,hz⟩|⟨rfl,hz⟩
 rw[cX] at hz;exact⟨_,_,bh (k:=max k1 k2) hb,hz⟩
 rw[cX] at hz;exact⟨_,_,bh (k:=max k1 k2) hb,hz⟩
 rw[cX] at hz;exact⟨_,_,bh (k:=max k1 k2) hb,hz⟩
 cases h
 cases h
noncomputable def hand (E:Env) (F:XI->XA PSem):Nat->Hand :=
 Nat.rec ⟨fun _ _ _ _=>false,fun _ _ _ _=>false⟩ fun _ ih=>⟨fun f args m K=>(PI E F f).run ih args m K,fun l args m K=>II E ih l args m K⟩
def pj{E:Env}{F:XI->XA PSem}(hF:PA E F):∀n,CK E (hand E F n)
 | 0=>⟨fun h=>(by cases h),fun h=>(by cases h)⟩
 | n+1=>⟨fun h=>MK hF (pj hF n) h,fun h=>Gf (pj hF n) h⟩
def zb{E:Env}{F:XI->XA PSem}(hF:PA E F){n:Nat}{f:XI}{args:XB WJ}{m:Xq}{K:WJ->Xq->Bool}(h:(hand E F n).call f args m K=true):∃fuel v m',run E fuel (.call f args m)=some (.val v m')/\K v m'=true:=by
 obtain⟨v,m',⟨k,h1⟩,h2⟩:=(pj hF n).1 h;exact⟨k,v,m',h1,h2⟩
noncomputable def Qy (n:Nat) (v:WJ) (m:Xq):Bool:=rp v (fun b=>dL b (Nat.ble n m.wl) false) false
def Bl{E:Env}{F:XI->XA PSem}(hF:PA E F){n g:Nat}{f:XI}{args:XB WJ}{m:Xq}(h:(hand E F n).call f args m (Qy g)=true):∃fuel m',run E fuel (.call f args m)=some (.val (.bool true) m')/\g<=m'.wl:=by
 obtain⟨k,v,m',h1,h2⟩:=zb hF h;obtain⟨b,rfl,h2⟩:=iK h2;obtain⟨rfl,h2⟩:=aY h2;exact⟨k,m',h1,Ul h2⟩
section
variable{E:Env}{n:Nat}{t:Tm}{m:Xq}{K:Tm->Xq->Prop}{ops:XD Oper}{os:XB Oper}{ty:WK}{p:String}{af:XD Edge}{d:Nat}
variable{L:Tm->Xq->XB Note->Prop}{ns:XB Note}
variable{a b r v:WJ}{x y:WM}{e e':WK}
def NQ(h:aq E t x=some v)(K':WJ->Xq->Prop):bA E t m (.move x) K'=K' v m:=by rw[Ll,h]; rfl
def Iy(h:aq E t x=some v)(K':WJ->Xq->Prop):bA E t m (.assign x) K'=K' v m:=by rw[FT,h]; rfl
def KA{c:WM}(hc:aq E t c=some (.bool true))(h:aq E t x=some v)(K':WJ->Xq->Prop):bA E t m (.pick c x y) K'=K' v m:=by rw[Fj,hc,B3,h]; rfl
def MG{c:WM}(hc:aq E t c=some (.bool false))(h:aq E t y=some v)(K':WJ->Xq->Prop):bA E t m (.pick c x y) K'=K' v m:=by rw[Fj,hc,AL,h]; rfl
def Q7(h:aq E t x=some v)(K':WJ->Xq->Prop):bA E t m (.box e x) K'=K' (ptr m.next 0) (m.alloc (.cells v.cells.toList .own)):=by rw[Py,h]; rfl
def R3{op:BinOp}(h:aq E t x=some a)(h':aq E t y=some b)(hr:bf op e E.P a b=some r)(K':WJ->Xq->Prop):bA E t m (.binOp op e x y e') K'=K' r m:=by rw[Kf,h,dG,h',dG,hr]; rfl
def Mt{op:UnOp}(h:aq E t x=some a)(hr:Cm op a=some r)(K':WJ->Xq->Prop):bA E t m (.unOp op e x) K'=K' r m:=by rw[LF,h,dG,hr]; rfl
def Pv(h:aq E t x=some a)(hr:fL E.P e e' a=some r)(K':WJ->Xq->Prop):bA E t m (.convert e e' x) K'=K' r m:=by rw[Cc,h,dG,hr]; rfl
def Jn(h:aq E t x=some a)(hr:dJ E.P e a m=some r)(K':WJ->Xq->Prop):bA E t m (.load e x) K'=K' r m:=by rw[Kw,h,dG,hr]; rfl
def KZ{m':Xq}(h:aq E t x=some a)(h':aq E t y=some b)(hr:fo E.P e a b m=some m')(K':WJ->Xq->Prop):bA E t m (.store e x y) K'=K' undef m':=by rw[HR,h,dG,h',dG,hr]; rfl
def AE{f:Nat}(h:aq E t x=some a)(hr:aR E.P e a f=some r)(K':WJ->Xq->Prop):bA E t m (.fieldAddr e x f) K'=K' r m:=by rw[xo,h,dG,hr]; rfl
def LP{f:Nat}(h:aq E t x=some a)(hr:eY E.P e a f=some r)(K':WJ->Xq->Prop):bA E t m (.field e x f) K'=K' r m:=by rw[Jr,h,dG,hr]; rfl
def Bh(h:aq E t x=some a)(h':aq E t y=some b)(hr:bQ E.P e a b=some r)(K':WJ->Xq->Prop):bA E t m (.indexAddr e x y) K'=K' r m:=by rw[xb,h,dG,h',dG,hr]; rfl
def Fp(h:aq E t x=some a)(h':aq E t y=some b)(hr:fe E.P e a b=some r)(K':WJ->Xq->Prop):bA E t m (.index e x y) K'=K' r m:=by rw[J1,h,dG,h',dG,hr]; rfl
def Gk{i:Nat}{vs:XD WJ}(h:aq E t x=some (.tuple vs))(hr:vs[i]? = some r)(K':WJ->Xq->Prop):bA E t m (.extract x i) K'=K' r m:=by rw[C3 h,hr]; rfl
def Eh{l h k:XA WM}{l' h' k':XA WJ}(h1:aq E t x=some a)(h2:dC E t l=some l')(h3:dC E t h=some h')(h4:dC E t k=some k')(hr:cP E.P e a l' h' k' m=some r)(K':WJ->Xq->Prop):bA E t m (.slice e x l h k) K'=K' r m:=by rw[Ix h1 h2 h3 h4,hr]; rfl
def Lp{z:WJ}(hz:bR E.P e=some z)(hp:bG z=true)(K':WJ->Xq->Prop):bA E t m (.alloc e) K'=K' (ptr m.next 0) (m.alloc (.cells z.cells.toList .own)):=by
 rw[HJ]; simp only[cQ,hz,hp,if_true]; rfl
def fG{bi:Builtin}{ars:XD WM}{ts:XD WK}{vs:XB WJ}{m':Xq}(h:bu E t ars.toList=some vs)(hr:bw E.P bi ts vs m=some (r,m'))(K':WJ->Xq->Prop):bA E t m (.call ⟨.builtin bi,ars,ts⟩) K'=K' r m':=by rw[Ci,h,dG,hr]; rfl
def Ic{op:Op}{m':Xq}(hc:yj op=none)(hr:cQ E t m op=some (r,m'))(K':WJ->Xq->Prop):bA E t m op K'=K' r m':=by
 unfold bA; rw[hc]; simp only[hr]; rfl
def S6{ops:XD Oper}{t:Tm}{dst:XA Tmp}{o:Op}{ty:WK}{p:String}{a:XD Edge}{j d:Nat}{b c:Bool}(hd:(ops[j]?).bind (·.dst)=some d)(h:t.at d=.bool c):aX ops ⟨dst,o,ty,p,a,some (j,b)⟩ t=(c==b):=by
 rw[JM]; unfold cU; rw[hd]; simp only[Fq h]
end
section
variable{E:Env}{n:Nat}{fn:XI}{ro:XA Nat}{Q:Xr->Tm->Xq->Prop}{t:Tm}{m:Xq}{w:Nat}
def iB(E:Env)(n:Nat)(ops:XD Oper)(K:Tm->Xq->Prop):XB Oper->Tm->Xq->Nat->Prop
 | [],t,m,w=>K t (m.ww w)
 | o::os,t,m,w =>
  if aX ops o t then(∀b,aU E t o.op=some b->b<m.next)/\bA E t (m.ww m.next) o.op fun v m'=>Ho (gz n t o.dst v) fun t'=>iB E n ops K os t' m' (min w m'.wl)
  else Ho (gz n t o.dst undef) fun t'=>iB E n ops K os t' m w
def wU{r:XA Nat}{x y:Nat}{z:XA Nat}{u:Nat->Bool}(h:∀b,r=some b->b<y):dm { read:=r,wl:=x,next:=y,wrote:=z,kept:=u}=true:=by
 cases r with
 | none=>rfl
 | some b =>
  have:=h b rfl
  show Nat.blt b y=true
  rw[VS]; exact this
def oH{ops:XD Oper}{K:Tm->Xq->Prop}:∀{os:XB Oper} {t:Tm} {m:Xq} {w:Nat} {ns:XB Note},iB E n ops K os t m w->ns.all dm=true->dS E n ops (fun t m ns=>ns.all dm=true/\K t m) os t (m.ww w) ns
 | [],t,m,w,ns,h,hn=>⟨by simpa using hn,h⟩
 | o::os,t,m,w,ns,h,hn=>by
  simp only[iB] at h;simp only[dS]
  split at h
  ·rename_i hw;rw[Ui hw];obtain⟨h1,h2⟩:=h;refine h2.A.mono fun v m' hv=>?_;obtain⟨t',hp,h3⟩:=hv.A;refine⟨t',hp,?_⟩;have:=oH (ns:={ read:=aU E t o.op,wl:=m'.wl,next:=m.next,wrote:=dY E t o.op,kept:=hC m m'}::ns) h3 (by rw[Vw,hn,Bool.and_true]; exact wU h1)
   exact this
  rename_i hw;rw[Uk hw];obtain⟨t',hp,h2⟩:=h.A;exact⟨t',hp,oH h2 (by rw[Vw,hn]; rfl)⟩
def bD.Qr{id:Nat}{ops:XD Oper}(hp:jB ops=some [])(h:∀K:Tm->Xq->Prop,(∀t m,Q .normal t m->K t m)->iB E n ops K ops.toList t m m.wl):bD E n fn ro (.region id ops true) Q t m:=by
 refine .draw hp ?_;have h1:=oH (ns:=[]) (h (fun t m=>Q .normal t m) fun _ _ h=>h) rfl;have mono:∀{os:XB Oper} {t:Tm} {m:Xq} {ns:XB Note},dS E n ops (fun t m ns=>ns.all dm=true/\Q .normal t m) os t m ns->dS E n ops (fun t m ns=>(([]:XB (Nat×Nat)).all (dD ns ops)&&ns.all dm)=true/\Q .normal t m) os t m ns:=by
  intro os t m ns h
  simpa using h
 exact mono h1
variable{K:Tm->Xq->Prop}{ops:XD Oper}{os:XB Oper}{ty:WK}{p:String}{af:XD Edge}{d:Nat}{g:XA (Nat×Bool)}{v a b r:WJ}{x y:WM}{e:WK}
def LQ{xs:XB WM}{vs:XB WJ}(h:aq E t x=some v)(hs:bu E t xs=some vs):bu E t (x::xs)=some (v::vs):=by simp only[bu,h,hs]
end
end Go.Ab
end
section
namespace Go.Ab.W
open Go Go.Ab
abbrev Fs:=XB (Nat×WJ)
def lk:Fs->Nat->XA WJ
 | [],_=>none
 | p::l,i=>match Nat.beq p.1 i with
  | true=>some p.2
  | false=>lk l i
def Fr(t:Tm)(fs:Fs):Prop:=∀i v,lk fs i=some v->t.at i=v
def Fr.nil(t:Tm):Fr t []:=fun i v h=>by cases h
def Fr.set{t:Tm}{fs:Fs}{d:Nat}{v:WJ}(h:Fr t fs):Fr (Trie.set t d v) ((d,v)::fs):=by
 intro i x hx;unfold lk at hx;rw[at_set]
 split at hx
 rename_i e;have:d=i:=Ue e;rw[Ui this.symm]; exact Ug hx
 rename_i e;have:d≠i:=VM e;rw[Uk (Ne.symm this)]; exact h i x hx
def sub(fs:Fs):Fs->Prop
 | []=>True
 | p::l=>lk fs p.1=some p.2/\sub fs l
def Fr.sub{t:Tm}{fs:Fs}:∀{fs':Fs},Fr t fs->sub fs fs'->Fr t fs'
 | [],_,_=>Fr.nil t
 | p::l,h,hs=>by
  intro i v hv;unfold lk at hv
  split at hv
  rename_i e;have:p.1=i:=Ue e;subst this;cases hv;exact h _ _ hs.1
  exact Fr.sub h hs.2 i v hv
def ev(E:Env)(fs:Fs):WM->XA WJ
 | .tmp i=>lk fs i
 | .const v=>match bG v with
  | true=>some v
  | false=>none
 | .global g=>match Nat.blt g E.glob with
  | true=>some (ptr g 0)
  | false=>none
 | .func f=>some (.func (.func f) #[] #[])
def jK(E:Env)(fs:Fs):XB WM->XA (XB WJ)
 | []=>some []
 | x::xs=>match ev E fs x with
  | some v=>match jK E fs xs with
   | some vs=>some (v::vs)
   | none=>none
  | none=>none
def GU(E:Env)(fs:Fs):XA WM->XA (XA WJ)
 | none=>some none
 | some x=>match ev E fs x with
  | some v=>some (some v)
  | none=>none
def Kg(E:Env)(fs:Fs):XB (Nat×WM)->XA (XB (Nat×WJ))
 | []=>some []
 | x::xs=>match ev E fs x.2 with
  | some v=>match Kg E fs xs with
   | some vs=>some ((x.1,v)::vs)
   | none=>none
  | none=>none
section
variable{E:Env}{t:Tm}{fs:Fs}
def Fr.ev(h:Fr t fs):∀{x:WM} {v:WJ},ev E fs x=some v->aq E t x=some v
 | .tmp i,v,e=>by show some (t.at i)=some v; rw[h i v e]
 | .const c,v,e=>by
  simp only[Go.Ab.W.ev] at e
  split at e
  rename_i hp; cases e; simp only[aq]; rw[Ui hp]
  cases e
 | .global g,v,e=>by
  simp only[Go.Ab.W.ev] at e
  split at e
  rename_i hp; cases e; simp only[aq]; rw[Ui (by rwa[VS] at hp)]
  cases e
 | .func f,v,e=>by simp only[Go.Ab.W.ev] at e; exact e
def Fr.jK(h:Fr t fs):∀{xs:XB WM} {vs:XB WJ},jK E fs xs=some vs->bu E t xs=some vs
 | [],vs,e=>by simp only[Go.Ab.W.jK] at e; exact e
 | x::xs,vs,e=>by
  simp only[Go.Ab.W.jK] at e
  split at e
  rename_i v hv
  split at e
  rename_i ws hw;cases e;exact LQ (h.ev hv) (Fr.jK h hw)
  cases e
  cases e
def Fr.GU(h:Fr t fs):∀{x:XA WM} {v:XA WJ},GU E fs x=some v->dC E t x=some v
 | none,v,e=>by simp only[Go.Ab.W.GU] at e; exact e
 | some x,v,e=>by
  simp only[Go.Ab.W.GU] at e
  split at e
  rename_i w hw; cases e; simp only[dC]; rw[h.ev hw]; rfl
  cases e
def Fr.Kg(h:Fr t fs):∀{xs:XB (Nat×WM)} {vs:XB (Nat×WJ)},Kg E fs xs=some vs->dn E t xs=some vs
 | [],vs,e=>by simp only[Go.Ab.W.Kg] at e; exact e
 | x::xs,vs,e=>by
  simp only[Go.Ab.W.Kg] at e
  split at e
  rename_i v hv
  split at e
  rename_i ws hw;cases e;obtain⟨i,y⟩:=x;unfold dn;rw[h.ev hv,Fr.Kg h hw]
  cases e
  cases e
end
def oZ(m:Xq)(b o w:Nat)(es:WG):Prop :=
 b<m.next/\∃all tg,m.get b=some (.cells all tg)/\(∀sz,tg=.more sz->sz=w)/\∀i e,es[i]? = some e->(all.drop (o+i*w)).take w=e/\e.length=w
def cC:WH->XA Nat
 | some a=>some a.block
 | none=>none
def Rd(m:Xq)(a:WH)(cap w n:Nat)(es:WG):Prop :=
 es.length=n/\n<=cap/\((a=none/\n=0)\/(∃b sp,a=some ⟨b,0,some sp⟩/\n=0/\cap=0/\b<m.next)\/∃b o,a=some ⟨b,o,none⟩/\oZ m b o w es)
def Rd.lt{m:Xq}{a:WH}{cap w n:Nat}{es:WG}(h:Rd m a cap w n es){b:Nat}(hb:cC a=some b):b<m.next:=by
 rcases h.2.2 with⟨rfl,_⟩|⟨b',sp,rfl,_,_,h4⟩|⟨b',o,rfl,h4⟩
 cases hb
 cases hb; exact h4
 cases hb; exact h4.1
def Db(lo:Nat)(m:Xq)(b w n:Nat)(es:WG)(tg:Tag):Prop :=
 lo<=b/\b<m.next/\m.get b=some (.cells es.flatten tg)/\es.length=n/\(∀e∈es,e.length=w)/\(tg=.own\/tg=.more w)/\0<w
structure GPc where
 ow:Nat->Prop
 rd:Nat->Prop
 P:Xq->Prop
 st:∀m m':Xq,P m->m.next<=m'.next->(∀b,ow b\/rd b->b<m.next->m'.get b=m.get b)->P m'
 lt:∀(m:Xq) b,P m->ow b\/rd b->b<m.next
 fr:Bool:=false
inductive Pc
 | obj (b:Nat) (o:Xs)
 | arr (b w n:Nat) (es:WG) (tg:Tag)
 | sl (a:WH) (w n:Nat) (es:WG)
 | rd (a:WH) (cap w n:Nat) (es:WG)
 | ro (b o w n:Nat) (es:WG)
 | gen (g:GPc)
def Pc.rX:Pc->XA Nat
 | .obj b _=>some b
 | .arr b _ _ _ _=>some b
 | .sl a _ _ _=>cC a
 | .rd a _ _ _ _=>cC a
 | .ro b _ _ _ _=>some b
 | .gen _=>none
def Pc.own:Pc->Bool
 | .obj _ _|.arr _ _ _ _ _|.sl _ _ _ _=>true
 | _=>false
def Pc.Tq:Pc->Nat->Prop
 | .gen g=>g.ow
 | _=>fun _=>False
def Pc.Gw:Pc->Nat->Prop
 | .gen g=>fun b=>g.ow b\/g.rd b
 | _=>fun _=>False
def Pc.ow(p:Pc)(b:Nat):Prop:=(p.own=true/\p.rX=some b)\/p.Tq b
def Pc.any(p:Pc)(b:Nat):Prop:=p.rX=some b\/p.Gw b
def Pc.iG{p:Pc}{b:Nat}(h:p.ow b):p.any b:=by
 rcases h with h|h
 exact .inl h.2
 ·cases p with
  | gen g=>exact .inr (.inl h)
  | _=>exact h.elim
def Pc.Q5{p:Pc}{b:Nat}(ho:p.own=true)(hb:p.rX=some b):p.ow b:=.inl ⟨ho,hb⟩
def Pc.Cw{p:Pc}{b:Nat}(ho:p.own=true)(h:p.any b):p.rX=some b:=by
 rcases h with h|h
 exact h
 ·cases p with
  | gen g=>cases ho
  | _=>exact h.elim
def Pc.ok(lo:Nat)(m:Xq):Pc->Prop
 | .obj b o=>lo<=b/\b<m.next/\m.get b=some o
 | .arr b w n es tg=>Db lo m b w n es tg
 | .sl a w n es=>(n=0/\es=[]/\a=none/\0<w)\/∃b tg,a=some ⟨b,0,none⟩/\Db lo m b w n es tg
 | .rd a cap w n es=>Rd m a cap w n es
 | .ro b o w n es=>es.length=n/\oZ m b o w es
 | .gen g=>g.P m/\(g.fr=false->∀b,g.ow b->lo<=b)
def Pc.bound:Pc->Bool
 | .gen g=>!g.fr
 | _=>true
def Pc.apart(p q:Pc):Prop:=(∀b,p.ow b->q.any b->False)/\∀b,q.ow b->p.any b->False
structure Hp(m0 m:Xq)(ps:XB Pc):Prop where
 ext:Ext m0 m
 ok:∀p∈ps,p.ok m0.next m
 apart:ps.Pairwise Pc.apart
def pk:XB Pc->Nat->XA Pc
 | [],_=>none
 | p::_,0=>some p
 | _::l,k+1=>pk l k
def df:XB Pc->Nat->Pc->XB Pc
 | [],_,_=>[]
 | _::l,0,p=>p::l
 | q::l,k+1,p=>q::df l k p
def jz(p:Pc)(l:XB Pc):pk (p::l) 0=some p:=rfl
def fk(p:Pc)(l:XB Pc)(k:Nat):pk (p::l) (k+1)=pk l k:=rfl
def mq:∀{ps:XB Pc} {k:Nat} {p:Pc},pk ps k=some p->p∈ps:=by
 intro ps
 induction ps with
 | nil=>intro k p h; simp[pk] at h
 | cons q l ih =>
  intro k p h;cases k with
  | zero=>rw[jz] at h; have:=Ug h; simp[this]
  | succ k=>rw[fk] at h; have:=ih h; simp[this]
def jZ(q:Pc)(l:XB Pc)(p:Pc):df (q::l) 0 p=p::l:=rfl
def iy(q:Pc)(l:XB Pc)(k:Nat)(p:Pc):df (q::l) (k+1) p=q::df l k p:=rfl
def vE:∀{l:XB Pc} {k:Nat} {p r:Pc},r∈df l k p->r∈l\/r=p:=by
 intro l
 induction l with
 | nil=>intro k p r h; simp[df] at h
 | cons a l ih =>
  intro k p r h;cases k with
  | zero =>
   rw[jZ,UC] at h;rcases h with h|h
   exact .inr h
   exact .inl (by simp[h])
  | succ k =>
   rw[iy,UC] at h;rcases h with h|h
   exact .inl (by simp[h])
   rcases ih h with h1|h1
   exact .inl (by simp[h1])
   exact .inr h1
def oZ.mj{m m':Xq}{b o w:Nat}{es:WG}(h:oZ m b o w es)(hn:m.next<=m'.next)(hg:m'.get b=m.get b):oZ m' b o w es:=by
 obtain⟨h1,all,tg,h2,h3⟩:=h;exact⟨by omega,all,tg,by rw[hg]; exact h2,h3⟩
def Db.mj{lo:Nat}{m m':Xq}{b w n:Nat}{es:WG}{tg:Tag}(h:Db lo m b w n es tg)(hn:m.next<=m'.next)(hg:m'.get b=m.get b):Db lo m' b w n es tg:=by
 obtain⟨h1,h2,h3,h4⟩:=h;exact⟨h1,by omega,by rw[hg]; exact h3,h4⟩
def Rd.mj{m m':Xq}{a:WH}{cap w n:Nat}{es:WG}(h:Rd m a cap w n es)(hn:m.next<=m'.next)(hg:∀b,cC a=some b->b<m.next->m'.get b=m.get b):Rd m' a cap w n es:=by
 obtain⟨h1,h2,h4⟩:=h;refine⟨h1,h2,?_⟩;rcases h4 with h4|⟨b,sp,rfl,a1,a2,a3⟩|⟨b,o,rfl,h⟩
 exact .inl h4
 exact .inr (.inl ⟨b,sp,rfl,a1,a2,Uc a3 hn⟩)
 exact .inr (.inr ⟨b,o,rfl,h.mj hn (hg b rfl h.1)⟩)
def Pc.iA{lo:Nat}{m m':Xq}{p:Pc}(h:p.ok lo m)(hn:m.next<=m'.next)(hg:∀b,p.any b->b<m.next->m'.get b=m.get b):p.ok lo m':=by
 cases p with
 | obj b o=>exact⟨h.1,by have:=h.2.1; omega,by rw[hg b (.inl rfl) h.2.1]; exact h.2.2⟩
 | arr b w n es tg=>exact Db.mj h hn (hg b (.inl rfl) h.2.1)
 | sl a w n es =>
  rcases h with h|⟨b,tg,rfl,h⟩
  exact .inl h
  exact .inr ⟨b,tg,rfl,h.mj hn (hg b (.inl rfl) h.2.1)⟩
 | rd a cap w n es=>exact Rd.mj h hn fun b hb=>hg b (.inl hb)
 | ro b o w n es=>exact⟨h.1,h.2.mj hn (hg b (.inl rfl) h.2.1)⟩
 | gen g=>exact⟨g.st m m' h.1 hn fun b hb=>hg b (.inr hb),h.2⟩
def Pc.gv{lo:Nat}{m:Xq}{p:Pc}(h:p.ok lo m){b:Nat}(hb:p.any b):b<m.next:=by
 cases p with
 | obj b' o=>rcases hb with hb|hb; cases hb; exact h.2.1; exact hb.elim
 | arr b' w n es tg=>rcases hb with hb|hb; cases hb; exact h.2.1; exact hb.elim
 | sl a w n es =>
  rcases hb with hb|hb
  rcases h with⟨_,_,rfl,_⟩|⟨b',tg,rfl,h⟩
  cases hb
  cases hb; exact h.2.1
  exact hb.elim
 | rd a cap w n es=>rcases hb with hb|hb; exact Rd.lt h hb; exact hb.elim
 | ro b' o w n es=>rcases hb with hb|hb; cases hb; exact h.2.1; exact hb.elim
 | gen g=>rcases hb with hb|hb; cases hb; exact g.lt m b h.1 hb
def Pc.P1{lo:Nat}{m:Xq}{p:Pc}(h:p.ok lo m){b:Nat}(hb:p.rX=some b):b<m.next:=Pc.gv h (.inl hb)
def Pc.E2{lo:Nat}{m:Xq}{p:Pc}(h:p.ok lo m)(hf:p.bound=true){b:Nat}(hb:p.ow b):lo<=b:=by
 rcases hb with⟨ho,hb⟩|hb
 ·cases p with
  | obj b' o=>cases hb; exact h.1
  | arr b' w n es tg=>cases hb; exact h.1
  | sl a w n es =>
   rcases h with⟨_,_,rfl,_⟩|⟨b',tg,rfl,h⟩
   cases hb
   cases hb; exact h.1
  | rd a cap w n es=>cases ho
  | ro b' o w n es=>cases ho
  | gen g=>cases ho
 ·cases p with
  | gen g=>exact h.2 (by simpa [Pc.bound] using hf) b hb
  | _=>exact hb.elim
def Pc.JV{lo:Nat}{m:Xq}{p:Pc}(h:p.ok lo m)(ho:p.own=true){b:Nat}(hb:p.rX=some b):lo<=b:=Pc.E2 h (by cases p<;>first|rfl|cases ho) (.inl ⟨ho,hb⟩)
section
variable{m0 m m':Xq}{ps:XB Pc}
def Hp.get(h:Hp m0 m ps){k:Nat}{p:Pc}(hp:pk ps k=some p):p.ok m0.next m:=h.ok p (mq hp)
def Pc.gm{p r:Pc}(h:Pc.apart p r):Pc.apart r p:=⟨h.2,h.1⟩
def iO:∀{ps:XB Pc} {k:Nat} {p p':Pc},pk ps k=some p->(∀r∈ps,Pc.apart p r->Pc.apart p' r)->ps.Pairwise Pc.apart->(df ps k p').Pairwise Pc.apart:=by
 intro ps
 induction ps with
 | nil=>intro k p p' hk; simp[pk] at hk
 | cons q l ih =>
  intro k p p' hk hr h;rw[Uz] at h;cases k with
  | zero =>
   rw[jz] at hk;have hk:=Ug hk;subst hk;rw[jZ];exact Uz.2 ⟨fun r hm=>hr r (by simp[hm]) (h.1 r hm),h.2⟩
  | succ k =>
   rw[fk] at hk;rw[iy];refine Uz.2 ⟨fun r hm=>?_,ih hk (fun r hm=>hr r (by simp[hm])) h.2⟩
   rcases vE hm with hm|hm
   exact h.1 r hm
   rw[hm]; exact Pc.gm (hr q (by simp) (Pc.gm (h.1 p (mq hk))))
def Bj:∀{ps:XB Pc} {k:Nat} {p p' r:Pc},pk ps k=some p->ps.Pairwise Pc.apart->r∈df ps k p'->r=p'\/(r∈ps/\Pc.apart r p):=by
 intro ps
 induction ps with
 | nil=>intro k p p' r hk; simp[pk] at hk
 | cons q l ih =>
  intro k p p' r hk h hr;rw[Uz] at h;cases k with
  | zero =>
   rw[jz] at hk;have hk:=Ug hk;subst hk;rw[jZ,UC] at hr;rcases hr with hr|hr
   exact .inl hr
   exact .inr ⟨by simp[hr],Pc.gm (h.1 r hr)⟩
  | succ k =>
   rw[fk] at hk;rw[iy,UC] at hr;rcases hr with hr|hr
   rw[hr]; exact .inr ⟨by simp,h.1 p (mq hk)⟩
   rcases ih hk h.2 hr with h1|⟨h1,h2⟩
   exact .inl h1
   exact .inr ⟨by simp[h1],h2⟩
def Hp.Tg(h:Hp m0 m ps){k:Nat}{p p':Pc}(hp:pk ps k=some p)(how:∀b,p'.ow b->p.ow b\/m.next<=b)(hany:∀b,p'.any b->p.any b\/m.next<=b)(hn:m.next<=m'.next)(hext:Ext m0 m')
  (hok:p'.ok m0.next m') (hg:∀b,¬p.ow b->b<m.next->m'.get b=m.get b):Hp m0 m' (df ps k p') where
 ext:=hext
 apart:=iO hp (fun r hr ha=>⟨fun b a c=>(how b a).elim (fun a=>ha.1 b a c) fun a=>by have:=Pc.gv (h.ok r hr) c; omega,fun b a c=>(hany b c).elim (fun c=>ha.2 b a c) fun c=>by have:=Pc.gv (h.ok r hr) (Pc.iG a); omega⟩) h.apart
 ok:=fun r hr=>by
  rcases Bj hp h.apart hr with rfl|⟨h1,h2⟩
  exact hok
  exact Pc.iA (h.ok r h1) hn fun b hb' hlt=>hg b (fun e=>h2.2 b e hb') hlt
def Hp.put(h:Hp m0 m ps){k:Nat}{p p':Pc}(hp:pk ps k=some p)(ho:p.own=true)(hb:p'.rX=p.rX)(ho':p'.own=true)(hn:m.next<=m'.next)(hext:Ext m0 m')
  (hok:p'.ok m0.next m') (hg:∀b,p.rX≠some b->b<m.next->m'.get b=m.get b):Hp m0 m' (df ps k p') :=
 h.Tg hp (fun b a=>.inl (.inl ⟨ho,by rw[<-hb]; exact Pc.Cw ho' (Pc.iG a)⟩)) (fun b a=>.inl (.inl (by rw[<-hb]; exact Pc.Cw ho' a))) hn hext hok fun b hb' hlt=>hg b (fun e=>hb' (.inl ⟨ho,e⟩)) hlt
def Hp.MZ(h:Hp m0 m ps){p:Pc}(hn:m.next<=m'.next)(hext:Ext m0 m')(hsame:∀b,b<m.next->m'.get b=m.get b)(hp:p.ok m0.next m')(hb:∀b,p.any b->m.next<=b):Hp m0 m' (p::ps) where
 ext:=hext
 ok:=fun q hq=>by
  rcases UC.1 hq with rfl|hq
  exact hp
  exact Pc.iA (h.ok q hq) hn fun b hb' hlt=>hsame b hlt
 apart:=Uz.2 ⟨fun q hq=>⟨fun b h1 h2=>by
  have:=Pc.gv (h.ok q hq) h2;have:=hb b (Pc.iG h1);omega,fun b h1 h2=>by
  have:=Pc.gv (h.ok q hq) (Pc.iG h1);have:=hb b h2;omega⟩,h.apart⟩
def Hp.cons(h:Hp m0 m ps){p:Pc}(hn:m.next<=m'.next)(hext:Ext m0 m')(hsame:∀b,b<m.next->m'.get b=m.get b)(hp:p.ok m0.next m')(hb:∀b,p.rX=some b->m.next<=b)(hng:∀b,¬p.Gw b:=by exact fun _ h=>h):Hp m0 m' (p::ps) :=
 h.MZ hn hext hsame hp fun b hb'=>hb'.elim (hb b) fun h=>Uy h (hng b)
def an(ps:XB Pc):XB Nat->XA (XB Pc)
 | []=>some []
 | k::ks=>match pk ps k with
  | some p=>match an ps ks with
   | some qs=>some (p::qs)
   | none=>none
  | none=>none
def lV:XB Nat->Bool
 | []=>true
 | k::ks=>!(ks.any (Nat.beq k))&&lV ks
def wK:∀{ks:XB Nat} {qs:XB Pc},an ps ks=some qs->∀q∈qs,∃k∈ks,pk ps k=some q:=by
 intro ks
 induction ks with
 | nil=>intro qs h q hq; simp only[an,Option.some.injEq] at h; subst h; cases hq
 | cons k ks ih =>
  intro qs h q hq;simp only[an] at h
  split at h
  rename_i p hp
  split at h
  rename_i qs' hqs;simp only[Option.some.injEq] at h;subst h;rcases UC.1 hq with rfl|hq
  exact⟨k,by simp,hp⟩
  obtain⟨k',h1,h2⟩:=ih hqs q hq;exact⟨k',by simp[h1],h2⟩
  cases h
  cases h
def gL:∀{ps:XB Pc} {i j:Nat} {p q:Pc},ps.Pairwise Pc.apart->pk ps i=some p->pk ps j=some q->i≠j->Pc.apart p q:=by
 intro ps
 induction ps with
 | nil=>intro i j p q _ h; simp[pk] at h
 | cons r l ih =>
  intro i j p q h hi hj hne;rw[Uz] at h;cases i with
  | zero =>
   cases j with
   | zero=>exact Uy rfl hne
   | succ j =>
    rw[jz] at hi;rw[fk] at hj;rw[<-Ug hi];exact h.1 q (mq hj)
  | succ i =>
   cases j with
   | zero =>
    rw[jz] at hj;rw[fk] at hi;rw[<-Ug hj];exact Pc.gm (h.1 p (mq hi))
   | succ j=>rw[fk] at hi hj; exact ih h.2 hi hj (fun e=>hne (by rw[e]))
def kq:∀{ps:XB Pc} {r:Pc},r∈ps->∃k,pk ps k=some r:=by
 intro ps
 induction ps with
 | nil=>intro r h; cases h
 | cons p l ih =>
  intro r h;rcases UC.1 h with rfl|h
  exact⟨0,rfl⟩
  obtain⟨k,hk⟩:=ih h; exact⟨k+1,hk⟩
def Hp.Ev(h:Hp m0 m ps){k:Nat}{p q:Pc}(hp:pk ps k=some p)(hpo:∀b,¬p.ow b)(hq:q.ok m0.next m)(hqo:∀b,¬q.ow b)(hb:∀b,q.any b->p.any b):Hp m0 m (q::ps) where
 ext:=h.ext
 ok:=fun r hr=>by
  rcases UC.1 hr with rfl|hr
  exact hq
  exact h.ok r hr
 apart:=Uz.2 ⟨fun r hr=>⟨fun b h1 _=>hqo b h1,fun b h1 h2=>by
  obtain⟨k',hk'⟩:=kq hr;have hne:k≠k':=fun e=>by
   rw[<-e,hp] at hk';exact hpo b (by rw[Ug hk']; exact h1)
  exact(gL h.apart hp hk' hne).2 b h1 (hb b h2)⟩,h.apart⟩
def Hp.more(h:Hp m0 m ps){k:Nat}{p q:Pc}(hp:pk ps k=some p)(hpo:p.own=false)(hq:q.ok m0.next m)(hqo:q.own=false)(hb:∀b,q.rX=some b->p.rX=some b)(hpg:∀b,¬p.Tq b:=by exact fun _ h=>h)(hqg:∀b,¬q.Gw b:=by exact fun _ h=>h):Hp m0 m (q::ps) :=
 h.Ev hp (fun b h=>h.elim (fun h=>by rw[hpo] at h; cases h.1) (hpg b)) hq (fun b h=>h.elim (fun h=>by rw[hqo] at h; cases h.1) fun h=>hqg b (by cases q with|gen g=>exact .inl h|_=>exact h)) fun b h=>h.elim (fun h=>.inl (hb b h)) fun h=>Uy h (hqg b)
def Bz(h:ps.Pairwise Pc.apart):∀{ks:XB Nat} {qs:XB Pc},lV ks=true->an ps ks=some qs->qs.Pairwise Pc.apart:=by
 intro ks
 induction ks with
 | nil=>intro qs _ e; simp only[an,Option.some.injEq] at e; subst e; exact .nil
 | cons k ks ih =>
  intro qs hnd e;simp only[lV,T7,U7,List.any_eq_false] at hnd;simp only[an] at e
  split at e
  rename_i p hp
  split at e
  rename_i qs' hqs;simp only[Option.some.injEq] at e;subst e;refine Uz.2 ⟨fun q hq=>?_,ih hnd.2 hqs⟩;obtain⟨k',h1,h2⟩:=wK hqs q hq;exact gL h hp h2 fun e=>hnd.1 k' h1 (by rw[e]; exact Nat.beq_refl _)
  cases e
  cases e
def Hp.an(h:Hp m0 m ps)(ks:XB Nat){qs:XB Pc}(hnd:lV ks=true)(e:W.an ps ks=some qs):Hp m0 m qs where
 ext:=h.ext
 ok:=fun q hq=>by
  obtain⟨k,_,hk⟩:=wK e q hq;exact h.ok q (mq hk)
 apart:=Bz h.apart hnd e
def Pc.Jm{lo lo':Nat}{m:Xq}{p:Pc}(h:p.ok lo m)(hle:lo'<=lo):p.ok lo' m:=by
 have up:∀{b w n es tg},Db lo m b w n es tg->Db lo' m b w n es tg:=fun ho=>⟨Ub hle ho.1,ho.2⟩;cases p with
 | obj b o=>exact⟨Ub hle h.1,h.2⟩
 | arr b w n es tg=>exact up h
 | sl a w n es =>
  rcases h with h1|⟨b,tg,e,h1⟩
  exact .inl h1
  exact .inr ⟨b,tg,e,up h1⟩
 | rd a cap w n es=>exact h
 | ro b o w n es=>exact h
 | gen g=>exact⟨h.1,fun hf b hb=>Ub hle (h.2 hf b hb)⟩
def Hp.NP(h:Hp m0 m ps){new:XB Pc}(h':Hp m m' new)(hbd:∀p∈new,p.bound=true)(hro:∀p∈new,∀b,p.any b->m.next<=b\/(¬p.ow b/\∃q∈ps,(∀b,¬q.ow b)/\q.any b)):Hp m0 m' (new++ps) where
 ext:=h.ext.trans h'.ext
 ok:=fun q hq=>by
  rcases UT.1 hq with hq|hq
  exact Pc.Jm (h'.ok q hq) h.ext.next
  exact Pc.iA (h.ok q hq) h'.ext.next fun b _ hlt=>h'.ext.same b hlt
 apart:=VZ.2 ⟨h'.apart,h.apart,fun p hp q hq=>⟨fun b h1 h2=>by
  have:=Pc.E2 (h'.ok p hp) (hbd p hp) h1;have:=Pc.gv (h.ok q hq) h2;omega,fun b h1 h2=>by
  rcases hro p hp b h2 with h3|⟨_,r,hr,hr1,hr2⟩
  have:=Pc.gv (h.ok q hq) (Pc.iG h1);omega
  obtain⟨i,hi⟩:=kq hq;obtain⟨j,hj⟩:=kq hr;have hne:i≠j:=fun e=>by
   rw[e,hj] at hi;exact hr1 b (by rw[Ug hi]; exact h1)
  exact(gL h.apart hi hj hne).1 b h1 hr2⟩⟩
def Hp.after(h:Hp m0 m ps){new:XB Pc}(h':Hp m m' new)(hro:∀p∈new,p.own=true):Hp m0 m' (new++ps) :=
 h.NP h' (fun p hp=>by have:=hro p hp; cases p<;>first|rfl|cases this) fun p hp b hb=>.inl (Pc.JV (h'.ok p hp) (hro p hp) (Pc.Cw (hro p hp) hb))
def kM(ps:XB Pc)(b:Nat):Prop:=∃p∈ps,p.ow b
def Hp.aj(h:Hp m0 m ps):∀b,kM ps b->b<m.next:=fun _ ⟨p,hp,hb⟩=>Pc.gv (h.ok p hp) (Pc.iG hb)
def pU(H:WI):GPc:={ ow:=H,rd:=fun _=>False,P:=fun m=>∀b,H b->b<m.next,fr:=true,st:=fun _ _ h hn _ b hb=>Uc (h b hb) hn,lt:=fun _ b h hb=>hb.elim (h b) fun h=>h.elim}
def Hp.aZ(m:Xq){H:WI}(hH:∀b,H b->b<m.next):Hp m m [.gen (pU H)]:=⟨.refl m,fun p h=>by rw[UI.1 h]; exact⟨hH,fun h=>by cases h⟩,List.pairwise_singleton ..⟩
def Hp.Jc(h:Hp m0 m ps){new:XB Pc}(h':Hp m m' (new++[.gen (pU (kM ps))]))(hbd:∀p∈new,p.bound=true):Hp m0 m' (new++ps) where
 ext:=h.ext.trans h'.ext
 ok:=fun q hq=>by
  rcases UT.1 hq with hq|hq
  exact Pc.Jm (h'.ok q (VD _ hq)) h.ext.next
  exact Pc.iA (h.ok q hq) h'.ext.next fun b _ hlt=>h'.ext.same b hlt
 apart:=VZ.2 ⟨(VZ.1 h'.apart).1,h.apart,fun p hp q hq=>⟨fun b h1 h2=>by
  have:=Pc.E2 (h'.ok p (VD _ hp)) (hbd p hp) h1;have:=Pc.gv (h.ok q hq) h2;omega,fun b h1 h2=>((VZ.1 h'.apart).2.2 p hp _ (UI.2 rfl)).2 b (.inr ⟨q,hq,h1⟩) h2⟩⟩
def Hp.RI(h:Hp m0 m ps){k cap w n:Nat}{a:WH}{es:WG}(hp:pk ps k=some (.rd a cap w n es)):∀b,cC a=some b->¬kM ps b:=fun b hb ⟨q,hq,h1⟩=>by
 obtain⟨i,hi⟩:=kq hq;have hne:i≠k:=fun e=>by
  rw[e,hp] at hi;cases hi;exact h1.elim (fun h=>by cases h.1) fun h=>h.elim
 exact(gL h.apart hi hp hne).1 b h1 (.inl hb)
end
structure TyI(P:WN)(ty:WK)(ag:Bool)(sz:Nat):Prop where
 known:known P ty=true
 agg:ek P ty=ag
 size:aB P ty=sz
structure SlT(P:WN)(ty elem:WK)(w:Nat):Prop where
 und:P.underlying ty=some (.slice elem)
 known:known P elem=true
 size:aB P elem=w
 pos:0<w
 zero:(bR P elem).any (fun z=>z.cells.size==w&&z.cells.toList.all aM)=true
 bytes:∃i,P.info? elem=some i/\i.bytes≠0/\i.bytes<=1024
structure ArT(P:WN)(ty elem:WK)(len w:Nat):Prop where
 und:P.underlying ty=some (.array len elem)
 known:known P elem=true
 size:aB P elem=w
def Rc(P:WN)(ty elem:WK)(w:Nat):Bool :=
 (match P.underlying ty with|some (.slice e)=>Nat.beq e elem|_=>false)&&known P elem&&Nat.beq (aB P elem) w&&Nat.blt 0 w &&(bR P elem).any (fun z=>z.cells.size==w&&z.cells.toList.all aM) &&(match P.info? elem with|some i=>!(Nat.beq i.bytes 0)&&Nat.ble i.bytes 1024|none=>false)
def SlT.of{P:WN}{ty elem:WK}{w:Nat}(h:Rc P ty elem w=true):SlT P ty elem w:=by
 simp only[Rc,T7] at h;obtain⟨⟨⟨⟨⟨h1,h2⟩,h3⟩,h4⟩,h5⟩,h6⟩:=h;refine⟨?_,h2,Ue h3,by rwa[VS] at h4,h5,?_⟩
 split at h1
 rename_i e he; rw[he,Ue h1]
 cases h1
 split at h6
 rename_i i hi;simp only[T7,U7] at h6;exact⟨i,hi,VM h6.1,Ul h6.2⟩
 cases h6
section
variable{E:Env}{n:Nat}{m0:Xq}{fs:Fs}{ps:XB Pc}
def Od(E:Env)(m0:Xq)(fs:Fs)(ps:XB Pc)(o:Op)(v:WJ)(ps':XB Pc):Prop :=
 ∀t m,Fr t fs->Hp m0 m ps->(∀b,aU E t o=some b->b<m.next)/\∀K:WJ->Xq->Prop,(∀m',Hp m0 m' ps'->K v m')->bA E t m o K
def Ox(E:Env)(m0:Xq)(fs:Fs)(ps:XB Pc)(o:Op){α:Type}(V:α->WJ)(N:α->XB Pc):Prop :=
 ∀t m,Fr t fs->Hp m0 m ps->(∀b,aU E t o=some b->b<m.next)/\∀K:WJ->Xq->Prop,(∀x m',Hp m0 m' (N x)->K (V x) m')->bA E t m o K
def Od.pure{o:Op}{v:WJ}(hr:∀t,aU E t o=none)(h:∀t m,Fr t fs->∀K,bA E t m o K=K v m):Od E m0 fs ps o v ps :=
 fun t m hf hp=>⟨fun b hb=>(by rw[hr] at hb; cases hb),fun K hK=>by rw[h t m hf]; exact hK m hp⟩
variable{x y z:WM}{a b r v:WJ}{ty ty':WK}
def aI(h:ev E fs x=some v):Od E m0 fs ps (.move x) v ps:=.pure (fun _=>rfl) fun _ _ hf=>Go.Ab.NQ (hf.ev h)
def cW(h:ev E fs x=some v):Od E m0 fs ps (.assign x) v ps:=.pure (fun _=>rfl) fun _ _ hf=>Go.Ab.Iy (hf.ev h)
def RY{c:WM}(hc:ev E fs c=some (.bool true))(h:ev E fs x=some v):Od E m0 fs ps (.pick c x y) v ps:=.pure (fun _=>rfl) fun _ _ hf=>Go.Ab.KA (hf.ev hc) (hf.ev h)
def RF{c:WM}(hc:ev E fs c=some (.bool false))(h:ev E fs y=some v):Od E m0 fs ps (.pick c x y) v ps:=.pure (fun _=>rfl) fun _ _ hf=>Go.Ab.MG (hf.ev hc) (hf.ev h)
def aN{op:BinOp}(h:ev E fs x=some a)(h':ev E fs y=some b)(hr:bf op ty E.P a b=some r):Od E m0 fs ps (.binOp op ty x y ty') r ps:=.pure (fun _=>rfl) fun _ _ hf=>Go.Ab.R3 (hf.ev h) (hf.ev h') hr
def Mt{op:UnOp}(h:ev E fs x=some a)(hr:Cm op a=some r):Od E m0 fs ps (.unOp op ty x) r ps:=.pure (fun _=>rfl) fun _ _ hf=>Go.Ab.Mt (hf.ev h) hr
def jh(h:ev E fs x=some a)(hr:fL E.P ty ty' a=some r):Od E m0 fs ps (.convert ty ty' x) r ps:=.pure (fun _=>rfl) fun _ _ hf=>Go.Ab.Pv (hf.ev h) hr
def bJ{f:Nat}(h:ev E fs x=some a)(hr:aR E.P ty a f=some r):Od E m0 fs ps (.fieldAddr ty x f) r ps:=.pure (fun _=>rfl) fun _ _ hf=>Go.Ab.AE (hf.ev h) hr
def Lw{f:Nat}(h:ev E fs x=some a)(hr:eY E.P ty a f=some r):Od E m0 fs ps (.field ty x f) r ps:=.pure (fun _=>rfl) fun _ _ hf=>Go.Ab.LP (hf.ev h) hr
def O5(h:ev E fs x=some a)(h':ev E fs y=some b)(hr:bQ E.P ty a b=some r):Od E m0 fs ps (.indexAddr ty x y) r ps:=.pure (fun _=>rfl) fun _ _ hf=>Go.Ab.Bh (hf.ev h) (hf.ev h') hr
def Tb(h:ev E fs x=some a)(h':ev E fs y=some b)(hr:fe E.P ty a b=some r):Od E m0 fs ps (.index ty x y) r ps:=.pure (fun _=>rfl) fun _ _ hf=>Go.Ab.Fp (hf.ev h) (hf.ev h') hr
def NL{i:Nat}{vs:XD WJ}(h:ev E fs x=some (.tuple vs))(hr:vs[i]? = some r):Od E m0 fs ps (.extract x i) r ps:=.pure (fun _=>rfl) fun _ _ hf=>Go.Ab.Gk (hf.ev h) hr
def SL{f:XI}{xs ys:XD WM}{vs ws:XB WJ}(h:jK E fs xs.toList=some vs)(h':jK E fs ys.toList=some ws):Od E m0 fs ps (.makeFunc (.func f) xs ys) (.func (.func f) vs.toArray ws.toArray) ps :=
 .pure (fun _=>rfl) fun _ _ hf K=>by rw[Go.Ab.zR,hf.jK h,Go.Ab.dG,hf.jK h',Go.Ab.dG]
def Pk{bi:Builtin}{ars:XD WM}{ts:XD WK}{vs:XB WJ}(h:jK E fs ars.toList=some vs)(hn:(match bi with|.len|.cap=>false|_=>true)=true)(hr:∀m,bw E.P bi ts vs m=some (r,m)):Od E m0 fs ps (.call ⟨.builtin bi,ars,ts⟩) r ps :=
 .pure (fun _=>by cases bi<;>first|rfl|cases hn) fun _ _ hf K=>Go.Ab.fG (hf.jK h) (hr _) K
def eZ{parts:XD (Nat×WM)}{vs:XB (Nat×WJ)}{z:WJ}(h:Kg E fs parts.toList=some vs)(hz:bR E.P ty=some z)(hpz:bG z=true)(hr:kh E.P ty vs=some r):Od E m0 fs ps (.build ty parts) r ps :=
 .pure (fun _=>rfl) fun t m hf K=>by
  have:cQ E t m (.build ty parts)=some (r,m):=by simp only[cQ,hf.Kg h,hz,hpz,if_true,hr,Uh]
  exact Go.Ab.Ic rfl this K
def AP(ag:Bool)(sz:Nat)(cs:XB WJ)(o:Nat):XA WJ :=
 match ag with
 | true=>match Nat.beq ((cs.drop o).take sz).length sz with
  | true=>some (.agg ((cs.drop o).take sz).toArray)
  | false=>none
 | false=>cs[o]?
def xc{P:WN}{m:Xq}{ag:Bool}{sz b o:Nat}{cs:XB WJ}{tg:Tag}(ht:TyI P ty ag sz)(hg:m.get b=some (.cells cs tg))(h:AP ag sz cs o=some v):dJ P ty (ptr b o) m=some v:=by
 cases ag with
 | false=>exact KD ht.known ht.agg hg h
 | true =>
  simp only[AP] at h
  split at h
  rename_i e;cases h;exact KU ht.known ht.agg ht.size hg rfl (Ue e)
  cases h
def yG(ag:Bool)(sz c w:Nat):Bool:=(match ag with|true=>true|false=>Nat.beq sz 1)&&Nat.ble (c+sz) w
def xD{ag:Bool}{sz c w:Nat}(h:yG ag sz c w=true):(ag=false->sz=1)/\c+sz<=w:=by
 simp only[yG,T7] at h;exact⟨fun e=>by subst e; exact Ue h.1,Ul h.2⟩
def Od.load{b o:Nat}(hx:ev E fs x=some (ptr b o))(h:∀m,Hp m0 m ps->b<m.next/\dJ E.P ty (ptr b o) m=some v):Od E m0 fs ps (.load ty x) v ps :=
 fun t m hf hp=>⟨fun b' hb=>by
  simp only[aU,hf.ev hx] at hb;cases hb; exact(h m hp).1,fun K hK=>by
  rw[Go.Ab.Jn (hf.ev hx) (h m hp).2]; exact hK m hp⟩
def aV{ag:Bool}{sz b o k:Nat}{cs:XB WJ}{tg:Tag}(ht:TyI E.P ty ag sz)(hx:ev E fs x=some (ptr b o))(hp:pk ps k=some (.obj b (.cells cs tg)))(hv:AP ag sz cs o=some v):Od E m0 fs ps (.load ty x) v ps :=
 .load hx fun m h=>⟨(h.get hp).2.1,xc ht (h.get hp).2.2 hv⟩
def LH{ag:Bool}{sz o w c:Nat}{all e:XB WJ}(he:(all.drop o).take w=e)(hsz:ag=false->sz=1)(hc:c+sz<=w)(h:AP ag sz e c=some v):AP ag sz all (o+c)=some v:=by
 subst he;have key:((List.take w (List.drop o all)).drop c).take sz=(all.drop (o+c)).take sz:=by
  rw[List.drop_take,List.take_take,Wf,US (by omega)]
 cases ag with
 | true=>simp only[AP,key] at h ⊢; exact h
 | false =>
  simp only[AP,VY,Vr] at h ⊢
  split at h
  exact h
  cases h
def qP{P:WN}{m:Xq}{ag:Bool}{sz b o w j c:Nat}{es:WG}{e:XB WJ}(ht:TyI P ty ag sz)(hl:oZ m b o w es)(he:es[j]? = some e)(hv:AP ag sz e c=some v)(hsz:ag=false->sz=1)(hc:c+sz<=w):dJ P ty (ptr b (o+j*w+c)) m=some v:=by
 obtain⟨_,all,tg,hg,_,h⟩:=hl;exact xc ht hg (LH (h j e he).1 hsz hc hv)
def EV{w:Nat}:∀{es:WG} {j:Nat} {e:XB WJ},(∀e∈es,e.length=w)->es[j]? = some e->(es.flatten.drop (j*w)).take w=e:=by
 intro es
 induction es with
 | nil=>intro j e _ h; simp at h
 | cons x es ih =>
  intro j e hw h;have hx:=hw x (by simp)
  cases j with
  | zero =>
   simp only[UA,Option.some.injEq] at h;subst h;rw[Va,VC,Wu,List.take_left' hx]
  | succ j =>
   rw[U2] at h;rw[Va,VU,Nat.add_comm,<-Wf,List.drop_left' hx];exact ih (fun e he=>hw e (by simp[he])) h
def Db.O1{lo:Nat}{m:Xq}{b w n:Nat}{es:WG}{tg:Tag}(h:Db lo m b w n es tg):oZ m b 0 w es :=
 ⟨h.2.1,_,tg,h.2.2.1,fun sz e=>(by rcases h.2.2.2.2.2.1 with h1|h1<;>rw[h1] at e<;>cases e; rfl),fun i e he=>⟨by rw[UU]; exact EV h.2.2.2.2.1 he,h.2.2.2.2.1 e (Ur he)⟩⟩
def As{ag:Bool}{sz b w n j c k:Nat}{es:WG}{tg:Tag}{e:XB WJ}(ht:TyI E.P ty ag sz)(hx:ev E fs x=some (ptr b (j*w+c)))(hp:pk ps k=some (.arr b w n es tg))(he:es[j]? = some e)(hv:AP ag sz e c=some v)(hs:yG ag sz c w=true):Od E m0 fs ps (.load ty x) v ps:=by
 have hs:=xD hs;refine .load hx fun m h=>⟨(h.get hp).2.1,?_⟩;have:=qP (P:=E.P) ht (Db.O1 (h.get hp)) he hv hs.1 hs.2;rwa[UU] at this
def jD{ag:Bool}{sz b o w n j c k:Nat}{es:WG}{e:XB WJ}(ht:TyI E.P ty ag sz)(hx:ev E fs x=some (ptr b (o+j*w+c)))(hp:pk ps k=some (.ro b o w n es))(he:es[j]? = some e)(hv:AP ag sz e c=some v)(hs:yG ag sz c w=true):Od E m0 fs ps (.load ty x) v ps:=by
 have hs:=xD hs;exact .load hx fun m h=>⟨(h.get hp).2.1,qP (P:=E.P) ht (h.get hp).2 he hv hs.1 hs.2⟩
def ew{elem:WK}{b o w n cap:Nat}{i:Int}{kd:IntKind}(ht:SlT E.P ty elem w)(hx:ev E fs x=some (.slice (some ⟨b,o,none⟩) n cap))(hy:ev E fs y=some (.int kd i))(hi:0<=i/\i.toNat<n):Od E m0 fs ps (.indexAddr ty x y) (ptr b (o+i.toNat*w+0)) ps:=by
 refine O5 hx hy ?_;have hd:decide ((0:Int)<=i/\i<(n:Nat))=true:=by simp; omega
 simp only[bQ,ht.und,ht.known,hd,Vf,if_true,ht.size,UZ]
def hZ{elem:WK}{b w n cap:Nat}{i:Int}{kd:IntKind}(ht:SlT E.P ty elem w)(hx:ev E fs x=some (.slice (some ⟨b,0,none⟩) n cap))(hy:ev E fs y=some (.int kd i))(hi:0<=i/\i.toNat<n):Od E m0 fs ps (.indexAddr ty x y) (ptr b (i.toNat*w+0)) ps:=by
 have:=ew (m0:=m0) (ps:=ps) ht hx hy hi;rwa[UU] at this
def Hp.write{m:Xq}(h:Hp m0 m ps){k b:Nat}{p p':Pc}{o':Xs}(hp:pk ps k=some p)(ho:p.own=true)(hb:p.rX=some b)(hb':p'.rX=some b)(ho':p'.own=true)(hok:p'.ok m0.next (m.set b o')):Hp m0 (m.set b o') (df ps k p') :=
 h.put hp ho (hb'.trans hb.symm) ho' (Ua _) (h.ext.set (Pc.JV (h.get hp) ho hb) _) hok fun x hx _=>by
  rw[Xq.cc,Uk (fun e=>hx (by rw[e]; exact hb))]
def MI(cs:XB WJ)(o:Nat)(v:WJ)(sz:Nat):XA (XB WJ) :=
 match Nat.beq v.cells.toList.length sz&&Nat.blt 0 sz&&bt v.cells.toList&&Nat.ble (o+sz) cs.length with
 | true=>some (aK cs o v.cells.toList)
 | false=>none
def ja:∀(cs:XB WJ) (o:Nat) (vs:XB WJ),o+vs.length<=cs.length->(aK cs o vs).length=cs.length
 | cs,0,[],_=>by cases cs<;>rfl
 | [],0,v::vs,h=>by simp at h
 | c::cs,0,v::vs,h=>by simp only[aK,UK]; rw[ja cs 0 vs (by simpa using h)]
 | [],o+1,vs,h=>by simp at h
 | c::cs,o+1,vs,h=>by simp only[aK,UK]; rw[ja cs o vs (by simp at h; omega)]
def Ak{P:WN}{m:Xq}{ag:Bool}{sz b o:Nat}{cs cs':XB WJ}{tg:Tag}(ht:TyI P ty ag sz)(hg:m.get b=some (.cells cs tg))(htg:tg≠.ro)(h:MI cs o v sz=some cs'):fo P ty (ptr b o) v m=some (m.set b (.cells cs' tg)):=by
 simp only[MI] at h
 split at h
 ·rename_i e;cases h;simp only[T7] at e;obtain⟨⟨⟨h1,h2⟩,h3⟩,h4⟩:=e;have h1:=Ue h1;have h2:0<sz:=by rwa[VS] at h2
  have h4:=Ul h4;have hs:(v.cells.size==aB P ty)=true:=by rw[ht.size,<-h1]; simp
  simp only[fo,ptr,ht.known,hs,h3,Vf,if_true,Xq.dz];cases hc:v.cells.toList with
  | nil=>rw[hc] at h1; simp at h1; omega
  | cons x xs =>
   rw[hc] at h1;simp only[hg];cases tg with
   | ro=>exact Uy rfl htg
   | own=>rw[Ui (by rw[h1]; exact h4)]
   | more s=>rw[Ui (by rw[h1]; exact h4)]
 cases h
def Od.store{bk o:Nat}{p':XB Pc}(hx:ev E fs x=some (ptr bk o))(hy:ev E fs y=some v)(h:∀m,Hp m0 m ps->∃m',fo E.P ty (ptr bk o) v m=some m'/\Hp m0 m' p'):Od E m0 fs ps (.store ty x y) undef p' :=
 fun t m hf hp=>⟨fun b hb=>by simp[aU] at hb,fun K hK=>by
  obtain⟨m',h1,h2⟩:=h m hp;rw[Go.Ab.KZ (hf.ev hx) (hf.ev hy) h1]; exact hK m' h2⟩
def AK:Tag->Bool
 | .ro=>false
 | _=>true
def da{ag:Bool}{sz b o k:Nat}{cs cs':XB WJ}{tg:Tag}(ht:TyI E.P ty ag sz)(hx:ev E fs x=some (ptr b o))(hy:ev E fs y=some v)(hp:pk ps k=some (.obj b (.cells cs tg)))(htg:AK tg=true)(hv:MI cs o v sz=some cs'):Od E m0 fs ps (.store ty x y) undef (df ps k (.obj b (.cells cs' tg))) :=
 .store hx hy fun m h=>⟨_,Ak ht (h.get hp).2.2 (fun e=>by rw[e] at htg; cases htg) hv,h.write hp rfl rfl rfl rfl ⟨(h.get hp).1,(h.get hp).2.1,by rw[Xq.cc,Ui rfl]⟩⟩
def B1:∀(l r vs:XB WJ) (c:Nat),c+vs.length<=l.length->aK (l++r) c vs=aK l c vs++r:=by
 intro l r
 induction l with
 | nil =>
  intro vs c h;have h0:c+vs.length<=0:=h;have h1:c=0:=by omega
  have h2:vs=[]:=Vt.1 (by omega)
  subst h1 h2;cases r<;>rfl
 | cons a l ihl =>
  intro vs c h;cases c with
  | zero=>cases vs with
   | nil=>rfl
   | cons v vs=>simp only[Ws,aK]; rw[ihl vs 0 (by simpa using h)]
  | succ c=>simp only[Ws,aK]; rw[ihl vs c (by simp at h; omega)]
def Ae:∀(l r vs:XB WJ) (o:Nat),aK (l++r) (l.length+o) vs=l++aK r o vs:=by
 intro l r vs
 induction l with
 | nil=>intro o; simp
 | cons a l ihl=>intro o; rw[Ws,UK,show l.length+1+o=(l.length+o)+1 by omega,aK,ihl o]; rfl
def BE{w c:Nat}{vs:XB WJ}:∀{es:WG} {j:Nat} {e:XB WJ},(∀e∈es,e.length=w)->es[j]? = some e->c+vs.length<=w->aK es.flatten (j*w+c) vs=(es.set j (aK e c vs)).flatten:=by
 intro es
 induction es with
 | nil=>intro j e _ h; simp at h
 | cons x es ih =>
  intro j e hw h hc;have hx:=hw x (by simp)
  cases j with
  | zero =>
   simp only[UA,Option.some.injEq] at h;subst h;rw[Va,VC,UU,B1 _ _ _ _ (by omega)]
   simp[Va]
  | succ j =>
   rw[U2] at h;rw[Va,VU,show j*w+w+c=x.length+(j*w+c) by omega,Ae,ih (fun e he=>hw e (by simp[he])) h hc]
   simp[Va]
def qU{ag:Bool}{sz b w n j c k:Nat}{es:WG}{e e':XB WJ}{tg:Tag}(ht:TyI E.P ty ag sz)(hx:ev E fs x=some (ptr b (j*w+c)))(hy:ev E fs y=some v)(hp:pk ps k=some (.arr b w n es tg))(he:es[j]? = some e)(hv:MI e c v sz=some e'):Od E m0 fs ps (.store ty x y) undef (df ps k (.arr b w n (es.set j e') tg)):=by
 refine .store hx hy fun m h=>?_;obtain⟨g1,g2,g3,g4,g5,g6,g7⟩:=h.get hp;have hew:=g5 e (Ur he);simp only[MI] at hv
 split at hv
 ·rename_i e1;cases hv;simp only[T7] at e1;obtain⟨⟨⟨h1,h2⟩,h3⟩,h4⟩:=e1;have h1:=Ue h1;have h2':0<sz:=by rwa[VS] at h2
  have h4:=Ul h4;have hj:j<es.length:=(Uq.1 he).1;have hfl:∀(l:WG),(∀e∈l,e.length=w)->l.flatten.length=l.length*w:=by
   intro l
   induction l with
   | nil=>intro _; simp
   | cons x l ih=>intro hl; rw[Va,Uf,ih (fun e he=>hl e (by simp[he])),hl x (by simp),UK,VU]; omega
  have hmul:(j+1)*w<=es.length*w:=UF w hj;rw[VU] at hmul;have hst:MI es.flatten (j*w+c) v sz=some (aK es.flatten (j*w+c) v.cells.toList):=by
   have:(Nat.beq v.cells.toList.length sz&&Nat.blt 0 sz&&bt v.cells.toList&&Nat.ble (j*w+c+sz) es.flatten.length)=true:=by
    simp only[T7];exact⟨⟨⟨by rw[h1]; exact Nat.beq_refl _,h2⟩,h3⟩,U9 (by rw[hfl es g5]; omega)⟩
   simp only[MI,this]
  refine⟨_,Ak ht g3 (by rcases g6 with rfl|rfl<;>simp) hst,h.write hp rfl rfl rfl rfl ?_⟩
  refine⟨g1,g2,?_,by simpa using g4,fun e'' he''=>?_,g6,g7⟩
  rw[Xq.cc,Ui rfl,BE g5 he (by omega)]
  rcases VP he'' with h5|h5
  exact g5 _ h5
  rw[h5,ja _ _ _ (by omega)]; exact hew
 cases hv
def Ox.made{o:Op}{ob:Nat->Xs}{p:Nat->Pc}{V:Nat->WJ}(hr:∀t,aU E t o=none)(h:∀t m,Fr t fs->∀K,bA E t m o K=K (V m.next) (m.alloc (ob m.next)))
  (hb:∀b,(p b).rX=some b) (hp:∀lo m b,lo<=b->b<m.next->m.get b=some (ob b)->(p b).ok lo m) (hpg:∀b x,¬(p b).Gw x:=by exact fun _ _ h=>h):Ox E m0 fs ps o V (fun b=>p b::ps) :=
 fun t m hf hm=>⟨fun b hb=>(by rw[hr] at hb; cases hb),fun K hK=>by
  rw[h t m hf];refine hK m.next _ (hm.cons (Nat.le_succ _) (hm.ext.alloc _) (fun b hlt=>by rw[Xq.bq,WU]) (hp _ _ _ hm.ext.next (Vp _) (by rw[Xq.bq,Ui rfl])) (fun b' h'=>?_) (hpg _))
  rw[hb] at h'; cases h'; exact Ua _⟩
def ua{z:WJ}(hz:bR E.P ty=some z)(hp:bG z=true):Ox E m0 fs ps (.alloc ty) (fun b=>ptr b 0) (fun b=>.obj b (.cells z.cells.toList .own)::ps) :=
 .made (ob:=fun _=>.cells z.cells.toList .own) (p:=fun b=>.obj b (.cells z.cells.toList .own)) (fun _=>rfl) (fun _ _ _ K=>Go.Ab.Lp hz hp K) (fun _=>rfl) fun _ _ _ h1 h2 h3=>⟨h1,h2,h3⟩
def Su(h:ev E fs x=some v):Ox E m0 fs ps (.box ty x) (fun b=>ptr b 0) (fun b=>.obj b (.cells v.cells.toList .own)::ps) :=
 .made (ob:=fun _=>.cells v.cells.toList .own) (p:=fun b=>.obj b (.cells v.cells.toList .own)) (fun _=>rfl) (fun _ _ hf K=>Go.Ab.Q7 (hf.ev h) K) (fun _=>rfl) fun _ _ _ h1 h2 h3=>⟨h1,h2,h3⟩
def Sb(P:WN)(elem:WK)(w len:Nat)(vs:XB (Nat×WJ)):XA (XB WJ) :=
 match fR P elem len with
 | some zs=>match zs.all aM&&Nat.ble (len*w) 16777216 with
  | true=>hJ (fun i=>some (i*w,w)) zs vs
  | false=>none
 | none=>none
def RG(w:Nat)(es:WG):Bool:=es.all fun e=>Nat.beq e.length w
def Mh{w:Nat}{es:WG}(h:RG w es=true):∀e∈es,e.length=w:=fun e he=>Ue (Ux.1 h e he)
def fc{elem:WK}{w len:Nat}{parts:XD (Nat×WM)}{vs:XB (Nat×WJ)}{es:WG}(ht:SlT E.P ty elem w)(h:Kg E fs parts.toList=some vs)(hf:Sb E.P elem w len vs=some es.flatten)(hl:Nat.beq es.length len=true)(hw:RG w es=true) :
  Ox E m0 fs ps (.buildSlice ty len parts) (fun b=>.slice (some ⟨b,0,none⟩) len len) (fun b=>.arr b w len es .own::ps):=by
 refine .made (ob:=fun _=>.cells es.flatten .own) (p:=fun b=>.arr b w len es .own) (fun _=>rfl) (fun t m hfr K=>?_) (fun _=>rfl) fun _ _ _ h1 h2 h3=>⟨h1,h2,h3,Ue hl,Mh hw,.inl rfl,ht.pos⟩;simp only[Sb] at hf
 split at hf
 rename_i zs hz
 split at hf
 rename_i hc;simp only[T7] at hc;have:cQ E t m (.buildSlice ty len parts)=some (.slice (some ⟨m.next,0,none⟩) len len,m.alloc (.cells es.flatten .own)):=by
  have h2:¬(len*w>2 ^ 24):=by have:=Ul hc.2; omega
  simp only[cQ,ht.und,hfr.Kg h,ht.known,ht.size,hz,hc.1,hf,Uj,Bool.false_or,Um h2,if_true,Uh]
  rfl
 exact Go.Ab.Ic rfl this K
 cases hf
 cases hf
def lim(n:Nat):Bool:=Nat.ble n 1073741824
def q9{z:XB WJ}:∀n,cq z n=(List.replicate n z).flatten
 | 0=>rfl
 | n+1=>by rw[cq,q9 n,Vl,Va]
def QK{elem:WK}{w n:Nat}{i:Int}{z:WJ}(ht:SlT E.P ty elem w)(hx:ev E fs x=some (.int .i64 i))(hi:i=(n:Int))(hl:lim n=true)(hz:bR E.P elem=some z)(hp:z.cells.toList.all aM=true) :
  Ox E m0 fs ps (.makeSlice ty x x) (fun b=>.slice (some ⟨b,0,none⟩) n n) (fun b=>.arr b w n (List.replicate n z.cells.toList) .own::ps):=by
 subst hi;have hzs:z.cells.size=w:=by have:=ht.zero; rw[hz] at this; simp only[Option.any_some,T7,beq_iff_eq] at this; exact this.1
 refine .made (ob:=fun _=>.cells (List.replicate n z.cells.toList).flatten .own) (p:=fun b=>.arr b w n (List.replicate n z.cells.toList) .own) (fun _=>rfl) (fun t m hfr K=>?_) (fun _=>rfl) fun _ _ _ h1 h2 h3=>⟨h1,h2,h3,by simp,fun e he=>by rw[List.eq_of_mem_replicate he]; simpa using hzs,.inl rfl,ht.pos⟩
 have hln:n<=1073741824:=Ul hl;obtain⟨inf,hi1,hi2,hi3⟩:=ht.bytes;have hzz:fR E.P elem n=some (List.replicate n z.cells.toList).flatten:=by
  simp only[fR,hz,ht.size];rw[Ui hzs,q9]
 have ha:(List.replicate n z.cells.toList).flatten.all aM=true:=by
  rw[Ux];intro v hv;obtain⟨l,h1,h2⟩:=List.mem_flatten.1 hv;rw[List.eq_of_mem_replicate h1] at h2;exact Ux.1 hp v h2
 have hmul:inf.bytes*n<=1024*1073741824:=UO hi3 hln;have:cQ E t m (.makeSlice ty x x)=some (.slice (some ⟨m.next,0,none⟩) n n,m.alloc (.cells (List.replicate n z.cells.toList).flatten .own)):=by
  have hc:(0:Int)<=(n:Int)/\(n:Int)<=(n:Int)/\(E.P.info? elem).any (fun i=>i.bytes*(n:Int)<=2 ^ 40&&i.bytes != 0)=true/\known E.P elem=true:=by
   refine⟨by omega,by omega,?_,ht.known⟩
   rw[hi1];have h5:((inf.bytes*n:Nat):Int)<=(1024*1073741824:Nat):=Int.ofNat_le.2 hmul;have h6:((inf.bytes*n:Nat):Int)=(inf.bytes:Int)*(n:Int):=VW _ _;simp only[Option.any_some,T7,UL,bne_iff_ne,ne_eq];exact⟨by rw[<-h6]; omega,hi2⟩
  simp only[cQ,ht.und,hfr.ev hx,T5,hzz];rw[Ui hc,Ui ha]
 exact Go.Ab.Ic rfl this K
end
end Go.Ab.W
section
open Go Go.Ab Go.Ab.W
abbrev Xb:=@Hp.aZ
end
end
section
namespace Go.Ab.W
open Go Go.Ab
attribute [local irreducible] Tm.at Trie.set Trie.get Xq.get Xq.set Xq.alloc Xq.ww Xq.kill
section
variable{E:Env}{n:Nat}{m0 m m':Xq}{fs:Fs}{ps:XB Pc}{x y:WM}{v:WJ}{ty:WK}
def Db.rd{lo b w n:Nat}{es:WG}{tg:Tag}(h:Db lo m b w n es tg):Rd m (some ⟨b,0,none⟩) n w n es :=
 ⟨h.2.2.2.1,Ua _,.inr (.inr ⟨b,0,rfl,h.O1⟩)⟩
inductive IsRd:Pc->WH->Nat->Nat->Nat->WG->Prop
 | arr (b w n:Nat) (es:WG) (tg:Tag):IsRd (.arr b w n es tg) (some ⟨b,0,none⟩) n w n es
 | sl (a:WH) (w n:Nat) (es:WG):IsRd (.sl a w n es) a n w n es
 | rd (a:WH) (cap w n:Nat) (es:WG):IsRd (.rd a cap w n es) a cap w n es
 | nil {p:Pc} (w:Nat):IsRd p none 0 w 0 []
def Pc.PG{p:Pc}{a:WH}{lo cap w n:Nat}{es:WG}(h:p.ok lo m)(hi:IsRd p a cap w n es):Rd m a cap w n es:=by
 cases hi with
 | arr b w n es tg=>exact Db.rd h
 | sl a w n es =>
  rcases h with⟨rfl,rfl,rfl,_⟩|⟨b,tg,rfl,h⟩
  exact⟨rfl,Ua _,.inl ⟨rfl,rfl⟩⟩
  exact h.rd
 | rd a cap w n es=>exact h
 | nil w=>exact⟨rfl,Ua _,.inl ⟨rfl,rfl⟩⟩
def Hp.rd(h:Hp m0 m ps){k:Nat}{p:Pc}{a:WH}{cap w n:Nat}{es:WG}(hp:pk ps k=some p)(hi:IsRd p a cap w n es):Rd m a cap w n es:=Pc.PG (h.get hp) hi
def Rd.nil(m:Xq)(w:Nat):Rd m none 0 w 0 []:=⟨rfl,Ua _,.inl ⟨rfl,rfl⟩⟩
def Rd.cells{a:WH}{cap w n:Nat}{es:WG}(h:Rd m a cap w n es):cu w (.slice a n cap) n m=some es.flatten:=by
 obtain⟨h1,h2,h4⟩:=h
 by_cases hn:n=0
 ·subst hn;have:es=[]:=Vt.1 h1;subst this;cases a with
  | none=>rfl
  | some a=>obtain⟨b,o,sp⟩:=a; cases sp<;>rfl
 ·rcases h4 with h4|⟨b,sp,rfl,h4,_⟩|⟨b,o,rfl,_,all,tg,hg,_,hl⟩
  exact Uy h4.2 hn
  exact Uy h4 hn
  ·simp only[cu,Uk hn,Xq.dQ,hg];have key:∀(es:WG) (k:Nat),(∀i e,es[i]? = some e->(all.drop (o+(k+i)*w)).take w=e/\e.length=w)->(all.drop (o+k*w)).take (es.length*w)=es.flatten/\es.flatten.length=es.length*w:=by
    intro es
    induction es with
    | nil=>intro k _; simp
    | cons e es ih =>
     intro k hk;obtain⟨a1,a2⟩:=hk 0 e rfl;obtain⟨b1,b2⟩:=ih (k+1) fun i e' he'=>by
      have:=hk (i+1) e' (by simpa using he')
      rwa[show k+(i+1)=k+1+i by omega] at this
     rw[UZ] at a1;refine⟨?_,by rw[Va,Uf,a2,b2,UK,VU]; omega⟩
     rw[UK,VU,Nat.add_comm,List.take_add,a1,Wf,Va,<-b1,VU,V9]
   have:=key es 0 (fun i e he=>by rw[UU]; exact hl i e he)
   rw[VC,UZ,h1] at this;rw[this.1,Ui this.2]
def Hp.renew(h:Hp m0 m ps){k:Nat}{p p':Pc}(hp:pk ps k=some p)(hn:m.next<=m'.next)(hext:Ext m0 m')(hok:p'.ok m0.next m')(hb:∀b,p'.rX=some b->m.next<=b)(hpo:p.own=true)(hg:∀b,p.rX≠some b->b<m.next->m'.get b=m.get b)(hng:∀b,¬p'.Gw b:=by exact fun _ h=>h):Hp m0 m' (df ps k p') :=
 h.Tg hp (fun b a=>.inr ((Pc.iG a).elim (hb b) fun h=>Uy h (hng b))) (fun b a=>.inr (a.elim (hb b) fun h=>Uy h (hng b))) hn hext hok fun b hb' hlt=>hg b (fun e=>hb' (.inl ⟨hpo,e⟩)) hlt
def fO(es:WG):Prop:=∀e∈es,e.all lD=true
def B8{α:Type}{f:α->XB WJ}(h:∀x,(f x).all lD=true)(xs:XB α):fO (xs.map f):=fun e he=>by
 obtain⟨x,_,rfl⟩:=Wa.1 he; exact h x
def BD{es:WG}(h:fO es):bt es.flatten=true:=by
 unfold bt;rw[Ux];intro v hv;obtain⟨l,h1,h2⟩:=List.mem_flatten.1 hv;exact Ux.1 (h l h1) v h2
def zC{w:Nat}:∀{l:WG},(∀e∈l,e.length=w)->l.flatten.length=l.length*w:=by
 intro l
 induction l with
 | nil=>intro _; simp
 | cons x l ih=>intro hl; rw[Va,Uf,ih (fun e he=>hl e (by simp[he])),hl x (by simp),UK,VU]; omega
def mT {P:WN} {elem ty2:WK} {w k n2 c0:Nat} {a a1:WH} {es es2:WG} (ht:SlT P ty elem w) (h6:∃e2,P.underlying ty2=some (.slice e2)) (h:Hp m0 m ps) (hp:pk ps k=some (.sl a w n es)) (hr:Rd m a1 c0 w n2 es2) (h5:∀e ∈ es2,e.length=w) (ho:fO es2) (hl:lim (n+n2)=true) :
  ∃a' m',dF P ty (some ty2) (.slice a n n) (.slice a1 n2 c0) m=some (.slice a' (n+n2) (n+n2),m')/\Hp m0 m' (df ps k (.sl a' w (n+n2) (es++es2))):=by
 obtain⟨e2,h7⟩:=h6;obtain⟨inf,h8,h9,h10⟩:=ht.bytes;have hln:n+n2<=1073741824:=Ul hl;have hc:=hr.cells;have hlen2:es2.flatten.length=n2*w:=by rw[zC h5,hr.1]
 have hnew:iH P elem (some ty2) (.slice a1 n2 c0) m=some (n2,es2.flatten):=by
  simp only[iH,UQ,h7,ht.size];have:cu w (.slice a1 n2 c0) n2 m=some es2.flatten:=hc;rw[this]; rfl
 have hfit:(P.info? elem).any (fun i=>gH i.bytes (n+n2)&&i.bytes != 0)=true:=by
  rw[h8];have hmul:(2*(n+n2)+2000)*inf.bytes<=(2*1073741824+2000)*1024:=UO (by omega) h10
  simp only[Option.any_some,gH,T7,UL,bne_iff_ne,ne_eq];exact⟨by omega,h9⟩
 have hzero:(bR P elem).any (fun z=>z.cells.size==w&&z.cells.toList.all aM)=true:=ht.zero;have hpos:=ht.pos;have h11:(w==0)=false:=by simp; omega
 have hguard:(!(known P elem)||aB P elem==0 || !bt es2.flatten || !(P.info? elem).any (fun i=>gH i.bytes (n+n2)&&i.bytes != 0)||es2.flatten.length != n2*aB P elem || !(bR P elem).any (fun z=>z.cells.size==aB P elem&&z.cells.toList.all aM))=false:=by
  rw[ht.size,ht.known,hfit,hzero,BD ho,h11,hlen2]; simp
 have hres:∀a',(∃m',(.slice a' (n+n2) (n+n2),m')=((.slice a' (n+n2) (n+n2),m'):WJ×Xq)):=fun a'=>⟨m,rfl⟩;have hpc:=h.get hp;have hext:=h.ext;rcases hpc with⟨rfl,rfl,rfl,_⟩|⟨b,tg,rfl,hb⟩
 ·
  by_cases h0:n2=0
  ·subst h0;have hes:es2=[]:=Vt.1 hr.1;subst hes;refine⟨none,m,?_,?_⟩
   unfold dF;simp only[ht.und,hnew];rw[Uk (by rw[hguard]; exact VE)]
   rfl
   ·have:df ps k (.sl none w (0+0) ([]++[]))=ps:=by
     have:∀(l:XB Pc) (k:Nat) (p:Pc),pk l k=some p->df l k p=l:=by
      intro l
      induction l with
      | nil=>intro k p h; simp[pk] at h
      | cons q l ih =>
       intro k p h;cases k with
       | zero=>rw[jz] at h; rw[jZ,Ug h]
       | succ k=>rw[fk] at h; rw[iy,ih k p h]
     exact this ps k _ hp
    rw[this]; exact h
  refine⟨some ⟨m.next,0,none⟩,m.alloc (.cells es2.flatten (.more w)),?_,?_⟩
  unfold dF;simp only[ht.und,hnew];rw[Uk (by rw[hguard]; exact VE)]
  simp only[ht.size];rw[Uk (by simp),Uk h0,UU]
  refine h.renew hp (by simp only[Xq.next_alloc]; omega) (hext.alloc _) (.inr ⟨m.next,.more w,rfl,hext.next,(by rw[Xq.next_alloc]; omega),?_,?_,?_,.inr rfl,hpos⟩) (fun b' hb'=>?_) rfl fun b' _ hlt=>?_
  rw[Xq.bq,Ui rfl,VA]
  rw[VA,hr.1,UU]
  rw[VA]; exact h5
  cases hb'; exact Ua _
  rw[Xq.bq,WU]
 ·obtain⟨g4,g5,g0,g1,g2,g3,g6⟩:=hb;have hlen:es.flatten.length=n*w:=by rw[zC g2,g1]
  by_cases h0:n2=0
  ·subst h0;have hes:es2=[]:=Vt.1 hr.1;subst hes;refine⟨some ⟨b,0,none⟩,m,?_,?_⟩
   unfold dF;simp only[ht.und,hnew];rw[Uk (by rw[hguard]; exact VE)]
   simp only[g0];rw[Ui (Nat.le_of_eq (UZ n))];simp[Xq.dz]
   ·rw[Vc,UZ];have:df ps k (.sl (some ⟨b,0,none⟩) w n es)=ps:=by
     have:∀(l:XB Pc) (k:Nat) (p:Pc),pk l k=some p->df l k p=l:=by
      intro l
      induction l with
      | nil=>intro k p h; simp[pk] at h
      | cons q l ih =>
       intro k p h;cases k with
       | zero=>rw[jz] at h; rw[jZ,Ug h]
       | succ k=>rw[fk] at h; rw[iy,ih k p h]
     exact this ps k _ hp
    rw[this]; exact h
  have hcap:¬(n+n2<=n):=by omega
  have htake:es.flatten.take (n*w)=es.flatten:=VO (by omega)
  have hok:∀(mm:Xq),m.next<=mm.next->Pc.ok m0.next (mm.alloc (.cells (es.flatten++es2.flatten) (.more w))) (.sl (some ⟨mm.next,0,none⟩) w (n+n2) (es++es2)):=fun mm hmm =>
   .inr ⟨mm.next,.more w,rfl,Ub hext.next hmm,(by rw[Xq.next_alloc]; omega),by rw[Xq.bq,Ui rfl,List.flatten_append],by rw[Uf,g1,hr.1],fun e he=>by
    rcases UT.1 he with he|he
    exact g2 e he
    exact h5 e he,.inr rfl,hpos⟩
  rcases g3 with rfl|rfl
  refine⟨some ⟨m.next,0,none⟩,m.alloc (.cells (es.flatten++es2.flatten) (.more w)),?_,?_⟩
  unfold dF;simp only[ht.und,hnew];rw[Uk (by rw[hguard]; exact VE)]
  simp only[ht.size,g0];rw[Uk hcap];have hld:m.dQ b 0 (n*w)=some es.flatten:=by
   simp only[Xq.dQ,g0,Wu,htake];rw[Ui hlen]
  simp only[hld]
  refine h.renew hp (by simp only[Xq.next_alloc]; omega) (hext.alloc _) (hok m (Ua _)) (fun b' hb'=>?_) rfl fun b' _ hlt=>?_
  cases hb'; exact Ua _
  rw[Xq.bq,WU]
  refine⟨some ⟨(m.kill b).next,0,none⟩,(m.kill b).alloc (.cells (es.flatten++es2.flatten) (.more w)),?_,?_⟩
  unfold dF;simp only[ht.und,hnew];rw[Uk (by rw[hguard]; exact VE)]
  simp only[ht.size,g0];rw[Uk hcap];simp only[and_self,if_true,htake,hlen,Xq.next_kill]
  have hk:Ext m0 (m.kill b):=⟨by rw[Xq.next_kill]; exact hext.next,fun x hx=>by rw[Xq.fP,WU]; exact hext.same x hx,by
   rw[Xq.wl_kill];have:=hext.wl; omega⟩
  refine h.renew hp (by simp only[Xq.next_alloc,Xq.next_kill]; omega) (hk.alloc _) (hok (m.kill b) (by rw[Xq.next_kill]; exact Ua _)) (fun b' hb'=>?_) rfl fun b' hb' hlt=>?_
  cases hb'; rw[Xq.next_kill]; exact Ua _
  rw[Xq.bq,Uk (by simp; omega),Xq.fP,Uk (fun e=>hb' (by rw[e]; rfl))]
def RH{elem ty2:WK}{w k k2 n2 c0:Nat}{a a1:WH}{es es2:WG}{ars:XD WM}{p0:Pc}(ht:SlT E.P ty elem w)(h0:∃e2,E.P.underlying ty2=some (.slice e2))(ha:jK E fs ars.toList=some [.slice a n n,.slice a1 n2 c0])(hp:pk ps k=some (.sl a w n es))(h5:pk ps k2=some p0)(hr:IsRd p0 a1 c0 w n2 es2)(h6:∀e∈es2,e.length=w)(ho:fO es2)(hl:lim (n+n2)=true) :
  Ox E m0 fs ps (.call ⟨.builtin .append,ars,#[ty,ty2]⟩) (fun a':WH=>.slice a' (n+n2) (n+n2)) (fun a'=>df ps k (.sl a' w (n+n2) (es++es2))) :=
 fun t m hf h=>⟨fun b hb=>(by simp[aU] at hb),fun K hK=>by
  obtain⟨a',m',h1,h2⟩:=mT (n:=n) ht h0 h hp (h.rd h5 hr) h6 ho hl;have:bw E.P .append #[ty,ty2] [.slice a n n,.slice a1 n2 c0] m=some (.slice a' (n+n2) (n+n2),m'):=h1;rw[Go.Ab.fG (hf.jK ha) this];exact hK a' m' h2⟩
def td{k cap:Nat}{a:WH}{ars:XD WM}{p:Pc}{elem:WK}(hu:E.P.underlying ty=some (.slice elem))(ha:jK E fs ars.toList=some [.slice a n cap])(hp:pk ps k=some p)(hb:cC a=p.rX\/a=none) :
  Od E m0 fs ps (.call ⟨.builtin .len,ars,#[ty]⟩) (.int .i64 (n:Int)) ps :=
 fun t m hf h=>⟨fun b hb'=>by
  simp only[aU,hf.jK ha] at hb';have hab:fT (.slice a n cap)=cC a:=by cases a<;>rfl
  rw[hab] at hb';exact hb.elim (fun hb=>Pc.P1 (h.get hp) (hb▸hb')) (fun hb=>by rw[hb] at hb'; exact nomatch hb'),fun K hK=>by
  have:bw E.P .len #[ty] [.slice a n cap] m=some (.int .i64 (n:Int),m):=by
   have ht:(#[ty]:XD WK)[0]? = some ty:=rfl;simp only[bw,ht,UQ,hu]
  rw[Go.Ab.fG (hf.jK ha) this]; exact hK m h⟩
def qD{n cap lo hi:Nat}(h1:lo<=hi)(h2:hi<=cap){l h:XA WJ}(hl:l=none/\lo=0\/∃k,l=some (.int k (lo:Int)))(hh:h=none/\hi=n\/∃k,h=some (.int k (hi:Int))):eT n cap l h none=some (lo,hi,cap):=by
 have hb:∀(k:IntKind) (x y:Nat),x<=y->kj (.int k (x:Int)) y=some x:=fun k x y hxy=>by
  simp only[kj]; rw[Ui ⟨by omega,by omega⟩,T5]
 rcases hl with⟨rfl,rfl⟩|⟨k1,rfl⟩<;>rcases hh with⟨rfl,rfl⟩|⟨k2,rfl⟩<;>(unfold eT; simp only[hb _ _ _ h1,hb _ _ _ h2])
def oZ.drop{b o w:Nat}{es:WG}(h:oZ m b o w es)(lo k:Nat):oZ m b (o+lo*w) w ((es.drop lo).take k):=by
 obtain⟨h1,all,tg,h2,hs,h3⟩:=h;refine⟨h1,all,tg,h2,hs,fun i e he=>?_⟩;rw[VY] at he
 split at he
 rw[Vr] at he;have:=h3 (lo+i) e he;rwa[UR,<-V9] at this
 cases he
def Hq{P:WN}{elem:WK}{cap w lo hi:Nat}{a:WH}{es:WG}{l h:XA WJ}(ht:SlT P ty elem w)(hr:Rd m a cap w n es)(h1:lo<=hi)(h2:hi<=n)(hl:l=none/\lo=0\/∃k,l=some (.int k (lo:Int)))(hh:h=none/\hi=n\/∃k,h=some (.int k (hi:Int))) :
  ∃a' cap',cP P ty (.slice a n cap) l h none m=some (.slice a' (hi-lo) cap')/\Rd m a' cap' w (hi-lo) ((es.drop lo).take (hi-lo))/\(cC a'=cC a):=by
 obtain⟨r1,r2,r4⟩:=hr;have hlen:((es.drop lo).take (hi-lo)).length=hi-lo:=by rw[U0,V6,r1]; omega
 have hb:=qD (n:=n) (cap:=cap) h1 (Ub h2 r2) hl hh;rcases r4 with⟨rfl,rfl⟩|⟨b,sp,rfl,rfl,rfl,hlt⟩|⟨b,o,rfl,hli⟩
 refine⟨none,cap-lo,?_,⟨hlen,by omega,.inl ⟨rfl,by omega⟩⟩,rfl⟩
 simp only[cP,ht.und,ht.known,if_true,hb]
 have e1:lo=0:=by omega
 have e2:hi=0:=by omega
 subst e1 e2;refine⟨some ⟨b,0,some sp⟩,0,?_,⟨hlen,Ua _,.inr (.inl ⟨b,sp,rfl,rfl,rfl,hlt⟩)⟩,rfl⟩;simp only[cP,ht.und,ht.known,if_true,hb,V8]
 ·have hli':=hli.drop lo (hi-lo);obtain⟨hlt,all,tg,hg,hs,hall⟩:=hli;have plain:(∀sz,tg≠.more sz)->∃a' cap',cP P ty (.slice (some ⟨b,o,none⟩) n cap) l h none m=some (.slice a' (hi-lo) cap')/\Rd m a' cap' w (hi-lo) ((es.drop lo).take (hi-lo))/\(cC a'=cC (some ⟨b,o,none⟩)):=by
   intro hne;have:cP P ty (.slice (some ⟨b,o,none⟩) n cap) l h none m=some (.slice (some (if cap=lo then⟨b,o,none⟩ else⟨b,o+lo*w,none⟩)) (hi-lo) (cap-lo)):=by
    cases tg with
    | more sz=>exact Uy rfl (hne sz)
    | ro=>simp only[cP,ht.und,ht.known,if_true,hg,hb,ht.size]
    | own=>simp only[cP,ht.und,ht.known,if_true,hg,hb,ht.size]
   by_cases hc:cap=lo
   rw[Ui hc] at this;have e0:hi-lo=0:=by omega
   refine⟨_,_,this,⟨hlen,by omega,.inr (.inr ⟨b,o,rfl,hlt,all,tg,hg,hs,fun i e he=>?_⟩)⟩,rfl⟩
   rw[e0,List.take_zero] at he; simp at he
   rw[Uk hc] at this;exact⟨_,_,this,⟨hlen,by omega,.inr (.inr ⟨b,_,rfl,hli'⟩)⟩,rfl⟩
  cases tg with
  | ro=>exact plain fun sz e=>(by cases e)
  | own=>exact plain fun sz e=>(by cases e)
  | more sz =>
   have hsz:=hs sz rfl;subst hsz;have hb':=qD (n:=n) (cap:=cap) h1 (Ub h2 r2) hl hh
   by_cases hc:cap=lo
   have e0:hi-lo=0:=by omega
   have e1:((es.drop lo).take (hi-lo))=[]:=by rw[e0]; rfl
   refine⟨some ⟨b,0,some 0⟩,0,?_,⟨hlen,by omega,.inr (.inl ⟨b,0,rfl,e0,rfl,hlt⟩)⟩,rfl⟩
   simp only[cP,ht.und,ht.known,if_true,hg,hb',ht.size,ne_eq,not_true_eq_false,if_false,e0,gR];rw[Ui hc]
   refine⟨some ⟨b,o+lo*sz,none⟩,cap-lo,?_,⟨hlen,by omega,.inr (.inr ⟨b,_,rfl,hli'⟩)⟩,rfl⟩
   simp only[cP,ht.und,ht.known,if_true,hg,hb',ht.size,hc,ne_eq,not_true_eq_false,if_false]
def Rz{elem:WK}{k cap w lo hi:Nat}{a:WH}{es:WG}{x:WM}{lx hx:XA WM}{l h:XA WJ}(ht:SlT E.P ty elem w)(hv:ev E fs x=some (.slice a n cap))(e1:GU E fs lx=some l)(e2:GU E fs hx=some h)(hp:pk ps k=some (.rd a cap w n es))(h1:lo<=hi)(h2:hi<=n)(hl:l=none/\lo=0\/∃k,l=some (.int k (lo:Int)))(hh:h=none/\hi=n\/∃k,h=some (.int k (hi:Int))) :
  Ox E m0 fs ps (.slice ty x lx hx none) (fun r:WH×Nat=>.slice r.1 (hi-lo) r.2) (fun r=>.rd r.1 r.2 w (hi-lo) ((es.drop lo).take (hi-lo))::ps) :=
 fun t m hf hm=>by
  obtain⟨a',cap',s1,s2,s3⟩:=Hq ht (hm.get hp) h1 h2 hl hh;refine⟨fun b hb=>?_,fun K hK=>?_⟩
  have hab:fT (.slice a n cap)=cC a:=by cases a<;>rfl
  simp only[aU,hf.ev hv,UQ,hab] at hb;exact Rd.lt (hm.get hp) hb
  rw[Go.Ab.Eh (hf.ev hv) (hf.GU e1) (hf.GU e2) rfl s1];exact hK (a',cap') m (hm.more hp rfl s2 rfl fun b hb=>by
   have:cC a'=some b:=hb;rw[s3] at this; exact this)
def xZ(ps:XB Pc):Bool:=ps.all Pc.own
def Ph{α:Type}{V:α->WJ}{N:α->XB Pc}{f:WM}{g:XI}{first cap:XD WJ}{ars:XD WM}{ts:XD WK}{args:XB WJ}(hf:ev E fs f=some (.func (.func g) first cap))(ha:jK E fs ars.toList=some args)(hc:∀m,Hp m0 m ps->ax E g (first.toList++args++cap.toList) m (fun v m'=>∃x,v=V x/\Hp m0 m' (N x))):Ox E m0 fs ps (.call ⟨.value f,ars,ts⟩) V N :=
 fun t m hfr hm=>⟨fun b hb=>(by simp[aU] at hb),fun K hK=>by
  have hev:aq E t f=some (.func (.func g) first cap):=by
   cases f with
   | tmp i=>exact hfr.ev hf
   | const c=>exact hfr.ev hf
   | global g=>exact hfr.ev hf
   | func g=>exact hfr.ev hf
  show lC E (aq E t f) (bu E t ars.toList) m _
  rw[hev,hfr.jK ha]
  show ax E g (first.toList++args++cap.toList) m K
  exact(hc m hm).mono fun v m' ⟨x,e,h⟩=>by rw[e]; exact hK x m' h⟩
def SJ{α:Type}{V:α->WJ}{N:α->XB Pc}{f:WM}{g:XI}{ars:XD WM}{ts:XD WK}{args:XB WJ}(hf:ev E fs f=some (.func (.func g) #[] #[]))(ha:jK E fs ars.toList=some args)(hc:∀m,Hp m0 m ps->ax E g args m (fun v m'=>∃x,v=V x/\Hp m m' (N x)))(ho:∀x,xZ (N x)=true):Ox E m0 fs ps (.call ⟨.value f,ars,ts⟩) V (fun x=>N x++ps) :=
 Ph hf ha fun m hm=>by
  simp only[VA,Vc];exact(hc m hm).mono fun v m' ⟨x,e,h⟩=>⟨x,e,hm.after h fun p hp=>Ux.1 (ho x) p hp⟩
end
def Ext.RD{m0 m:Xq}(h:Ext m0 m){w:Nat}(hw:min m0.wl m0.next<=w):Ext m0 (m.ww w):=⟨by rw[Xq.next_ww]; exact h.next,fun b hb=>by rw[Xq.get_ww]; exact h.same b hb,by rw[Xq.wl_ww]; exact hw⟩
def Hp.ww{m0 m:Xq}{ps:XB Pc}(h:Hp m0 m ps){w:Nat}(hw:min m0.wl m0.next<=w):Hp m0 (m.ww w) ps :=
 ⟨Ext.RD h.ext hw,fun p hp=>Pc.iA (h.ok p hp) (by rw[Xq.next_ww]; exact Ua _) (fun b _ _=>by rw[Xq.get_ww]),h.apart⟩
section
variable{E:Env}{n:Nat}{m0:Xq}{fs:Fs}{ps ps':XB Pc}{ops:XD Oper}{os:XB Oper}{K:Tm->Xq->Prop}{dr:Bool}
def Wo(dr:Bool)(E:Env)(n:Nat)(ops:XD Oper)(K:Tm->Xq->Prop)(os:XB Oper)(m0:Xq)(fs:Fs)(ps:XB Pc):Prop :=
 match dr with
 | false=>∀t m,Fr t fs->Hp m0 m ps->qn E n ops K os t m
 | true=>∀t m w,Fr t fs->Hp m0 m ps->min m0.wl m0.next<=w->iB E n ops K os t m w
variable{ty:WK}{p:String}{af:XD Edge}{d:Nat}{o:Op}{g:XA (Nat×Bool)}{v:WJ}
def sT(ops:XD Oper)(fs:Fs)(g:XA (Nat×Bool))(b:Bool):Prop:=∀t d o ty p af,Fr t fs->aX ops ⟨d,o,ty,p,af,g⟩ t=b
def gn:sT ops fs none true:=fun _ _ _ _ _ _ _=>rfl
def gg{j d:Nat}{b c r:Bool}(hd:(ops[j]?).bind (·.dst)=some d)(h:lk fs d=some (.bool c))(hr:(c==b)=r):sT ops fs (some (j,b)) r:=fun t d' o ty p af hf=>by
 rw[<-hr]; exact S6 hd (hf d _ h)
def Wo.x{α:Type}{V:α->WJ}{N:α->XB Pc}(h:Ox E m0 fs ps o V N)(hg:sT ops fs g true)(hd:Nat.blt d n=true)(k:∀x,Wo dr E n ops K os m0 ((d,V x)::fs) (N x)):Wo dr E n ops K (⟨some d,o,ty,p,af,g⟩::os) m0 fs ps:=by
 have hd':d<n:=by rwa[VS] at hd
 cases dr with
 | false =>
  intro t m hf hm;simp only[qn,hg t _ _ _ _ _ hf,if_true];refine(h t m hf hm).2 _ fun x m' hm'=>?_;rw[cK,Ui hd'];exact k x _ m' hf.set hm'
 | true =>
  intro t m w hf hm hw;simp only[iB,hg t _ _ _ _ _ hf,if_true];have hx:=hm.ext.next
  have hm':Hp m0 (m.ww m.next) ps:=hm.ww (by omega)
  refine⟨fun b hb=>?_,?_⟩
  have:=(h t _ hf hm').1 b hb;rwa[Xq.next_ww] at this
  refine(h t _ hf hm').2 _ fun x m' hm''=>?_;rw[cK,Ui hd'];have:=hm''.ext.wl;exact k x _ m' _ hf.set hm'' (by omega)
def Wo.x0{α:Type}{V:α->WJ}{N:α->XB Pc}(h:Ox E m0 fs ps o V N)(hg:sT ops fs g true)(k:∀x,Wo dr E n ops K os m0 fs (N x)):Wo dr E n ops K (⟨none,o,ty,p,af,g⟩::os) m0 fs ps:=by
 cases dr with
 | false =>
  intro t m hf hm;simp only[qn,hg t _ _ _ _ _ hf,if_true];refine(h t m hf hm).2 _ fun x m' hm'=>?_;exact k x _ m' hf hm'
 | true =>
  intro t m w hf hm hw;simp only[iB,hg t _ _ _ _ _ hf,if_true];have hx:=hm.ext.next
  have hm':Hp m0 (m.ww m.next) ps:=hm.ww (by omega)
  refine⟨fun b hb=>?_,?_⟩
  have:=(h t _ hf hm').1 b hb;rwa[Xq.next_ww] at this
  refine(h t _ hf hm').2 _ fun x m' hm''=>?_;have:=hm''.ext.wl;exact k x _ m' _ hf hm'' (by omega)
def Od.x(h:Od E m0 fs ps o v ps'):Ox E m0 fs ps o (fun _:XC=>v) (fun _=>ps'):=fun t m hf hm=>⟨(h t m hf hm).1,fun K hK=>(h t m hf hm).2 K fun m' hm'=>hK () m' hm'⟩
def Wo.od(h:Od E m0 fs ps o v ps')(hd:Nat.blt d n=true)(k:Wo dr E n ops K os m0 ((d,v)::fs) ps'):Wo dr E n ops K (⟨some d,o,ty,p,af,none⟩::os) m0 fs ps:=Wo.x h.x gn hd fun _=>k
def Wo.o0(h:Od E m0 fs ps o v ps')(k:Wo dr E n ops K os m0 fs ps'):Wo dr E n ops K (⟨none,o,ty,p,af,none⟩::os) m0 fs ps:=Wo.x0 h.x gn fun _=>k
def Wo.og(h:Od E m0 fs ps o v ps')(hg:sT ops fs g true)(hd:Nat.blt d n=true)(k:Wo dr E n ops K os m0 ((d,v)::fs) ps'):Wo dr E n ops K (⟨some d,o,ty,p,af,g⟩::os) m0 fs ps:=Wo.x h.x hg hd fun _=>k
def Wo.s(hg:sT ops fs g false)(hd:Nat.blt d n=true)(k:Wo dr E n ops K os m0 ((d,undef)::fs) ps):Wo dr E n ops K (⟨some d,o,ty,p,af,g⟩::os) m0 fs ps:=by
 have hd':d<n:=by rwa[VS] at hd
 cases dr with
 | false =>
  intro t m hf hm;simp only[qn,hg t _ _ _ _ _ hf,Uu,if_false];rw[cK,Ui hd'];exact k _ m hf.set hm
 | true =>
  intro t m w hf hm hw;simp only[iB,hg t _ _ _ _ _ hf,Uu,if_false];rw[cK,Ui hd'];exact k _ m w hf.set hm hw
def ai(m0:Xq)(ps:XB Pc)(qs:XB Pc):Prop:=∀m,Hp m0 m ps->Hp m0 m qs
def Wo.bT(h:ai m0 ps ps')(k:Wo dr E n ops K os m0 fs ps'):Wo dr E n ops K os m0 fs ps:=by
 cases dr with
 | false=>exact fun t m hf hm=>k t m hf (h m hm)
 | true=>exact fun t m w hf hm hw=>k t m w hf (h m hm) hw
def Wo.open{k w l:Nat}{a:WH}{es:WG}(hp:pk ps k=some (.sl a w l es))(hl:0<l)(h:∀b tg,a=some ⟨b,0,none⟩->AK tg=true->Wo dr E n ops K os m0 fs (df ps k (.arr b w l es tg))):Wo dr E n ops K os m0 fs ps:=by
 have key:∀m,Hp m0 m ps->∃b tg,a=some ⟨b,0,none⟩/\AK tg=true/\Hp m0 m (df ps k (.arr b w l es tg)):=by
  intro m hm;have h0:=hm.get hp;rcases h0 with⟨h1,_⟩|⟨b,tg,rfl,h1⟩
  omega
  refine⟨b,tg,rfl,by rcases h1.2.2.2.2.2.1 with rfl|rfl<;>rfl,hm.put hp rfl rfl rfl (Ua _) hm.ext h1 fun _ _ _=>rfl⟩
 cases dr with
 | false=>intro t m hf hm; obtain⟨b,tg,h1,h2,h3⟩:=key m hm; exact h b tg h1 h2 t m hf h3
 | true=>intro t m w' hf hm hw; obtain⟨b,tg,h1,h2,h3⟩:=key m hm; exact h b tg h1 h2 t m w' hf h3 hw
def Wo.bp{k w l cap:Nat}{a:WH}{es:WG}(hp:pk ps k=some (.rd a cap w l es))(hl:0<l)(h:∀b o,a=some ⟨b,o,none⟩->Wo dr E n ops K os m0 fs (.ro b o w l es::ps)):Wo dr E n ops K os m0 fs ps:=by
 have key:∀m,Hp m0 m ps->∃b o,a=some ⟨b,o,none⟩/\Hp m0 m (.ro b o w l es::ps):=by
  intro m hm;obtain⟨h1,h2,h3⟩:=hm.get hp;rcases h3 with⟨_,h3⟩|⟨_,_,_,h3,_⟩|⟨b,o,rfl,h3⟩
  omega
  omega
  exact⟨b,o,rfl,hm.more hp rfl ⟨h1,h3⟩ rfl fun b' hb=>hb⟩
 cases dr with
 | false=>intro t m hf hm; obtain⟨b,o,h1,h3⟩:=key m hm; exact h b o h1 t m hf h3
 | true=>intro t m w' hf hm hw; obtain⟨b,o,h1,h3⟩:=key m hm; exact h b o h1 t m w' hf h3 hw
def ai.trans{ps'':XB Pc}(h:ai m0 ps ps')(h':ai m0 ps' ps''):ai m0 ps ps'':=fun m hm=>h' m (h m hm)
def ai.an(ks:XB Nat)(hnd:lV ks=true)(e:W.an ps ks=some ps'):ai m0 ps ps':=fun _ h=>h.an ks hnd e
def ai.close{k b w l:Nat}{es:WG}{tg:Tag}(hp:pk ps k=some (.arr b w l es tg)):ai m0 ps (df ps k (.sl (some ⟨b,0,none⟩) w l es)):=fun _ h =>
 h.put hp rfl rfl rfl (Ua _) h.ext (.inr ⟨b,tg,rfl,h.get hp⟩) fun _ _ _=>rfl
def ai.nil(w:Nat)(hw:Nat.blt 0 w=true):ai m0 ps (.sl none w 0 []::ps):=fun m h =>
 h.cons (Ua _) h.ext (fun _ _=>rfl) (.inl ⟨rfl,rfl,rfl,by rwa[VS] at hw⟩) fun b hb=>(by cases hb)
def vc{ps:XB Pc}{k:Nat}{p p':Pc}(hk:pk ps k=some p)(ho:p'.own=false)(hb:∀b,p'.rX=some b->p.rX=some b/\p.own=true)(h:ps.Pairwise Pc.apart)(hng:∀b,¬p'.Gw b:=by exact fun _ h=>h):(df ps k p').Pairwise Pc.apart :=
 iO hk (fun r _ ha=>⟨fun b a c=>a.elim (fun a=>by rw[ho] at a; cases a.1) fun a=>hng b (by cases p' with|gen g=>exact .inl a|_=>exact a),fun b a c=>ha.2 b a (c.elim (fun c=>.inl (hb b c).1) fun c=>Uy c (hng b))⟩) h
def ai.freeze{k w l:Nat}{a:WH}{es:WG}(hp:pk ps k=some (.sl a w l es)):ai m0 ps (df ps k (.rd a l w l es)):=fun m h =>
 ⟨h.ext,fun q hq=>by
  rcases Bj hp h.apart hq with rfl|⟨h1,_⟩
  exact Pc.PG (h.get hp) (.sl a w l es)
  exact h.ok q h1,vc hp rfl (fun b hb=>⟨hb,rfl⟩) h.apart⟩
variable{fn:XI}{ro:XA Nat}{Q:Xr->Tm->Xq->Prop}
def Wk(E:Env)(n:Nat)(fn:XI)(ro:XA Nat)(c:Code)(Q:Xr->Tm->Xq->Prop)(m0:Xq)(fs:Fs)(ps:XB Pc):Prop:=∀t m,Fr t fs->Hp m0 m ps->bD E n fn ro c Q t m
def At(Q:Xr->Tm->Xq->Prop)(e:Xr)(m0:Xq)(fs:Fs)(ps:XB Pc):Prop:=∀t m,Fr t fs->Hp m0 m ps->Q e t m
variable{a b c:Code}{id id':Nat}
def Wk.seq(h:Wk E n fn ro a (mg (bD E n fn ro b Q) Q) m0 fs ps):Wk E n fn ro (.seq a b) Q m0 fs ps:=fun t m hf hm=>.seq (h t m hf hm)
def Wk.skip(h:At Q .normal m0 fs ps):Wk E n fn ro .skip Q m0 fs ps:=fun t m hf hm=>.skip (h t m hf hm)
def Wk.exit(h:At Q (.exit id) m0 fs ps):Wk E n fn ro (.exit id) Q m0 fs ps:=fun t m hf hm=>.exit (h t m hf hm)
def Wk.ret(h:At Q .ret m0 fs ps):Wk E n fn ro .ret Q m0 fs ps:=fun t m hf hm=>.ret (h t m hf hm)
def Wk.cond{x:WM}{r:Bool}(hx:ev E fs x=some (.bool r))(ht:r=true->Wk E n fn ro a Q m0 fs ps)(hf:r=false->Wk E n fn ro b Q m0 fs ps):Wk E n fn ro (.cond x a b) Q m0 fs ps:=fun t m hfr hm=>.cond (hfr.ev hx) (fun h=>ht h t m hfr hm) (fun h=>hf h t m hfr hm)
def Wk.fW{x:WM}{r:Bool}(hx:ev E fs x=some (.bool r))(hr:r=true)(ht:Wk E n fn ro a Q m0 fs ps):Wk E n fn ro (.cond x a b) Q m0 fs ps:=.cond hx (fun _=>ht) (fun h=>by rw[hr] at h; cases h)
def Wk.lN{x:WM}{r:Bool}(hx:ev E fs x=some (.bool r))(hr:r=false)(ht:Wk E n fn ro b Q m0 fs ps):Wk E n fn ro (.cond x a b) Q m0 fs ps:=.cond hx (fun h=>by rw[hr] at h; cases h) (fun _=>ht)
def Wk.block(h:Wk E n fn ro a (ee id Q) m0 fs ps):Wk E n fn ro (.block id a) Q m0 fs ps:=fun t m hf hm=>.block (h t m hf hm)
def Wk.scope(h:Wk E n fn ro a Q m0 fs ps):Wk E n fn ro (.scope a) Q m0 fs ps:=fun t m hf hm=>.scope (h t m hf hm)
def Wk.region(h:Wo false E n ops (Q .normal) ops.toList m0 fs ps):Wk E n fn ro (.region id ops false) Q m0 fs ps:=fun t m hf hm=>.L1 (h t m hf hm)
def Dj{t:Tm}{m:Xq}{o:Op}{K K':WJ->Xq->Prop}(h:bA E t m o K)(hk:∀v m',K v m'->K' v m'):bA E t m o K':=by
 unfold bA at h ⊢;cases hc:yj o with
 | some p =>
  obtain⟨f,ars⟩:=p;rw[hc] at h;simp only at h ⊢;cases hf:aq E t f with
  | none=>rw[hf] at h; exact h.elim
  | some v =>
   cases ha:bu E t ars with
   | none=>rw[hf,ha] at h; unfold lC at h; split at h<;>first |(rename_i h1 h2; cases h2)|exact h.elim
   | some vs =>
    rw[hf,ha] at h;unfold lC at h ⊢
    split at h
    rename_i h1 h2;cases h1; cases h2;exact h.mono hk
    rename_i h1 h2;cases h1; cases h2;obtain⟨v,m',h5,hv⟩:=h;exact⟨v,m',h5,hk v m' hv⟩
    exact h.elim
 | none =>
  rw[hc] at h;simp only at h ⊢;cases he:cQ E t m o with
  | none=>rw[he] at h; exact h.elim
  | some r=>rw[he] at h; exact hk r.1 r.2 h
def CI{K K':Tm->Xq->Prop}(hK:∀t m,K t m->K' t m):∀(os:XB Oper) (t:Tm) (m:Xq) (w:Nat),iB E n ops K os t m w->iB E n ops K' os t m w:=by
 intro os
 induction os with
 | nil=>intro t m w hk; exact hK _ _ hk
 | cons o os ih =>
  intro t m w hk;simp only[iB] at hk ⊢
  split at hk
  rename_i hw;rw[Ui hw];refine⟨hk.1,Dj hk.2 fun v m' hv=>?_⟩;obtain⟨t',e,h4⟩:=hv.A
  show Ho (gz n t o.dst v) fun t'=>iB E n ops K' os t' m' (min w m'.wl)
  rw[e]; exact ih _ _ _ h4
  rename_i hw;rw[Uk hw];obtain⟨t',e,h4⟩:=hk.A;rw[e]; exact ih _ _ _ h4
def Wk.draw(hp:jB ops=some [])(h:Wo true E n ops (Q .normal) ops.toList m0 fs ps):Wk E n fn ro (.region id ops true) Q m0 fs ps:=fun t m hf hm=>.Qr hp fun K hK=>by
 exact CI hK _ _ _ _ (h t m m.wl hf hm hm.ext.wl)
def Wo.nil(h:At Q .normal m0 fs ps):Wo dr E n ops (Q .normal) [] m0 fs ps:=by
 cases dr with
 | false=>exact fun t m hf hm=>h t m hf hm
 | true=>exact fun t m w hf hm hw=>h t _ hf (hm.ww hw)
def At.tn(h:Wk E n fn ro b Q m0 fs ps):At (mg (bD E n fn ro b Q) Q) .normal m0 fs ps:=h
def At.te{K:Tm->Xq->Prop}(h:At Q (.exit id) m0 fs ps):At (mg K Q) (.exit id) m0 fs ps:=h
def At.tr{K:Tm->Xq->Prop}(h:At Q .ret m0 fs ps):At (mg K Q) .ret m0 fs ps:=h
def At.bn(h:At Q .normal m0 fs ps):At (ee id Q) .normal m0 fs ps:=h
def At.be(h:At Q .normal m0 fs ps):At (ee id Q) (.exit id) m0 fs ps:=fun t m hf hm=>by rw[EA,Ui rfl]; exact h t m hf hm
def At.bx(hne:Nat.beq id' id=false)(h:At Q (.exit id') m0 fs ps):At (ee id Q) (.exit id') m0 fs ps:=fun t m hf hm=>by rw[EA,Uk (VM hne)]; exact h t m hf hm
def At.br(h:At Q .ret m0 fs ps):At (ee id Q) .ret m0 fs ps:=h
def At.bT{e:Xr}(h:ai m0 ps ps')(k:At Q e m0 fs ps'):At Q e m0 fs ps:=fun t m hf hm=>k t m hf (h m hm)
def Wk.bT(h:ai m0 ps ps')(k:Wk E n fn ro c Q m0 fs ps'):Wk E n fn ro c Q m0 fs ps:=fun t m hf hm=>k t m hf (h m hm)
def Wk.Jd{fs':Fs}(hs:sub fs fs')(h:ai m0 ps ps')(k:Wk E n fn ro c Q m0 fs' ps'):Wk E n fn ro c Q m0 fs ps:=fun t m hf hm=>k t m (hf.sub hs) (h m hm)
structure En where
 e:Xr
 fs:Fs
 ps:XB Pc
def nZ(m0:Xq){γ:Type}(G:γ->En)(e:Xr)(t:Tm)(m:Xq):Prop:=∃g,e=(G g).e/\Fr t (G g).fs/\Hp m0 m (G g).ps
def At.en{γ:Type}{G:γ->En}{e:Xr}(g:γ)(he:e=(G g).e)(hs:sub fs (G g).fs)(ht:ai m0 ps (G g).ps):At (nZ m0 G) e m0 fs ps:=fun _ m hf hm=>⟨g,he,hf.sub hs,ht m hm⟩
def Wk.cut{γ:Type}{G:γ->En}(h:Wk E n fn ro c (nZ m0 G) m0 fs ps)(k:∀g,At Q (G g).e m0 (G g).fs (G g).ps):Wk E n fn ro c Q m0 fs ps:=fun t m hf hm =>
 (h t m hf hm).mono fun e t' m' ⟨g,h1,h2,h3⟩=>by rw[h1]; exact k g t' m' h2 h3
def bN{σ ρ:Type}(body:σ->XA (σ⊕ρ)):Nat->σ->XA ρ
 | 0,_=>none
 | k+1,s=>match body s with
  | some (.inl s')=>bN body k s'
  | some (.inr r)=>some r
  | none=>none
def Wk.loop{σ ρ γ:Type}{δ:ρ->Type}(body:σ->XA (σ⊕ρ))(I:σ->γ->En)(X:(r:ρ)->δ r->En)
  (hb:∀s g r,body s=some r->Wk E n fn ro c (match r with|.inl s'=>nZ m0 (I s')|.inr r=>nZ m0 (X r)) m0 (I s g).fs (I s g).ps)
  (hn:∀s g,(I s g).e=.normal) (hx:∀r g,(X r g).e≠.normal) :
  ∀(N:Nat) (s:σ) (r:ρ),bN body N s=some r->∀g,Wk E n fn ro (.loop c) (nZ m0 (X r)) m0 (I s g).fs (I s g).ps:=by
 intro N
 induction N with
 | zero=>intro s r h; cases h
 | succ N ih =>
  intro s r h g t m hf hm;refine .loop (.round ?_);simp only[bN] at h
  split at h
  ·rename_i s' hs;refine(hb s g _ hs t m hf hm).mono fun e t' m' ⟨g',h1,h2,h3⟩=>?_;rw[h1,hn];have:=ih s' r h g' t' m' h2 h3;obtain⟨e2,t2,m2,⟨k2,hk2⟩,q2⟩:=this;cases k2 with
   | zero=>cases hk2
   | succ k2=>exact⟨e2,t2,m2,⟨k2,hk2⟩,q2⟩
  ·rename_i r' hs;simp only[Option.some.injEq] at h;subst h;refine(hb s g _ hs t m hf hm).mono fun e t' m' ⟨g',h1,h2,h3⟩=>?_;have hq:nZ m0 (X r') e t' m':=⟨g',h1,h2,h3⟩;cases he:e with
   | normal=>rw[h1] at he; exact Uy he (hx _ _)
   | exit id=>rw[he] at hq; exact hq
   | ret=>rw[he] at hq; exact hq
  cases h
def wG:XB WJ->Nat->Fs->Fs
 | [],_,fs=>fs
 | v::vs,i,fs=>wG vs (i+1) ((i,v)::fs)
def Fr.args:∀(vs:XB WJ) (i:Nat) (fs:Fs) (t:Tm),Fr t fs->Fr (Trie.ofList vs i t) (wG vs i fs)
 | [],_,_,_,h=>h
 | _::vs,i,_,_,h=>Fr.args vs (i+1) _ _ h.set
def fX{f:XI}{F:Func}{c:Code}{args:XB WJ}{rs:XB ResultVar}{N:Nat}{R:WJ->Xq->Prop}(hp:E.cT f=none)(hf:E.P.funcs[f]? = some F)(hb:F.body=some c)(hrs:F.results.toList=rs)(hN:max args.length F.ntmps=N)
  {m:Xq} (hm:Hp m0 m ps) (h:Wk E N f none c (lB E rs R) m0 (wG args 0 []) ps):ax E f args m R :=
 ax.Ow hp hf hb hrs hN (h _ m (Fr.args args 0 [] _ (Fr.nil _)) hm)
def Hp.start(m:Xq):Hp m m []:=⟨.refl m,fun p h=>(by cases h),.nil⟩
inductive Res1(E:Env)(fs:Fs)(ps:XB Pc):XB ResultVar->XB WJ->Prop
 | nil:Res1 E fs ps [] []
 | tmp {i:Nat} {v:WJ} {rs:XB ResultVar} {vs:XB WJ} (h:lk fs i=some v) (k:Res1 E fs ps rs vs):Res1 E fs ps (.tmp i::rs) (v::vs)
 | cell {i k b o sz:Nat} {ty:WK} {v:WJ} {rs:XB ResultVar} {vs:XB WJ} {cs:XB WJ} {tg:Tag} {ag:Bool} (ht:TyI E.P ty ag sz) (h:lk fs i=some (ptr b o)) (hp:pk ps k=some (.obj b (.cells cs tg))) (hv:AP ag sz cs o=some v) (k:Res1 E fs ps rs vs):Res1 E fs ps (.cell i ty::rs) (v::vs)
def Res1.ok{fs:Fs}{ps:XB Pc}{t:Tm}{m:Xq}(hf:Fr t fs)(hm:Hp m0 m ps):∀{rs:XB ResultVar} {vs:XB WJ},Res1 E fs ps rs vs->bZ E t m rs=some vs:=by
 intro rs vs h
 induction h with
 | nil=>rfl
 | tmp h _ ih=>simp only[bZ,ih,hf _ _ h,Uh]
 | cell ht h hp hv _ ih=>simp only[bZ,hf _ _ h,xc ht (hm.get hp).2.2 hv,ih]
def At.ret{rs:XB ResultVar}{vs:XB WJ}{R:WJ->Xq->Prop}(h:Res1 E fs ps rs vs)(k:∀m,Hp m0 m ps->R (fw vs) m):At (lB E rs R) .ret m0 fs ps:=fun t m hf hm=>by
 rw[IE,h.ok hf hm]; exact k m hm
def At.fin{rs:XB ResultVar}{vs:XB WJ}{R:WJ->Xq->Prop}(h:Res1 E fs ps rs vs)(k:∀m,Hp m0 m ps->R (fw vs) m):At (lB E rs R) .normal m0 fs ps:=fun t m hf hm=>by
 rw[wW,h.ok hf hm]; exact k m hm
end
end Go.Ab.W
section
open Go Go.Ab Go.Ab.W
abbrev W9:=@Wo.x
abbrev WW:=@Wo.od
abbrev Xi:=@Wo.o0
abbrev Xj:=@Wo.og
abbrev Xe:=@Wo.bT
abbrev Xg:=@Wo.open
abbrev Xc:=@Wo.bp
abbrev WX:=@Wk.seq
abbrev W0:=@Wk.block
abbrev WZ:=@Wk.region
abbrev W7:=@Wo.nil
abbrev W5:=@At.tn
abbrev W3:=@Hp.start
abbrev W2:=@At.ret
end
end
section
namespace Go.Ab.W
open Go Go.Ab
def ob{α β:Type}(o:XA α)(f:α->XA β):XA β :=
 match o with
 | some x=>f x
 | none=>none
def gd{β:Type}(b:Bool)(k:XA β):XA β :=
 match b with
 | true=>k
 | false=>none
def br{β:Type}(b:Bool)(k l:XA β):XA β :=
 match b with
 | true=>k
 | false=>l
section
variable{α β:Type}
def aa{o:XA α}{f:α->XA β}{r:β}(h:ob o f=some r):∃x,o=some x/\f x=some r:=by
 cases o with
 | none=>cases h
 | some x=>exact⟨x,rfl,h⟩
def aD{b:Bool}{k:XA β}{r:β}(h:gd b k=some r):b=true/\k=some r:=by
 cases b with
 | false=>cases h
 | true=>exact⟨rfl,h⟩
def ah{b:Bool}{k l:XA β}{r:β}(h:br b k l=some r):(b=true/\k=some r)\/(b=false/\l=some r):=by
 cases b with
 | false=>exact .inr ⟨rfl,h⟩
 | true=>exact .inl ⟨rfl,h⟩
def bB(i:Int)(n:Nat):Bool:=decide (0<=i/\i.toNat<n)
def j9{i:Int}{n:Nat}(h:bB i n=true):0<=i/\i.toNat<n:=of_decide_eq_true h
def eH{f:α->β}{xs:XB α}{i:Nat}{x:α}(h:xs[i]? = some x):(xs.map f)[i]? = some (f x):=by
 rw[UN,h]; rfl
def aG{i:Int}{n:Nat}(h:0<=i/\i.toNat<n):0<n:=by omega
def okB(lo hi:Int)(n:Nat):Bool:=decide (0<=lo/\lo<=hi/\hi<=(n:Int))
def Bc{lo hi:Int}{n:Nat}(h:okB lo hi n=true):0<=lo/\lo<=hi/\hi<=(n:Int):=of_decide_eq_true h
end
def eI(k:IntKind)(x:Int):XB WJ:=[.int k x]
def eN(k:IntKind)(x:Nat):XB WJ:=[.int k (x:Int)]
def eB(b:Bool):XB WJ:=[.bool b]
def eP{α β:Type}(f:α->XB WJ)(g:β->XB WJ)(p:α×β):XB WJ:=f p.1++g p.2
structure Enc{α:Type}(f:α->XB WJ)(w:Nat):Prop where
 len:∀x,(f x).length=w
 one:∀x,(f x).all lD=true
def MY(k:IntKind):Enc (eI k) 1:=⟨fun _=>rfl,fun _=>rfl⟩
def cl(k:IntKind):Enc (eN k) 1:=⟨fun _=>rfl,fun _=>rfl⟩
def rN:Enc eB 1:=⟨fun _=>rfl,fun _=>rfl⟩
def cL{α β:Type}{f:α->XB WJ}{g:β->XB WJ}{w v:Nat}(h:Enc f w)(h':Enc g v):Enc (eP f g) (w+v) :=
 ⟨fun x=>by simp[eP,h.len,h'.len],fun x=>by simp only[eP,List.all_append,h.one,h'.one,Vf]⟩
def Enc.rK{α:Type}{f:α->XB WJ}{w:Nat}(h:Enc f w)(xs:XB α):∀e∈xs.map f,e.length=w:=fun e he=>by
 obtain⟨x,_,rfl⟩:=Wa.1 he; exact h.len x
def Enc.fO{α:Type}{f:α->XB WJ}{w:Nat}(h:Enc f w)(xs:XB α):W.fO (xs.map f):=B8 h.one xs
def Mj{α:Type}{f:α->XB WJ}{xs:XB α}{i:Nat}{x:α}:(xs.map f).set i (f x)=(xs.set i x).map f:=(List.map_set).symm
def Mu{α:Type}{f:α->XB WJ}{xs:XB α}{i k:Nat}:((xs.map f).drop i).take k=((xs.drop i).take k).map f:=by rw[<-List.map_drop,<-List.map_take]
def KK{α:Type}{f:α->XB WJ}{n:Nat}{x:α}:List.replicate n (f x)=(List.replicate n x).map f:=by simp
def uM(k:IntKind):Nat:=2 ^ k.bits
def uw(k:IntKind)(n:Nat):Nat:=n%uM k
def ui(k:IntKind)(i:Int):Nat:=(i%(uM k:Int)).toNat
def jj(k:IntKind)(a b:Nat):Nat:=uw k (a+(uM k-uw k b))
def L9(k:IntKind)(a:Nat):Nat:=uw k (uM k-uw k a)
def gk(k:IntKind)(a b:Nat):Nat:=uw k (a*2 ^ (min b k.bits))
def dh(k:IntKind)(a b:Nat):Nat:=a/2 ^ (min b k.bits)
def Dh(k:IntKind)(a:Int)(b:Nat):Int:=k.wrap (a*2 ^ (min b k.bits))
def HO(k:IntKind)(a:Int)(b:Nat):Int:=a.fdiv (2 ^ (min b k.bits))
def mi{α:Type}[LT α][DecidableRel (α:=α) (· < ·)](a b:α):α:=if b<a then b else a
def H8(k:IntKind):0<uM k:=Nat.two_pow_pos _
def RM(k:IntKind)(n:Nat):uw k n<uM k:=UX _ (H8 k)
def sR{k:IntKind}(h:k.signed=false)(n:Int):k.wrap n=((ui k n:Nat):Int):=by
 have h0:(0:Int)<=n%(uM k:Int):=Int.emod_nonneg _ (by have:=H8 k; omega)
 simp only[IntKind.wrap,h,Bool.false_and,Uu,if_false,ui];rw[Vd h0];simp[uM]
def Dx(k:IntKind)(n:Nat):ui k (n:Int)=uw k n:=by
 unfold ui uw;rw[<-Int.natCast_emod,T5]
def iX{k:IntKind}(h:k.signed=false)(n:Nat):k.wrap (n:Int)=((uw k n:Nat):Int):=by rw[sR h,Dx]
section
variable{k kd:IntKind}{ty:WK}{P:WN}
def Dn(h:k.signed=false)(a b:Nat):bf .add ty P (.int k (a:Int)) (.int k (b:Int))=some (.int k ((uw k (a+b):Nat):Int)):=by
 rw[dv,<-Int.natCast_add,iX h]
def eJ(h:k.signed=false)(a b:Nat):bf .mul ty P (.int k (a:Int)) (.int k (b:Int))=some (.int k ((uw k (a*b):Nat):Int)):=by
 rw[mY,<-VW,iX h]
def yk(h:k.signed=false)(a b:Nat):bf .sub ty P (.int k (a:Int)) (.int k (b:Int))=some (.int k ((jj k a b:Nat):Int)):=by
 rw[jl,sR h];have hlt:=RM k b;have e:((a:Int)-(b:Int))%(uM k:Int)=(((a+(uM k-uw k b)):Nat):Int)%(uM k:Int):=by
  have h1:(b:Int)=(uM k:Int)*((b/uM k:Nat):Int)+((uw k b:Nat):Int):=by
   have:=Vz b (uM k);unfold uw;rw[<-VW,<-Int.natCast_add]; exact VB Int.ofNat this.symm
  have h2:(((a+(uM k-uw k b)):Nat):Int)=((a:Int)-(b:Int))+(uM k:Int)*(1+((b/uM k:Nat):Int)):=by
   rw[Int.natCast_add,Int.natCast_sub (VN hlt),Int.mul_add]; omega
  rw[h2,Int.add_mul_emod_self_left]
 have e2:ui k ((a:Int)-(b:Int))=jj k a b:=by
  unfold ui;rw[e,<-Int.natCast_emod,T5]; rfl
 rw[e2]
def lR(h:k.signed=false)(a b:Nat)(hb:(0<b)):bf .quo ty P (.int k (a:Int)) (.int k (b:Int))=some (.int k ((uw k (a/b):Nat):Int)):=by
 rw[Ft _ _ _ (by omega),Int.tdiv_eq_ediv_of_nonneg (Vi _),<-Int.natCast_ediv,iX h]
def kX(a b:Nat)(hb:0<b):bf .rem ty P (.int k (a:Int)) (.int k (b:Int))=some (.int k ((a%b:Nat):Int)):=by
 rw[Ff _ _ _ (by omega),Int.tmod_eq_emod_of_nonneg (Vi _),<-Int.natCast_emod]
def jP(k:IntKind)(a:Nat):(BitVec.ofInt k.bits (a:Int)).toNat=uw k a:=by simp[uw,uM]
def H0(h:k.signed=false)(a b:Nat):bf .and ty P (.int k (a:Int)) (.int k (b:Int))=some (.int k ((uw k (uw k a &&& uw k b):Nat):Int)):=by
 simp only[bf,if_true]; rw[BitVec.toNat_and,jP,jP,iX h]
def EY(h:k.signed=false)(a b:Nat):bf .or ty P (.int k (a:Int)) (.int k (b:Int))=some (.int k ((uw k (uw k a ||| uw k b):Nat):Int)):=by
 simp only[bf,if_true]; rw[BitVec.toNat_or,jP,jP,iX h]
def IL(h:k.signed=false)(a b:Nat):bf .xor ty P (.int k (a:Int)) (.int k (b:Int))=some (.int k ((uw k (uw k a ^^^ uw k b):Nat):Int)):=by
 simp only[bf,if_true]; rw[BitVec.toNat_xor,jP,jP,iX h]
def On(a b:Nat):bf .lss ty P (.int k (a:Int)) (.int k (b:Int))=some (.bool (decide (a<b))):=by rw[ga]; congr 2; exact decide_eq_decide.2 Int.ofNat_lt
def OV(a b:Nat):bf .leq ty P (.int k (a:Int)) (.int k (b:Int))=some (.bool (decide (a<=b))):=by rw[rJ]; congr 2; exact decide_eq_decide.2 Int.ofNat_le
def Oj(a b:Nat):bf .gtr ty P (.int k (a:Int)) (.int k (b:Int))=some (.bool (decide (b<a))):=by rw[zd]; congr 2; exact decide_eq_decide.2 Int.ofNat_lt
def Pt(a b:Nat):bf .geq ty P (.int k (a:Int)) (.int k (b:Int))=some (.bool (decide (b<=a))):=by rw[yo]; congr 2; exact decide_eq_decide.2 Int.ofNat_le
def OC(a b:Nat):bf .eql ty P (.int k (a:Int)) (.int k (b:Int))=some (.bool (decide (a=b))):=by rw[pf]; congr 2; exact decide_eq_decide.2 Int.ofNat_inj
def NV(a b:Nat):bf .neq ty P (.int k (a:Int)) (.int k (b:Int))=some (.bool (!decide (a=b))):=by
 rw[Dz]; congr 2
 by_cases h:a=b
 simp[h]
 have:¬((a:Int)=(b:Int)):=by omega
 simp[h,this]
def yy(a b:Int):bf .neq ty P (.int k a) (.int k b)=some (.bool (!decide (a=b))):=by
 rw[Dz]; congr 2; by_cases h:a=b<;>simp[h]
def qJ(h:k.signed=false)(a:Nat)(b:Int)(hb:decide (0<=b)=true):bf .shl ty P (.int k (a:Int)) (.int kd b)=some (.int k ((gk k a b.toNat:Nat):Int)):=by
 have h0:¬(b<0):=by have:=of_decide_eq_true hb; omega
 simp only[bf,Uk h0];have h2:((a:Int)*2 ^ (min b.toNat k.bits))=((a*2 ^ (min b.toNat k.bits):Nat):Int):=by simp
 rw[h2,iX h]; rfl
def gb(a:Nat)(b:Int)(hb:decide (0<=b)=true):bf .shr ty P (.int k (a:Int)) (.int kd b)=some (.int k ((dh k a b.toNat:Nat):Int)):=by
 have h0:¬(b<0):=by have:=of_decide_eq_true hb; omega
 simp only[bf,Uk h0,dh]
 congr 2
 have h2:((2:Int) ^ (min b.toNat k.bits))=((2 ^ (min b.toNat k.bits):Nat):Int):=by simp
 rw[h2,Int.fdiv_eq_ediv_of_nonneg _ (Vi _)];exact(Int.natCast_ediv a _).symm
def OT(a:Int)(b:Int)(hb:decide (0<=b)=true):bf .shl ty P (.int k a) (.int kd b)=some (.int k (Dh k a b.toNat)):=by
 have h0:¬(b<0):=by have:=of_decide_eq_true hb; omega
 simp only[bf,Uk h0,Dh]
def OZ(a:Int)(b:Int)(hb:decide (0<=b)=true):bf .shr ty P (.int k a) (.int kd b)=some (.int k (HO k a b.toNat)):=by
 have h0:¬(b<0):=by have:=of_decide_eq_true hb; omega
 simp only[bf,Uk h0,HO]
def mw(a b:Int)(h:decide (b≠0)=true):bf .quo ty P (.int k a) (.int k b)=some (.int k (k.wrap (a.tdiv b))):=Ft k a b (of_decide_eq_true h)
def iV(a b:Int)(h:decide (b≠0)=true):bf .rem ty P (.int k a) (.int k b)=some (.int k (a.tmod b)):=Ff k a b (of_decide_eq_true h)
def N9(h:k.signed=false)(a:Nat):Cm .neg (.int k (a:Int))=some (.int k ((L9 k a:Nat):Int)):=by
 have:=yk (ty:=0) (P:=default) h 0 a;rw[jl] at this;simp only[Cm];have e:jj k 0 a=L9 k a:=by unfold jj L9; rw[UU]
 rw[e] at this; exact this
def pq{s d:WK}{x:Int}(hs:(P.underlying s).isSome=true)(hd:P.underlying d=some (.int k)):fL P s d (.int kd x)=some (.int k (k.wrap x)):=by
 cases h:P.underlying s with
 | none=>rw[h] at hs; cases hs
 | some u=>simp only[fL,h,hd]
def yM{s d:WK}{x:Int}(hs:(P.underlying s).isSome=true)(hd:P.underlying d=some (.int k))(hk:k.signed=false):fL P s d (.int kd x)=some (.int k ((ui k x:Nat):Int)):=by
 rw[pq hs hd,sR hk]
def RO{s d:WK}{x:Nat}(hs:(P.underlying s).isSome=true)(hd:P.underlying d=some (.int k))(hk:k.signed=false):fL P s d (.int kd (x:Int))=some (.int k ((uw k x:Nat):Int)):=by
 rw[yM hs hd hk,Dx]
def IU(a b:Int){ts:XD WK}(m:Xq):bw P .min ts [.int k a,.int k b] m=some (.int k (mi a b),m):=rfl
def MW{a b:Bool}(hu:P.underlying ty=some .bool):bf .eql ty P (.bool a) (.bool b)=some (.bool (a==b)):=by
 simp only[bf,Op.maxDepth,lj,hu,Uh]
def A6{a b:Bool}(hu:P.underlying ty=some .bool):bf .neq ty P (.bool a) (.bool b)=some (.bool (!(a==b))):=by
 simp only[bf,Op.maxDepth,lj,hu,Uh]
end
def SU{c:Bool}(h:c=true):(c==true)=true:=by rw[h]; rfl
def qZ{c:Bool}(h:c=false):(c==false)=true:=by rw[h]; rfl
def Lv{c:Bool}(h:c=true):(c==false)=false:=by rw[h]; rfl
def T0{c:Bool}(h:c=false):(c==true)=false:=by rw[h]; rfl
section
variable{E:Env}{n:Nat}{m0:Xq}{fs:Fs}{ps:XB Pc}{x y:WM}{v:WJ}{ty:WK}
def RJ{c:WM}{b:Bool}(hc:ev E fs c=some (.bool b))(hb:b=true)(h:ev E fs x=some v):Od E m0 fs ps (.pick c x y) v ps:=RY (by rw[hc,hb]) h
def Q9{c:WM}{b:Bool}(hc:ev E fs c=some (.bool b))(hb:b=false)(h:ev E fs y=some v):Od E m0 fs ps (.pick c x y) v ps:=RF (by rw[hc,hb]) h
def jr{α:Type}{f:α->XB WJ}{elem ty2:WK}{w k k2 c0 l l2:Nat}{a a1:WH}{xs ys:XB α}{ars:XD WM}{p0:Pc}(he:Enc f w)(ht:SlT E.P ty elem w)(h5:∃e2,E.P.underlying ty2=some (.slice e2))(ha:jK E fs ars.toList=some [.slice a l l,.slice a1 l2 c0])(hp:pk ps k=some (.sl a w l (xs.map f)))(h0:pk ps k2=some p0)(hr:IsRd p0 a1 c0 w l2 (ys.map f))(hl:lim (xs++ys).length=true) :
  Ox E m0 fs ps (.call ⟨.builtin .append,ars,#[ty,ty2]⟩) (fun a':WH=>.slice a' (xs++ys).length (xs++ys).length) (fun a'=>df ps k (.sl a' w (xs++ys).length ((xs++ys).map f))):=by
 intro t m hf hm;have h1:l=xs.length:=by
  have:=hm.get hp;rcases this with⟨h6,h1,_⟩|⟨b,tg,_,h1⟩
  rw[h6,List.map_eq_nil_iff.1 h1]; rfl
  have:=h1.2.2.2.1; rw[UH] at this; exact this.symm
 have h2:l2=ys.length:=by
  have:=(hm.rd h0 hr).1; rw[UH] at this; exact this.symm
 have:=RH (m0:=m0) ht h5 ha hp h0 hr (he.rK ys) (he.fO ys) (by rw[h1,h2,<-Uf]; exact hl) t m hf hm
 have e1:xs.map f++ys.map f=(xs++ys).map f:=List.map_append.symm;have e2:l+l2=(xs++ys).length:=by rw[h1,h2,Uf]
 rw[e1,e2] at this;exact this
def wo{α:Type}{f:α->XB WJ}{elem:WK}{k cap w l:Nat}{lo hi:Int}{a:WH}{xs:XB α}{lx hx:XA WM}{lv hv:XA WJ}(ht:SlT E.P ty elem w)(hv':ev E fs x=some (.slice a l cap))(e1:GU E fs lx=some lv)(e2:GU E fs hx=some hv)(hp:pk ps k=some (.rd a cap w l (xs.map f)))(hb:okB lo hi l=true)(hl:lv=none/\lo=0\/∃k,lv=some (.int k lo))(hh:hv=none/\hi=(l:Int)\/∃k,hv=some (.int k hi)) :
  Ox E m0 fs ps (.slice ty x lx hx none) (fun r:WH×Nat=>.slice r.1 ((xs.drop lo.toNat).take (hi.toNat-lo.toNat)).length r.2) (fun r=>.rd r.1 r.2 w ((xs.drop lo.toNat).take (hi.toNat-lo.toNat)).length (((xs.drop lo.toNat).take (hi.toNat-lo.toNat)).map f)::ps):=by
 intro t m hf hm;obtain⟨b1,b2,b3⟩:=Bc hb;have h1:xs.length=l:=by have:=(hm.get hp).1; rw[UH] at this; exact this
 have elo:((lo.toNat:Nat):Int)=lo:=Vd b1;have ehi:((hi.toNat:Nat):Int)=hi:=Vd (by omega)
 have hlen:((xs.drop lo.toNat).take (hi.toNat-lo.toNat)).length=hi.toNat-lo.toNat:=by rw[U0,V6,h1]; omega
 have:=Rz (m0:=m0) (lo:=lo.toNat) (hi:=hi.toNat) ht hv' e1 e2 hp (by omega) (by omega) (by
  rcases hl with⟨h,h'⟩|⟨k,h⟩
  exact .inl ⟨h,by omega⟩
  exact .inr ⟨k,by rw[elo]; exact h⟩) (by
  rcases hh with⟨h,h'⟩|⟨k,h⟩
  exact .inl ⟨h,by omega⟩
  exact .inr ⟨k,by rw[ehi]; exact h⟩) t m hf hm
 rw[Mu] at this;rw[hlen];exact this
def lG{α:Type}{f:α->XB WJ}{z0:α}{elem:WK}{w:Nat}{i:Int}{z:WJ}(ht:SlT E.P ty elem w)(hx:ev E fs x=some (.int .i64 i))(hi:decide (0<=i)=true)(hl:lim i.toNat=true)(hz:bR E.P elem=some z)(hp:z.cells.toList.all aM=true)(hzf:z.cells.toList=f z0) :
  Ox E m0 fs ps (.makeSlice ty x x) (fun b=>.slice (some ⟨b,0,none⟩) i.toNat i.toNat) (fun b=>.arr b w i.toNat ((List.replicate i.toNat z0).map f) .own::ps):=by
 have:=QK (m0:=m0) (ps:=ps) ht hx (Vd (of_decide_eq_true hi)).symm hl hz hp;rw[hzf,KK] at this;exact this
def eG{α:Type}{f:α->XB WJ}{ag:Bool}{sz b w l j c k:Nat}{xs:XB α}{x1 x2:α}{tg:Tag}(ht:TyI E.P ty ag sz)(hx:ev E fs x=some (ptr b (j*w+c)))(hy:ev E fs y=some v)(hp:pk ps k=some (.arr b w l (xs.map f) tg))(he:xs[j]? = some x1)(hv:MI (f x1) c v sz=some (f x2)):Od E m0 fs ps (.store ty x y) undef (df ps k (.arr b w l ((xs.set j x2).map f) tg)):=by
 have:=qU (m0:=m0) ht hx hy hp (eH he) hv;rwa[Mj] at this
end
def MA:Tag->Bool
 | .more _=>false
 | _=>true
def Pw:Tag->Bool
 | .own=>true
 | _=>false
def sn{fs:Fs}:sub fs []:=trivial
def sc{fs l:Fs}{i:Nat}{v:WJ}(h:lk fs i=some v)(k:sub fs l):sub fs ((i,v)::l):=⟨h,k⟩
def cI{k:IntKind}{e y:Int}(h:some e=some y):some (Value.int k e)=some (.int k y):=by rw[Ug h]
def cN{k:IntKind}{e y:Nat}(h:some e=some y):some (Value.int k (e:Int))=some (.int k (y:Int)):=by rw[Ug h]
def nn(b:Nat):decide (0<=(b:Int))=true:=Ud (Vi b)
section
variable{P:WN}{ty el:WK}{w len:Nat}
def Rp(h:ArT P ty el len w){b o i:Nat}{kd:IntKind}(hi:i<len):bQ P ty (ptr b o) (.int kd (i:Int))=some (ptr b (o+i*w)):=Oz h.und h.known h.size hi
def Oq{cs:XD WJ}{off sz:Nat}{v:WJ}(h:TyI P ty true sz)(hv:(Value.agg (cs.extract off (off+sz)))=v):eu P ty cs off=some v:=by
 simp only[eu,h.known,h.agg,h.size,Uj,Uu,if_false,if_true,hv]
def jH{cs:XD WJ}{off sz:Nat}{v:WJ}(h:TyI P ty false sz)(hv:cs[off]? = some v):eu P ty cs off=some v:=by
 simp only[eu,h.known,h.agg,Uj,Uu,if_false,hv]
def B0(h:ArT P ty el len w){cs:XD WJ}{i:Nat}{kd:IntKind}{v:WJ}(hi:i<len)(hp:eu P el cs (i*w)=some v):fe P ty (.agg cs) (.int kd (i:Int))=some v:=by
 simp only[fe,h.und,h.size,T5];rw[Ui ⟨by omega,by omega⟩]; exact hp
structure BdT(P:WN)(ty:WK)(z:WJ)(offs:XB (Nat×Nat)):Prop where
 bd:∀parts,(parts.all fun p=>Nat.blt p.1 offs.length)=true->kh P ty parts=(hJ (fun i=>offs[i]?) z.cells.toList parts).map fun cs=>.agg cs.toArray
def T2(P:WN)(ty:WK)(z:WJ)(offs:XB (Nat×Nat)):Prop :=
 bR P ty=some z/\match P.underlying ty with
  | some (.struct fields)=>fields.toList.all (fun f=>known P f.type)=true/\fields.toList.map (fun f=>(f.offset,aB P f.type))=offs
  | some (.array n elem)=>known P elem=true/\(List.range n).map (fun i=>(i*aB P elem,aB P elem))=offs
  | _=>False
def lO{p q:Nat->XA (Nat×Nat)}{n:Nat}(h:∀i,i<n->p i=q i):∀(parts:XB (Nat×WJ)) (cs:XB WJ),(parts.all fun p=>Nat.blt p.1 n)=true->hJ p cs parts=hJ q cs parts
 | [],_,_=>rfl
 |(i,v)::rest,cs,hp=>by
  rw[Vw,T7] at hp;have hi:i<n:=by have:=hp.1; rwa[VS] at this
  simp only[hJ,h i hi];cases q i with
  | none=>rfl
  | some r=>simp only[]; split; rfl; exact lO h rest _ hp.2
def BdT.of{z:WJ}{offs:XB (Nat×Nat)}(h:T2 P ty z offs):BdT P ty z offs:=⟨fun parts hp=>by
 obtain⟨hz,h⟩:=h;unfold kh;rw[hz];cases hu:P.underlying ty with
 | none=>rw[hu] at h; exact h.elim
 | some u =>
  rw[hu] at h;cases u with
  | struct fields =>
   simp only at h ⊢;rw[Ui h.1]
   congr 1
   refine lO (n:=offs.length) (fun i hi=>?_) parts _ hp;rw[<-h.2,UN]; simp
  | array n elem =>
   simp only at h ⊢;rw[Ui h.1]
   congr 1
   refine lO (n:=offs.length) (fun i hi=>?_) parts _ hp;have hl:offs.length=n:=by rw[<-h.2]; simp
   rw[<-h.2,UN,List.getElem?_range (by omega)]; rfl
  | _=>exact h.elim⟩
def To(P:WN)(ty:WK)(offs:XB (Nat×Nat)):Bool :=
 match P.underlying ty with
 | some (.struct fields)=>fields.toList.all (fun f=>known P f.type)&&decide (fields.toList.map (fun f=>(f.offset,aB P f.type))=offs)
 | some (.array n elem)=>known P elem&&decide ((List.range n).map (fun i=>(i*aB P elem,aB P elem))=offs)
 | _=>false
def BdT.mk'{z:WJ}{offs:XB (Nat×Nat)}(hz:bR P ty=some z)(h:To P ty offs=true):BdT P ty z offs:=by
 refine .of ⟨hz,?_⟩;unfold To at h;cases hu:P.underlying ty with
 | none=>rw[hu] at h; cases h
 | some u =>
  rw[hu] at h;cases u with
  | struct fields=>simp only[T7,UL] at h ⊢; exact h
  | array n elem=>simp only[T7,UL] at h ⊢; exact h
  | _=>cases h
def eX{z r:WJ}{offs:XB (Nat×Nat)}{parts:XB (Nat×WJ)}{cs:XB WJ}(h:BdT P ty z offs)(hp:(parts.all fun p=>Nat.blt p.1 offs.length)=true)(hr:hJ (fun i=>offs[i]?) z.cells.toList parts=some cs)(e:Value.agg cs.toArray=r):kh P ty parts=some r:=by
 rw[h.bd parts hp,hr]; exact VB some e
def fb{n:Nat}{vs:XB (Nat×WJ)}{z:WJ}{cs:XB WJ}(ht:SlT P ty el w)(hz:bR P el=some z)(h1:((cq z.cells.toList n).all aM&&Nat.ble (n*w) 16777216)=true)(hr:hJ (fun i=>some (i*w,w)) (cq z.cells.toList n) vs=some cs):Sb P el w n vs=some cs:=by
 have hzs:z.cells.size=w:=by have:=ht.zero; rw[hz] at this; simp only[Option.any_some,T7,beq_iff_eq] at this; exact this.1
 have:fR P el n=some (cq z.cells.toList n):=by simp only[fR,hz,ht.size]; rw[Ui hzs]
 simp only[Sb,this,h1]; exact hr
def Na{xs ys:XD WJ}{b:Bool}(h:P.eqGuardType P.depth ty=false)(hb:lj P Op.maxDepth ty (.agg xs) (.agg ys)=some b):bf .neq ty P (.agg xs) (.agg ys)=some (.bool (!b)):=by
 simp only[bf,h,Uu,if_false,hb,Uh]
end
section
variable{E:Env}{n:Nat}{m0:Xq}{fs:Fs}{ps:XB Pc}{x y:WM}{v:WJ}{ty:WK}
def QL{el:WK}{len w b o k:Nat}{cs:XB WJ}{tg:Tag}(ht:ArT E.P ty el len w)(hx:ev E fs x=some (ptr b o))(hp:pk ps k=some (.obj b (.cells cs tg)))(htg:MA tg=true)(hlen:Nat.blt 0 len=true):Od E m0 fs ps (.slice ty x none none none) (.slice (some ⟨b,o,none⟩) len len) ps :=
 fun t m hf h=>⟨fun b' hb=>by
  have:fT (ptr b o)=some b:=rfl;simp only[aU,hf.ev hx,UQ,this] at hb;cases hb; exact(h.get hp).2.1,fun K hK=>by
  have hg:=(h.get hp).2.2;have hb:eT len len none none none=some (0,len,len):=qD (VF _) (Ua _) (.inl ⟨rfl,rfl⟩) (.inl ⟨rfl,rfl⟩);have hl:len≠0:=by rw[VS] at hlen; omega
  have:cP E.P ty (ptr b o) none none none m=some (.slice (some ⟨b,o,none⟩) len len):=by
   cases tg with
   | more s=>cases htg
   | ro=>simp only[cP,ptr,ht.und,ht.known,if_true,hg,hb,V8,Uk hl,VC,UZ]
   | own=>simp only[cP,ptr,ht.und,ht.known,if_true,hg,hb,V8,Uk hl,VC,UZ]
  rw[Go.Ab.Eh (hf.ev hx) rfl rfl rfl this]; exact hK m h⟩
variable{ops:XD Oper}{os:XB Oper}{K:Tm->Xq->Prop}{dr:Bool}
def Wo.len{α:Type}{f:α->XB WJ}{k w l:Nat}{a:WH}{xs:XB α}(hp:pk ps k=some (.sl a w l (xs.map f)))(h:l=xs.length->Wo dr E n ops K os m0 fs ps):Wo dr E n ops K os m0 fs ps:=by
 have key:∀m,Hp m0 m ps->l=xs.length:=fun m hm=>by
  rcases hm.get hp with⟨h0,h1,_⟩|⟨b,tg,_,h1⟩
  rw[h0,List.map_eq_nil_iff.1 h1]; rfl
  have:=h1.2.2.2.1; rw[UH] at this; exact this.symm
 cases dr with
 | false=>exact fun t m hf hm=>h (key m hm) t m hf hm
 | true=>exact fun t m w hf hm hw=>h (key m hm) t m w hf hm hw
end
def ai.Df{m0:Xq}{ps:XB Pc}(w:Nat):ai m0 ps (.rd none 0 w 0 []::ps):=fun m h =>
 h.cons (Ua _) h.ext (fun _ _=>rfl) (Rd.nil m w) fun b hb=>(by cases hb)
def Hp.TK{m0 m:Xq}{ps:XB Pc}{α:Type}{xs:XB α}{f:α->XB WJ}{k b o w l:Nat}{cs:XB WJ}{tg:Tag}(h:Hp m0 m ps)(hp:pk ps k=some (.obj b (.cells cs tg)))(htg:Pw tg=true)(hl:Nat.beq xs.length l=true)(hc:(cs.drop o).take (l*w)=(xs.map f).flatten)(he:Enc f w):Rd m (some ⟨b,o,none⟩) l w l (xs.map f):=by
 have hl:=Ue hl;have hnm:∀sz,tg=.more sz->sz=w:=fun sz e=>by rw[e] at htg; cases htg
 have hg:=(h.get hp).2.2;refine⟨by rw[UH]; exact hl,Ua _,.inr (.inr ⟨b,o,rfl,(h.get hp).2.1,cs,tg,hg,hnm,fun i e hi=>?_⟩)⟩
 have hw:=he.rK xs;have h1:=EV hw hi;have hlt:i<l:=by have:=(Uq.1 hi).1; rw[UH,hl] at this; exact this
 refine⟨?_,hw e (Ur hi)⟩;rw[<-hc] at h1;rw[<-h1,List.drop_take,List.take_take,Wf];have:w<=l*w-i*w:=by
  have:(i+1)*w<=l*w:=UF w hlt;rw[VU] at this; omega
 rw[US this]
def gu{ops:XD Oper}{fs:Fs}{j d:Nat}{b:Bool}(hd:(ops[j]?).bind (·.dst)=some d)(h:lk fs d=some undef):sT ops fs (some (j,b)) false:=fun t d' o ty p af hf=>by
 rw[JM];have hat:=hf d _ h;unfold cU;rw[hd];unfold Tm.at at hat;cases hg:Trie.get t d with
 | none=>simp only[hg]
 | some v=>rw[hg] at hat; have hv:v=undef:=hat; subst hv; simp only[hg]; rfl
section
variable{E:Env}{n:Nat}{m0:Xq}{fs:Fs}{ps:XB Pc}{x y:WM}{v:WJ}{ty:WK}
def Qs{s:ByteArray}{kd:IntKind}{i:Int}{b:Nat}(tab:XB Nat)(hu:E.P.underlying ty=some .string)(hx:ev E fs x=some (.string s))(hs:s.data.toList.map (·.toNat)=tab)(hy:ev E fs y=some (.int kd i))(hi:bB i tab.length=true)(hb:tab[i.toNat]? = some b):Od E m0 fs ps (.index ty x y) (.int .u8 (b:Int)) ps:=by
 refine Tb hx hy ?_;have h0:=(j9 hi).1;simp only[fe,hu];rw[Ui h0];subst hs;rw[UN] at hb;have:s[i.toNat]? = s.data.toList[i.toNat]?:=by
  cases hs:s.data.toList[i.toNat]? with
  | none =>
   have:=List.getElem?_eq_none_iff.1 hs;exact getElem?_neg s i.toNat (by have e:s.size=s.data.toList.length:=Wh.symm; omega)
  | some u =>
   obtain⟨h1,h2⟩:=Uq.1 hs;have h3:i.toNat<s.size:=by have e:s.size=s.data.toList.length:=Wh.symm; omega
   rw[getElem?_pos s i.toNat h3]
   congr 1
 rw[this];cases hs:s.data.toList[i.toNat]? with
 | none=>rw[hs] at hb; cases hb
 | some u=>rw[hs] at hb; simp only[Uh,Option.some.injEq] at hb ⊢; rw[hb]
def Ng{α:Type}{V:α->WJ}{N:α->XB Pc}{a b:WJ}(hx:ev E fs x=some a)(hy:ev E fs y=some b)(h:∀m,Hp m0 m ps->∃z,fe E.P ty a b=some (V z)/\Hp m0 m (N z)):Ox E m0 fs ps (.index ty x y) V N :=
 fun t m hf hm=>⟨fun b hb=>(by simp[aU] at hb),fun K hK=>by
  obtain⟨z,h1,h2⟩:=h m hm;rw[Go.Ab.Fp (hf.ev hx) (hf.ev hy) h1]; exact hK z m h2⟩
end
def Hp.dup{m0 m:Xq}{ps:XB Pc}{a:WH}{k cap w l:Nat}{es:WG}(h:Hp m0 m ps)(hp:pk ps k=some (.rd a cap w l es)):Hp m0 m (.rd a cap w l es::ps):=h.more hp rfl (h.get hp) rfl fun _ h=>h
end Go.Ab.W
end
section
namespace Go.Ab
open Go Go.Ab.W
def P9(j:aL)(u:WJ):∃v,VR j v u:=by
 match h:u with
 | .agg cs =>
  have:∀i (hi:i<cs.size),∃v,VR j v cs[i]:=fun i hi=>P9 j cs[i];refine⟨.agg (Array.ofFn fun i:Fin cs.size=>Classical.choose (this i.1 i.2)),.agg (by simp) fun i a b=>?_⟩
  have hi:i<cs.size:=b;have:=VT (this i hi)
  simpa using this
 | .tuple cs =>
  have:∀i (hi:i<cs.size),∃v,VR j v cs[i]:=fun i hi=>P9 j cs[i];refine⟨.tuple (Array.ofFn fun i:Fin cs.size=>Classical.choose (this i.1 i.2)),.tuple (by simp) fun i a b=>?_⟩
  have hi:i<cs.size:=b;have:=VT (this i hi)
  simpa using this
 | .bool b=>exact⟨_,.bool b⟩
 | .int k n=>exact⟨_,.int k n⟩
 | .float k b=>exact⟨_,.junk rfl⟩
 | .complex k a b=>exact⟨_,.junk rfl⟩
 | .string s=>exact⟨_,.string s⟩
 | .pointer none=>exact⟨_,.pnil⟩
 | .pointer (some a)=>exact⟨_,.junk rfl⟩
 | .slice none l c=>exact⟨_,.snil l c⟩
 | .slice (some a) l c=>exact⟨_,.junk rfl⟩
 | .map none=>exact⟨_,.mnil⟩
 | .map (some r)=>exact⟨_,.junk rfl⟩
 | .chan r=>exact⟨_,.junk rfl⟩
 | .func f a b=>exact⟨_,.junk rfl⟩
 | .nilFunc=>exact⟨_,.nilFunc⟩
 | .iface t v=>exact⟨_,.junk rfl⟩
 | .nilIface=>exact⟨_,.nilIface⟩
termination_by SizeOf.sizeOf u
decreasing_by
 all_goals
  subst h;have:=Array.sizeOf_getElem cs i hi;simp only[Value.agg.sizeOf_spec,Value.tuple.sizeOf_spec];omega
open Classical in
noncomputable def seen (j:aL) (v':WJ):WJ:=if aM v' then v' else match v' with
 | .slice (some _) 0 _=>.slice (some ⟨0,0,some 0⟩) 0 0
 | .slice (some a) (l+1) c=>if a.spot=none/\j a.block=some ⟨a.block,none⟩ then .slice (some a) (l+1) c else Classical.choose (P9 j (.slice (some a) (l+1) c))
 | v'=>Classical.choose (P9 j v')
def yQ(j:aL)(v':WJ):VR j (seen j v') v':=by
 unfold seen
 split
 rename_i h; exact .aM h
 split
 exact .gR
 rename_i a l c _
 split
 rename_i h;obtain⟨b,o,s⟩:=a;obtain⟨h1,h2⟩:=h;cases h1;exact .slice (k:=⟨b,none⟩) h2 rfl
 exact VT (P9 j _)
 exact VT (P9 j _)
def Mk{j:aL}{a:Addr}{l c:Nat}(h0:l≠0)(h1:a.spot=none)(h2:j a.block=some ⟨a.block,none⟩):seen j (.slice (some a) l c)=.slice (some a) l c:=by
 obtain⟨l,rfl⟩:∃k,l=k+1:=⟨l-1,by omega⟩
 unfold seen;rw[Uk (fun h=>by cases h)]
 dsimp only
 rw[Ui ⟨h1,h2⟩]
def JP{j:aL}{a:Addr}{c:Nat}:seen j (.slice (some a) 0 c)=.slice (some ⟨0,0,some 0⟩) 0 0:=by
 unfold seen;rw[Uk (fun h=>by cases h)]
def oe{j:aL}{v':WJ}(h:aM v'=true):seen j v'=v':=by unfold seen; rw[Ui h]
def dH(W:WO):aL:=fun b=>if b<W.heap.size then some ⟨b,none⟩ else none
noncomputable def dP (W:WO):Xq:={ next:=W.heap.size,wl:=W.heap.size,bX:=.nil,base:=fun b=>match W.heap[b]? with
 | some (.cells c _ _)=>some (.cells (c.toList.map (seen (dH W))) .ro)
 | _=>none}
def sH(W:WO)(b:Nat):(dP W).get b=match W.heap[b]? with
 | some (.cells c _ _)=>some (.cells (c.toList.map (seen (dH W))) .ro)
 | _=>none:=by
 simp[Xq.get,dP,Heap.get_nil]
def pQ{W:WO}{b:Nat}{c:XD WJ}{t:WK}{fz:Nat×Nat}(h:W.heap[b]? = some (.cells c t fz)):(dP W).get b=some (.cells (c.toList.map (seen (dH W))) .ro):=by
 rw[sH,h]
def OM{E:Env}{W:WO}(hg:E.glob<=W.heap.size):MR E (dH W) (dP W) W:=by
 have hj:∀b k,dH W b=some k->b<W.heap.size/\k=⟨b,none⟩:=by
  intro b k h;unfold dH at h
  split at h
  rename_i hb; cases h; exact⟨hb,rfl⟩
  cases h
 refine⟨fun b k h=>?_,fun b o k ho h=>?_,fun b b' k k' h h' _ _ hc=>?_,fun g hgl=>?_⟩
 obtain⟨h1,rfl⟩:=hj b k h;exact⟨h1,h1⟩
 obtain⟨h1,rfl⟩:=hj b k h;rw[sH] at ho
 split at ho
 rename_i c t fz hc;cases ho;refine⟨_,hc,⟨rfl,by simp⟩,fun i v hi=>?_⟩
 rw[UN] at hi;obtain⟨x,hx,rfl⟩:=VK.1 hi;exact⟨x,by simpa using hx,yQ _ _⟩
 cases ho
 obtain⟨_,rfl⟩:=hj b k h;obtain⟨_,rfl⟩:=hj b' k' h';exact hc
 unfold dH;rw[WV]
inductive Lf where
 | int (k:IntKind)
 | bool
 | sl (e:WK)
 deriving DecidableEq
def Eg(BG:WK->XA (XB Lf))(P:WN):XB Field->Nat->XA (XB Lf)
 | [],_=>some []
 | f::fs,off=>match BG f.type,Eg BG P fs (off+P.cellsOf f.type) with
  | some l,some r=>if f.offset=off/\l.length=P.cellsOf f.type then some (l++r) else none
  | _,_=>none
def BG(P:WN):Nat->WK->XA (XB Lf)
 | 0,_=>none
 | d+1,t=>match P.underlying t with
  | some (.int k)=>some [.int k]
  | some .bool=>some [.bool]
  | some (.slice e)=>some [.sl e]
  | some (.array n e)=>match BG P d e with
   | some l=>if l.length=P.cellsOf e/\P.cellsOf t=n*P.cellsOf e then some (List.replicate n l).flatten else none
   | none=>none
  | some (.struct fs)=>match Eg (BG P d) P fs.toList 0 with
   | some l=>if l.length=P.cellsOf t then some l else none
   | none=>none
  | _=>none
def nG{H:Type}(enc:WK×WJ->H)(P:WN)(W:WO)(base:Nat)(sp:Nat->Bool)(held:Bool):Lf->WJ->Prop
 | .int k,v=>∃n,v=.int k n/\(Lit.int k n).wf=true
 | .bool,v=>∃b,v=.bool b
 | .sl e,v=>(v=.slice none 0 0)\/∃(a:Addr) (len cap:Nat) (n:Nat),v=.slice (some a) len cap/\len<=cap/\cap<=maxLen/\base<=a.block /\
   ∀i,i<len->∃cs x,W.cells? base (a.add (i*P.cellsOf e)) (P.cellsOf e)=some cs/\DataW.trod enc P W base sp held n e cs=some x
inductive All2{α β:Type}(R:α->β->Prop):XB α->XB β->Prop
 | nil:All2 R [] []
 | cons {a:α} {b:β} {l:XB α} {r:XB β} (h:R a b) (t:All2 R l r):All2 R (a::l) (b::r)
def All2.append{α β:Type}{R:α->β->Prop}{l l':XB α}{r r':XB β}(h:All2 R l r)(h':All2 R l' r'):All2 R (l++l') (r++r'):=by
 induction h with
 | nil=>exact h'
 | cons h _ ih=>exact .cons h ih
section
variable{H:Type}{enc:WK×WJ->H}{P:WN}{W:WO}{base:Nat}{sp:Nat->Bool}{held:Bool}
theorem vP{R:Lf->WJ->Prop}{l:XB Lf}:∀(n w:Nat) (cs:XB WJ),cs.length=n*w->(∀i,i<n->All2 R l ((cs.drop (i*w)).take w))->All2 R (List.replicate n l).flatten cs
 | 0,w,cs,hl,_=>by
  have:cs=[]:=Vt.1 (by simpa using hl)
  subst this; exact .nil
 | n+1,w,cs,hl,h=>by
  rw[Vl,Va];have h0:=h 0 (by omega)
  simp only[VC,Wu] at h0;have hw:w<=cs.length:=by rw[hl,UR]; omega
  rw[<-List.take_append_drop w cs];refine All2.append h0 (vP n w _ (by rw[V6,hl,UR]; omega) fun i hi=>?_)
  have:=h (i+1) (by omega)
  rw[Wf];have e:w+i*w=(i+1)*w:=by rw[UR]; omega
  rw[e]; exact this
theorem iS:∀(d:Nat) (t:WK) (L:XB Lf),BG P d t=some L->∀(n:Nat) (cs:XB WJ) (x:DataW H×XB MemPlace),DataW.trod enc P W base sp held n t cs=some x->All2 (nG enc P W base sp held) L cs:=by
 intro d
 induction d with
 | zero=>intro t L h; cases h
 | succ d ih =>
  intro t L hL n cs x hx;unfold BG at hL
  split at hL
  rename_i k hu;cases hL;obtain⟨m,rfl,_,hwf⟩:=DataW.trod_int hu hx;exact .cons ⟨m,rfl,hwf⟩ .nil
  rename_i hu;cases hL;obtain⟨b,rfl,_⟩:=DataW.trod_bool hu hx;exact .cons ⟨b,rfl⟩ .nil
  rename_i e hu;cases hL;rcases DataW.trod_slice hu hx with⟨rfl,_⟩|⟨a,len,cap,elems,rest,m,rfl,rfl,_,hb,h1,h2,h3,h4,_⟩
  exact .cons (.inl rfl) .nil
  refine .cons (.inr ⟨a,len,cap,m,rfl,h1,h2,hb,fun i hi=>?_⟩) .nil;have:=h4 i hi;have hi':i<elems.length:=by omega
  rw[T6 hi'] at this;obtain⟨cs,h5,h6⟩:=Option.bind_eq_some_iff.1 this;exact⟨cs,_,h5,h6⟩
  rename_i m e hu
  split at hL
  rename_i l hl
  split at hL
  rename_i hc;cases hL;obtain⟨xs,m',rfl,_,hcl,hxl,hel⟩:=DataW.trod_array hu hx;refine vP m (P.cellsOf e) cs (hcl.trans hc.2) fun i hi=>?_;have:=hel i hi;rw[T6 (by omega)] at this
  exact ih e l hl m' _ _ this
  cases hL
  cases hL
  ·rename_i fs hu
   split at hL
   ·rename_i l hl
    split at hL
    ·rename_i hc;cases hL;obtain⟨xs,m',rfl,_,hcl,hxl,hel⟩:=DataW.trod_struct hu hx;have hfield:∀f∈fs.toList,∃y,DataW.trod enc P W base sp held m' f.type ((cs.drop f.offset).take (P.cellsOf f.type))=some y:=by
      intro f hf;obtain⟨i,hi,hif⟩:=List.getElem_of_mem hf;have hi':i<fs.size:=by simpa using hi
      have:=hel i f (by rw[<-hif]; simp[hi'])
      rw[T6 (by omega)] at this
      exact⟨_,this⟩
     have key:∀(l1:XB Field) (off:Nat) (r:XB Lf),Eg (BG P d) P l1 off=some r->(∀f∈l1,∃y,DataW.trod enc P W base sp held m' f.type ((cs.drop f.offset).take (P.cellsOf f.type))=some y)->All2 (nG enc P W base sp held) r ((cs.drop off).take r.length):=by
      intro l1
      induction l1 with
      | nil=>intro off r hr _; cases hr; simp only[List.length_nil,List.take_zero]; exact .nil
      | cons f l1 ih1 =>
       intro off r hr hf;unfold Eg at hr
       split at hr
       rename_i l2 r2 hl2 hr2
       split at hr
       rename_i ho;cases hr;obtain⟨y,hy⟩:=hf f (by simp)
       have h1:=ih f.type l2 hl2 m' _ _ hy;have h2:=ih1 _ _ hr2 fun g hg=>hf g (by simp[hg])
       rw[ho.1,<-ho.2] at h1;rw[<-ho.2] at h2;have:=All2.append h1 h2;rw[Uf,List.take_add,Wf];exact this
       cases hr
       cases hr
     have:=key fs.toList 0 _ hl hfield;rw[Wu,hc,<-hcl,List.take_length] at this;exact this
    cases hL
   cases hL
  cases hL
end
end Go.Ab
end
section
namespace Go.Ab
open Go Go.Ab.W Go.ChangeShapes Go.WideShapes Go.RowKit
section
variable{H:Type}{enc:WK×WJ->H}{P:WN}{W:WO}{sp:Nat->Bool}{held:Bool}
theorem zV{a:Addr}(h:a.spot=none)(n:Nat):a.add n=⟨a.block,a.off+n,none⟩:=by
 unfold Addr.add
 split
 rename_i e; subst e; cases a; cases h; rfl
 rfl
theorem p7{W:WO}{a:Addr}{v:WJ}(h:W.cell? a=some v):a.spot=none/\∃c t fz,W.heap[a.block]? = some (.cells c t fz)/\c[a.off]? = some v:=by
 unfold World.cell? at h
 split at h
 rename_i c t fz hc
 split at h
 cases h
 rename_i hs;refine⟨by simpa using hs,c,t,fz,hc,h⟩
 cases h
theorem xG{α:Type}{f:α->XB WJ}{R:α->Prop}{e w:Nat}(hw:P.cellsOf e=w)(hw0:0<w)(hsz:0<W.heap.size)
  (hdec:∀n cs x,DataW.trod enc P W 0 sp held n e cs=some x->∃p,cs.map (seen (dH W))=f p/\R p) {v:WJ} (h:nG enc P W 0 sp held (.sl e) v) :
  ∃(a:WH) (cap:Nat) (l:XB α),seen (dH W) v=.slice a l.length cap/\(∀b,cC a=some b->b<W.heap.size)/\Rd (dP W) a cap w l.length (l.map f)/\(∀p∈l,R p)/\l.length<=maxLen:=by
 rcases h with rfl|⟨a,len,cap,n,rfl,h1,h2,_,h3⟩
 exact⟨none,0,[],oe rfl,fun b h=>(by cases h),Rd.nil _ _,fun p hp=>(by cases hp),VF _⟩
 by_cases h0:len=0
 subst h0;exact⟨some ⟨0,0,some 0⟩,0,[],JP,fun b h=>(by cases h; exact hsz),⟨rfl,Ua _,.inr (.inl ⟨0,0,rfl,rfl,rfl,hsz⟩)⟩,fun p hp=>(by cases hp),VF _⟩
 rw[hw] at h3;have hg:∀i:Fin len,∃(p:α) (cs:XB WJ),W.cells? 0 (a.add (i.1*w)) w=some cs/\cs.map (seen (dH W))=f p/\R p:=by
  intro i;obtain⟨cs,x,h4,h5⟩:=h3 i.1 i.2;obtain⟨p,he,hR⟩:=hdec _ _ _ h5;exact⟨p,cs,h4,he,hR⟩
 obtain⟨g,q,hg⟩:∃(g:Fin len->α) (q:Fin len->XB WJ),∀i,W.cells? 0 (a.add (i.1*w)) w=some (q i)/\(q i).map (seen (dH W))=f (g i)/\R (g i):=⟨fun i=>Classical.choose (hg i),fun i=>Classical.choose (VT (hg i)),fun i=>VT (VT (hg i))⟩;have hat:∀(i:Fin len) (k:Nat),k<w->W.cell? ((a.add (i.1*w)).add k)=(q i)[k]?:=fun i k hk=>(World.cells?_some (hg i).1).2.2 k hk;have hql:∀i,(q i).length=w:=fun i=>(World.cells?_some (hg i).1).2.1;have hfl:∀i,(f (g i)).length=w:=fun i=>by rw[<-(hg i).2.1,UH,hql]
 have hsm:∀(i:Fin len) (k:Nat),k<w->∃x,(q i)[k]? = some x:=fun i k hk=>⟨_,T6 (by rw[hql]; exact hk)⟩
 have hspot:a.spot=none:=by
  obtain⟨x,hx⟩:=hsm ⟨0,by omega⟩ 0 hw0
  have:=hat ⟨0,by omega⟩ 0 hw0
  rw[hx] at this;have:=(p7 this).1
  simpa [Addr.add] using this
 obtain⟨c,t,fz,hc⟩:∃c t fz,W.heap[a.block]? = some (.cells c t fz):=by
  obtain⟨x,hx⟩:=hsm ⟨0,by omega⟩ 0 hw0
  have:=hat ⟨0,by omega⟩ 0 hw0
  rw[hx] at this;obtain⟨_,c,t,fz,hc,_⟩:=p7 this;refine⟨c,t,fz,?_⟩
  simpa [Addr.add] using hc
 have hcell:∀(i:Fin len) (k:Nat),k<w->c[a.off+i.1*w+k]? =(q i)[k]?:=by
  intro i k hk;obtain⟨x,hx⟩:=hsm i k hk;have:=hat i k hk;rw[hx] at this;rw[hx];rw[zV hspot,zV rfl] at this;obtain⟨_,c',t',fz',hc',h6⟩:=p7 this;rw[hc] at hc';cases hc';exact h6
 have hb:a.block<W.heap.size:=by
  rcases UY a.block W.heap.size with h|h
  exact h
  rw[Array.getElem?_eq_none h] at hc; cases hc
 have ha:a=⟨a.block,a.off,none⟩:=by cases a; cases hspot; rfl
 refine⟨some a,cap,List.ofFn g,?_,fun b h=>?_,?_,fun p hp=>?_,?_⟩
 rw[List.length_ofFn];exact Mk h0 hspot (by unfold dH; rw[Ui hb])
 cases h; exact hb
 refine⟨by simp,by simpa using h1,.inr (.inr ⟨a.block,a.off,by rw[<-ha],hb,_,_,pQ hc,fun sz e=>(by cases e),fun i e he=>?_⟩)⟩
 rw[UN] at he;obtain⟨p,hp,rfl⟩:=VK.1 he;have hi:i<len:=by
  have:=(Uq.1 hp).1
  simpa using this
 have hpg:p=g ⟨i,hi⟩:=by
  rw[List.getElem?_ofFn] at hp;simp[hi] at hp;exact hp.symm
 subst hpg;refine⟨?_,hfl _⟩;apply Wg;intro k
 by_cases hk:k<w
 rw[List.getElem?_take_of_lt hk,Vr,UN];have h7:=hcell ⟨i,hi⟩ k hk;obtain⟨x,hx⟩:=hsm ⟨i,hi⟩ k hk;rw[hx] at h7;have h8:c.toList[a.off+i*w+k]? = some x:=by simpa using h7
 rw[h8,<-(hg ⟨i,hi⟩).2.1,UN,hx]
 rw[VG (by rw[U0]; omega),VG (by rw[hfl]; omega)]
 obtain⟨i,hi,rfl⟩:=List.getElem_of_mem hp;simp only[List.getElem_ofFn];exact(hg _).2.2
 rw[List.length_ofFn]; omega
theorem IJ{α:Type}{f:α->XB WJ}{R:α->Prop}{e w:Nat}(hw:P.cellsOf e=w)(hw0:0<w)(hsz:0<W.heap.size)(hf:∀p,(f p).all aM=true)
  (hdec:∀n cs x,DataW.trod enc P W 0 sp held n e cs=some x->∃p,cs=f p/\R p) {v:WJ} (h:nG enc P W 0 sp held (.sl e) v) :
  ∃(a:WH) (cap:Nat) (l:XB α),VR (dH W) (.slice a l.length cap) v/\Rd (dP W) a cap w l.length (l.map f)/\(∀p∈l,R p)/\l.length<=maxLen:=by
 obtain⟨a,cap,l,h1,_,h2,h3,h4⟩:=xG (f:=f) (R:=R) hw hw0 hsz (fun n cs x hx=>by
  obtain⟨p,rfl,hR⟩:=hdec n cs x hx;refine⟨p,?_,hR⟩;have:∀(l:XB WJ),l.all aM=true->l.map (seen (dH W))=l:=fun l hl=>by
   induction l with
   | nil=>rfl
   | cons x l ih =>
    rw[Vw,T7] at hl;rw[Wq,oe hl.1,ih hl.2]
  exact this _ (hf p)) h
 exact⟨a,cap,l,by rw[<-h1]; exact yQ _ _,h2,h3,h4⟩
theorem xl{base:Nat}{v:WJ}(h:nG enc P W base sp held (.int .u8) v):∃n:Nat,v=.int .u8 (n:Int)/\n<256:=by
 obtain⟨n,rfl,hw⟩:=h;have:=bounds_u8 hw;exact⟨n.toNat,by rw[Vd this.1],by omega⟩
theorem La{base:Nat}{v:WJ}(h:nG enc P W base sp held (.int .u16) v):∃n:Nat,v=.int .u16 (n:Int)/\n<65536:=by
 obtain⟨n,rfl,hw⟩:=h;have:=bounds_u16 hw;exact⟨n.toNat,by rw[Vd this.1],by omega⟩
theorem K3{base:Nat}{v:WJ}(h:nG enc P W base sp held (.int .u64) v):∃n:Nat,v=.int .u64 (n:Int)/\n<2 ^ 64:=by
 obtain⟨n,rfl,hw⟩:=h;have:=bounds_u64 hw;exact⟨n.toNat,by rw[Vd this.1],by omega⟩
theorem eV{α β:Type}{R:α->β->Prop}{a:α}{l:XB α}{r:XB β}(h:All2 R (a::l) r):∃b r',r=b::r'/\R a b/\All2 R l r':=by
 cases h with
 | cons h t=>exact⟨_,_,rfl,h,t⟩
theorem px{α β:Type}{R:α->β->Prop}{r:XB β}(h:All2 R [] r):r=[]:=by cases h; rfl
theorem uh{base d t n:Nat}{cs:XD WJ}{L:XB Lf}{x:DataW H×XB MemPlace}(hl:BG P d t=some L)(h:DataW.trod enc P W base sp held n t (Value.agg cs).cells.toList=some x):All2 (nG enc P W base sp held) L cs.toList:=iS d t L hl n _ x h
theorem H5{j:aL}{l:XB WJ}{cs:XD WJ}(h:LR j l cs.toList):VR j (.agg l.toArray) (.agg cs):=.C5 (by simpa using h)
theorem CN{t1 t2 t3 t4 t5:WK}{base:Nat}{args:XD WJ}{ds:XB (DataW H)}{ps:XB MemPlace}(h:DataW.TrodAll enc P W base sp held [t1,t2,t3,t4,t5] args.toList ds ps) :
  ∃v1 v2 v3 v4 v5 d1 d2 d3 d4 d5 p1 p2 p3 p4 p5,args=#[v1,v2,v3,v4,v5]/\ds=[d1,d2,d3,d4,d5]/\ps=p1++p2++p3++p4++p5/\DataW.Trod enc P W base sp held t1 v1 d1 p1/\DataW.Trod enc P W base sp held t2 v2 d2 p2/\DataW.Trod enc P W base sp held t3 v3 d3 p3/\DataW.Trod enc P W base sp held t4 v4 d4 p4/\DataW.Trod enc P W base sp held t5 v5 d5 p5:=by
 obtain⟨v1,w1,d1,e1,p1,q1,hargs,rfl,rfl,h1,g1⟩:=trodAll_cons h;obtain⟨v2,w2,d2,e2,p2,q2,rfl,rfl,rfl,h2,g2⟩:=trodAll_cons g1;obtain⟨v3,w3,d3,e3,p3,q3,rfl,rfl,rfl,h3,g3⟩:=trodAll_cons g2;obtain⟨v4,w4,d4,e4,p4,q4,rfl,rfl,rfl,h4,g4⟩:=trodAll_cons g3;obtain⟨v5,w5,d5,e5,p5,q5,rfl,rfl,rfl,h5,g5⟩:=trodAll_cons g4;obtain⟨rfl,rfl,rfl⟩:=trodAll_nil g5;exact⟨v1,v2,v3,v4,v5,d1,d2,d3,d4,d5,p1,p2,p3,p4,p5,by cases args; simp_all,rfl,by simp,h1,h2,h3,h4,h5⟩
theorem nQ{T:WK->Prop}(K:Kids P T)(hsz:∀{t e:WK},T t->P.underlying t=some (.slice e)->0<P.cellsOf e){W':WO}{sp':Nat->Bool}:∀{ts:XB WK} {vs:XB WJ} {ds:XB (DataW H)} {ps:XB MemPlace},
  (∀t∈ts,T t)->DataW.TrodAll enc P W 0 (fun _=>true) true ts vs ds ps->(∀p∈ps,W.sameAt W' p)->(∀p∈ps,sp' p.block=true)->DataW.TrodAll enc P W' 0 sp' true ts vs ds ps
 | [],[],[],_,_,h,_,_=>h
 | t::ts,v::vs,d::ds,_,hT,⟨p,q,⟨n,hn⟩,hs,e⟩,h1,h2=>by
  subst e;refine⟨p,q,⟨n,DataW.trod_stays K hsz (fun h=>(by cases h)) (hT t (by simp)) hn (fun x hx=>h1 x (by simp[hx])) fun x hx=>h2 x (by simp[hx])⟩,nQ K hsz (fun t' ht'=>hT t' (by simp[ht'])) hs (fun x hx=>h1 x (by simp[hx])) (fun x hx=>h2 x (by simp[hx])),rfl⟩
theorem F4{w w':WO}{p:MemPlace}(h:w'.heap[p.block]? = w.heap[p.block]?):w.sameAt w' p:=by
 cases p with
 | cell b o=>simp only[World.sameAt,World.cell?]; rw[show w'.heap[b]? = w.heap[b]? from h]
 | map b=>simp only[World.sameAt]; rw[show w'.heap[b]? = w.heap[b]? from h]
def sizedB(P:WN):Bool:=(List.range P.types.size).all fun t=>match P.underlying t with
 | some (.slice e)=>decide (0<P.cellsOf e)
 | _=>true
theorem F2(h:sizedB P=true){t e:WK}(ht:t<P.types.size)(hu:P.underlying t=some (.slice e)):0<P.cellsOf e:=by
 have:=Ux.1 h t (by simpa using ht)
 rw[hu] at this
 simpa using this
theorem HQ{f:Func}{s:ChangeSpec}{W':WO}{args:XD WJ}{ds:XB (DataW H)}{before:XB MemPlace}{tb:WK}{fresh handsOn:Bool}(hlo:laidOutB P=true)(hm:mapsRowed P=true)(hsz:sizedB P=true)
  (hvars:s.vars=[]) (hres:f.resultTypes.toList=[tb]) (hrs:f.resultTypes.size=1) (htb:P.underlying tb=some .bool) (hpt:∀t∈f.params.toList,t<P.types.size) (hfn:s.fn H ds ={ results:=[.lit (.bool true)],args:=ds,vars:=[]})
  (hW:DataW.Whole enc P f.params.toList s.vars false W args.toList ds [] before) {E:Env} (hcalm:iN E W W') (hg:∀c,c<W.heap.size->W'.heap[c]? = W.heap[c]?) :
  s.post enc P f false fresh handsOn false W args (.bool true) W':=by
 have hW':=hW;obtain⟨p,q,hA,hV,rfl,_,_⟩:=hW;rw[hvars] at hV;obtain⟨_,rfl⟩:=trodVars_none hV;have hlt:=hW'.lt;refine⟨ds,[],_,[],p,[],hW',?_,?_,?_,rC hcalm hg _,fun h=>by cases h⟩
 rw[Vc,hfn,hres]
 show DataW.TrodAll enc P W' _ _ handsOn [tb] ((Value.bool true).resultList f.resultTypes.size) [.lit (.bool true)] []
 rw[hrs];exact trodAll_mk1 (shut_bool htb true)
 rw[Vc,hfn];refine nQ (kids_rows hlo hm) (fun ht hu=>F2 hsz ht hu) hpt hA (fun x hx=>F4 (hg _ (hlt x (by simp[hx])))) fun x hx=>by
  have:=hlt x (by simp[hx])
  simpa using this
 rw[Vc,hfn,hvars];exact rfl
end
end Go.Ab
end
section
namespace Go.Ab
open Go
def yb(x y c:Nat):WJ:=.tuple #[.int .u64 (.ofNat ((x+y+c)%18446744073709551616)),.int .u64 (.ofNat ((x+y+c)/18446744073709551616))]
def uU(x y c:Nat):WJ:=.tuple #[.int .u64 (.ofNat ((x+18446744073709551616-y-c)%18446744073709551616)),.int .u64 (.ofNat (if x<y+c then 1 else 0))]
def dK(V:Nat->Nat->Nat->WJ)(args:XB WJ)(m:Xq):XA (WJ×Xq) :=
 match args with
 | [.int .u64 (.ofNat x),.int .u64 (.ofNat y),.int .u64 (.ofNat c)]=>if Nat.ble c 1 then some (V x y c,m) else none
 | _=>none
def vn{V:Nat->Nat->Nat->WJ}{args:XB WJ}{m m':Xq}{v:WJ}(h:dK V args m=some (v,m')) :
  ∃x y c:Nat,args=[.int .u64 x,.int .u64 y,.int .u64 c]/\c<=1/\v=V x y c/\m'=m:=by
 unfold dK at h
 split at h
 rename_i x y c
 split at h
 rename_i hc;cases h;exact⟨x,y,c,rfl,Ul hc,rfl,rfl⟩
 cases h
 cases h
section
variable{E:Env}{j:aL}{m:Xq}{w:WO}
def LR.DX:∀{l l':XB WJ},l.all Ab.aM=true->LR j l l'->l'=l:=by
 intro l
 induction l with
 | nil=>intro l' _ h; exact h.dw
 | cons v l ih =>
  intro l' hp h;obtain⟨v1,vs,rfl,h1,h2⟩:=h.cons_inv;rw[Vw,T7] at hp;rw[eS hp.1 h1,ih hp.2 h2]
def pF{V:Nat->Nat->Nat->WJ}{f:XI}(hV:∀x y c,bG (V x y c)=true)(hrun:∀(x y c:Nat) (w:WO),c<=1->(callFunc f #[.int .u64 x,.int .u64 y,.int .u64 c]).run E.P w=.ok (.value (V x y c)) w)(hpr:(E.cT f).isSome=true)
  {args args':XB WJ} {v:WJ} {m':Xq} (he:dK V args m=some (v,m')) (h:MR E j m w) (hl:LR j args args') :
  dT E.P (E.cT f).isSome f args'.toArray w (fH E j m w v m'):=by
 obtain⟨x,y,c,rfl,hc,rfl,rfl⟩:=vn he;rw[LR.DX rfl hl];exact .inr ⟨hpr,V x y c,w,hrun x y c w hc,j,.refl h,.bG (hV x y c)⟩
end
def CT(x y c:Nat):bG (yb x y c)=true:=rfl
def Di(x y c:Nat):bG (uU x y c)=true:=rfl
section
variable{P:WN}{f:XI}{fn:Func}
def LJ (hf : P.funcs[f]? = some fn) (hname : (fn.name == "runtime.NumGoroutine") = false) (hb : fn.body.isNone = true) (hn : Extern.findNext fn = none) (he : Extern.find fn = some add64Entry) (x y c : Nat) (w : WO) (hc : c <= 1) :
  (callFunc f #[.int .u64 x,.int .u64 y,.int .u64 c]).run P w=.ok (.value (yb x y c)) w:=by
 rw[run_callFunc_extern hf hname hb hn he,run_add64 x y c (by omega) (by omega) (by omega) (by omega)]
 simp only[Result.andThen,yb]
 congr 5
def LC (hf : P.funcs[f]? = some fn) (hname : (fn.name == "runtime.NumGoroutine") = false) (hb : fn.body.isNone = true) (hn : Extern.findNext fn = none) (he : Extern.find fn = some Go.Proofs.sub64Entry) (x y c : Nat) (w : WO) (hc : c <= 1) :
  (callFunc f #[.int .u64 x,.int .u64 y,.int .u64 c]).run P w=.ok (.value (uU x y c)) w:=by
 rw[run_callFunc_extern hf hname hb hn he,Go.Proofs.run_sub64 x y c hc]
 rfl
end
noncomputable def LI (v:WJ) (k:Nat->Bool):Bool:=nk v fun kd z=>dL (kP kd .u64) (FQ z k false) false
def qo{v:WJ}{k:Nat->Bool}(h:LI v k=true):∃x:Nat,v=.int .u64 x/\k x=true:=by
 obtain⟨kd,z,rfl,h⟩:=cO h;obtain⟨h1,h⟩:=aY h;cases eQ h1;rcases iE h with⟨x,rfl,h⟩|h
 exact⟨x,rfl,h⟩
 cases h
noncomputable def xC (W:Nat->Nat->Nat->(WJ->Bool)->Bool) (args:XB WJ) (m:Xq) (K:WJ->Xq->Bool):Bool :=
 dL (Jl args 3) (Az 0 args fun a=>Az 1 args fun b=>Az 2 args fun d=>LI a fun x=>LI b fun y=>LI d fun c=>dL (Nat.ble c 1) (W x y c fun v=>K v m) false) false
noncomputable def OL (x y c:Nat) (k:WJ->Bool):Bool:=fN ((x+y+c)%18446744073709551616) fun s=>fN ((x+y+c)/18446744073709551616) fun d=>k (.tuple #[.int .u64 (.ofNat s),.int .u64 (.ofNat d)])
noncomputable def O6 (x y c:Nat) (k:WJ->Bool):Bool:=fN ((x+18446744073709551616-y-c)%18446744073709551616) fun s=>dL (Nat.blt x (y+c)) (k (.tuple #[.int .u64 (.ofNat s),.int .u64 (.ofNat 1)])) (k (.tuple #[.int .u64 (.ofNat s),.int .u64 (.ofNat 0)]))
def DN(x y c:Nat)(k:WJ->Bool):OL x y c k=k (yb x y c):=by unfold OL yb; rw[dj,dj]
def Eb(x y c:Nat)(k:WJ->Bool):O6 x y c k=k (uU x y c):=by
 unfold O6 uU;rw[dj]
 by_cases h:x<y+c
 have:Nat.blt x (y+c)=true:=by rw[VS]; exact h
 rw[this,Ui h]; rfl
 ·have:Nat.blt x (y+c)=false:=by
   cases hb:Nat.blt x (y+c) with
   | false=>rfl
   | true=>rw[VS] at hb; exact Uy hb h
  rw[this,Uk h]; rfl
def mK{V:Nat->Nat->Nat->WJ}{W:Nat->Nat->Nat->(WJ->Bool)->Bool}(hW:∀x y c k,W x y c k=k (V x y c)){args:XB WJ}{m:Xq}{K:WJ->Xq->Bool}(h:xC W args m K=true):∃v m',dK V args m=some (v,m')/\K v m'=true:=by
 unfold xC at h;obtain⟨hl,h⟩:=aY h;obtain⟨a,ha,h⟩:=gp h;obtain⟨b,hb,h⟩:=gp h;obtain⟨d,hd,h⟩:=gp h;obtain⟨x,ea,h⟩:=qo h;obtain⟨y,eb,h⟩:=qo h;obtain⟨c,ed,h⟩:=qo h;rw[ea] at ha; rw[eb] at hb; rw[ed] at hd;obtain⟨hc,h⟩:=aY h;rw[hW] at h;have hargs:args=[.int .u64 x,.int .u64 y,.int .u64 c]:=by
  have:=mM hl
  match args,this,ha,hb,hd with
  | [p,q,r],_,ha,hb,hd=>cases ha; cases hb; cases hd; rfl
 refine⟨_,_,?_,h⟩;rw[hargs]
 show(if Nat.ble c 1 then some (V x y c,m) else none)=_
 rw[hc]; rfl
end Go.Ab
end
section
section
open Go Go.Ab Go.Ab.W
def Xk:Nat->Nat->XB Nat
 | _,0=>[]
 | a,n+1=>a::Xk (a+1) n
abbrev Xl{α:Type}(l:XB α)(k:Int):XB α:=(l.drop WR).take ((mi (l.length:Int) k).toNat-WR)
end
namespace Go.Proofs.YtpkadoocdgdcfaaGreatDoor
open Go.ChangeShapes Go.WideShapes Go.ChangeAt Go.WideMaps Go.WideElems Go.RowKit Go.Ab
def QX:ownKnob Tryz.prog.godebug=none:=by kernel_rfl
def S4 : Tryz.prog.globalNamed "math/bits.deBruijn64tab" = some 0 := by kernel_rfl
def kB:XB Int:=[0,1,56,2,57,49,28,3,61,58,42,50,38,29,17,4,62,47,59,36,45,43,51,22,53,39,33,30,24,18,12,5,63,55,48,27,60,41,37,16,46,35,44,21,52,32,23,11,54,26,40,15,34,20,31,10,25,14,19,9,13,8,7,6]
abbrev uf : XB (String × DataW XC) := [("math/bits.deBruijn64tab", Rows.laid_math_bits_deBruijn64tab)]
def fF:Nat->XA (XB WJ):=fun b=>if b=0 then some (kB.map (.int .u8)) else none
def Tf:Xq:=FM 1 fF
noncomputable def xp (p q r:XA Prim) (f:XI):XA Prim:=if f=234 then some ⟨dK yb⟩ else if f=251 then some ⟨dK uU⟩ else if f=66 then p else if f=11 then q else if f=70 then r else none
noncomputable def dy (p q r:XA Prim):Env:={ P:=Tryz.prog,glob:=1,cT:=xp p q r,mono:=False}
noncomputable abbrev nJ:Env:=dy none none none
def J7:Cp Tryz.prog=true:=by kernel_rfl
def tj{p q r:XA Prim}(hp:∀c,p=some c->∀args m v m',c.run args m=some (v,m')->∀(j:aL) (w:WO) (args':XB WJ),MR (dy p q r) j m w->LR j args args'->dT Tryz.prog true 66 args'.toArray w (fH (dy p q r) j m w v m'))
  (hq:∀c,q=some c->∀args m v m',c.run args m=some (v,m')->∀(j:aL) (w:WO) (args':XB WJ),MR (dy p q r) j m w->LR j args args'->dT Tryz.prog true 11 args'.toArray w (fH (dy p q r) j m w v m'))
  (hr:∀c,r=some c->∀args m v m',c.run args m=some (v,m')->∀(j:aL) (w:WO) (args':XB WJ),MR (dy p q r) j m w->LR j args args'->dT Tryz.prog true 70 args'.toArray w (fH (dy p q r) j m w v m')):EnvOk (dy p q r):=HY J7 fun f pc hf args m v m' hrun j w args' hm hl=>by
 have hp':xp p q r f=some pc:=hf;unfold xp at hp'
 split at hp'
 rename_i hf;subst hf;cases hp';exact pF (E:=dy p q r) CT (fun x y c w hc=>LJ Tryz.func234 (by kernel_rfl) (by kernel_rfl) (by kernel_rfl) (by kernel_rfl) x y c w hc) rfl hrun hm hl
 split at hp'
 rename_i hf;subst hf;cases hp';exact pF (E:=dy p q r) Di (fun x y c w hc=>LC Tryz.func251 (by kernel_rfl) (by kernel_rfl) (by kernel_rfl) (by kernel_rfl) x y c w hc) rfl hrun hm hl
 split at hp'
 rename_i hf;subst hf;have e:((dy p q r).cT 66).isSome=true:=by show(xp p q r 66).isSome=true; unfold xp; simp[hp']
 rw[e];exact hp pc hp' args m v m' hrun j w args' hm hl
 split at hp'
 rename_i hf;subst hf;have e:((dy p q r).cT 11).isSome=true:=by show(xp p q r 11).isSome=true; unfold xp; simp[hp']
 rw[e];exact hq pc hp' args m v m' hrun j w args' hm hl
 split at hp'
 rename_i hf;subst hf;have e:((dy p q r).cT 70).isSome=true:=by show(xp p q r 70).isSome=true; unfold xp; simp[hp']
 rw[e];exact hr pc hp' args m v m' hrun j w args' hm hl
 cases hp'
def oW:EnvOk nJ:=tj (fun c h=>by cases h) (fun c h=>by cases h) (fun c h=>by cases h)
def CQ(os:Os)(args:XD WJ):laidMetH Tryz.prog uf ((World.doorLaid Tryz.prog 400 os).forCall (fun _ _=>0) ⟨#[],args,[]⟩).memory :=
 laidMetH_of_parts3 (fuel:=8) (laidMet_of_run' 8 (by kernel_rfl) (by kernel_rfl)) (by kernel_rfl) (by kernel_rfl)
noncomputable def me (f:XI):XA PSem:=if f=234 then some ⟨xC OL⟩ else if f=251 then some ⟨xC O6⟩ else none
def pY(p q r:XA Prim):PA (dy p q r) me:=by
 intro f S hS;unfold me at hS
 split at hS
 rename_i e; cases hS; subst e;exact⟨⟨dK yb⟩,rfl,fun h=>mK DN h⟩
 split at hS
 rename_i e; cases hS; subst e;exact⟨⟨dK uU⟩,rfl,fun h=>mK Eb h⟩
 cases hS
end Go.Proofs.YtpkadoocdgdcfaaGreatDoor
end
section
namespace Go.Ab.W
open Go Go.Ab
attribute [local irreducible] Tm.at Trie.set Trie.get Xq.get Xq.set Xq.alloc Xq.ww Xq.kill
section
variable{E:Env}{n:Nat}{m0:Xq}{fs:Fs}{ps ps':XB Pc}{ops:XD Oper}{os:XB Oper}{K:Tm->Xq->Prop}{prs:XB (Nat×Nat)}
variable{ty:WK}{p:String}{af:XD Edge}{d:Nat}{o:Op}{g:XA (Nat×Bool)}{v:WJ}
inductive Nk
 | any
 | call
 | rd (b:Nat)
 | wr (b:Nat)
 | low (b:Nat)
 | kp (l:XB Nat)
 | rn (o:XA Nat)
 | ka (l:XB (XA Nat))
def Nk.of:Nk->Note->Prop
 | .any,_=>True
 | .call,x=>x.next<=x.wl
 | .rd b,x=>x.read=some b
 | .wr b,x=>x.wrote=some b
 | .low b,x=>b<x.wl
 | .kp l,x=>∀b∈l,x.kept b=true
 | .rn o,x=>x.read=o
 | .ka l,x=>∀b,some b∈l->x.kept b=true
def NR:XB Nk->XB Note->Prop
 | [],[]=>True
 | b::bs,x::xs=>dm x=true/\b.of x/\NR bs xs
 | _,_=>False
def NR.at:∀{bs:XB Nk} {ns:XB Note} {i:Nat} {b:Nk},NR bs ns->bs[i]? = some b->∃x,ns[i]? = some x/\b.of x
 | b::bs,x::xs,0,c,h,e=>by simp only[UA,Option.some.injEq] at e; subst e; exact⟨x,rfl,h.2.1⟩
 | b::bs,x::xs,i+1,c,h,e=>by rw[U2] at e ⊢; exact NR.at h.2.2 e
 | [],[],i,c,h,e=>by simp at e
 | [],_::_,_,_,h,_=>h.elim
 | _::_,[],_,_,h,_=>h.elim
def NR.all:∀{bs:XB Nk} {ns:XB Note},NR bs ns->ns.all dm=true
 | [],[],_=>rfl
 | _::_,_::_,h=>by rw[Vw,h.1,NR.all h.2.2]; rfl
 | [],_::_,h=>h.elim
 | _::_,[],h=>h.elim
def NR.snoc:∀{bs:XB Nk} {ns:XB Note} {b:Nk} {x:Note},NR bs ns->dm x=true->b.of x->NR (bs++[b]) (ns++[x])
 | [],[],_,_,_,h1,h2=>⟨h1,h2,trivial⟩
 | _::_,_::_,_,_,h,h1,h2=>⟨h.1,h.2.1,NR.snoc h.2.2 h1 h2⟩
 | [],_::_,_,_,h,_,_=>h.elim
 | _::_,[],_,_,h,_,_=>h.elim
def Nk.Qf:Nk->Bool
 | .call=>true
 | _=>false
def Ji(ops:XD Oper)(ss:XB Nk)(p:Nat×Nat):Prop :=
 match ss[p.1]?,ss[p.2]? with
  | some (.rd b),some (.wr b')=>b≠b'/\aE (ops.getD p.1 default).op=false
  | some (.wr b),some (.rd b')=>b'≠b/\aE (ops.getD p.2 default).op=false
  | some (.rd b),some (.low b')=>b<=b'/\aE (ops.getD p.1 default).op=false
  | some (.low b),some (.rd b')=>b'<=b/\aE (ops.getD p.2 default).op=false
  | some (.rd b),some (.kp l)=>b∈l/\aE (ops.getD p.1 default).op=false
  | some (.kp l),some (.rd b)=>b∈l/\aE (ops.getD p.2 default).op=false
  | some (.rd b),some (.ka l)=>some b∈l/\aE (ops.getD p.1 default).op=false
  | some (.ka l),some (.rd b)=>some b∈l/\aE (ops.getD p.2 default).op=false
  | some (.rn o),some (.ka l)=>o∈l/\aE (ops.getD p.1 default).op=false
  | some (.ka l),some (.rn o)=>o∈l/\aE (ops.getD p.2 default).op=false
  | some a,some b=>((a.Qf || !(aE (ops.getD p.1 default).op)) &&(b.Qf || !(aE (ops.getD p.2 default).op)))=true
  | _,_=>False
def eM(ops:XD Oper)(ss:XB Nk):XB (Nat×Nat)->Prop
 | []=>True
 | p::ps=>Ji ops ss p/\eM ops ss ps
def NO(ops:XD Oper)(ss:XB Nk):XB (Nat×Nat)->Bool
 | []=>true
 | p::ps=>(match ss[p.1]?,ss[p.2]? with
  | some (.rd _),some (.wr _)=>false
  | some (.wr _),some (.rd _)=>false
  | some (.rd _),some (.low _)=>false
  | some (.low _),some (.rd _)=>false
  | some (.rd _),some (.kp _)=>false
  | some (.kp _),some (.rd _)=>false
  | some (.rd _),some (.ka _)=>false
  | some (.ka _),some (.rd _)=>false
  | some (.rn _),some (.ka _)=>false
  | some (.ka _),some (.rn _)=>false
  | some a,some b=>((a.Qf || !(aE (ops.getD p.1 default).op)) &&(b.Qf || !(aE (ops.getD p.2 default).op)))
  | _,_=>false)&&NO ops ss ps
def eM.all{ops:XD Oper}{ss:XB Nk}:∀{ps:XB (Nat×Nat)},NO ops ss ps=true->eM ops ss ps
 | [],_=>trivial
 | p::ps,h=>by
  simp only[NO,T7] at h;refine⟨?_,eM.all h.2⟩;have h1:=h.1;unfold Ji
  split at h1
  cases h1
  cases h1
  cases h1
  cases h1
  cases h1
  cases h1
  cases h1
  cases h1
  cases h1
  cases h1
  rename_i a b ha hb hn1 hn2;exact h1
  cases h1
def eM.nil{ops:XD Oper}{ss:XB Nk}:eM ops ss []:=trivial
section
variable{ops:XD Oper}{ss:XB Nk}{ps:XB (Nat×Nat)}{i j b b':Nat}{l:XB Nat}{o:XA Nat}{la:XB (XA Nat)}
def eM.rw(h1:ss[i]? = some (.rd b))(h2:ss[j]? = some (.wr b'))(he:aE (ops.getD i default).op=false)(hne:b≠b')(k:eM ops ss ps):eM ops ss ((i,j)::ps):=by
 refine⟨?_,k⟩;simp only[Ji,h1,h2]; exact⟨hne,he⟩
def eM.rk(h1:ss[i]? = some (.rd b))(h2:ss[j]? = some (.kp l))(he:aE (ops.getD i default).op=false)(hm:b∈l)(k:eM ops ss ps):eM ops ss ((i,j)::ps):=by
 refine⟨?_,k⟩;simp only[Ji,h1,h2]; exact⟨hm,he⟩
end
def MM{r e:Note}(h:e.next<=e.wl):Note.ok r e=true:=by
 unfold Note.ok
 split
 rfl
 rename_i b _
 by_cases hb:b<e.wl
 simp[hb]
 have:e.next<=b:=by omega
 simp[this]
def EE{r e:Note}{b b':Nat}(h1:r.read=some b)(h2:e.wrote=some b')(hne:b≠b'):Note.ok r e=true:=by
 unfold Note.ok;rw[h1,h2];simp[hne]
def AX{r e:Note}{b b':Nat}(h1:r.read=some b)(h2:b'<e.wl)(hne:b<=b'):Note.ok r e=true:=by
 unfold Note.ok;rw[h1];simp[show b<e.wl by omega]
def D0{r e:Note}{b:Nat}{l:XB Nat}(h1:r.read=some b)(h2:∀b∈l,e.kept b=true)(hm:b∈l):Note.ok r e=true:=by
 unfold Note.ok;rw[h1];simp[h2 b hm]
def xB{r e:Note}{b:Nat}{l:XB (XA Nat)}(h1:r.read=some b)(h2:∀b,some b∈l->e.kept b=true)(hm:some b∈l):Note.ok r e=true:=by
 unfold Note.ok;rw[h1];simp[h2 b hm]
def DC{r e:Note}{o:XA Nat}{l:XB (XA Nat)}(h1:r.read=o)(h2:∀b,some b∈l->e.kept b=true)(hm:o∈l):Note.ok r e=true:=by
 cases o with
 | none=>unfold Note.ok; rw[h1]
 | some b=>exact xB h1 h2 hm
def Nk.ok{a b:Nk}{x y:Note}(_:a.of x)(hy:b.of y)(h:b.Qf=true):Note.ok x y=true:=by
 cases b with
 | call=>exact MM hy
 | _=>cases h
def zL{ops:XD Oper}{ss:XB Nk}{ns:XB Note}(h:NR ss ns):∀{prs:XB (Nat×Nat)},eM ops ss prs->prs.all (dD ns ops)=true
 | [],_=>rfl
 | p::prs,hk=>by
  rw[Vw,zL h hk.2,Bool.and_true];have h1:=hk.1;unfold Ji at h1
  split at h1
  rename_i b b' ha hb;obtain⟨x,hx1,hx2⟩:=h.at ha;obtain⟨y,hy1,hy2⟩:=h.at hb;simp only[dD,hx1,hy1,EE hx2 hy2 h1.1,h1.2,Wm,Uw,Wj,Vf]
  rename_i b b' ha hb;obtain⟨x,hx1,hx2⟩:=h.at ha;obtain⟨y,hy1,hy2⟩:=h.at hb;simp only[dD,hx1,hy1,EE hy2 hx2 h1.1,h1.2,Wm,Uw,Wj,Vf]
  rename_i b b' ha hb;obtain⟨x,hx1,hx2⟩:=h.at ha;obtain⟨y,hy1,hy2⟩:=h.at hb;simp only[dD,hx1,hy1,AX hx2 hy2 h1.1,h1.2,Wm,Uw,Wj,Vf]
  rename_i b b' ha hb;obtain⟨x,hx1,hx2⟩:=h.at ha;obtain⟨y,hy1,hy2⟩:=h.at hb;simp only[dD,hx1,hy1,AX hy2 hx2 h1.1,h1.2,Wm,Uw,Wj,Vf]
  rename_i b b' ha hb;obtain⟨x,hx1,hx2⟩:=h.at ha;obtain⟨y,hy1,hy2⟩:=h.at hb;simp only[dD,hx1,hy1,D0 hx2 hy2 h1.1,h1.2,Wm,Uw,Wj,Vf]
  rename_i b b' ha hb;obtain⟨x,hx1,hx2⟩:=h.at ha;obtain⟨y,hy1,hy2⟩:=h.at hb;simp only[dD,hx1,hy1,D0 hy2 hx2 h1.1,h1.2,Wm,Uw,Wj,Vf]
  rename_i b l ha hb;obtain⟨x,hx1,hx2⟩:=h.at ha;obtain⟨y,hy1,hy2⟩:=h.at hb;simp only[dD,hx1,hy1,xB hx2 hy2 h1.1,h1.2,Wm,Uw,Wj,Vf]
  rename_i b l ha hb;obtain⟨x,hx1,hx2⟩:=h.at ha;obtain⟨y,hy1,hy2⟩:=h.at hb;simp only[dD,hx1,hy1,xB hy2 hx2 h1.1,h1.2,Wm,Uw,Wj,Vf]
  rename_i b l ha hb;obtain⟨x,hx1,hx2⟩:=h.at ha;obtain⟨y,hy1,hy2⟩:=h.at hb;simp only[dD,hx1,hy1,DC hx2 hy2 h1.1,h1.2,Wm,Uw,Wj,Vf]
  rename_i b l ha hb;obtain⟨x,hx1,hx2⟩:=h.at ha;obtain⟨y,hy1,hy2⟩:=h.at hb;simp only[dD,hx1,hy1,DC hy2 hx2 h1.1,h1.2,Wm,Uw,Wj,Vf]
  rename_i a b _ _ _ _ _ _ _ _ _ _ ha hb;obtain⟨x,hx1,hx2⟩:=h.at ha;obtain⟨y,hy1,hy2⟩:=h.at hb;simp only[T7,VH,U7] at h1;simp only[dD,hx1,hy1,T7,VH,U7];refine⟨?_,?_⟩
  rcases h1.2 with h2|h2
  exact .inr (Nk.ok hx2 hy2 h2)
  exact .inl h2
  rcases h1.1 with h2|h2
  exact .inr (Nk.ok hy2 hx2 h2)
  exact .inl h2
  exact h1.elim
def NR.rev:∀{bs:XB Nk} {ns:XB Note},NR bs ns->NR bs.reverse ns.reverse
 | [],[],_=>trivial
 | b::bs,x::xs,h=>by
  rw[List.reverse_cons,List.reverse_cons];exact(NR.rev h.2.2).snoc h.1 h.2.1
 | [],_::_,h=>h.elim
 | _::_,[],h=>h.elim
variable{ss:XB Nk}
def Wn(E:Env)(n:Nat)(ops:XD Oper)(prs:XB (Nat×Nat))(K:Tm->Xq->Prop)(os:XB Oper)(ss:XB Nk)(m0:Xq)(fs:Fs)(ps:XB Pc):Prop :=
 ∀t m ns,Fr t fs->Hp m0 m ps->NR ss ns->dS E n ops (fun t m ns=>(prs.all (dD ns ops)&&ns.all dm)=true/\K t m) os t m ns
def Wn.nil{Q:Xr->Tm->Xq->Prop}(hk:∀m,Hp m0 m ps->eM ops ss.reverse prs)(h:At Q .normal m0 fs ps):Wn E n ops prs (Q .normal) [] ss m0 fs ps:=fun t m ns hf hm hn=>by
 refine⟨?_,h t m hf hm⟩;rw[zL hn.rev (hk m hm),hn.rev.all]; rfl
def Wn.xg{α:Type}{V:α->WJ}{N:α->XB Pc}{c:Nk}(h:∀t m,Fr t fs->Hp m0 m ps->m.wl=m.next->(∀b,aU E t o=some b->b<m.next)/\∀K:WJ->Xq->Prop,(∀x m',Hp m0 m' (N x)->c.of { read:=aU E t o,wl:=m'.wl,next:=m.next,wrote:=dY E t o,kept:=hC m m'}->K (V x) m')->bA E t m o K)
  (hg:sT ops fs g true) (dst:XA Nat) (hd:∀d,dst=some d->Nat.blt d n=true) (k:∀x,Wn E n ops prs K os (c::ss) m0 (match dst with|some d=>(d,V x)::fs|none=>fs) (N x)):Wn E n ops prs K (⟨dst,o,ty,p,af,g⟩::os) ss m0 fs ps:=by
 intro t m ns hf hm hn;simp only[dS,hg t _ _ _ _ _ hf,if_true];have hx:=hm.ext.next
 have hm':Hp m0 (m.ww m.next) ps:=hm.ww (by omega)
 have hwl:(m.ww m.next).wl=(m.ww m.next).next:=by rw[Xq.wl_ww,Xq.next_ww]
 have e0:({ next:=m.next,wl:=m.next,bX:=m.bX,base:=m.base}:Xq)=m.ww m.next:=by unfold Xq.ww; rfl
 rw[e0];obtain⟨h1,h2⟩:=h t _ hf hm' hwl;rw[Xq.next_ww] at h1;refine bA.A (h2 _ fun x m' hm'' hc=>?_);rw[Xq.next_ww] at hc;have hw:=hm''.ext.wl;have e1:({ next:=m'.next,wl:=min m.wl m'.wl,bX:=m'.bX,base:=m'.base}:Xq)=m'.ww (min m.wl m'.wl):=by unfold Xq.ww; rfl
 have hw0:=hm.ext.wl;have hfin:Hp m0 (m'.ww (min m.wl m'.wl)) (N x):=hm''.ww (by omega)
 have hkp:hC (m.ww m.next) m'=hC m m':=by
  funext b
  unfold hC;rw[Xq.get_ww]
 rw[hkp] at hc;have hnr:NR (c::ss) ({ read:=aU E t o,wl:=m'.wl,next:=m.next,wrote:=dY E t o,kept:=hC m m'}::ns):=⟨wU h1,hc,hn⟩
 cases dst with
 | none=>exact⟨t,rfl,by rw[e1]; exact k x t _ _ hf hfin hnr⟩
 | some d =>
  have hd':d<n:=by have:=hd d rfl; rwa[VS] at this
  exact⟨t.set d (V x),by rw[cK,Ui hd'],by rw[e1]; exact k x _ _ _ hf.set hfin hnr⟩
def Wn.x{α:Type}{V:α->WJ}{N:α->XB Pc}(h:Ox E m0 fs ps o V N)(hg:sT ops fs g true)(hd:Nat.blt d n=true)(k:∀x,Wn E n ops prs K os (.any::ss) m0 ((d,V x)::fs) (N x)):Wn E n ops prs K (⟨some d,o,ty,p,af,g⟩::os) ss m0 fs ps :=
 Wn.xg (c:=.any) (fun t m hf hm _=>⟨(h t m hf hm).1,fun K hK=>(h t m hf hm).2 K fun x m' h1=>hK x m' h1 trivial⟩) hg (some d) (fun d' e=>by cases e; exact hd) k
def Wn.x0{α:Type}{V:α->WJ}{N:α->XB Pc}(h:Ox E m0 fs ps o V N)(hg:sT ops fs g true)(k:∀x,Wn E n ops prs K os (.any::ss) m0 fs (N x)):Wn E n ops prs K (⟨none,o,ty,p,af,g⟩::os) ss m0 fs ps :=
 Wn.xg (c:=.any) (fun t m hf hm _=>⟨(h t m hf hm).1,fun K hK=>(h t m hf hm).2 K fun x m' h1=>hK x m' h1 trivial⟩) hg none (fun d' e=>by cases e) k
def CD:WJ->Bool
 | .int _ _|.bool _|.slice _ _ _|.map _|.pointer _=>true
 | _=>false
def RN:WJ->Bool
 | .func (.func _) a c=>a.toList.all CD&&c.toList.all CD
 | v=>CD v
def Gj{α:Type}(ps:XB Pc)(N:α->XB Pc):XB Nat->Prop
 | []=>True
 | b::l=>(∃cs k,pk ps k=some (.obj b (.cells cs .own))/\cs.all RN=true/\∀x,∃k',pk (N x) k'=some (.obj b (.cells cs .own)))/\Gj ps N l
def H4{m m':Xq}{b:Nat}(h:m.get b=m'.get b):hC m m' b=true:=by
 unfold hC;rw[VH];exact .inr (@decide_eq_true _ (Classical.propDecidable _) h)
def Gj.kept{α:Type}{N:α->XB Pc}{m m':Xq}{x:α}(hm:Hp m0 m ps)(hm':Hp m0 m' (N x)):∀{l:XB Nat},Gj ps N l->∀b∈l,hC m m' b=true
 | [],_,b,hb=>by cases hb
 | c::l,h,b,hb=>by
  rcases UC.1 hb with rfl|hb
  obtain⟨cs,k,h1,h2,h3⟩:=h.1;obtain⟨k',h4⟩:=h3 x;exact H4 (by rw[(hm.get h1).2.2,(hm'.get h4).2.2])
  exact Gj.kept hm hm' h.2 b hb
def Wn.xk{α:Type}{V:α->WJ}{N:α->XB Pc}{l:XB Nat}(h:Ox E m0 fs ps o V N)(hl:Gj ps N l)(hg:sT ops fs g true)(hd:Nat.blt d n=true)(k:∀x,Wn E n ops prs K os (.kp l::ss) m0 ((d,V x)::fs) (N x)):Wn E n ops prs K (⟨some d,o,ty,p,af,g⟩::os) ss m0 fs ps :=
 Wn.xg (c:=.kp l) (fun t m hf hm _=>⟨(h t m hf hm).1,fun K hK=>(h t m hf hm).2 K fun x m' h1=>hK x m' h1 (Gj.kept hm h1 hl)⟩) hg (some d) (fun d' e=>by cases e; exact hd) k
def Hp.ne{m:Xq}{i j b b':Nat}{x y:Pc}(h:Hp m0 m ps)(hx:pk ps i=some x)(hy:pk ps j=some y)(hb:x.rX=some b)(hb':y.rX=some b')(hne:i≠j)(ho:x.own=true):b≠b':=fun e=>(gL h.apart hx hy hne).1 b (Pc.Q5 ho hb) (.inl (by rw[e]; exact hb'))
def Oc(E:Env)(m0:Xq)(fs:Fs)(ps:XB Pc)(o:Op){α:Type}(V:α->WJ)(N:α->XB Pc):Prop :=
 ∀t m,Fr t fs->Hp m0 m ps->m.wl=m.next->(∀b,aU E t o=some b->b<m.next)/\∀K:WJ->Xq->Prop,(∀x m',Hp m0 m' (N x)->m.next<=m'.wl->K (V x) m')->bA E t m o K
def SW{α:Type}{V:α->WJ}{N:α->XB Pc}{f:WM}{g:XI}{ars:XD WM}{ts:XD WK}{args:XB WJ}(hf:ev E fs f=some (.func (.func g) #[] #[]))(ha:jK E fs ars.toList=some args)(hc:∀m,Hp m0 m ps->ax E g args m (fun v m'=>∃x,v=V x/\Hp m m' (N x)))(ho:∀x,xZ (N x)=true):Oc E m0 fs ps (.call ⟨.value f,ars,ts⟩) V (fun x=>N x++ps) :=
 fun t m hfr hm hwl=>⟨fun b hb=>(by simp[aU] at hb),fun K hK=>by
  show lC E (aq E t f) (bu E t ars.toList) m _
  rw[hfr.ev hf,hfr.jK ha,tM];refine(hc m hm).mono fun v m' ⟨x,e,h⟩=>?_;rw[e];refine hK x m' (hm.after h fun p hp=>Ux.1 (ho x) p hp) ?_;have:=h.ext.wl;omega⟩
def Wn.c{α:Type}{V:α->WJ}{N:α->XB Pc}(h:Oc E m0 fs ps o V N)(hg:sT ops fs g true)(hd:Nat.blt d n=true)(k:∀x,Wn E n ops prs K os (.call::ss) m0 ((d,V x)::fs) (N x)):Wn E n ops prs K (⟨some d,o,ty,p,af,g⟩::os) ss m0 fs ps :=
 Wn.xg (c:=.call) (fun t m hf hm hw=>⟨(h t m hf hm hw).1,fun K hK=>(h t m hf hm hw).2 K fun x m' h1 h2=>hK x m' h1 h2⟩) hg (some d) (fun d' e=>by cases e; exact hd) k
def Wn.od(h:Od E m0 fs ps o v ps')(hd:Nat.blt d n=true)(k:Wn E n ops prs K os (.any::ss) m0 ((d,v)::fs) ps'):Wn E n ops prs K (⟨some d,o,ty,p,af,none⟩::os) ss m0 fs ps:=Wn.x h.x gn hd fun _=>k
def Wn.o0(h:Od E m0 fs ps o v ps')(k:Wn E n ops prs K os (.any::ss) m0 fs ps'):Wn E n ops prs K (⟨none,o,ty,p,af,none⟩::os) ss m0 fs ps:=Wn.x0 h.x gn fun _=>k
def Wn.og(h:Od E m0 fs ps o v ps')(hg:sT ops fs g true)(hd:Nat.blt d n=true)(k:Wn E n ops prs K os (.any::ss) m0 ((d,v)::fs) ps'):Wn E n ops prs K (⟨some d,o,ty,p,af,g⟩::os) ss m0 fs ps:=Wn.x h.x hg hd fun _=>k
def Wn.T3{x:WM}{b off:Nat}{ty':WK}(hx:ev E fs x=some (ptr b off))(h:Od E m0 fs ps (.load ty' x) v ps')(hg:sT ops fs g true)(hd:Nat.blt d n=true)(k:Wn E n ops prs K os (.rd b::ss) m0 ((d,v)::fs) ps'):Wn E n ops prs K (⟨some d,.load ty' x,ty,p,af,g⟩::os) ss m0 fs ps :=
 Wn.xg (V:=fun _:XC=>v) (N:=fun _=>ps') (c:=.rd b) (fun t m hf hm _=>⟨(h t m hf hm).1,fun K hK=>(h t m hf hm).2 K fun m' h1=>hK () m' h1 (by show aU E t (.load ty' x)=some b; simp only[aU,hf.ev hx]; rfl)⟩) hg (some d) (fun d' e=>by cases e; exact hd) fun _=>k
def Wn.QC{x:WM}{b off:Nat}{ty':WK}(hx:ev E fs x=some (ptr b off))(h:Od E m0 fs ps (.load ty' x) v ps')(hd:Nat.blt d n=true)(k:Wn E n ops prs K os (.rd b::ss) m0 ((d,v)::fs) ps'):Wn E n ops prs K (⟨some d,.load ty' x,ty,p,af,none⟩::os) ss m0 fs ps:=Wn.T3 hx h gn hd k
def Wn.S8{x y:WM}{b off:Nat}{ty':WK}(hx:ev E fs x=some (ptr b off))(h:Od E m0 fs ps (.store ty' x y) v ps')(hg:sT ops fs g true)(k:Wn E n ops prs K os (.wr b::ss) m0 fs ps'):Wn E n ops prs K (⟨none,.store ty' x y,ty,p,af,g⟩::os) ss m0 fs ps :=
 Wn.xg (V:=fun _:XC=>v) (N:=fun _=>ps') (c:=.wr b) (fun t m hf hm _=>⟨(h t m hf hm).1,fun K hK=>(h t m hf hm).2 K fun m' h1=>hK () m' h1 (by show dY E t (.store ty' x y)=some b; simp only[dY,hf.ev hx]; rfl)⟩) hg none (fun d' e=>by cases e) fun _=>k
def Wn.Tu{x y:WM}{b off:Nat}{ty':WK}(hx:ev E fs x=some (ptr b off))(h:Od E m0 fs ps (.store ty' x y) v ps')(k:Wn E n ops prs K os (.wr b::ss) m0 fs ps'):Wn E n ops prs K (⟨none,.store ty' x y,ty,p,af,none⟩::os) ss m0 fs ps:=Wn.S8 hx h gn k
def Wn.s(hg:sT ops fs g false)(hd:Nat.blt d n=true)(k:Wn E n ops prs K os (.call::ss) m0 ((d,undef)::fs) ps):Wn E n ops prs K (⟨some d,o,ty,p,af,g⟩::os) ss m0 fs ps:=by
 have hd':d<n:=by rwa[VS] at hd
 intro t m ns hf hm hn;simp only[dS,hg t _ _ _ _ _ hf,Uu,if_false];exact⟨t.set d undef,by rw[cK,Ui hd'],k _ _ _ hf.set hm ⟨rfl,Ua _,hn⟩⟩
def Wn.bT(h:ai m0 ps ps')(k:Wn E n ops prs K os ss m0 fs ps'):Wn E n ops prs K os ss m0 fs ps:=fun t m ns hf hm hn=>k t m ns hf (h m hm) hn
def Wn.open{k w l:Nat}{a:WH}{es:WG}(hp:pk ps k=some (.sl a w l es))(hl:0<l)(h:∀b tg,a=some ⟨b,0,none⟩->AK tg=true->Wn E n ops prs K os ss m0 fs (df ps k (.arr b w l es tg))):Wn E n ops prs K os ss m0 fs ps:=by
 intro t m ns hf hm hn;rcases hm.get hp with⟨h1,_⟩|⟨b,tg,rfl,h1⟩
 omega
 exact h b tg rfl (by rcases h1.2.2.2.2.2.1 with rfl|rfl<;>rfl) t m ns hf (hm.put hp rfl rfl rfl (Ua _) hm.ext h1 fun _ _ _=>rfl) hn
def Wn.bp{k w l cap:Nat}{a:WH}{es:WG}(hp:pk ps k=some (.rd a cap w l es))(hl:0<l)(h:∀b o,a=some ⟨b,o,none⟩->Wn E n ops prs K os ss m0 fs (.ro b o w l es::ps)):Wn E n ops prs K os ss m0 fs ps:=by
 intro t m ns hf hm hn;obtain⟨h1,h2,h3⟩:=hm.get hp;rcases h3 with⟨_,h3⟩|⟨_,_,_,h3,_⟩|⟨b,o,rfl,h3⟩
 omega
 omega
 exact h b o rfl t m ns hf (hm.more hp rfl ⟨h1,h3⟩ rfl fun b' hb=>hb) hn
def Wn.len{α:Type}{f:α->XB WJ}{k w l:Nat}{a:WH}{xs:XB α}(hp:pk ps k=some (.sl a w l (xs.map f)))(h:l=xs.length->Wn E n ops prs K os ss m0 fs ps):Wn E n ops prs K os ss m0 fs ps:=fun t m ns hf hm hn=>by
 refine h ?_ t m ns hf hm hn;rcases hm.get hp with⟨h0,h1,_⟩|⟨b,tg,_,h1⟩
 rw[h0,List.map_eq_nil_iff.1 h1]; rfl
 have:=h1.2.2.2.1; rw[UH] at this; exact this.symm
def Wk.bS{fn:XI}{ro:XA Nat}{Q:Xr->Tm->Xq->Prop}{id:Nat}(hp:jB ops=some prs)(h:Wn E n ops prs (Q .normal) ops.toList [] m0 fs ps):Wk E n fn ro (.region id ops true) Q m0 fs ps:=fun t m hf hm=>.draw hp (h t m [] hf hm trivial)
end
section
variable{E:Env}{n:Nat}{fn:XI}{m0:Xq}{fs:Fs}{ps:XB Pc}{Q:Xr->Tm->Xq->Prop}
structure Rn where
 st:LoopState
 pe:XA Code
 ps:XB Pc
end
section
variable{α β:Type}[DecidableEq α]
structure KeyE(P:WN)(kt:WK)(kE:α->WJ):Prop where
 eq:∀a b,lj P Op.maxDepth kt (kE a) (kE b)=some (decide (a=b))
 ok:∀a,jq P kt (kE a)=true
 plain:∀a,bG (kE a)=true
 same:∀a,Instr.sameBits 10000 (kE a) (kE a)=true
end
section
variable{E:Env}{n:Nat}{m0 m:Xq}{fs:Fs}{ps:XB Pc}{x y z:WM}{ty:WK}
variable{α β:Type}[DecidableEq α]
def Wk.label{fn:XI}{ro:XA Nat}{Q:Xr->Tm->Xq->Prop}{l:Nat}(h:At Q .normal m0 fs ps):Wk E n fn ro (.label l) Q m0 fs ps:=fun t m hf hm=>.label (h t m hf hm)
def qI{γ:Type}{f:γ->XB WJ}{xs:XB γ}{k cap w l:Nat}{a:WH}(h:Hp m0 m ps)(hp:pk ps k=some (.rd a cap w l (xs.map f))):l=xs.length:=by
 have:=(h.get hp).1;rw[UH] at this;exact this.symm
end
end Go.Ab.W
section
open Go Go.Ab Go.Ab.W
abbrev W8:=@Wn.nil
abbrev WY:=@Wn.od
abbrev Xf:=@Wn.o0
abbrev Xh:=@Wn.og
abbrev Xd:=@Wk.bS
end
end
section
namespace Go.Ab.W
open Go Go.Ab
set_option maxRecDepth 10000
attribute [local irreducible] Tm.at Trie.set Trie.get Xq.get Xq.set Xq.alloc Xq.ww
def Gy(ps:XB Pc):∀(k:Nat) (p:Pc),pk ps k=some p->df ps k p=ps:=by
 induction ps with
 | nil=>intro k p h; exact nomatch h
 | cons q l ih =>
  intro k p h;cases k with
  | zero=>rw[jz] at h; cases h; rfl
  | succ k=>rw[fk] at h; simp only[df,ih k p h]
end Go.Ab.W
end
section
namespace Go.Ab.W
open Go Go.Ab
attribute [local irreducible] Tm.at Trie.set Trie.get Xq.get Xq.set Xq.alloc Xq.ww Xq.kill
section
variable{α:Type}
def Lj:XB α->XA (α×α×α×α×α×α×α×α)
 | [a,b,c,d,e,f,g,h]=>some (a,b,c,d,e,f,g,h)
 | _=>none
def pE{xs:XB α}{a b c d e f g h:α}(hx:Lj xs=some (a,b,c,d,e,f,g,h)):xs=[a,b,c,d,e,f,g,h]:=by
 unfold Lj at hx
 split at hx
 cases hx; rfl
 cases hx
end
section
variable{E:Env}{n:Nat}{m0 m:Xq}{fs:Fs}{ps:XB Pc}{x y z:WM}{ty:WK}
def ai.qY{α:Type}{xs:XB α}{f:α->XB WJ}{k b w l:Nat}{cs:XB WJ}(hp:pk ps k=some (.obj b (.cells cs .own)))(hx:cs=(xs.map f).flatten)(hl:xs.length=l)(he:Enc f w)(h0:Nat.blt 0 w=true):ai m0 ps (df ps k (.arr b w l (xs.map f) .own)):=fun m h=>by
 subst hx;exact h.put hp rfl rfl rfl (Ua _) h.ext ⟨(h.get hp).1,(h.get hp).2.1,(h.get hp).2.2,by rw[UH]; exact hl,fun e hm=>by obtain⟨x,_,rfl⟩:=Wa.1 hm; exact he.1 x,.inl rfl,by rwa[VS] at h0⟩ fun _ _ _=>rfl
def ai.xr{α:Type}{xs ys:XB α}{f:α->XB WJ}{k b w l:Nat}{cs:XB WJ}{tg:Tag}(hp:pk ps k=some (.arr b w l (xs.map f) tg))(hx:xs=ys)(hc:(ys.map f).flatten=cs):ai m0 ps (df ps k (.obj b (.cells cs tg))):=fun m h=>by
 subst hx hc;exact h.put hp rfl rfl rfl (Ua _) h.ext ⟨(h.get hp).1,(h.get hp).2.1,(h.get hp).2.2.1⟩ fun _ _ _=>rfl
def lf{el:WK}{b len w:Nat}{i:Int}{kd:IntKind}(h:ArT E.P ty el len w)(hx:ev E fs x=some (ptr b 0))(hy:ev E fs y=some (.int kd i))(hi:0<=i/\i.toNat<len):Od E m0 fs ps (.indexAddr ty x y) (ptr b (i.toNat*w+0)) ps:=by
 obtain⟨j,rfl⟩:=Int.eq_ofNat_of_zero_le hi.1;have hj:j<len:=by simpa using hi.2
 refine O5 hx hy ?_;rw[Rp h (b:=b) (o:=0) hj];simp
end
section
variable{E:Env}{n:Nat}{m0 m:Xq}{fs:Fs}{ps:XB Pc}
def j4(l:XB Pc):Bool:=l.all Pc.bound
def Fa{α:Type}{V:α->WJ}{N:α->XB Pc}{f:WM}{g:XI}{ars:XD WM}{ts:XD WK}{args:XB WJ}(hf:ev E fs f=some (.func (.func g) #[] #[]))(ha:jK E fs ars.toList=some args)(hc:∀m,Hp m0 m ps->ax E g args m (fun v m'=>∃x,v=V x/\Hp m m' (N x++[.gen (pU (kM ps))])))(ho:∀x,j4 (N x)=true):Ox E m0 fs ps (.call ⟨.value f,ars,ts⟩) V (fun x=>N x++ps) :=
 Ph hf ha fun m hm=>by
  simp only[VA,Vc];exact(hc m hm).mono fun v m' ⟨x,e,h⟩=>⟨x,e,hm.Jc h fun p hp=>Ux.1 (ho x) p hp⟩
def Np{α:Type}{V:α->WJ}{N:α->XB Pc}{f:WM}{g:XI}{ars:XD WM}{ts:XD WK}{args:XB WJ}(hf:ev E fs f=some (.func (.func g) #[] #[]))(ha:jK E fs ars.toList=some args)(hc:∀m,Hp m0 m ps->ax E g args m (fun v m'=>∃x,v=V x/\Hp m m' (N x++[.gen (pU (kM ps))])))(ho:∀x,j4 (N x)=true):Oc E m0 fs ps (.call ⟨.value f,ars,ts⟩) V (fun x=>N x++ps) :=
 fun t m hfr hm hwl=>⟨fun b hb=>(by simp[aU] at hb),fun K hK=>by
  show lC E (aq E t f) (bu E t ars.toList) m _
  rw[hfr.ev hf,hfr.jK ha,tM];refine(hc m hm).mono fun v m' ⟨x,e,h⟩=>?_;rw[e];refine hK x m' (hm.Jc h fun p hp=>Ux.1 (ho x) p hp) ?_;have:=h.ext.wl;omega⟩
end
section
variable{E:Env}{n:Nat}{m0:Xq}{fs:Fs}{ps:XB Pc}{ops:XD Oper}{os:XB Oper}{dr:Bool}
def Wo.aw{K:Tm->Xq->Prop}{α:Type}{f:α->XB WJ}{k w l cap:Nat}{a:WH}{xs:XB α}(hp:pk ps k=some (.rd a cap w l (xs.map f)))(h:l=xs.length->Wo dr E n ops K os m0 fs ps):Wo dr E n ops K os m0 fs ps:=by
 have key:∀m,Hp m0 m ps->l=xs.length:=fun m hm=>qI hm hp;cases dr with
 | false=>exact fun t m hf hm=>h (key m hm) t m hf hm
 | true=>exact fun t m w hf hm hw=>h (key m hm) t m w hf hm hw
def Wn.aw{prs:XB (Nat×Nat)}{K:Tm->Xq->Prop}{ss:XB Nk}{α:Type}{f:α->XB WJ}{k w l cap:Nat}{a:WH}{xs:XB α}(hp:pk ps k=some (.rd a cap w l (xs.map f)))(h:l=xs.length->Wn E n ops prs K os ss m0 fs ps):Wn E n ops prs K os ss m0 fs ps :=
 fun t m ns hf hm hn=>h (qI hm hp) t m ns hf hm hn
end
section
variable{E:Env}{m0:Xq}{fs:Fs}{ps:XB Pc}{ty:WK}
def RZ{α:Type}{f:α->XB WJ}{elem ty2:WK}{w k c0 l l2:Nat}{a a1:WH}{xs ys:XB α}{ars:XD WM}(he:Enc f w)(ht:SlT E.P ty elem w)(h0:∃e2,E.P.underlying ty2=some (.slice e2))(ha:jK E fs ars.toList=some [.slice a l l,.slice a1 l2 c0])(hp:pk ps k=some (.sl a w l (xs.map f)))(hr:∀m,Hp m0 m ps->Rd m a1 c0 w l2 (ys.map f))(hl:lim (xs++ys).length=true) :
  Ox E m0 fs ps (.call ⟨.builtin .append,ars,#[ty,ty2]⟩) (fun a':WH=>.slice a' (xs++ys).length (xs++ys).length) (fun a'=>df ps k (.sl a' w (xs++ys).length ((xs++ys).map f))):=fun t m hf hm=>⟨fun b hb=>(by simp[aU] at hb),fun K hK=>by
 have h1:l=xs.length:=by
  have:=hm.get hp;rcases this with⟨h5,h1,_⟩|⟨b,tg,_,h1⟩
  rw[h5,List.map_eq_nil_iff.1 h1]; rfl
  have:=h1.2.2.2.1; rw[UH] at this; exact this.symm
 have h2:l2=ys.length:=by
  have:=(hr m hm).1; rw[UH] at this; exact this.symm
 have e2:l+l2=(xs++ys).length:=by rw[h1,h2,Uf]
 obtain⟨a',m',h3,h4⟩:=mT (n:=l) ht h0 hm hp (hr m hm) (he.rK ys) (he.fO ys) (by rw[e2]; exact hl)
 have:bw E.P .append #[ty,ty2] [.slice a l l,.slice a1 l2 c0] m=some (.slice a' (l+l2) (l+l2),m'):=h3;rw[Go.Ab.fG (hf.jK ha) this];have e1:xs.map f++ys.map f=(xs++ys).map f:=List.map_append.symm;rw[e1,e2] at h4;rw[e2];exact hK a' m' h4⟩
end
section
def pn(c:WJ)(cs:XB WJ)(o:Nat)(vs:XB WJ):aK (c::cs) (o+1) vs=c::aK cs o vs:=by cases vs<;>rfl
def fC:∀(cs:XB WJ) (o:Nat),aK cs o []=cs
 | [],0=>rfl
 | _::_,0=>rfl
 | [],_+1=>rfl
 | c::cs,o+1=>by rw[pn,fC cs o]
def qW{f:Nat->XB WJ}{v:Nat->WJ}(hf:∀x,f x=[v x]):∀{ys xs zs:XB Nat},ys++xs.drop ys.length=zs->ys.length<=xs.length->aK (xs.map f).flatten 0 (ys.map f).flatten=(zs.map f).flatten
 | [],xs,zs,h,_=>by
  rw[VA,List.length_nil,Wu] at h;rw[h];exact fC _ 0
 | y::ys,[],zs,_,hl=>by simp at hl
 | y::ys,x::xs,zs,h,hl=>by
  have ih:=qW hf (ys:=ys) (xs:=xs) (zs:=ys++xs.drop ys.length) rfl (by simpa using hl)
  subst h;simp only[Wq,Va,hf,Ws,VA,UK,List.drop_succ_cons] at ih ⊢
  show v y::aK _ 0 _=_
  rw[ih]
def Qh{f:Nat->XB WJ}{v:Nat->WJ}(hf:∀x,f x=[v x]){c:WJ}{ys xs zs:XB Nat}(h:ys++xs.drop ys.length=zs)(hl:ys.length<=xs.length):aK (c::(xs.map f).flatten) 1 (ys.map f).flatten=c::(zs.map f).flatten:=by
 rw[show(1:Nat)=0+1 from rfl,pn,qW hf h hl]
variable{E:Env}{m0:Xq}{fs:Fs}{ps:XB Pc}{ty:WK}
def Qm{f:Nat->XB WJ}{elem ty2:WK}{k b o q c0 l2:Nat}{a1:WH}{cs cs':XB WJ}{ys:XB Nat}{ars:XD WM}(he:Enc f 1)(ht:SlT E.P ty elem 1)(ha:jK E fs ars.toList=some [.slice (some ⟨b,o,none⟩) q q,.slice a1 l2 c0])(hp:pk ps k=some (.obj b (.cells cs .own)))(hr:∀m,Hp m0 m ps->Rd m a1 c0 1 l2 (ys.map f))(hq:decide (ys.length<=q)=true)(ho:Nat.ble (o+q) cs.length=true)(hs:aK cs o (ys.map f).flatten=cs') :
  Od E m0 fs ps (.call ⟨.builtin .copy,ars,#[ty,ty2]⟩) (.int .i64 (ys.length:Int)) (df ps k (.obj b (.cells cs' .own))):=fun t m hf hm=>⟨fun b hb=>(by simp[aU] at hb),fun K hK=>by
 have h2:l2=ys.length:=by
  have:=(hr m hm).1; rw[UH] at this; exact this.symm
 have hq':=of_decide_eq_true hq;have ho':=Ul ho;have hc:=(hr m hm).cells;have hmin:min l2 q=l2:=by omega
 have hone:bt (ys.map f).flatten=true:=by
  unfold bt;rw[Ux];intro x hx;obtain⟨e,h3,h4⟩:=List.mem_flatten.1 hx;exact Ux.1 (he.fO ys e h3) x h4
 have hlen:(ys.map f).flatten.length=ys.length:=by
  clear hs hr hq hK h2 hq' hc hone
  induction ys with
  | nil=>rfl
  | cons x l ih=>rw[Wq,Va,Uf,ih,he.1 x,UK]; omega
 have hg:=(hm.get hp).2.2;have hsrc:cu (aB E.P elem) (.slice a1 l2 c0) (min l2 q) m=some (ys.map f).flatten:=by rw[ht.size,hmin]; exact hc
 cases hy:ys with
 | nil =>
  subst hy;have e1:cs'=cs:=by rw[<-hs]; exact fC cs o
  have h0:min l2 q=0:=by rw[hmin,h2]; rfl
  have:bw E.P .copy #[ty,ty2] [.slice (some ⟨b,o,none⟩) q q,.slice a1 l2 c0] m=some (.int .i64 0,m):=by
   show tJ E.P ty _ _ m=_
   unfold tJ;rw[h0] at hsrc;simp only[ht.und,ht.known,Uj,Uu,if_false,h0,hsrc,hone]
  rw[Go.Ab.fG (hf.jK ha) this];exact hK m (by rw[e1]; exact hm.put hp rfl rfl rfl (Ua _) hm.ext (hm.get hp) fun _ _ _=>rfl)
 | cons y y2 =>
  have h5:min l2 q=y2.length+1:=by rw[hmin,h2,hy]; rfl
  have hst:m.dz b o (ys.map f).flatten=some (m.set b (.cells cs' .own)):=by
   have hne:(ys.map f).flatten≠[]:=fun e=>by rw[e,hy] at hlen; cases hlen
   unfold Xq.dz
   split
   rename_i e; exact Uy e hne
   rw[hg];simp only[hlen];rw[WV,hs]
  have:bw E.P .copy #[ty,ty2] [.slice (some ⟨b,o,none⟩) q q,.slice a1 l2 c0] m=some (.int .i64 (ys.length:Int),m.set b (.cells cs' .own)):=by
   show tJ E.P ty _ _ m=_
   unfold tJ;rw[h5] at hsrc;simp only[ht.und,ht.known,Uj,Uu,if_false,h5,hsrc,hone,hst,Uh];rw[hy]; rfl
  rw[Go.Ab.fG (hf.jK ha) this];have hw:Hp m0 (m.set b (.cells cs' .own)) (df ps k (.obj b (.cells cs' .own))):=hm.write (o':=.cells cs' .own) (p':=.obj b (.cells cs' .own)) hp rfl rfl rfl rfl ⟨(hm.get hp).1,by rw[Xq.next_set]; exact(hm.get hp).2.1,by rw[Xq.cc,Ui rfl]⟩
  exact hK _ hw⟩
end
end Go.Ab.W
section
open Go Go.Ab Go.Ab.W
abbrev W4:=@Wo.aw
abbrev W1:=@Wn.aw
end
end
section
namespace Go.Ab.W
open Go Go.Ab
attribute [local irreducible] Tm.at Trie.set Trie.get Xq.get Xq.set Xq.alloc Xq.ww Xq.kill
section
variable{α:Type}{E:Env}{m0 m:Xq}{fs:Fs}{ps:XB Pc}{f:α->XB WJ}{w:Nat}{ty:WK}
def LN{β:Type}{V:β->WJ}{N:β->XB Pc}{x:WM}{b off:Nat}(hx:ev E fs x=some (ptr b off))(hb:∀m,Hp m0 m ps->b<m.next)(h:∀m,Hp m0 m ps->∃z,dJ E.P ty (ptr b off) m=some (V z)/\Hp m0 m (N z)):Ox E m0 fs ps (.load ty x) V N :=
 fun t m hf hm=>⟨fun b' hb'=>by
  have hx':aq E t x=some (ptr b off):=hf.ev hx;simp only[aU,hx',UQ] at hb';cases hb'; exact hb m hm,fun K hK=>by
  obtain⟨z,h1,h2⟩:=h m hm;rw[Go.Ab.Jn (hf.ev hx) h1]; exact hK z m h2⟩
end
def Qo(m:Xq)(RW:WI)(rb:Nat)(row:XB (Bool×XB Nat)):Prop :=
 rb<m.next/\∃vs,m.get rb=some (.cells vs .own)/\vs.length=row.length*2/\∀(j:Nat) (x:Bool×XB Nat),row[j]? = some x->vs[j*2]? = some (.bool x.1)/\∃a c,vs[j*2+1]? = some (.slice a x.2.length c)/\Rd m a c 1 x.2.length (x.2.map (eN .u64))/\∀b,cC a=some b->RW b
def Ss(ρ:Nat->Nat)(L:XB (XB (Bool×XB Nat)))(x:Nat):Prop:=∃i row,L[i]? = some row/\row≠[]/\x=ρ i
structure MatAt(m:Xq)(b n:Nat)(ρ:Nat->Nat)(RW:WI)(L:XB (XB (Bool×XB Nat))):Prop where
 lt:b<m.next
 len:n=L.length
 cells:∃cs,m.get b=some (.cells cs .own)/\cs.length=n/\∀(i:Nat) (row:XB (Bool×XB Nat)),L[i]? = some row->(row=[]/\cs[i]? = some (.slice none 0 0))\/(row≠[]/\cs[i]? = some (.slice (some ⟨ρ i,0,none⟩) row.length row.length))
 rows:∀(i:Nat) (row:XB (Bool×XB Nat)),L[i]? = some row->row≠[]->Qo m RW (ρ i) row
 rw:∀x,RW x->x<m.next/\x≠b/\¬Ss ρ L x
 out:∀(i:Nat) (row:XB (Bool×XB Nat)),L[i]? = some row->row≠[]->ρ i≠b
 inj:∀(i j:Nat) (row row':XB (Bool×XB Nat)),L[i]? = some row->L[j]? = some row'->row≠[]->row'≠[]->ρ i=ρ j->i=j
end Go.Ab.W
end
section
namespace Go.Ab.W
open Go Go.Ab
section
variable{P:WN}{ty el:WK}
def gF{eq:WK->WJ->WJ->XA Bool}{xs ys:XD WJ}{t off:Nat}{rest:XB (WK×Nat)}{x y:WJ}{b r:Bool}(h1:eu P t xs off=some x)(h2:eu P t ys off=some y)(h3:eq t x y=some b)(h4:ir eq P xs ys rest=some r):ir eq P xs ys ((t,off)::rest)=some (b&&r):=by
 unfold ir;rw[h1,h2]
 dsimp only
 rw[h3];cases b with
 | true=>exact h4
 | false=>rfl
def qR{k:IntKind}(he:P.underlying el=some (.int k))(d:Nat)(x y:Nat):lj P (d+1) el (.int k ((x:Nat):Int)) (.int k ((y:Nat):Int))=some (decide (x=y)):=by
 simp only[lj,he,if_true]
 congr 1
 rw[Bool.eq_iff_iff];simp only[beq_iff_eq,UL];omega
def I4{k:IntKind}(hu:P.underlying ty=some (.array 8 el))(hk:known P el=true)(hs:aB P el=1)(ha:ek P el=false)(he:P.underlying el=some (.int k))(d:Nat)(x0 y0 x1 y1 x2 y2 x3 y3 x4 y4 x5 y5 x6 y6 x7 y7:Nat) :
  lj P (d+2) ty (.agg #[.int k ((x0:Nat):Int),.int k ((x1:Nat):Int),.int k ((x2:Nat):Int),.int k ((x3:Nat):Int),.int k ((x4:Nat):Int),.int k ((x5:Nat):Int),.int k ((x6:Nat):Int),.int k ((x7:Nat):Int)])
   (.agg #[.int k ((y0:Nat):Int),.int k ((y1:Nat):Int),.int k ((y2:Nat):Int),.int k ((y3:Nat):Int),.int k ((y4:Nat):Int),.int k ((y5:Nat):Int),.int k ((y6:Nat):Int),.int k ((y7:Nat):Int)]) =
   some (decide (x0=y0)&&decide (x1=y1)&&decide (x2=y2)&&decide (x3=y3)&&decide (x4=y4)&&decide (x5=y5)&&decide (x6=y6)&&decide (x7=y7)):=by
 have hp:∀(cs:XD WJ) (i:Nat) (v:WJ),cs[i]? = some v->eu P el cs i=some v:=fun cs i v h=>by
  unfold eu;rw[hk,ha,h]; rfl
 show lj P ((d+1)+1) ty _ _=_
 unfold lj;simp only[hu,hk,if_true,hs]
 show ir _ P _ _ [(el,0),(el,1),(el,2),(el,3),(el,4),(el,5),(el,6),(el,7)]=_
 simp only[Bool.and_assoc];rw[gF (hp _ 0 _ rfl) (hp _ 0 _ rfl) (qR he d x0 y0) (gF (hp _ 1 _ rfl) (hp _ 1 _ rfl) (qR he d x1 y1) (gF (hp _ 2 _ rfl) (hp _ 2 _ rfl) (qR he d x2 y2) (gF (hp _ 3 _ rfl) (hp _ 3 _ rfl) (qR he d x3 y3) (gF (hp _ 4 _ rfl) (hp _ 4 _ rfl) (qR he d x4 y4) (gF (hp _ 5 _ rfl) (hp _ 5 _ rfl) (qR he d x5 y5) (gF (hp _ 6 _ rfl) (hp _ 6 _ rfl) (qR he d x6 y6) (gF (hp _ 7 _ rfl) (hp _ 7 _ rfl) (qR he d x7 y7) rfl)))))))];simp only[Bool.and_true]
def Rx {k : IntKind} {w : WK} {fs : XD _} (hu2 : P.underlying ty = some (.struct fs)) (hst : (P.stoodInHeld ty || fs.any (·.name == "_")) = false) (hm : fs.toList.map (fun f => (f.type, f.offset)) = [(w, 0), (w, 8)])
  (hkw:known P w=true) (haw:ek P w=true) (hsw:aB P w=8)
  (hu:P.underlying w=some (.array 8 el)) (hk:known P el=true) (hs:aB P el=1) (ha:ek P el=false) (he:P.underlying el=some (.int k)) (x0 y0 x1 y1 x2 y2 x3 y3 x4 y4 x5 y5 x6 y6 x7 y7 x8 y8 x9 y9 x10 y10 x11 y11 x12 y12 x13 y13 x14 y14 x15 y15:Nat) :
  lj P Op.maxDepth ty (.agg #[.int k ((x0:Nat):Int),.int k ((x1:Nat):Int),.int k ((x2:Nat):Int),.int k ((x3:Nat):Int),.int k ((x4:Nat):Int),.int k ((x5:Nat):Int),.int k ((x6:Nat):Int),.int k ((x7:Nat):Int),.int k ((x8:Nat):Int),.int k ((x9:Nat):Int),.int k ((x10:Nat):Int),.int k ((x11:Nat):Int),.int k ((x12:Nat):Int),.int k ((x13:Nat):Int),.int k ((x14:Nat):Int),.int k ((x15:Nat):Int)]) (.agg #[.int k ((y0:Nat):Int),.int k ((y1:Nat):Int),.int k ((y2:Nat):Int),.int k ((y3:Nat):Int),.int k ((y4:Nat):Int),.int k ((y5:Nat):Int),.int k ((y6:Nat):Int),.int k ((y7:Nat):Int),.int k ((y8:Nat):Int),.int k ((y9:Nat):Int),.int k ((y10:Nat):Int),.int k ((y11:Nat):Int),.int k ((y12:Nat):Int),.int k ((y13:Nat):Int),.int k ((y14:Nat):Int),.int k ((y15:Nat):Int)])=some (decide (x0=y0)&&decide (x1=y1)&&decide (x2=y2)&&decide (x3=y3)&&decide (x4=y4)&&decide (x5=y5)&&decide (x6=y6)&&decide (x7=y7)&&decide (x8=y8)&&decide (x9=y9)&&decide (x10=y10)&&decide (x11=y11)&&decide (x12=y12)&&decide (x13=y13)&&decide (x14=y14)&&decide (x15=y15)):=by
 have hp0:∀a0 a1 a2 a3 a4 a5 a6 a7 b0 b1 b2 b3 b4 b5 b6 b7:WJ,eu P w #[a0,a1,a2,a3,a4,a5,a6,a7,b0,b1,b2,b3,b4,b5,b6,b7] 0=some (.agg #[a0,a1,a2,a3,a4,a5,a6,a7]):=fun _ _ _ _ _ _ _ _ _ _ _ _ _ _ _ _=>by
  unfold eu;rw[hkw,haw,hsw]; rfl
 have hp8:∀a0 a1 a2 a3 a4 a5 a6 a7 b0 b1 b2 b3 b4 b5 b6 b7:WJ,eu P w #[a0,a1,a2,a3,a4,a5,a6,a7,b0,b1,b2,b3,b4,b5,b6,b7] 8=some (.agg #[b0,b1,b2,b3,b4,b5,b6,b7]):=fun _ _ _ _ _ _ _ _ _ _ _ _ _ _ _ _=>by
  unfold eu;rw[hkw,haw,hsw]; rfl
 show lj P (9999+1) ty _ _=_
 unfold lj;simp only[hu2,hst,Uu,if_false,hm];rw[gF (hp0 ..) (hp0 ..) (I4 hu hk hs ha he 9997 x0 y0 x1 y1 x2 y2 x3 y3 x4 y4 x5 y5 x6 y6 x7 y7) (gF (hp8 ..) (hp8 ..) (I4 hu hk hs ha he 9997 x8 y8 x9 y9 x10 y10 x11 y11 x12 y12 x13 y13 x14 y14 x15 y15) rfl)];simp only[Bool.and_true,Bool.and_assoc]
def QA(P:WN)(ty w:WK):Bool:=match P.underlying ty with
 | some (.struct fs) => !(P.stoodInHeld ty || fs.any (·.name == "_")) && (fs.toList.map (fun f => (f.type, f.offset)) == [(w, 0), (w, 8)]) && known P w && ek P w && (aB P w == 8)
 | _=>false
def NH{k:IntKind}{w:WK}(h:QA P ty w=true)
  (hu:P.underlying w=some (.array 8 el)) (hk:known P el=true) (hs:aB P el=1) (ha:ek P el=false) (he:P.underlying el=some (.int k)) (x0 y0 x1 y1 x2 y2 x3 y3 x4 y4 x5 y5 x6 y6 x7 y7 x8 y8 x9 y9 x10 y10 x11 y11 x12 y12 x13 y13 x14 y14 x15 y15:Nat) :
  lj P Op.maxDepth ty (.agg #[.int k ((x0:Nat):Int),.int k ((x1:Nat):Int),.int k ((x2:Nat):Int),.int k ((x3:Nat):Int),.int k ((x4:Nat):Int),.int k ((x5:Nat):Int),.int k ((x6:Nat):Int),.int k ((x7:Nat):Int),.int k ((x8:Nat):Int),.int k ((x9:Nat):Int),.int k ((x10:Nat):Int),.int k ((x11:Nat):Int),.int k ((x12:Nat):Int),.int k ((x13:Nat):Int),.int k ((x14:Nat):Int),.int k ((x15:Nat):Int)]) (.agg #[.int k ((y0:Nat):Int),.int k ((y1:Nat):Int),.int k ((y2:Nat):Int),.int k ((y3:Nat):Int),.int k ((y4:Nat):Int),.int k ((y5:Nat):Int),.int k ((y6:Nat):Int),.int k ((y7:Nat):Int),.int k ((y8:Nat):Int),.int k ((y9:Nat):Int),.int k ((y10:Nat):Int),.int k ((y11:Nat):Int),.int k ((y12:Nat):Int),.int k ((y13:Nat):Int),.int k ((y14:Nat):Int),.int k ((y15:Nat):Int)])=some (decide (x0=y0)&&decide (x1=y1)&&decide (x2=y2)&&decide (x3=y3)&&decide (x4=y4)&&decide (x5=y5)&&decide (x6=y6)&&decide (x7=y7)&&decide (x8=y8)&&decide (x9=y9)&&decide (x10=y10)&&decide (x11=y11)&&decide (x12=y12)&&decide (x13=y13)&&decide (x14=y14)&&decide (x15=y15)):=by
 unfold QA at h
 split at h
 rename_i fs hf;simp only[T7,U7,beq_iff_eq] at h;exact Rx hf h.1.1.1.1 h.1.1.1.2 h.1.1.2 h.1.2 h.2 hu hk hs ha he x0 y0 x1 y1 x2 y2 x3 y3 x4 y4 x5 y5 x6 y6 x7 y7 x8 y8 x9 y9 x10 y10 x11 y11 x12 y12 x13 y13 x14 y14 x15 y15
 cases h
end
attribute [local irreducible] Tm.at Trie.set Trie.get Xq.get Xq.set Xq.alloc Xq.ww Xq.kill
structure Rep(α:Type) where
 w:Nat
 G:Type
 V:α->G->XB WJ
 A:Xq->(Nat->Prop)->α->G->Prop
 N:α->G->(Nat->Prop)->XB Pc
 mono:∀{m:Xq} {R R':WI} {x:α} {g:G},A m R x g->(∀b,R b->R' b)->A m R' x g
 st:∀{m m':Xq} {R:WI} {x:α} {g:G},A m R x g->m.next<=m'.next->(∀b,R b->b<m.next->m'.get b=m.get b)->A m' R x g
 len:∀x g,(V x g).length=w
 one:∀x g,(V x g).all lD=true
 hN:∀{lo:Nat} {m:Xq} {R:WI} {x:α} {g:G},A m R x g->(∀b,R b->b<m.next)->∀p∈N x g R,p.ok lo m/\(∀b,¬p.ow b)/\∀b,p.any b->R b
section
variable{α β:Type}
def gi(r:Rep α)(m:Xq)(R:WI)(L:XB α)(es:WG):Prop :=
 es.length=L.length/\∀(i:Nat) (x:α),L[i]? = some x->∃g,es[i]? = some (r.V x g)/\r.A m R x g
def gi.mono{r:Rep α}{m:Xq}{R R':WI}{L:XB α}{es:WG}(h:gi r m R L es)(hR:∀b,R b->R' b):gi r m R' L es :=
 ⟨h.1,fun i x hi=>by obtain⟨g,h1,h2⟩:=h.2 i x hi; exact⟨g,h1,r.mono h2 hR⟩⟩
def gi.st{r:Rep α}{m m':Xq}{R:WI}{L:XB α}{es:WG}(h:gi r m R L es)(hn:m.next<=m'.next)(hg:∀b,R b->b<m.next->m'.get b=m.get b):gi r m' R L es :=
 ⟨h.1,fun i x hi=>by obtain⟨g,h1,h2⟩:=h.2 i x hi; exact⟨g,h1,r.st h2 hn hg⟩⟩
def gi.nil{r:Rep α}{m:Xq}{R:WI}:gi r m R [] []:=⟨rfl,fun i x h=>by simp at h⟩
def gi.cons{r:Rep α}{m:Xq}{R:WI}{L:XB α}{es:WG}{x:α}{g:r.G}(hx:r.A m R x g)(h:gi r m R L es):gi r m R (x::L) (r.V x g::es) :=
 ⟨by simp[h.1],fun i y hi=>by
  cases i with
  | zero=>cases hi; exact⟨g,rfl,hx⟩
  | succ i=>exact h.2 i y (by simpa using hi)⟩
def gi.append{r:Rep α}{m:Xq}{R:WI}{L L':XB α}{es es':WG}(h:gi r m R L es)(h':gi r m R L' es'):gi r m R (L++L') (es++es') :=
 ⟨by simp[h.1,h'.1],fun i y hi=>by
  by_cases hlt:i<L.length
  rw[U1 hlt] at hi;rw[U1 (by rw[h.1]; exact hlt)]
  exact h.2 i y hi
  rw[UJ (by omega)] at hi
  rw[UJ (by rw[h.1]; omega),h.1]
  exact h'.2 _ y hi⟩
def gi.sub{r:Rep α}{m:Xq}{R:WI}{L:XB α}{es:WG}(h:gi r m R L es)(lo k:Nat):gi r m R ((L.drop lo).take k) ((es.drop lo).take k) :=
 ⟨by simp[h.1],fun i y hi=>by
  rw[VY] at hi ⊢
  split at hi
  rename_i hlt;rw[Ui hlt,Vr];rw[Vr] at hi;exact h.2 _ y hi
  cases hi⟩
def gi.set{r:Rep α}{m:Xq}{R:WI}{L:XB α}{es:WG}{x:α}{g:r.G}(h:gi r m R L es)(j:Nat)(hx:r.A m R x g):gi r m R (L.set j x) (es.set j (r.V x g)) :=
 ⟨by simp[h.1],fun i y hi=>by
  rw[List.getElem?_set] at hi ⊢
  split at hi
  rename_i e;subst e
  split at hi
  rename_i hlt;cases hi;rw[Ui rfl,Ui (by rw[h.1]; exact hlt)]
  exact⟨g,rfl,hx⟩
  cases hi
  rename_i e;rw[Uk e];exact h.2 i y hi⟩
def gi.fO{r:Rep α}{m:Xq}{R:WI}{L:XB α}{es:WG}(h:gi r m R L es):W.fO es:=fun e he=>by
 obtain⟨i,hi,rfl⟩:=List.mem_iff_getElem.1 he;obtain⟨g,h1,_⟩:=h.2 i (L[i]'(by rw[<-h.1]; exact hi)) (by simp)
 rw[T6 hi] at h1;rw[Ug h1]; exact r.one _ _
def gi.width{r:Rep α}{m:Xq}{R:WI}{L:XB α}{es:WG}(h:gi r m R L es):∀e∈es,e.length=r.w:=fun e he=>by
 obtain⟨i,hi,rfl⟩:=List.mem_iff_getElem.1 he;obtain⟨g,h1,_⟩:=h.2 i (L[i]'(by rw[<-h.1]; exact hi)) (by simp)
 rw[T6 hi] at h1;rw[Ug h1]; exact r.len _ _
def eh(r:Rep α)(R:WI)(L:XB α)(es:WG):GPc where
 ow _:=False
 rd b:=R b
 P m:=gi r m R L es/\∀b,R b->b<m.next
 st _ _ h hn hg:=⟨h.1.st hn fun b hb hlt=>hg b (.inr hb) hlt,fun b hb=>Uc (h.2 b hb) hn⟩
 lt _ b h hb:=hb.elim (fun h=>h.elim) (h.2 b)
def fI{r:Rep α}{R:WI}{L:XB α}{es:WG}{b:Nat}:¬Pc.ow (.gen (eh r R L es)) b:=fun h=>h.elim (fun h=>by cases h.1) fun h=>h
def sA{r:Rep α}{R:WI}{L:XB α}{es:WG}{b:Nat}(h:Pc.any (.gen (eh r R L es)) b):R b:=h.elim (fun h=>by cases h) fun h=>h.elim (fun h=>h.elim) id
def zX{a:WH}{cap w n:Nat}{es:WG}{b:Nat}:¬Pc.ow (.rd a cap w n es) b:=fun h=>h.elim (fun h=>by cases h.1) fun h=>h.elim
def Iq{a:WH}{cap w n:Nat}{es:WG}{b:Nat}(h:Pc.any (.rd a cap w n es) b):cC a=some b:=h.elim id fun h=>h.elim
def rF(f:α->XB WJ)(w:Nat)(h:Enc f w):Rep α where
 w:=w
 G:=XC
 V x _:=f x
 A _ _ _ _:=True
 N _ _ _:=[]
 mono _ _:=trivial
 st _ _ _:=trivial
 len x _:=h.len x
 one x _:=h.one x
 hN _ _ p hp:=by cases hp
def rS(f:α->XB WJ)(w:Nat):Rep (XB α) where
 w:=1
 G:=WH×Nat
 V l g:=[.slice g.1 l.length g.2]
 A m R l g:=Rd m g.1 g.2 w l.length (l.map f)/\∀b,cC g.1=some b->R b
 N l g _:=[.rd g.1 g.2 w l.length (l.map f)]
 mono h hR:=⟨h.1,fun b hb=>hR b (h.2 b hb)⟩
 st h hn hg:=⟨h.1.mj hn fun b hb hlt=>hg b (h.2 b hb) hlt,h.2⟩
 len _ _:=rfl
 one _ _:=rfl
 hN h _ p hp:=by
  rw[UI.1 hp];exact⟨h.1,fun b=>zX,fun b hb=>h.2 b (Iq hb)⟩
def rP(r:Rep α)(s:Rep β):Rep (α×β) where
 w:=r.w+s.w
 G:=r.G×s.G
 V x g:=r.V x.1 g.1++s.V x.2 g.2
 A m R x g:=r.A m R x.1 g.1/\s.A m R x.2 g.2
 N x g R:=r.N x.1 g.1 R++s.N x.2 g.2 R
 mono h hR:=⟨r.mono h.1 hR,s.mono h.2 hR⟩
 st h hn hg:=⟨r.st h.1 hn hg,s.st h.2 hn hg⟩
 len x g:=by rw[Uf,r.len,s.len]
 one x g:=by rw[List.all_append,r.one,s.one]; rfl
 hN h hlt p hp:=by
  rcases UT.1 hp with hp|hp
  exact r.hN h.1 hlt p hp
  exact s.hN h.2 hlt p hp
end
section
variable{α β:Type}{E:Env}{n:Nat}{m0 m:Xq}{fs:Fs}{ps:XB Pc}{r:Rep α}{r2:Rep β}{x:WM}{ty:WK}
def wY:∀(l:XB Pc) (k:Nat),pk (l++ps) (l.length+k)=pk ps k
 | [],k=>by rw[VA,List.length_nil,UU]
 | p::l,k=>by rw[Ws,UK,show l.length+1+k=(l.length+k)+1 by omega,fk,wY l k]
def Hp.Js{q:Nat}{p:Pc}(h:Hp m0 m ps)(hq:pk ps q=some p)(hpo:∀b,¬p.ow b):∀new:XB Pc,(∀r∈new,r.ok m0.next m/\(∀b,¬r.ow b)/\∀b,r.any b->p.any b)->Hp m0 m (new++ps)
 | [],_=>h
 | r::l,hl=>(h.Js hq hpo l fun r' h'=>hl r' (UM _ h')).Ev (k:=l.length+q) (by rw[wY]; exact hq) hpo (hl r (Vg ..)).1 (hl r (Vg ..)).2.1 (hl r (Vg ..)).2.2
def R5{ag:Bool}{sz b o w j c q off:Nat}{R:WI}{L:XB α}{es:WG}{z:α}{V:r.G->WJ}{N:r.G->XB Pc}(ht:TyI E.P ty ag sz)(hx:ev E fs x=some (ptr b off))(ho:off=o+j*w+c)(hli:∀m,Hp m0 m ps->oZ m b o w es)(hq:pk ps q=some (.gen (eh r R L es)))(hl:L[j]? = some z)(hv:∀g,AP ag sz (r.V z g) c=some (V g))(hs:yG ag sz c w=true)(hN:∀g,N g=r.N z g R++ps):Ox E m0 fs ps (.load ty x) V N:=by
 subst ho;refine LN hx (fun m hm=>(hli m hm).1) fun m hm=>?_;have hP:=(hm.get hq).1;obtain⟨g,h1,h2⟩:=hP.1.2 j z hl;have hs:=xD hs;refine⟨g,qP ht (hli m hm) h1 (hv g) hs.1 hs.2,?_⟩;rw[hN];exact hm.Js hq (fun b=>fI) _ fun p hp=>by
  obtain⟨a1,a2,a3⟩:=r.hN h2 hP.2 p hp;exact⟨a1,a2,fun b hb=>.inr (.inr (a3 b hb))⟩
def fu{k b w l:Nat}{es:WG}{tg:Tag}(hp:pk ps k=some (.arr b w l es tg)):∀m,Hp m0 m ps->oZ m b 0 w es:=fun _ h=>Db.O1 (h.get hp)
def md{k b o w l:Nat}{es:WG}(hp:pk ps k=some (.ro b o w l es)):∀m,Hp m0 m ps->oZ m b o w es:=fun _ h=>(h.get hp).2
def Hp.my{j q:Nat}{R:WI}{L:XB α}{es:WG}{z:α}(hm:Hp m0 m ps)(hq:pk ps q=some (.gen (eh r R L es)))(hl:L[j]? = some z):∃g,es[j]? = some (r.V z g)/\Hp m0 m (r.N z g R++ps):=by
 have hP:=(hm.get hq).1;obtain⟨g,h1,h2⟩:=hP.1.2 j z hl;exact⟨g,h1,hm.Js hq (fun b=>fI) _ fun p hp=>by
  obtain⟨a1,a2,a3⟩:=r.hN h2 hP.2 p hp;exact⟨a1,a2,fun b hb=>.inr (.inr (a3 b hb))⟩⟩
def ov(a c:Nat):a+c=0+a+c:=by rw[UU]
def Lf(m0:Xq)(ps:XB Pc)(r:Rep α)(z:α)(g:r.G)(S:WI):Prop:=∀m,Hp m0 m ps->r.A m S z g/\∀b,S b->∃q∈ps,(∀b,¬q.ow b)/\q.any b
def Lf.f{f:α->XB WJ}{w:Nat}(h:Enc f w)(z:α):Lf m0 ps (rF f w h) z () (fun _=>False):=fun _ _=>⟨trivial,fun _ h=>h.elim⟩
def Lf.s{f:α->XB WJ}{a:WH}{k cap w:Nat}{l:XB α}(hp:pk ps k=some (.rd a cap w l.length (l.map f))):Lf m0 ps (rS f w) l (a,cap) (fun b=>cC a=some b):=fun _ hm =>
 ⟨⟨hm.get hp,fun _ h=>h⟩,fun _ hb=>⟨_,mq hp,fun _=>zX,.inl hb⟩⟩
def Lf.s0{f:α->XB WJ}{w:Nat}:Lf m0 ps (rS f w) [] (none,0) (fun _=>False):=fun _ _=>⟨⟨Rd.nil _ _,fun _ h=>(by cases h)⟩,fun _ h=>h.elim⟩
def Lf.p{z:α}{y:β}{g:r.G}{g':r2.G}{S S':WI}(h:Lf m0 ps r z g S)(h':Lf m0 ps r2 y g' S'):Lf m0 ps (rP r r2) (z,y) (g,g') (fun b=>S b\/S' b):=fun m hm =>
 ⟨⟨r.mono (h m hm).1 fun _ h=>.inl h,r2.mono (h' m hm).1 fun _ h=>.inr h⟩,fun b hb=>hb.elim ((h m hm).2 b) ((h' m hm).2 b)⟩
def lg(m0:Xq)(ps:XB Pc)(r:Rep α)(L:XB α)(es:WG)(S:WI):Prop:=∀m,Hp m0 m ps->gi r m S L es/\∀b,S b->∃q∈ps,(∀b,¬q.ow b)/\q.any b
def lg.nil:lg m0 ps r [] [] (fun _=>False):=fun _ _=>⟨.nil,fun _ h=>h.elim⟩
def lg.cons{z:α}{g:r.G}{S S':WI}{L:XB α}{es:WG}(h:Lf m0 ps r z g S)(h':lg m0 ps r L es S'):lg m0 ps r (z::L) (r.V z g::es) (fun b=>S b\/S' b):=fun m hm =>
 ⟨.cons (r.mono (h m hm).1 fun _ h=>.inl h) ((h' m hm).1.mono fun _ h=>.inr h),fun b hb=>hb.elim ((h m hm).2 b) ((h' m hm).2 b)⟩
def Hp.K6{S:WI}{p:Pc}(h:Hp m0 m ps)(hp:p.ok m0.next m)(ho:∀b,¬p.ow b)(ha:∀b,p.any b->∃q∈ps,(∀b,¬q.ow b)/\q.any b):Hp m0 m (p::ps) :=
 ⟨h.ext,fun q hq=>by
  rcases UC.1 hq with rfl|hq
  exact hp
  exact h.ok q hq,Uz.2 ⟨fun q hq=>⟨fun b h1 _=>ho b h1,fun b h1 h2=>by
  obtain⟨q',hq',h3,h4⟩:=ha b h2;obtain⟨i,hi⟩:=kq hq;obtain⟨j,hj⟩:=kq hq'
  by_cases e:i=j
  subst e;rw[hi] at hj;exact h3 b (by rw[<-Ug hj]; exact h1)
  exact(gL h.apart hi hj e).1 b h1 h4⟩,h.apart⟩⟩
def ai.dp{L:XB α}{es:WG}{S:WI}(h:lg m0 ps r L es S):ai m0 ps (.gen (eh r S L es)::ps):=fun m hm=>by
 obtain⟨h1,h2⟩:=h m hm;refine hm.K6 (S:=S) ⟨⟨h1,fun b hb=>?_⟩,fun _ b hb=>hb.elim⟩ (fun _=>fI) fun b hb=>h2 b (sA hb);obtain⟨q,hq,_,h4⟩:=h2 b hb;exact Pc.gv (hm.ok q hq) h4
def ai.jC:ai m0 ps (.gen (eh r (fun _=>False) [] [])::ps):=ai.dp .nil
def Hp.Hl{q:Nat}{R S:WI}{L L':XB α}{es es':WG}(h:Hp m0 m ps)(hq:pk ps q=some (.gen (eh r R L es)))(h1:gi r m (fun b=>R b\/S b) L' es')(h2:∀b,S b->∃q∈ps,(∀b,¬q.ow b)/\q.any b):Hp m0 m (df ps q (.gen (eh r (fun b=>R b\/S b) L' es'))):=by
 have hP:=h.get hq;refine⟨h.ext,fun p hp=>?_,iO hq (fun p hp ha=>⟨fun b h3 _=>(fI h3).elim,fun b h3 h4=>?_⟩) h.apart⟩
 rcases vE hp with hp|rfl
 exact h.ok p hp
 refine⟨⟨h1,fun b hb=>hb.elim (hP.1.2 b) fun hb=>?_⟩,fun _ b hb=>hb.elim⟩;obtain⟨q',hq',_,h5⟩:=h2 b hb;exact Pc.gv (h.ok q' hq') h5
 rcases sA h4 with h4|h4
 exact ha.2 b h3 (.inr (.inr h4))
 obtain⟨q',hq',h5,h6⟩:=h2 b h4;obtain⟨i,hi⟩:=kq hp;obtain⟨j,hj⟩:=kq hq'
 by_cases e:i=j
 subst e;rw[hi] at hj;exact h5 b (by rw[<-Ug hj]; exact h3)
 exact(gL h.apart hi hj e).1 b h3 h6
def ai.nz{q j:Nat}{R S:WI}{L:XB α}{es:WG}{z:α}{g:r.G}(hq:pk ps q=some (.gen (eh r R L es)))(h:Lf m0 ps r z g S):ai m0 ps (df ps q (.gen (eh r (fun b=>R b\/S b) (L.set j z) (es.set j (r.V z g))))):=fun m hm =>
 hm.Hl hq (((hm.get hq).1.1.mono fun _ h=>.inl h).set j (r.mono (h m hm).1 fun _ h=>.inr h)) (h m hm).2
def ai.Hs{q q2:Nat}{R S:WI}{L L':XB α}{es es':WG}(hq:pk ps q=some (.gen (eh r R L es)))(hq2:pk ps q2=some (.gen (eh r S L' es'))):ai m0 ps (df ps q (.gen (eh r (fun b=>R b\/S b) (L++L') (es++es')))):=fun m hm =>
 hm.Hl hq (((hm.get hq).1.1.mono fun _ h=>.inl h).append ((hm.get hq2).1.1.mono fun _ h=>.inr h)) fun _ hb=>⟨_,mq hq2,fun _=>fI,.inr (.inr hb)⟩
def ai.ED{q:Nat}{R:WI}{L:XB α}{es:WG}(hq:pk ps q=some (.gen (eh r R L es))):ai m0 ps (.gen (eh r R L es)::ps):=fun m hm =>
 hm.Ev hq (fun _=>fI) (hm.get hq) (fun _=>fI) fun _ h=>h
def Pc.Cu{lo w l:Nat}{a:WH}{es:WG}(h:Pc.ok lo m (.sl a w l es)):l=es.length:=by
 rcases h with⟨h0,h1,_⟩|⟨b,tg,_,h1⟩
 rw[h0,h1]; rfl
 exact h1.2.2.2.1.symm
def nA{elem ty2:WK}{w k k2 q q2 c0 l l2:Nat}{a a1:WH}{R S:WI}{L L':XB α}{es es':WG}{ars:XD WM}{p0:Pc}(ht:SlT E.P ty elem w)(h6:∃e2,E.P.underlying ty2=some (.slice e2))(ha:jK E fs ars.toList=some [.slice a l l,.slice a1 l2 c0])(hp:pk ps k=some (.sl a w l es))(hq:pk ps q=some (.gen (eh r R L es)))(h5:pk ps k2=some p0)(hr:IsRd p0 a1 c0 w l2 es')(h0:pk ps q2=some (.gen (eh r S L' es')))(hw:r.w=w)(hl:lim (L++L').length=true) :
  Ox E m0 fs ps (.call ⟨.builtin .append,ars,#[ty,ty2]⟩) (fun y:WH ×(Nat->Prop)=>.slice y.1 (L++L').length (L++L').length) (fun y=>df (df ps q (.gen (eh r y.2 (L++L') (es++es')))) k (.sl y.1 w (L++L').length (es++es'))):=fun t m hf hm=>⟨fun b hb=>(by simp[aU] at hb),fun K hK=>by
 have e1:l=L.length:=by rw[Pc.Cu (hm.get hp),(hm.get hq).1.1.1]
 have e2:l2=L'.length:=by rw[<-(hm.rd h5 hr).1,(hm.get h0).1.1.1]
 have e0:l+l2=(L++L').length:=by rw[e1,e2,Uf]
 have h1:=ai.Hs (m0:=m0) hq h0 m hm;have hkq:k≠q:=fun e=>by rw[e,hq] at hp; cases hp
 have h7:pk (df ps q (.gen (eh r (fun b=>R b\/S b) (L++L') (es++es')))) k=some (.sl a w l es):=by
  have:∀(l:XB Pc) (q k:Nat) (x:Pc),k≠q->pk (df l q x) k=pk l k:=by
   intro l
   induction l with
   | nil=>intro q k x _; rfl
   | cons p l ih =>
    intro q k x hne;cases q with
    | zero =>
     cases k with
     | zero=>exact Uy rfl hne
     | succ k=>rfl
    | succ q =>
     cases k with
     | zero=>rfl
     | succ k=>rw[iy,fk,fk]; exact ih q k x fun e=>hne (by rw[e])
  rw[this ps q k _ hkq]; exact hp
 obtain⟨a',m',h3,h4⟩:=mT (n:=l) ht h6 h1 h7 (hm.rd h5 hr) (fun e he=>by rw[<-hw]; exact(hm.get h0).1.1.width e he) (hm.get h0).1.1.fO (by rw[e0]; exact hl)
 have:bw E.P .append #[ty,ty2] [.slice a l l,.slice a1 l2 c0] m=some (.slice a' (l+l2) (l+l2),m'):=h3;rw[Go.Ab.fG (hf.jK ha) this];rw[e0] at h4 ⊢;exact hK (a',_) m' h4⟩
def QJ{elem:WK}{k q cap w l:Nat}{lo hi:Int}{a:WH}{R:WI}{L:XB α}{es:WG}{lx hx:XA WM}{lv hv:XA WJ}(ht:SlT E.P ty elem w)(hv':ev E fs x=some (.slice a l cap))(e1:GU E fs lx=some lv)(e2:GU E fs hx=some hv)(hp:pk ps k=some (.rd a cap w l es))(hq:pk ps q=some (.gen (eh r R L es)))(hb:okB lo hi l=true)(hl:lv=none/\lo=0\/∃k,lv=some (.int k lo))(hh:hv=none/\hi=(l:Int)\/∃k,hv=some (.int k hi)) :
  Ox E m0 fs ps (.slice ty x lx hx none) (fun z:WH×Nat=>.slice z.1 ((L.drop lo.toNat).take (hi.toNat-lo.toNat)).length z.2) (fun z=>.rd z.1 z.2 w ((L.drop lo.toNat).take (hi.toNat-lo.toNat)).length ((es.drop lo.toNat).take (hi.toNat-lo.toNat))::.gen (eh r R ((L.drop lo.toNat).take (hi.toNat-lo.toNat)) ((es.drop lo.toNat).take (hi.toNat-lo.toNat)))::ps):=by
 intro t m hf hm;obtain⟨b1,b2,b3⟩:=Bc hb;have h1:es.length=l:=(hm.get hp).1;have h2:es.length=L.length:=(hm.get hq).1.1.1;have elo:((lo.toNat:Nat):Int)=lo:=Vd b1;have ehi:((hi.toNat:Nat):Int)=hi:=Vd (by omega)
 have hlen:((L.drop lo.toNat).take (hi.toNat-lo.toNat)).length=hi.toNat-lo.toNat:=by rw[U0,V6,<-h2,h1]; omega
 obtain⟨g1,g2⟩:=Rz (m0:=m0) (lo:=lo.toNat) (hi:=hi.toNat) ht hv' e1 e2 hp (by omega) (by omega) (by
  rcases hl with⟨h,h'⟩|⟨k,h⟩
  exact .inl ⟨h,by omega⟩
  exact .inr ⟨k,by rw[elo]; exact h⟩) (by
  rcases hh with⟨h,h'⟩|⟨k,h⟩
  exact .inl ⟨h,by omega⟩
  exact .inr ⟨k,by rw[ehi]; exact h⟩) t m hf hm
 refine⟨g1,fun K hK=>g2 K fun z m' hm'=>?_⟩;have h3:=hK z m';rw[hlen] at h3;refine h3 ?_;have hq':pk (.rd z.1 z.2 w (hi.toNat-lo.toNat) ((es.drop lo.toNat).take (hi.toNat-lo.toNat))::ps) (q+1)=some (.gen (eh r R L es)):=hq;have h5:=hm'.Ev (q:=.gen (eh r R ((L.drop lo.toNat).take (hi.toNat-lo.toNat)) ((es.drop lo.toNat).take (hi.toNat-lo.toNat)))) hq' (fun _=>fI) ⟨⟨(hm'.get hq').1.1.sub _ _,(hm'.get hq').1.2⟩,fun _ b hb=>hb.elim⟩ (fun _=>fI) fun b hb=>hb;refine⟨h5.ext,fun p hp=>h5.ok p ?_,?_⟩
 rcases UC.1 hp with rfl|hp
 exact UM _ (Vg ..)
 rcases UC.1 hp with rfl|hp
 exact Vg ..
 exact UM _ (UM _ hp)
 obtain⟨x1,x2⟩:=Uz.1 h5.apart;obtain⟨x3,x4⟩:=Uz.1 x2;refine Uz.2 ⟨fun p hp=>?_,Uz.2 ⟨fun p hp=>x1 p (UM _ hp),x4⟩⟩;rcases UC.1 hp with rfl|hp
 exact Pc.gm (x1 _ (Vg ..))
 exact x3 p hp
def Hp.dp{q:Nat}{R:WI}{L:XB α}{es:WG}(h:Hp m0 m ps)(hq:pk ps q=some (.gen (eh r R L es))):(eh r R L es).P m:=(h.get hq).1
def Hp.vi{R:WI}{L:XB α}{es:WG}(h:Hp m0 m ps)(ho:∀p∈ps,∀b,¬p.ow b)(hd:(eh r R L es).P m):Hp m0 m (.gen (eh r R L es)::ps) :=
 ⟨h.ext,fun p hp=>by
  rcases UC.1 hp with rfl|hp
  exact⟨hd,fun _ b hb=>hb.elim⟩
  exact h.ok p hp,Uz.2 ⟨fun q hq=>⟨fun b h1 _=>(fI h1).elim,fun b h1 _=>(ho q hq b h1).elim⟩,h.apart⟩⟩
def Hp.cg{a:WH}{cap w l:Nat}{es:WG}(h:Hp m0 m ps)(ho:∀p∈ps,∀b,¬p.ow b)(hr:Rd m a cap w l es):Hp m0 m (.rd a cap w l es::ps) :=
 ⟨h.ext,fun p hp=>by
  rcases UC.1 hp with rfl|hp
  exact hr
  exact h.ok p hp,Uz.2 ⟨fun q hq=>⟨fun b h1 _=>(zX h1).elim,fun b h1 _=>(ho q hq b h1).elim⟩,h.apart⟩⟩
def Hp.EP{l0:XB Pc}{H R:WI}{L:XB α}{es:WG}(h:Hp m0 m (l0++[.gen (pU H)]))(ho:∀p∈l0,∀b,¬p.ow b)(hd:(eh r R L es).P m)(ha:∀b,R b->¬H b):Hp m0 m (.gen (eh r R L es)::(l0++[.gen (pU H)])) :=
 ⟨h.ext,fun p hp=>by
  rcases UC.1 hp with rfl|hp
  exact⟨hd,fun _ b hb=>hb.elim⟩
  exact h.ok p hp,Uz.2 ⟨fun q hq=>⟨fun b h1 _=>(fI h1).elim,fun b h1 h2=>by
  rcases UT.1 hq with hq|hq
  exact(ho q hq b h1).elim
  rw[UI.1 hq] at h1;rcases h1 with h1|h1
  cases h1.1
  exact ha b (sA h2) h1⟩,h.apart⟩⟩
def Hp.aQ{l0:XB Pc}{H:WI}{a:WH}{cap w l:Nat}{es:WG}(h:Hp m0 m (l0++[.gen (pU H)]))(ho:∀p∈l0,∀b,¬p.ow b)(hr:Rd m a cap w l es)(ha:∀b,cC a=some b->¬H b):Hp m0 m (.rd a cap w l es::(l0++[.gen (pU H)])) :=
 ⟨h.ext,fun p hp=>by
  rcases UC.1 hp with rfl|hp
  exact hr
  exact h.ok p hp,Uz.2 ⟨fun q hq=>⟨fun b h1 _=>(zX h1).elim,fun b h1 h2=>by
  rcases UT.1 hq with hq|hq
  exact(ho q hq b h1).elim
  rw[UI.1 hq] at h1;rcases h1 with h1|h1
  cases h1.1
  exact ha b (Iq h2) h1⟩,h.apart⟩⟩
def bM:∀p ∈([]:XB Pc),∀b,¬p.ow b:=fun _ h=>by cases h
def cA{l:XB Pc}{a:WH}{cap w k:Nat}{es:WG}(h:∀p∈l,∀b,¬p.ow b):∀p ∈(Pc.rd a cap w k es::l),∀b,¬p.ow b:=fun p hp=>by
 rcases UC.1 hp with rfl|hp
 exact fun _=>zX
 exact h p hp
def MO{l:XB Pc}{R:WI}{L:XB α}{es:WG}(h:∀p∈l,∀b,¬p.ow b):∀p ∈(Pc.gen (eh r R L es)::l),∀b,¬p.ow b:=fun p hp=>by
 rcases UC.1 hp with rfl|hp
 exact fun _=>fI
 exact h p hp
def Hp.xa{q:Nat}{R:WI}{L:XB α}{es:WG}(h:Hp m0 m ps)(hq:pk ps q=some (.gen (eh r R L es))):∀b,R b->¬kM ps b:=fun b hb ⟨p,hp,h1⟩=>by
 obtain⟨i,hi⟩:=kq hp
 by_cases e:i=q
 rw[e,hq] at hi;rw[<-Ug hi] at h1;exact fI h1
 exact(gL h.apart hi hq e).1 b h1 (.inr (.inr hb))
end
section
variable{α:Type}{E:Env}{n:Nat}{m0:Xq}{fs:Fs}{ps:XB Pc}{ops:XD Oper}{os:XB Oper}{dr:Bool}{K:Tm->Xq->Prop}{r:Rep α}
def Wo.EX{β:Type}{N:β->XB Pc}(h:∀m,Hp m0 m ps->∃y,Hp m0 m (N y))(k:∀y,Wo dr E n ops K os m0 fs (N y)):Wo dr E n ops K os m0 fs ps:=by
 cases dr with
 | false=>intro t m hf hm; obtain⟨y,hy⟩:=h m hm; exact k y t m hf hy
 | true=>intro t m w hf hm hw; obtain⟨y,hy⟩:=h m hm; exact k y t m w hf hy hw
def Wo.my{j q:Nat}{R:WI}{L:XB α}{es:WG}{z:α}{N:r.G->XB Pc}(hq:pk ps q=some (.gen (eh r R L es)))(hl:L[j]? = some z)(hN:∀g,N g=r.N z g R++ps)(k:∀g,es[j]? = some (r.V z g)->Wo dr E n ops K os m0 fs (N g)):Wo dr E n ops K os m0 fs ps:=by
 cases dr with
 | false=>intro t m hf hm; obtain⟨g,h1,h2⟩:=hm.my hq hl; exact k g h1 t m hf (by rw[hN]; exact h2)
 | true=>intro t m w hf hm hw; obtain⟨g,h1,h2⟩:=hm.my hq hl; exact k g h1 t m w hf (by rw[hN]; exact h2) hw
end
section
variable{α:Type}{E:Env}{n:Nat}{m0:Xq}{fs:Fs}{ps:XB Pc}{ops:XD Oper}{os:XB Oper}{dr:Bool}{K:Tm->Xq->Prop}{r:Rep α}{prs:XB (Nat×Nat)}{ss:XB Nk}
def Wo.dp{L:XB α}{es:WG}{S:WI}(h:lg m0 ps r L es S)(k:∀R,Wo dr E n ops K os m0 fs (.gen (eh r R L es)::ps)):Wo dr E n ops K os m0 fs ps:=Xe (ai.dp h) (k _)
def Wo.nz{q j:Nat}{R S:WI}{L:XB α}{es:WG}{z:α}{g:r.G}(hq:pk ps q=some (.gen (eh r R L es)))(h:Lf m0 ps r z g S)(k:∀R',Wo dr E n ops K os m0 fs (df ps q (.gen (eh r R' (L.set j z) (es.set j (r.V z g)))))):Wo dr E n ops K os m0 fs ps:=Xe (ai.nz hq h) (k _)
def Wn.nz{q j:Nat}{R S:WI}{L:XB α}{es:WG}{z:α}{g:r.G}(hq:pk ps q=some (.gen (eh r R L es)))(h:Lf m0 ps r z g S)(k:∀R',Wn E n ops prs K os ss m0 fs (df ps q (.gen (eh r R' (L.set j z) (es.set j (r.V z g)))))):Wn E n ops prs K os ss m0 fs ps:=Wn.bT (ai.nz hq h) (k _)
def Jw{m:Xq}{q:Nat}{R:WI}{L:XB α}{es:WG}(hm:Hp m0 m ps)(hq:pk ps q=some (.gen (eh r R L es))):es.length=L.length:=(hm.get hq).1.1.1
def Jz{lo k w l:Nat}{m:Xq}{p:Pc}{a:WH}{es:WG}(hm:Hp m0 m ps)(hp:pk ps k=some p)(h:p=.sl a w l es\/(∃c,p=.rd a c w l es)\/∃b tg,p=.arr b w l es tg):l=es.length:=by
 have h0:=hm.get hp;rcases h with rfl|⟨c,rfl⟩|⟨b,tg,rfl⟩
 exact Pc.Cu h0
 exact h0.1.symm
 exact h0.2.2.2.1.symm
def Wo.nj{k q w l:Nat}{a:WH}{p:Pc}{R:WI}{L:XB α}{es:WG}(hp:pk ps k=some p)(hp':p=.sl a w l es\/(∃c,p=.rd a c w l es)\/∃b tg,p=.arr b w l es tg)(hq:pk ps q=some (.gen (eh r R L es)))(h:l=L.length->Wo dr E n ops K os m0 fs ps):Wo dr E n ops K os m0 fs ps:=by
 have key:∀m,Hp m0 m ps->l=L.length:=fun m hm=>(Jz (lo:=0) hm hp hp').trans (Jw hm hq);cases dr with
 | false=>exact fun t m hf hm=>h (key m hm) t m hf hm
 | true=>exact fun t m w hf hm hw=>h (key m hm) t m w hf hm hw
def Wn.nj{k q w l:Nat}{a:WH}{p:Pc}{R:WI}{L:XB α}{es:WG}(hp:pk ps k=some p)(hp':p=.sl a w l es\/(∃c,p=.rd a c w l es)\/∃b tg,p=.arr b w l es tg)(hq:pk ps q=some (.gen (eh r R L es)))(h:l=L.length->Wn E n ops prs K os ss m0 fs ps):Wn E n ops prs K os ss m0 fs ps :=
 fun t m ns hf hm hn=>h ((Jz (lo:=0) hm hp hp').trans (Jw hm hq)) t m ns hf hm hn
def Wn.my{j q:Nat}{R:WI}{L:XB α}{es:WG}{z:α}{N:r.G->XB Pc}(hq:pk ps q=some (.gen (eh r R L es)))(hl:L[j]? = some z)(hN:∀g,N g=r.N z g R++ps)(k:∀g,es[j]? = some (r.V z g)->Wn E n ops prs K os ss m0 fs (N g)):Wn E n ops prs K os ss m0 fs ps:=fun t m ns hf hm hn=>by
 obtain⟨g,h1,h2⟩:=hm.my hq hl; exact k g h1 t m ns hf (by rw[hN]; exact h2) hn
end
end Go.Ab.W
section
open Go Go.Ab Go.Ab.W
abbrev Xa:=@Hp.cg
abbrev W6:=@Hp.aQ
end
end
