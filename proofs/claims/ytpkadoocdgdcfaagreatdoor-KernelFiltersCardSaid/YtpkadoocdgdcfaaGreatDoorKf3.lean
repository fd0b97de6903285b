/- A part of the proof. -/
import Derived.Test.YtpkadoocdgdcfaaGreatDoorKf2
import Derived.ChangeStays
import Derived.ChangeShapes
import Derived.OpenShut
import Derived.RowKit
import Derived.Shelf.Spec.BitsCarry
import Derived.Test.YtpkadoocdgdcfaaGreatDoorRows
import Derived.Test.YtpkadoocdgdcfaaGreatDoorTie
import Derived.Test.YtpkadoocdgdcfaaGreatDoorCards
import Derived.ProofKit
import Derived.LaidMore
import Derived.Stop.Joined
import Derived.SevenTiedAt
set_option linter.all false
section
namespace Go.Ab
open Go
structure Sem where
 run:Hand->RI Nat->Tm->RN->(RO->Tm->RN->Bool)->Bool
noncomputable def fm (e:RO) (a:Bool) (b:Nat->Bool) (c:Bool):Bool:=RO.rec (motive:=fun _=>Bool) a b c e
noncomputable def Gk (S:Sem):Nat->Hand->RI Nat->Tm->RN->(RO->Tm->RN->Bool)->Bool :=
 Nat.rec (fun _ _ _ _ _=>false) fun _ ih H ro t m K=>S.run H ro t m fun e t m=>fm e (ih H ro t m K) (fun id=>K (.exit id) t m) (K .ret t m)
noncomputable def qD (s:LoopState) (ready busy other:Bool):Bool:=LoopState.rec (motive:=fun _=>Bool) ready busy other other s
noncomputable def sH (ro:RI Nat) (m:RN) (x:Bool):Bool:=Option.rec (motive:=fun _=>Bool) x (fun l=>sN m l fun _=>x) ro
noncomputable def HK {α:Type} (o:RI α):Bool:=Option.rec (motive:=fun _=>Bool) true (fun _=>false) o
noncomputable def LJ (E:Env) (H:Hand) (f:Fn) (first captured:RU QP) (l:Nat) (m:RN) (K:QP->RN->Bool):Bool :=
 Fn.rec (motive:=fun _=>Bool) (fun g=>dS (HK (E.dj g)) (lj first.toList [.func (.yield l) #[] #[]] fun ars=>lj ars captured.toList fun ars=>H.call g ars m K) false) (fun _=>false) (fun _ _=>false) (fun _ _ _ _=>false) (fun _=>false) f
noncomputable def ik (E:Env) (n:Nat) (fn:R2):Code->Sem
 | .skip=>⟨fun _ _ t m K=>K .normal t m⟩
 | .label _=>⟨fun _ _ t m K=>K .normal t m⟩
 | .exit id=>⟨fun _ _ t m K=>K (.exit id) t m⟩
 | .ret=>⟨fun _ _ t m K=>K .ret t m⟩
 | .seq a b=>⟨fun H ro t m K=>(ik E n fn a).run H ro t m fun e t m=>fm e ((ik E n fn b).run H ro t m K) (fun id=>K (.exit id) t m) (K .ret t m)⟩
 | .cond x a b=>⟨fun H ro t m K=>(dm E x).run t fun v=>pO v (fun c=>dS c ((ik E n fn a).run H ro t m K) ((ik E n fn b).run H ro t m K)) false⟩
 | .block id a=>⟨fun H ro t m K=>(ik E n fn a).run H ro t m fun e t m=>fm e (K .normal t m) (fun id'=>dS (Nat.beq id' id) (K .normal t m) (K (.exit id') t m)) (K .ret t m)⟩
 | .scope a=>⟨fun H ro t m K=>(ik E n fn a).run H ro t m K⟩
 | .loop a=>⟨fun H ro t m K=>Gk (ik E n fn a) 1000000 H ro t m K⟩
 | .region _ ops draw=>⟨fun H _ t m K=>(JA E n ops draw).run H t m fun t m=>K .normal t m⟩
 | .rangeFunc f params assign body=>⟨fun H ro t m K=>sH ro m ((dm E f).run t fun fv=>E1 fv fun g first captured =>
   dx m (.loop { state:=.ready,pending:=none,fn:=fn,tmps:=t,n:=n,params:=params,assign:=assign,body:=body}) fun l m1=>LJ E H g first captured l m1 fun _ m2 =>
    sN m2 l fun r=>ALoop.rec (motive:=fun _=>Bool) (fun state pending fn' tmps' n' params' assign' body'=>qD state
     (di m2 l (.loop ⟨.exhausted,pending,fn',tmps',n',params',assign',body'⟩) fun m3=>Option.rec (motive:=fun _=>Bool) (K .normal t m3) (fun c=>Code.rec (motive:=fun _=>Bool) false (fun _ _ _=>false) (fun _ _ _ _=>false) (fun _ _ _ _ _=>false) (fun _ _ _=>false) (fun _ _=>false) (fun _ _ _ _ _ _=>false) (fun id=>K (.exit id) t m3) (fun _ _=>false) (fun _=>false) (fun _=>false) (K .ret t m3) (fun _=>false) c) pending)
     false
     (di m2 l (.loop ⟨.exhausted,pending,fn',tmps',n',params',assign',body'⟩) fun m3=>Option.rec (motive:=fun _=>Bool) (K .normal t m3) (fun c=>Code.rec (motive:=fun _=>Bool) false (fun _ _ _=>false) (fun _ _ _ _=>false) (fun _ _ _ _ _=>false) (fun _ _ _=>false) (fun _ _=>false) (fun _ _ _ _ _ _=>false) (fun id=>K (.exit id) t m3) (fun _ _=>false) (fun _=>false) (fun _=>false) (K .ret t m3) (fun _=>false) c) pending)) r)⟩
 | .goto _=>⟨fun _ _ _ _ _=>false⟩
 | .refuse _=>⟨fun _ _ _ _ _=>false⟩
section
variable{E:Env}{n:Nat}{fn:R2}{ro:RI Nat}{Q:RO->Tm->RN->Prop}{t:Tm}{m:RN}
def LD(E:Env)(n:Nat)(fn:R2)(ro:RI Nat)(t:Tm)(l:Nat)(Q:RO->Tm->RN->Prop)(m2:RN):Prop :=
 ∃r,m2.get l=some (.loop r)/\r.state≠.busy/\((r.pending=none/\Q .normal t (m2.set l (.loop { r with state:=.exhausted})))\/(∃c,r.pending=some c/\bK E n fn ro c Q t (m2.set l (.loop { r with state:=.exhausted}))))
def bK.rangeFunc{f:QR}{params:RU Tmp}{assign body:Code}{g:R2}{first captured:RU QP}(hf:ax E t f=some (.func (.func g) first captured))(ha:jA E ⟨t,n,fn,ro⟩ m f=true)
  (h:aG E g (first.toList++[.func (.yield m.next) #[] #[]]++captured.toList) (m.alloc (.loop { state:=.ready,pending:=none,fn:=fn,tmps:=t,n:=n,params:=params,assign:=assign,body:=body})) (fun _ m2=>LD E n fn ro t m.next Q m2)) :
  bK E n fn ro (.rangeFunc f params assign body) Q t m:=by
 obtain⟨v,m2,⟨k1,h1⟩,r,hr,hb,hq⟩:=h;rcases hq with⟨hp,hq⟩|⟨c,hp,e,t',m',⟨k2,h2⟩,hq⟩
 ·refine⟨_,_,_,bC (k:=k1) ?_,hq⟩;cases hs:r.state with
  | busy=>exact O6 hs hb
  | _=>simp only[step,hf,ha,h1,hr,hs,hp]
 ·refine⟨_,_,_,bC (k:=max k1 k2) ?_,hq⟩;obtain⟨state,pending,fn',tmps',n',params',assign',body'⟩:=r;have hp':pending=some c:=hp;subst hp';have h2':=jY (Nat.le_max_right k1 k2) h2;cases state with
  | busy=>exact O6 rfl hb
  | _=>simp only[step,hf,ha,jY (Nat.le_max_left k1 k2) h1,hr,h2']
def Oi(ro:RI Nat)(m:RN):Bool :=
 match ro with
 | none=>true
 | some l=>match m.get l with
  | some (.loop _)=>true
  | _=>false
def qa{x:Bool}(h:sH ro m x=true):x=true/\Oi ro m=true:=by
 cases ro with
 | none=>exact⟨h,rfl⟩
 | some l =>
  obtain⟨r,h1,h2⟩:=iK h;exact⟨h2,by simp only[Oi,h1]⟩
def cZ{e:RO}{a:Bool}{b:Nat->Bool}{c:Bool}(h:fm e a b c=true):(e=.normal/\a=true)\/(∃id,e=.exit id/\b id=true)\/(e=.ret/\c=true):=by
 cases e with
 | normal=>exact .inl ⟨rfl,h⟩
 | exit id=>exact .inr (.inl ⟨id,rfl,h⟩)
 | ret=>exact .inr (.inr ⟨rfl,h⟩)
def yF{H:Hand}{a:Code}{S:Sem}(hS:∀{t:Tm} {m:RN} {K:RO->Tm->RN->Bool},S.run H ro t m K=true->bK E n fn ro a (fun e t m=>K e t m=true) t m){K:RO->Tm->RN->Bool} :
  ∀(k:Nat) {t:Tm} {m:RN},Gk S k H ro t m K=true->tL E n fn ro a (fun e t m=>K e t m=true) t m
 | 0,t,m,h=>by cases h
 | k+1,t,m,h=>by
  have h':(S.run H ro t m fun e t m=>fm e (Gk S k H ro t m K) (fun id=>K (.exit id) t m) (K .ret t m))=true:=h;refine .round ((hS h').mono fun e t m h=>?_);rcases cZ h with⟨rfl,h⟩|⟨id,rfl,h⟩|⟨rfl,h⟩
  exact yF hS k h
  exact h
  exact h
def A3{c:Code}{a:Nat->Bool}{b:Bool}(h:Code.rec (motive:=fun _=>Bool) false (fun _ _ _=>false) (fun _ _ _ _=>false) (fun _ _ _ _ _=>false) (fun _ _ _=>false) (fun _ _=>false) (fun _ _ _ _ _ _=>false) a (fun _ _=>false) (fun _=>false) (fun _=>false) b (fun _=>false) c=true) :
  (∃id,c=.exit id/\a id=true)\/(c=.ret/\b=true):=by
 cases c<;>first|exact .inl ⟨_,rfl,h⟩|exact .inr ⟨rfl,h⟩|cases h
def ld{H:Hand}(hH:zH E H):∀(c:Code) {ro:RI Nat} {t:Tm} {m:RN} {K:RO->Tm->RN->Bool},(ik E n fn c).run H ro t m K=true->bK E n fn ro c (fun e t m=>K e t m=true) t m:=by
 intro c
 induction c with
 | skip=>intro ro t m K h; exact .skip h
 | label l=>intro ro t m K h; exact .label h
 | exit id=>intro ro t m K h; exact .exit h
 | ret=>intro ro t m K h; exact .ret h
 | seq a b iha ihb =>
  intro ro t m K h;refine .seq ((iha (K:=fun e t m=>fm e ((ik E n fn b).run H ro t m K) (fun id=>K (.exit id) t m) (K .ret t m)) h).mono fun e t m h=>?_);rcases cZ h with⟨rfl,h⟩|⟨id,rfl,h⟩|⟨rfl,h⟩
  exact ihb h
  exact h
  exact h
 | cond x a b iha ihb =>
  intro ro t m K h;obtain⟨v,h1,h⟩:=bq (x:=x) h;obtain⟨c,rfl,h⟩:=iI h;refine .cond h1 (fun hc=>?_) (fun hc=>?_)
  subst hc; exact iha h
  subst hc; exact ihb h
 | block id a ih =>
  intro ro t m K h;refine .block ((ih (K:=fun e t m=>fm e (K .normal t m) (fun id'=>dS (Nat.beq id' id) (K .normal t m) (K (.exit id') t m)) (K .ret t m)) h).mono fun e t m h=>?_);rcases cZ h with⟨rfl,h⟩|⟨id',rfl,h⟩|⟨rfl,h⟩
  exact h
  simp only[ep];rcases cM h with⟨h1,h⟩|⟨h1,h⟩
  rw[OM (OE h1)]; exact h
  rw[OJ (Qb h1)]; exact h
  exact h
 | scope a ih=>intro ro t m K h; exact .scope (ih h)
 | loop a ih=>intro ro t m K h; exact .loop (yF (fun h=>ih h) 1000000 h)
 | region id ops draw=>intro ro t m K h; exact Cq hH (fun t m h=>h) h
 | rangeFunc f params assign body iha ihb =>
  intro ro t m K h;obtain⟨h,hro⟩:=qa h;obtain⟨fv,h1,h⟩:=bq (x:=f) h;have g:=rX h; clear h; obtain⟨g,first,captured,rfl,h⟩:=g
  rw[cE] at h;cases g with
  | func g =>
   have g':=bz h; clear h; obtain⟨hp,h⟩:=g';rw[fC,fC] at h;have hp':(E.dj g).isNone=true:=by cases hg:E.dj g with
    | none=>rfl
    | some p=>rw[hg] at hp; cases hp
   have hro':jA E ⟨t,n,fn,ro⟩ m f=true:=by
    unfold jA;simp only[h1,hp',Bool.true_and];exact hro
   refine .rangeFunc h1 hro' ((hH.1 h).mono fun v m2 h=>?_);obtain⟨r,hr,h⟩:=iK h;refine⟨r,hr,?_⟩;obtain⟨state,pending,fn',tmps',n',params',assign',body'⟩:=r;have key:∀{x:Bool},(x=di m2 m.next (.loop ⟨.exhausted,pending,fn',tmps',n',params',assign',body'⟩) fun m3=>Option.rec (motive:=fun _=>Bool) (K .normal t m3) (fun c=>Code.rec (motive:=fun _=>Bool) false (fun _ _ _=>false) (fun _ _ _ _=>false) (fun _ _ _ _ _=>false) (fun _ _ _=>false) (fun _ _=>false) (fun _ _ _ _ _ _=>false) (fun id=>K (.exit id) t m3) (fun _ _=>false) (fun _=>false) (fun _=>false) (K .ret t m3) (fun _=>false) c) pending)->x=true ->
     ((pending=none/\K .normal t (m2.set m.next (.loop ⟨.exhausted,pending,fn',tmps',n',params',assign',body'⟩))=true)\/(∃c,pending=some c/\bK E n fn ro c (fun e t m=>K e t m=true) t (m2.set m.next (.loop ⟨.exhausted,pending,fn',tmps',n',params',assign',body'⟩)))):=by
    intro x hx hx';rw[hx,df] at hx';cases pending with
    | none=>exact .inl ⟨rfl,hx'⟩
    | some c =>
     rcases A3 hx' with⟨id,rfl,h⟩|⟨rfl,h⟩
     exact .inr ⟨_,rfl,.exit h⟩
     exact .inr ⟨_,rfl,.ret h⟩
   cases state with
   | busy=>cases h
   | ready=>exact⟨(by intro e; cases e),key rfl h⟩
   | done=>exact⟨(by intro e; cases e),key rfl h⟩
   | exhausted=>exact⟨(by intro e; cases e),key rfl h⟩
  | _=>cases h
 | goto l=>intro ro t m K h; cases h
 | refuse w=>intro ro t m K h; cases h
end
structure ResSem where
 run:Tm->RN->(RR QP->Bool)->Bool
noncomputable def Ac (E:Env):RR ResultVar->ResSem
 | []=>⟨fun _ _ k=>k []⟩
 | .tmp i::rs=>⟨fun t m k=>(yU i).run t fun v=>(Ac E rs).run t m fun vs=>k (v::vs)⟩
 | .cell a ty::rs=>⟨fun t m k=>(yU a).run t fun p=>(yi E.P ty).run p m fun v=>(Ac E rs).run t m fun vs=>k (v::vs)⟩
def mn{E:Env}{t:Tm}{m:RN}:∀{rs:RR ResultVar} {k:RR QP->Bool},(Ac E rs).run t m k=true->∃vs,cj E t m rs=some vs/\k vs=true
 | [],k,h=>⟨[],rfl,h⟩
 | .tmp i::rs,k,h=>by
  have h':=rR (d:=i) h;obtain⟨vs,h1,h2⟩:=mn h';exact⟨_,by simp only[cj,h1,OI],h2⟩
 | .cell a ty::rs,k,h=>by
  have h':=rR (d:=a) h;obtain⟨v,h1,h'⟩:=rB h';obtain⟨vs,h2,h3⟩:=mn h';exact⟨_,by simp only[cj,h1,h2],h3⟩
noncomputable def Gq (vs:RR QP) (k:QP->Bool):Bool :=
 List.rec (motive:=fun _=>Bool) (k (.tuple #[])) (fun v rest _=>List.rec (motive:=fun _=>Bool) (k v) (fun w rest' _=>k (.tuple ⟨v::w::rest'⟩)) rest) vs
def qk(vs:RR QP)(k:QP->Bool):Gq vs k=k (gp vs):=by
 match vs with
 | []=>rfl
 | [v]=>rfl
 | v::w::rest=>rfl
noncomputable def wo (args:RR QP):Nat->Tm->(Tm->Bool)->Bool :=
 List.rec (motive:=fun _=>Nat->Tm->(Tm->Bool)->Bool) (fun _ t k=>k t) (fun v _ ih i t k=>(gW i).run t v fun t=>fN (Nat.succ i) fun i=>ih i t k) args
def oK:∀(args:RR QP) (i:Nat) (t:Tm) (k:Tm->Bool),i+args.length<=512->wo args i t k=k (Trie.ofList args i t)
 | [],i,t,k,_=>rfl
 | v::vs,i,t,k,h=>by
  have hi:i<512:=by simp at h; omega
  show(gW i).run t v (fun t=>fN (Nat.succ i) fun i=>wo vs i t k)=_
  rw[fI i hi,dn,oK vs (i+1) _ k (by simp at h; omega)]
  rfl
structure FunSem where
 run:Hand->RR QP->RN->(QP->RN->Bool)->Bool
structure PSem where
 run:RR QP->RN->(QP->RN->Bool)->Bool
def Lj(E:Env)(F:R2->RI PSem):Prop:=∀{f:R2} {S:PSem},F f=some S->∃p,E.dj f=some p/\∀{args:RR QP} {m:RN} {K:QP->RN->Bool},S.run args m K=true->∃v m',p.run args m=some (v,m')/\K v m'=true
noncomputable def BX (E:Env) (f:R2):FunSem :=
 match E.P.funcs[f]? with
 | some fn=>match fn.body,Nat.ble fn.ntmps 512 with
  | some c,true=>⟨fun H args m K=>dS (Nat.ble args.length fn.ntmps) (wo args 0 .nil fun t=>(ik E fn.ntmps f c).run H none t m fun e t m=>fm e ((Ac E fn.results.toList).run t m fun vs=>Gq vs fun v=>K v m) (fun _=>false) ((Ac E fn.results.toList).run t m fun vs=>Gq vs fun v=>K v m)) false⟩
  | _,_=>⟨fun _ _ _ _=>false⟩
 | none=>⟨fun _ _ _ _=>false⟩
noncomputable def Lo (E:Env) (F:R2->RI PSem) (f:R2):FunSem :=
 match F f with
 | some S=>⟨fun _ args m K=>S.run args m K⟩
 | none=>match E.dj f with
  | some p=>⟨fun H args m K=>Option.rec (motive:=fun _=>Bool) ((BX E f).run H args m K) (fun r=>Prod.rec (motive:=fun _=>Bool) (fun v m'=>fV v fun v=>fM m' fun m'=>K v m') r) (p.run args m)⟩
  | none=>BX E f
def aG.dj{E:Env}{f:R2}{p:Prim}{args:RR QP}{m m':RN}{v:QP}{R:QP->RN->Prop}(hp:E.dj f=some p)(h:p.run args m=some (v,m'))(hR:R v m'):aG E f args m R:=by
 have hpa:mQ E f args m=some (v,m'):=by
  unfold mQ;rw[hp];exact h
 exact⟨v,m',bC (k:=0) (by simp only[step,hpa]),hR⟩
def zc{E:Env}{H:Hand}(hH:zH E H){f:R2}{args:RR QP}{m:RN}(hpa:mQ E f args m=none){K:QP->RN->Bool}(h:(BX E f).run H args m K=true):aG E f args m fun v m'=>K v m'=true:=by
 unfold BX at h
 split at h
 rename_i F hf
 split at h
 rename_i c hb hn;have g:=bz h; clear h; obtain⟨h1,h⟩:=g;have hle:=OL h1;have hn':=OL hn;rw[oK args 0 _ _ (by omega)] at h
 have hmax:max args.length F.ntmps=F.ntmps:=Nat.max_eq_right hle;refine .KR hpa hf hb ?_;rw[hmax];refine(ld hH c h).mono fun e t m h=>?_;rcases cZ h with⟨rfl,h⟩|⟨id,rfl,h⟩|⟨rfl,h⟩
 obtain⟨vs,h2,h⟩:=mn h;rw[qk] at h;exact⟨fun id e=>(by cases e),vs,h2,h⟩
 cases h
 obtain⟨vs,h2,h⟩:=mn h;rw[qk] at h;exact⟨fun id e=>(by cases e),vs,h2,h⟩
 cases h
 cases h
def IU{E:Env}{F:R2->RI PSem}(hF:Lj E F){H:Hand}(hH:zH E H){f:R2}{args:RR QP}{m:RN}{K:QP->RN->Bool}(h:(Lo E F f).run H args m K=true):aG E f args m fun v m'=>K v m'=true:=by
 unfold Lo at h
 split at h
 rename_i S hS;obtain⟨p,hp,hS'⟩:=hF hS;obtain⟨v,m',h1,h2⟩:=hS' h;exact .dj hp h1 h2
 split at h
 ·rename_i p hp;simp only at h;cases he:p.run args m with
  | none =>
   rw[he] at h;exact zc hH (by unfold mQ; rw[hp]; exact he) h
  | some r =>
   obtain⟨v,m'⟩:=r;rw[he] at h;simp only[Ce,ye] at h;exact .dj hp he h
 rename_i hp;exact zc hH (by unfold mQ; rw[hp]; rfl) h
noncomputable def ki (n:Nat):RR Tmp->RR QP->Tm->(Tm->Bool)->Bool
 | p::ps,v::vs,t,k=>(jI n (some p)).run t v fun t=>ki n ps vs t k
 | _,_,t,k=>k t
def nM{n:Nat}:∀{ps:RR Tmp} {vs:RR QP} {t:Tm} {k:Tm->Bool},ki n ps vs t k=true->∃t',fq n t ps vs=some t'/\k t'=true
 | p::ps,v::vs,t,k,h=>by
  have h':((jI n (some p)).run t v fun t=>ki n ps vs t k)=true:=by rw[ki] at h; exact h
  obtain⟨t',hp,h2⟩:=fi h';obtain⟨t'',h3,h4⟩:=nM h2;refine⟨t'',?_,h4⟩;unfold fq;unfold gb at hp;simp only at hp
  split at hp
  rename_i hb; cases hp; exact h3
  cases hp
 | [],vs,t,k,h=>⟨t,by unfold fq; rfl,by rw[ki] at h; exact h; intros; simp_all⟩
 | p::ps,[],t,k,h=>⟨t,by unfold fq; rfl,by rw[ki] at h; exact h; intros; simp_all⟩
noncomputable def Ew (E:Env) (H:Hand) (l:Nat) (args:RR QP) (m:RN) (K:QP->RN->Bool):Bool :=
 sN m l fun r=>ALoop.rec (motive:=fun _=>Bool) (fun state _ fn tmps n params assign body=>qD state
  (dS (Nat.beq args.length params.size) (ki n params.toList args tmps fun t0=>(ik E n fn assign).run H (some l) t0 m fun e t1 m1=>fm e
   (sN m1 l fun r1=>ALoop.rec (motive:=fun _=>Bool) (fun state1 pending1 fn1 tmps1 n1 params1 assign1 body1=>qD state1
    (di m1 l (.loop ⟨.busy,pending1,fn1,tmps1,n1,params1,assign1,body1⟩) fun m1'=>(ik E n fn body).run H (some l) t1 m1' fun e _ m2=>sN m2 l fun r2=>ALoop.rec (motive:=fun _=>Bool) (fun _ _ fn2 tmps2 n2 params2 assign2 body2 =>
     fm e (di m2 l (.loop ⟨.ready,none,fn2,tmps2,n2,params2,assign2,body2⟩) fun m3=>K (.bool true) m3)
      (fun id=>di m2 l (.loop ⟨.done,some (.exit id),fn2,tmps2,n2,params2,assign2,body2⟩) fun m3=>K (.bool false) m3)
      (di m2 l (.loop ⟨.done,some .ret,fn2,tmps2,n2,params2,assign2,body2⟩) fun m3=>K (.bool false) m3)) r2)
    false false) r1)
   (fun _=>false) false) false)
  false false) r
def mN{s:LoopState}{a:Bool}(h:qD s a false false=true):s=.ready/\a=true:=by
 cases s<;>first|exact⟨rfl,h⟩|cases h
def C0{E:Env}{H:Hand}(hH:zH E H){l:Nat}{args:RR QP}{m:RN}{K:QP->RN->Bool}(h:Ew E H l args m K=true):wM E l args m fun v m'=>K v m'=true:=by
 obtain⟨r,hr,h⟩:=iK h;obtain⟨state,pending,fn,tmps,n,params,assign,body⟩:=r;have g:=mN h; clear h; obtain⟨rfl,h⟩:=g;obtain⟨h1,h⟩:=bz h;obtain⟨t0,h2,h⟩:=nM h;obtain⟨e,t1,m1,⟨k1,h3⟩,h⟩:=ld hH assign h;rcases cZ h with⟨rfl,h⟩|⟨id,rfl,h⟩|⟨rfl,h⟩
 obtain⟨r1,hr1,h⟩:=iK h;obtain⟨state1,pending1,fn1,tmps1,n1,params1,assign1,body1⟩:=r1;have g:=mN h; clear h; obtain⟨rfl,h⟩:=g;rw[df] at h;obtain⟨e,t2,m2,⟨k2,h4⟩,h⟩:=ld hH body h;obtain⟨r2,hr2,h⟩:=iK h;obtain⟨state2,pending2,fn2,tmps2,n2,params2,assign2,body2⟩:=r2;have hlen:¬args.length≠params.size:=by have:=OE h1; omega
 have hb:step E (run E (max k1 k2)) (.round l args m)=some (.val (.bool (wO e).isNone) (m2.set l (.loop ⟨if(wO e).isNone then .ready else .done,wO e,fn2,tmps2,n2,params2,assign2,body2⟩))):=by
  simp only[step,hr,OJ hlen,h2,jY (Nat.le_max_left k1 k2) h3,hr1,jY (Nat.le_max_right k1 k2) h4,hr2]
 rcases cZ h with⟨rfl,hz⟩|⟨id,rfl,hz⟩|⟨rfl,hz⟩
 rw[df] at hz;exact⟨_,_,bC (k:=max k1 k2) hb,hz⟩
 rw[df] at hz;exact⟨_,_,bC (k:=max k1 k2) hb,hz⟩
 rw[df] at hz;exact⟨_,_,bC (k:=max k1 k2) hb,hz⟩
 cases h
 cases h
noncomputable def hand (E:Env) (F:R2->RI PSem):Nat->Hand :=
 Nat.rec ⟨fun _ _ _ _=>false,fun _ _ _ _=>false⟩ fun _ ih=>⟨fun f args m K=>(Lo E F f).run ih args m K,fun l args m K=>Ew E ih l args m K⟩
def nU{E:Env}{F:R2->RI PSem}(hF:Lj E F):∀n,zH E (hand E F n)
 | 0=>⟨fun h=>(by cases h),fun h=>(by cases h)⟩
 | n+1=>⟨fun h=>IU hF (nU hF n) h,fun h=>C0 (nU hF n) h⟩
def vk{E:Env}{F:R2->RI PSem}(hF:Lj E F){n:Nat}{f:R2}{args:RR QP}{m:RN}{K:QP->RN->Bool}(h:(hand E F n).call f args m K=true):∃fuel v m',run E fuel (.call f args m)=some (.val v m')/\K v m'=true:=by
 obtain⟨v,m',⟨k,h1⟩,h2⟩:=(nU hF n).1 h;exact⟨k,v,m',h1,h2⟩
noncomputable def Me (n:Nat) (v:QP) (m:RN):Bool:=pO v (fun b=>dS b (Nat.ble n m.wl) false) false
def yd{E:Env}{F:R2->RI PSem}(hF:Lj E F){n g:Nat}{f:R2}{args:RR QP}{m:RN}(h:(hand E F n).call f args m (Me g)=true):∃fuel m',run E fuel (.call f args m)=some (.val (.bool true) m')/\g<=m'.wl:=by
 obtain⟨k,v,m',h1,h2⟩:=vk hF h;obtain⟨b,rfl,h2⟩:=iI h2;obtain⟨rfl,h2⟩:=bz h2;exact⟨k,m',h1,OL h2⟩
section
variable{E:Env}{n:Nat}{t:Tm}{m:RN}{K:Tm->RN->Prop}{ops:RU Oper}{os:RR Oper}{ty:QQ}{p:String}{af:RU Edge}{d:Nat}
variable{L:Tm->RN->RR Note->Prop}{ns:RR Note}
variable{a b r v:QP}{x y:QR}{e e':QQ}
def Kv(h:ax E t x=some v)(K':QP->RN->Prop):bN E t m (.move x) K'=K' v m:=by rw[IL,h]; rfl
def GK(h:ax E t x=some v)(K':QP->RN->Prop):bN E t m (.assign x) K'=K' v m:=by rw[Dp,h]; rfl
def G3{c:QR}(hc:ax E t c=some (.bool true))(h:ax E t x=some v)(K':QP->RN->Prop):bN E t m (.pick c x y) K'=K' v m:=by rw[Cu,hc,AW,h]; rfl
def JC{c:QR}(hc:ax E t c=some (.bool false))(h:ax E t y=some v)(K':QP->RN->Prop):bN E t m (.pick c x y) K'=K' v m:=by rw[Cu,hc,yj,h]; rfl
def Nl(h:ax E t x=some v)(K':QP->RN->Prop):bN E t m (.box e x) K'=K' (ptr m.next 0) (m.alloc (.cells v.cells.toList .own)):=by rw[Kx,h]; rfl
def Nf{op:BinOp}(h:ax E t x=some a)(h':ax E t y=some b)(hr:bS op e E.P a b=some r)(K':QP->RN->Prop):bN E t m (.binOp op e x y e') K'=K' r m:=by rw[Ef,h,dL,h',dL,hr]; rfl
def iM{op:UnOp}(h:ax E t x=some a)(hr:Al op a=some r)(K':QP->RN->Prop):bN E t m (.unOp op e x) K'=K' r m:=by rw[He,h,dL,hr]; rfl
def Lr(h:ax E t x=some a)(hr:fF E.P e e' a=some r)(K':QP->RN->Prop):bN E t m (.convert e e' x) K'=K' r m:=by rw[zE,h,dL,hr]; rfl
def E0(h:ax E t x=some a)(hr:dO E.P e a m=some r)(K':QP->RN->Prop):bN E t m (.load e x) K'=K' r m:=by rw[I6,h,dL,hr]; rfl
def HZ{m':RN}(h:ax E t x=some a)(h':ax E t y=some b)(hr:fk E.P e a b m=some m')(K':QP->RN->Prop):bN E t m (.store e x y) K'=K' undef m':=by rw[FC,h,dL,h',dL,hr]; rfl
def xM{f:Nat}(h:ax E t x=some a)(hr:bh E.P e a f=some r)(K':QP->RN->Prop):bN E t m (.fieldAddr e x f) K'=K' r m:=by rw[uU,h,dL,hr]; rfl
def H7{f:Nat}(h:ax E t x=some a)(hr:eX E.P e a f=some r)(K':QP->RN->Prop):bN E t m (.field e x f) K'=K' r m:=by rw[EO,h,dL,hr]; rfl
def yP(h:ax E t x=some a)(h':ax E t y=some b)(hr:bV E.P e a b=some r)(K':QP->RN->Prop):bN E t m (.indexAddr e x y) K'=K' r m:=by rw[vB,h,dL,h',dL,hr]; rfl
def Jz(h:ax E t x=some a)(h':ax E t y=some b)(hr:gj E.P e a b=some r)(K':QP->RN->Prop):bN E t m (.index e x y) K'=K' r m:=by rw[EL,h,dL,h',dL,hr]; rfl
def Dc{i:Nat}{vs:RU QP}(h:ax E t x=some (.tuple vs))(hr:vs[i]? = some r)(K':QP->RN->Prop):bN E t m (.extract x i) K'=K' r m:=by rw[AT h,hr]; rfl
def Bq{l h k:RI QR}{l' h' k':RI QP}(h1:ax E t x=some a)(h2:dH E t l=some l')(h3:dH E t h=some h')(h4:dH E t k=some k')(hr:cU E.P e a l' h' k' m=some r)(K':QP->RN->Prop):bN E t m (.slice e x l h k) K'=K' r m:=by rw[E7 h1 h2 h3 h4,hr]; rfl
def HG{z:QP}(hz:cg E.P e=some z)(hp:bO z=true)(K':QP->RN->Prop):bN E t m (.alloc e) K'=K' (ptr m.next 0) (m.alloc (.cells z.cells.toList .own)):=by
 rw[Gs]; simp only[cY,hz,hp,if_true]; rfl
def ie{bi:Builtin}{ars:RU QR}{ts:RU QQ}{vs:RR QP}{m':RN}(h:bH E t ars.toList=some vs)(hr:bP E.P bi ts vs m=some (r,m'))(K':QP->RN->Prop):bN E t m (.call ⟨.builtin bi,ars,ts⟩) K'=K' r m':=by rw[zn,h,dL,hr]; rfl
def D7{op:Op}{m':RN}(hc:vS op=none)(hr:cY E t m op=some (r,m'))(K':QP->RN->Prop):bN E t m op K'=K' r m':=by
 unfold bN; rw[hc]; simp only[hr]; rfl
def NO{ops:RU Oper}{t:Tm}{dst:RI Tmp}{o:Op}{ty:QQ}{p:String}{a:RU Edge}{j d:Nat}{b c:Bool}(hd:(ops[j]?).bind (·.dst)=some d)(h:t.at d=.bool c):bt ops ⟨dst,o,ty,p,a,some (j,b)⟩ t=(c==b):=by
 rw[GM]; unfold dc; rw[hd]; simp only[Bu h]
end
section
variable{E:Env}{n:Nat}{fn:R2}{ro:RI Nat}{Q:RO->Tm->RN->Prop}{t:Tm}{m:RN}{w:Nat}
def jy(E:Env)(n:Nat)(ops:RU Oper)(K:Tm->RN->Prop):RR Oper->Tm->RN->Nat->Prop
 | [],t,m,w=>K t (m.ww w)
 | o::os,t,m,w =>
  if bt ops o t then(∀b,bg E t o.op=some b->b<m.next)/\bN E t (m.ww m.next) o.op fun v m'=>E3 (gb n t o.dst v) fun t'=>jy E n ops K os t' m' (min w m'.wl)
  else E3 (gb n t o.dst undef) fun t'=>jy E n ops K os t' m w
def uA{r:RI Nat}{x y:Nat}{z:RI Nat}{u:Nat->Bool}(h:∀b,r=some b->b<y):du { read:=r,wl:=x,next:=y,wrote:=z,kept:=u}=true:=by
 cases r with
 | none=>rfl
 | some b =>
  have:=h b rfl
  show Nat.blt b y=true
  rw[Qd]; exact this
def nv{ops:RU Oper}{K:Tm->RN->Prop}:∀{os:RR Oper} {t:Tm} {m:RN} {w:Nat} {ns:RR Note},jy E n ops K os t m w->ns.all du=true->dW E n ops (fun t m ns=>ns.all du=true/\K t m) os t (m.ww w) ns
 | [],t,m,w,ns,h,hn=>⟨by simpa using hn,h⟩
 | o::os,t,m,w,ns,h,hn=>by
  simp only[jy] at h;simp only[dW]
  split at h
  ·rename_i hw;rw[OM hw];obtain⟨h1,h2⟩:=h;refine h2.A.mono fun v m' hv=>?_;obtain⟨t',hp,h3⟩:=hv.A;refine⟨t',hp,?_⟩;have:=nv (ns:={ read:=bg E t o.op,wl:=m'.wl,next:=m.next,wrote:=ek E t o.op,kept:=gY m m'}::ns) h3 (by rw[PI,hn,Bool.and_true]; exact uA h1)
   exact this
  rename_i hw;rw[OJ hw];obtain⟨t',hp,h2⟩:=h.A;exact⟨t',hp,nv h2 (by rw[PI,hn]; rfl)⟩
def bK.M5{id:Nat}{ops:RU Oper}(hp:iQ ops=some [])(h:∀K:Tm->RN->Prop,(∀t m,Q .normal t m->K t m)->jy E n ops K ops.toList t m m.wl):bK E n fn ro (.region id ops true) Q t m:=by
 refine .draw hp ?_;have h1:=nv (ns:=[]) (h (fun t m=>Q .normal t m) fun _ _ h=>h) rfl;have mono:∀{os:RR Oper} {t:Tm} {m:RN} {ns:RR Note},dW E n ops (fun t m ns=>ns.all du=true/\Q .normal t m) os t m ns->dW E n ops (fun t m ns=>(([]:RR (Nat×Nat)).all (dD ns ops)&&ns.all du)=true/\Q .normal t m) os t m ns:=by
  intro os t m ns h
  simpa using h
 exact mono h1
variable{K:Tm->RN->Prop}{ops:RU Oper}{os:RR Oper}{ty:QQ}{p:String}{af:RU Edge}{d:Nat}{g:RI (Nat×Bool)}{v a b r:QP}{x y:QR}{e:QQ}
def IS{xs:RR QR}{vs:RR QP}(h:ax E t x=some v)(hs:bH E t xs=some vs):bH E t (x::xs)=some (v::vs):=by simp only[bH,h,hs]
end
end Go.Ab
end
section
namespace Go.Ab.W
open Go Go.Ab
abbrev Fs:=RR (Nat×QP)
def lk:Fs->Nat->RI QP
 | [],_=>none
 | p::l,i=>match Nat.beq p.1 i with
  | true=>some p.2
  | false=>lk l i
def Fr(t:Tm)(fs:Fs):Prop:=∀i v,lk fs i=some v->t.at i=v
def Fr.nil(t:Tm):Fr t []:=fun i v h=>by cases h
def Fr.set{t:Tm}{fs:Fs}{d:Nat}{v:QP}(h:Fr t fs):Fr (Trie.set t d v) ((d,v)::fs):=by
 intro i x hx;unfold lk at hx;rw[at_set]
 split at hx
 rename_i e;have:d=i:=OE e;rw[OM this.symm]; exact OK hx
 rename_i e;have:d≠i:=Qb e;rw[OJ (Ne.symm this)]; exact h i x hx
def sub(fs:Fs):Fs->Prop
 | []=>True
 | p::l=>lk fs p.1=some p.2/\sub fs l
def Fr.sub{t:Tm}{fs:Fs}:∀{fs':Fs},Fr t fs->sub fs fs'->Fr t fs'
 | [],_,_=>Fr.nil t
 | p::l,h,hs=>by
  intro i v hv;unfold lk at hv
  split at hv
  rename_i e;have:p.1=i:=OE e;subst this;cases hv;exact h _ _ hs.1
  exact Fr.sub h hs.2 i v hv
def ev(E:Env)(fs:Fs):QR->RI QP
 | .tmp i=>lk fs i
 | .const v=>match bO v with
  | true=>some v
  | false=>none
 | .global g=>match Nat.blt g E.glob with
  | true=>some (ptr g 0)
  | false=>none
 | .func f=>some (.func (.func f) #[] #[])
def mw(E:Env)(fs:Fs):RR QR->RI (RR QP)
 | []=>some []
 | x::xs=>match ev E fs x with
  | some v=>match mw E fs xs with
   | some vs=>some (v::vs)
   | none=>none
  | none=>none
def GZ(E:Env)(fs:Fs):RI QR->RI (RI QP)
 | none=>some none
 | some x=>match ev E fs x with
  | some v=>some (some v)
  | none=>none
def G1(E:Env)(fs:Fs):RR (Nat×QR)->RI (RR (Nat×QP))
 | []=>some []
 | x::xs=>match ev E fs x.2 with
  | some v=>match G1 E fs xs with
   | some vs=>some ((x.1,v)::vs)
   | none=>none
  | none=>none
section
variable{E:Env}{t:Tm}{fs:Fs}
def Fr.ev(h:Fr t fs):∀{x:QR} {v:QP},ev E fs x=some v->ax E t x=some v
 | .tmp i,v,e=>by show some (t.at i)=some v; rw[h i v e]
 | .const c,v,e=>by
  simp only[Go.Ab.W.ev] at e
  split at e
  rename_i hp; cases e; simp only[ax]; rw[OM hp]
  cases e
 | .global g,v,e=>by
  simp only[Go.Ab.W.ev] at e
  split at e
  rename_i hp; cases e; simp only[ax]; rw[OM (by rwa[Qd] at hp)]
  cases e
 | .func f,v,e=>by simp only[Go.Ab.W.ev] at e; exact e
def Fr.mw(h:Fr t fs):∀{xs:RR QR} {vs:RR QP},mw E fs xs=some vs->bH E t xs=some vs
 | [],vs,e=>by simp only[Go.Ab.W.mw] at e; exact e
 | x::xs,vs,e=>by
  simp only[Go.Ab.W.mw] at e
  split at e
  rename_i v hv
  split at e
  rename_i ws hw;cases e;exact IS (h.ev hv) (Fr.mw h hw)
  cases e
  cases e
def Fr.GZ(h:Fr t fs):∀{x:RI QR} {v:RI QP},GZ E fs x=some v->dH E t x=some v
 | none,v,e=>by simp only[Go.Ab.W.GZ] at e; exact e
 | some x,v,e=>by
  simp only[Go.Ab.W.GZ] at e
  split at e
  rename_i w hw; cases e; simp only[dH]; rw[h.ev hw]; rfl
  cases e
def Fr.G1(h:Fr t fs):∀{xs:RR (Nat×QR)} {vs:RR (Nat×QP)},G1 E fs xs=some vs->dw E t xs=some vs
 | [],vs,e=>by simp only[Go.Ab.W.G1] at e; exact e
 | x::xs,vs,e=>by
  simp only[Go.Ab.W.G1] at e
  split at e
  rename_i v hv
  split at e
  rename_i ws hw;cases e;obtain⟨i,y⟩:=x;unfold dw;rw[h.ev hv,Fr.G1 h hw]
  cases e
  cases e
end
def oP(m:RN)(b o w:Nat)(es:QM):Prop :=
 b<m.next/\∃all tg,m.get b=some (.cells all tg)/\(∀sz,tg=.more sz->sz=w)/\∀i e,es[i]? = some e->(all.drop (o+i*w)).take w=e/\e.length=w
def dG:QN->RI Nat
 | some a=>some a.block
 | none=>none
def Rd(m:RN)(a:QN)(cap w n:Nat)(es:QM):Prop :=
 es.length=n/\n<=cap/\((a=none/\n=0)\/(∃b sp,a=some ⟨b,0,some sp⟩/\n=0/\cap=0/\b<m.next)\/∃b o,a=some ⟨b,o,none⟩/\oP m b o w es)
def Rd.lt{m:RN}{a:QN}{cap w n:Nat}{es:QM}(h:Rd m a cap w n es){b:Nat}(hb:dG a=some b):b<m.next:=by
 rcases h.2.2 with⟨rfl,_⟩|⟨b',sp,rfl,_,_,h4⟩|⟨b',o,rfl,h4⟩
 cases hb
 cases hb; exact h4
 cases hb; exact h4.1
def zv(lo:Nat)(m:RN)(b w n:Nat)(es:QM)(tg:Tag):Prop :=
 lo<=b/\b<m.next/\m.get b=some (.cells es.flatten tg)/\es.length=n/\(∀e∈es,e.length=w)/\(tg=.own\/tg=.more w)/\0<w
structure GPc where
 ow:Nat->Prop
 rd:Nat->Prop
 P:RN->Prop
 st:∀m m':RN,P m->m.next<=m'.next->(∀b,ow b\/rd b->b<m.next->m'.get b=m.get b)->P m'
 lt:∀(m:RN) b,P m->ow b\/rd b->b<m.next
 fr:Bool:=false
inductive Pc
 | obj (b:Nat) (o:RP)
 | arr (b w n:Nat) (es:QM) (tg:Tag)
 | sl (a:QN) (w n:Nat) (es:QM)
 | rd (a:QN) (cap w n:Nat) (es:QM)
 | ro (b o w n:Nat) (es:QM)
 | gen (g:GPc)
def Pc.sV:Pc->RI Nat
 | .obj b _=>some b
 | .arr b _ _ _ _=>some b
 | .sl a _ _ _=>dG a
 | .rd a _ _ _ _=>dG a
 | .ro b _ _ _ _=>some b
 | .gen _=>none
def Pc.own:Pc->Bool
 | .obj _ _|.arr _ _ _ _ _|.sl _ _ _ _=>true
 | _=>false
def Pc.Og:Pc->Nat->Prop
 | .gen g=>g.ow
 | _=>fun _=>False
def Pc.DT:Pc->Nat->Prop
 | .gen g=>fun b=>g.ow b\/g.rd b
 | _=>fun _=>False
def Pc.ow(p:Pc)(b:Nat):Prop:=(p.own=true/\p.sV=some b)\/p.Og b
def Pc.any(p:Pc)(b:Nat):Prop:=p.sV=some b\/p.DT b
def Pc.nb{p:Pc}{b:Nat}(h:p.ow b):p.any b:=by
 rcases h with h|h
 exact .inl h.2
 ·cases p with
  | gen g=>exact .inr (.inl h)
  | _=>exact h.elim
def Pc.Ma{p:Pc}{b:Nat}(ho:p.own=true)(hb:p.sV=some b):p.ow b:=.inl ⟨ho,hb⟩
def Pc.zO{p:Pc}{b:Nat}(ho:p.own=true)(h:p.any b):p.sV=some b:=by
 rcases h with h|h
 exact h
 ·cases p with
  | gen g=>cases ho
  | _=>exact h.elim
def Pc.ok(lo:Nat)(m:RN):Pc->Prop
 | .obj b o=>lo<=b/\b<m.next/\m.get b=some o
 | .arr b w n es tg=>zv lo m b w n es tg
 | .sl a w n es=>(n=0/\es=[]/\a=none/\0<w)\/∃b tg,a=some ⟨b,0,none⟩/\zv lo m b w n es tg
 | .rd a cap w n es=>Rd m a cap w n es
 | .ro b o w n es=>es.length=n/\oP m b o w es
 | .gen g=>g.P m/\(g.fr=false->∀b,g.ow b->lo<=b)
def Pc.bound:Pc->Bool
 | .gen g=>!g.fr
 | _=>true
def Pc.apart(p q:Pc):Prop:=(∀b,p.ow b->q.any b->False)/\∀b,q.ow b->p.any b->False
structure Hp(m0 m:RN)(ps:RR Pc):Prop where
 ext:Ext m0 m
 ok:∀p∈ps,p.ok m0.next m
 apart:ps.Pairwise Pc.apart
def pk:RR Pc->Nat->RI Pc
 | [],_=>none
 | p::_,0=>some p
 | _::l,k+1=>pk l k
def dE:RR Pc->Nat->Pc->RR Pc
 | [],_,_=>[]
 | _::l,0,p=>p::l
 | q::l,k+1,p=>q::dE l k p
def kz(p:Pc)(l:RR Pc):pk (p::l) 0=some p:=rfl
def fJ(p:Pc)(l:RR Pc)(k:Nat):pk (p::l) (k+1)=pk l k:=rfl
def lO:∀{ps:RR Pc} {k:Nat} {p:Pc},pk ps k=some p->p∈ps:=by
 intro ps
 induction ps with
 | nil=>intro k p h; simp[pk] at h
 | cons q l ih =>
  intro k p h;cases k with
  | zero=>rw[kz] at h; have:=OK h; simp[this]
  | succ k=>rw[fJ] at h; have:=ih h; simp[this]
def jx(q:Pc)(l:RR Pc)(p:Pc):dE (q::l) 0 p=p::l:=rfl
def ib(q:Pc)(l:RR Pc)(k:Nat)(p:Pc):dE (q::l) (k+1) p=q::dE l k p:=rfl
def uK:∀{l:RR Pc} {k:Nat} {p r:Pc},r∈dE l k p->r∈l\/r=p:=by
 intro l
 induction l with
 | nil=>intro k p r h; simp[dE] at h
 | cons a l ih =>
  intro k p r h;cases k with
  | zero =>
   rw[jx,Pb] at h;rcases h with h|h
   exact .inr h
   exact .inl (by simp[h])
  | succ k =>
   rw[ib,Pb] at h;rcases h with h|h
   exact .inl (by simp[h])
   rcases ih h with h1|h1
   exact .inl (by simp[h1])
   exact .inr h1
def oP.lg{m m':RN}{b o w:Nat}{es:QM}(h:oP m b o w es)(hn:m.next<=m'.next)(hg:m'.get b=m.get b):oP m' b o w es:=by
 obtain⟨h1,all,tg,h2,h3⟩:=h;exact⟨by omega,all,tg,by rw[hg]; exact h2,h3⟩
def zv.lg{lo:Nat}{m m':RN}{b w n:Nat}{es:QM}{tg:Tag}(h:zv lo m b w n es tg)(hn:m.next<=m'.next)(hg:m'.get b=m.get b):zv lo m' b w n es tg:=by
 obtain⟨h1,h2,h3,h4⟩:=h;exact⟨h1,by omega,by rw[hg]; exact h3,h4⟩
def Rd.lg{m m':RN}{a:QN}{cap w n:Nat}{es:QM}(h:Rd m a cap w n es)(hn:m.next<=m'.next)(hg:∀b,dG a=some b->b<m.next->m'.get b=m.get b):Rd m' a cap w n es:=by
 obtain⟨h1,h2,h4⟩:=h;refine⟨h1,h2,?_⟩;rcases h4 with h4|⟨b,sp,rfl,a1,a2,a3⟩|⟨b,o,rfl,h⟩
 exact .inl h4
 exact .inr (.inl ⟨b,sp,rfl,a1,a2,OH a3 hn⟩)
 exact .inr (.inr ⟨b,o,rfl,h.lg hn (hg b rfl h.1)⟩)
def Pc.jw{lo:Nat}{m m':RN}{p:Pc}(h:p.ok lo m)(hn:m.next<=m'.next)(hg:∀b,p.any b->b<m.next->m'.get b=m.get b):p.ok lo m':=by
 cases p with
 | obj b o=>exact⟨h.1,by have:=h.2.1; omega,by rw[hg b (.inl rfl) h.2.1]; exact h.2.2⟩
 | arr b w n es tg=>exact zv.lg h hn (hg b (.inl rfl) h.2.1)
 | sl a w n es =>
  rcases h with h|⟨b,tg,rfl,h⟩
  exact .inl h
  exact .inr ⟨b,tg,rfl,h.lg hn (hg b (.inl rfl) h.2.1)⟩
 | rd a cap w n es=>exact Rd.lg h hn fun b hb=>hg b (.inl hb)
 | ro b o w n es=>exact⟨h.1,h.2.lg hn (hg b (.inl rfl) h.2.1)⟩
 | gen g=>exact⟨g.st m m' h.1 hn fun b hb=>hg b (.inr hb),h.2⟩
def Pc.iA{lo:Nat}{m:RN}{p:Pc}(h:p.ok lo m){b:Nat}(hb:p.any b):b<m.next:=by
 cases p with
 | obj b' o=>rcases hb with hb|hb; cases hb; exact h.2.1; exact hb.elim
 | arr b' w n es tg=>rcases hb with hb|hb; cases hb; exact h.2.1; exact hb.elim
 | sl a w n es =>
  rcases hb with hb|hb
  rcases h with⟨_,_,rfl,_⟩|⟨b',tg,rfl,h⟩
  cases hb
  cases hb; exact h.2.1
  exact hb.elim
 | rd a cap w n es=>rcases hb with hb|hb; exact Rd.lt h hb; exact hb.elim
 | ro b' o w n es=>rcases hb with hb|hb; cases hb; exact h.2.1; exact hb.elim
 | gen g=>rcases hb with hb|hb; cases hb; exact g.lt m b h.1 hb
def Pc.LK{lo:Nat}{m:RN}{p:Pc}(h:p.ok lo m){b:Nat}(hb:p.sV=some b):b<m.next:=Pc.iA h (.inl hb)
def Pc.Et{lo:Nat}{m:RN}{p:Pc}(h:p.ok lo m)(hf:p.bound=true){b:Nat}(hb:p.ow b):lo<=b:=by
 rcases hb with⟨ho,hb⟩|hb
 ·cases p with
  | obj b' o=>cases hb; exact h.1
  | arr b' w n es tg=>cases hb; exact h.1
  | sl a w n es =>
   rcases h with⟨_,_,rfl,_⟩|⟨b',tg,rfl,h⟩
   cases hb
   cases hb; exact h.1
  | rd a cap w n es=>cases ho
  | ro b' o w n es=>cases ho
  | gen g=>cases ho
 ·cases p with
  | gen g=>exact h.2 (by simpa [Pc.bound] using hf) b hb
  | _=>exact hb.elim
def Pc.Fb{lo:Nat}{m:RN}{p:Pc}(h:p.ok lo m)(ho:p.own=true){b:Nat}(hb:p.sV=some b):lo<=b:=Pc.Et h (by cases p<;>first|rfl|cases ho) (.inl ⟨ho,hb⟩)
section
variable{m0 m m':RN}{ps:RR Pc}
def Hp.get(h:Hp m0 m ps){k:Nat}{p:Pc}(hp:pk ps k=some p):p.ok m0.next m:=h.ok p (lO hp)
def Pc.ko{p r:Pc}(h:Pc.apart p r):Pc.apart r p:=⟨h.2,h.1⟩
def iD:∀{ps:RR Pc} {k:Nat} {p p':Pc},pk ps k=some p->(∀r∈ps,Pc.apart p r->Pc.apart p' r)->ps.Pairwise Pc.apart->(dE ps k p').Pairwise Pc.apart:=by
 intro ps
 induction ps with
 | nil=>intro k p p' hk; simp[pk] at hk
 | cons q l ih =>
  intro k p p' hk hr h;rw[PE] at h;cases k with
  | zero =>
   rw[kz] at hk;have hk:=OK hk;subst hk;rw[jx];exact PE.2 ⟨fun r hm=>hr r (by simp[hm]) (h.1 r hm),h.2⟩
  | succ k =>
   rw[fJ] at hk;rw[ib];refine PE.2 ⟨fun r hm=>?_,ih hk (fun r hm=>hr r (by simp[hm])) h.2⟩
   rcases uK hm with hm|hm
   exact h.1 r hm
   rw[hm]; exact Pc.ko (hr q (by simp) (Pc.ko (h.1 p (lO hk))))
def xT:∀{ps:RR Pc} {k:Nat} {p p' r:Pc},pk ps k=some p->ps.Pairwise Pc.apart->r∈dE ps k p'->r=p'\/(r∈ps/\Pc.apart r p):=by
 intro ps
 induction ps with
 | nil=>intro k p p' r hk; simp[pk] at hk
 | cons q l ih =>
  intro k p p' r hk h hr;rw[PE] at h;cases k with
  | zero =>
   rw[kz] at hk;have hk:=OK hk;subst hk;rw[jx,Pb] at hr;rcases hr with hr|hr
   exact .inl hr
   exact .inr ⟨by simp[hr],Pc.ko (h.1 r hr)⟩
  | succ k =>
   rw[fJ] at hk;rw[ib,Pb] at hr;rcases hr with hr|hr
   rw[hr]; exact .inr ⟨by simp,h.1 p (lO hk)⟩
   rcases ih hk h.2 hr with h1|⟨h1,h2⟩
   exact .inl h1
   exact .inr ⟨by simp[h1],h2⟩
def Hp.Oe(h:Hp m0 m ps){k:Nat}{p p':Pc}(hp:pk ps k=some p)(how:∀b,p'.ow b->p.ow b\/m.next<=b)(hany:∀b,p'.any b->p.any b\/m.next<=b)(hn:m.next<=m'.next)(hext:Ext m0 m')
  (hok:p'.ok m0.next m') (hg:∀b,¬p.ow b->b<m.next->m'.get b=m.get b):Hp m0 m' (dE ps k p') where
 ext:=hext
 apart:=iD hp (fun r hr ha=>⟨fun b a c=>(how b a).elim (fun a=>ha.1 b a c) fun a=>by have:=Pc.iA (h.ok r hr) c; omega,fun b a c=>(hany b c).elim (fun c=>ha.2 b a c) fun c=>by have:=Pc.iA (h.ok r hr) (Pc.nb a); omega⟩) h.apart
 ok:=fun r hr=>by
  rcases xT hp h.apart hr with rfl|⟨h1,h2⟩
  exact hok
  exact Pc.jw (h.ok r h1) hn fun b hb' hlt=>hg b (fun e=>h2.2 b e hb') hlt
def Hp.put(h:Hp m0 m ps){k:Nat}{p p':Pc}(hp:pk ps k=some p)(ho:p.own=true)(hb:p'.sV=p.sV)(ho':p'.own=true)(hn:m.next<=m'.next)(hext:Ext m0 m')
  (hok:p'.ok m0.next m') (hg:∀b,p.sV≠some b->b<m.next->m'.get b=m.get b):Hp m0 m' (dE ps k p') :=
 h.Oe hp (fun b a=>.inl (.inl ⟨ho,by rw[<-hb]; exact Pc.zO ho' (Pc.nb a)⟩)) (fun b a=>.inl (.inl (by rw[<-hb]; exact Pc.zO ho' a))) hn hext hok fun b hb' hlt=>hg b (fun e=>hb' (.inl ⟨ho,e⟩)) hlt
def Hp.Mi(h:Hp m0 m ps){p:Pc}(hn:m.next<=m'.next)(hext:Ext m0 m')(hsame:∀b,b<m.next->m'.get b=m.get b)(hp:p.ok m0.next m')(hb:∀b,p.any b->m.next<=b):Hp m0 m' (p::ps) where
 ext:=hext
 ok:=fun q hq=>by
  rcases Pb.1 hq with rfl|hq
  exact hp
  exact Pc.jw (h.ok q hq) hn fun b hb' hlt=>hsame b hlt
 apart:=PE.2 ⟨fun q hq=>⟨fun b h1 h2=>by
  have:=Pc.iA (h.ok q hq) h2;have:=hb b (Pc.nb h1);omega,fun b h1 h2=>by
  have:=Pc.iA (h.ok q hq) (Pc.nb h1);have:=hb b h2;omega⟩,h.apart⟩
def Hp.cons(h:Hp m0 m ps){p:Pc}(hn:m.next<=m'.next)(hext:Ext m0 m')(hsame:∀b,b<m.next->m'.get b=m.get b)(hp:p.ok m0.next m')(hb:∀b,p.sV=some b->m.next<=b)(hng:∀b,¬p.DT b:=by exact fun _ h=>h):Hp m0 m' (p::ps) :=
 h.Mi hn hext hsame hp fun b hb'=>hb'.elim (hb b) fun h=>O6 h (hng b)
def ae(ps:RR Pc):RR Nat->RI (RR Pc)
 | []=>some []
 | k::ks=>match pk ps k with
  | some p=>match ae ps ks with
   | some qs=>some (p::qs)
   | none=>none
  | none=>none
def oM:RR Nat->Bool
 | []=>true
 | k::ks=>!(ks.any (Nat.beq k))&&oM ks
def ue:∀{ks:RR Nat} {qs:RR Pc},ae ps ks=some qs->∀q∈qs,∃k∈ks,pk ps k=some q:=by
 intro ks
 induction ks with
 | nil=>intro qs h q hq; simp only[ae,Option.some.injEq] at h; subst h; cases hq
 | cons k ks ih =>
  intro qs h q hq;simp only[ae] at h
  split at h
  rename_i p hp
  split at h
  rename_i qs' hqs;simp only[Option.some.injEq] at h;subst h;rcases Pb.1 hq with rfl|hq
  exact⟨k,by simp,hp⟩
  obtain⟨k',h1,h2⟩:=ih hqs q hq;exact⟨k',by simp[h1],h2⟩
  cases h
  cases h
def gB:∀{ps:RR Pc} {i j:Nat} {p q:Pc},ps.Pairwise Pc.apart->pk ps i=some p->pk ps j=some q->i≠j->Pc.apart p q:=by
 intro ps
 induction ps with
 | nil=>intro i j p q _ h; simp[pk] at h
 | cons r l ih =>
  intro i j p q h hi hj hne;rw[PE] at h;cases i with
  | zero =>
   cases j with
   | zero=>exact O6 rfl hne
   | succ j =>
    rw[kz] at hi;rw[fJ] at hj;rw[<-OK hi];exact h.1 q (lO hj)
  | succ i =>
   cases j with
   | zero =>
    rw[kz] at hj;rw[fJ] at hi;rw[<-OK hj];exact Pc.ko (h.1 p (lO hi))
   | succ j=>rw[fJ] at hi hj; exact ih h.2 hi hj (fun e=>hne (by rw[e]))
def kl:∀{ps:RR Pc} {r:Pc},r∈ps->∃k,pk ps k=some r:=by
 intro ps
 induction ps with
 | nil=>intro r h; cases h
 | cons p l ih =>
  intro r h;rcases Pb.1 h with rfl|h
  exact⟨0,rfl⟩
  obtain⟨k,hk⟩:=ih h; exact⟨k+1,hk⟩
def Hp.J5(h:Hp m0 m ps){k:Nat}{p q:Pc}(hp:pk ps k=some p)(hpo:∀b,¬p.ow b)(hq:q.ok m0.next m)(hqo:∀b,¬q.ow b)(hb:∀b,q.any b->p.any b):Hp m0 m (q::ps) where
 ext:=h.ext
 ok:=fun r hr=>by
  rcases Pb.1 hr with rfl|hr
  exact hq
  exact h.ok r hr
 apart:=PE.2 ⟨fun r hr=>⟨fun b h1 _=>hqo b h1,fun b h1 h2=>by
  obtain⟨k',hk'⟩:=kl hr;have hne:k≠k':=fun e=>by
   rw[<-e,hp] at hk';exact hpo b (by rw[OK hk']; exact h1)
  exact(gB h.apart hp hk' hne).2 b h1 (hb b h2)⟩,h.apart⟩
def Hp.more(h:Hp m0 m ps){k:Nat}{p q:Pc}(hp:pk ps k=some p)(hpo:p.own=false)(hq:q.ok m0.next m)(hqo:q.own=false)(hb:∀b,q.sV=some b->p.sV=some b)(hpg:∀b,¬p.Og b:=by exact fun _ h=>h)(hqg:∀b,¬q.DT b:=by exact fun _ h=>h):Hp m0 m (q::ps) :=
 h.J5 hp (fun b h=>h.elim (fun h=>by rw[hpo] at h; cases h.1) (hpg b)) hq (fun b h=>h.elim (fun h=>by rw[hqo] at h; cases h.1) fun h=>hqg b (by cases q with|gen g=>exact .inl h|_=>exact h)) fun b h=>h.elim (fun h=>.inl (hb b h)) fun h=>O6 h (hqg b)
def zj(h:ps.Pairwise Pc.apart):∀{ks:RR Nat} {qs:RR Pc},oM ks=true->ae ps ks=some qs->qs.Pairwise Pc.apart:=by
 intro ks
 induction ks with
 | nil=>intro qs _ e; simp only[ae,Option.some.injEq] at e; subst e; exact .nil
 | cons k ks ih =>
  intro qs hnd e;simp only[oM,OD,Pv,List.any_eq_false] at hnd;simp only[ae] at e
  split at e
  rename_i p hp
  split at e
  rename_i qs' hqs;simp only[Option.some.injEq] at e;subst e;refine PE.2 ⟨fun q hq=>?_,ih hnd.2 hqs⟩;obtain⟨k',h1,h2⟩:=ue hqs q hq;exact gB h hp h2 fun e=>hnd.1 k' h1 (by rw[e]; exact Nat.beq_refl _)
  cases e
  cases e
def Hp.ae(h:Hp m0 m ps)(ks:RR Nat){qs:RR Pc}(hnd:oM ks=true)(e:W.ae ps ks=some qs):Hp m0 m qs where
 ext:=h.ext
 ok:=fun q hq=>by
  obtain⟨k,_,hk⟩:=ue e q hq;exact h.ok q (lO hk)
 apart:=zj h.apart hnd e
def Pc.JX{lo lo':Nat}{m:RN}{p:Pc}(h:p.ok lo m)(hle:lo'<=lo):p.ok lo' m:=by
 have up:∀{b w n es tg},zv lo m b w n es tg->zv lo' m b w n es tg:=fun ho=>⟨O3 hle ho.1,ho.2⟩;cases p with
 | obj b o=>exact⟨O3 hle h.1,h.2⟩
 | arr b w n es tg=>exact up h
 | sl a w n es =>
  rcases h with h1|⟨b,tg,e,h1⟩
  exact .inl h1
  exact .inr ⟨b,tg,e,up h1⟩
 | rd a cap w n es=>exact h
 | ro b o w n es=>exact h
 | gen g=>exact⟨h.1,fun hf b hb=>O3 hle (h.2 hf b hb)⟩
def Hp.Ly(h:Hp m0 m ps){new:RR Pc}(h':Hp m m' new)(hbd:∀p∈new,p.bound=true)(hro:∀p∈new,∀b,p.any b->m.next<=b\/(¬p.ow b/\∃q∈ps,(∀b,¬q.ow b)/\q.any b)):Hp m0 m' (new++ps) where
 ext:=h.ext.trans h'.ext
 ok:=fun q hq=>by
  rcases P1.1 hq with hq|hq
  exact Pc.JX (h'.ok q hq) h.ext.next
  exact Pc.jw (h.ok q hq) h'.ext.next fun b _ hlt=>h'.ext.same b hlt
 apart:=List.pairwise_append.2 ⟨h'.apart,h.apart,fun p hp q hq=>⟨fun b h1 h2=>by
  have:=Pc.Et (h'.ok p hp) (hbd p hp) h1;have:=Pc.iA (h.ok q hq) h2;omega,fun b h1 h2=>by
  rcases hro p hp b h2 with h3|⟨_,r,hr,hr1,hr2⟩
  have:=Pc.iA (h.ok q hq) (Pc.nb h1);omega
  obtain⟨i,hi⟩:=kl hq;obtain⟨j,hj⟩:=kl hr;have hne:i≠j:=fun e=>by
   rw[e,hj] at hi;exact hr1 b (by rw[OK hi]; exact h1)
  exact(gB h.apart hi hj hne).1 b h1 hr2⟩⟩
def Hp.after(h:Hp m0 m ps){new:RR Pc}(h':Hp m m' new)(hro:∀p∈new,p.own=true):Hp m0 m' (new++ps) :=
 h.Ly h' (fun p hp=>by have:=hro p hp; cases p<;>first|rfl|cases this) fun p hp b hb=>.inl (Pc.Fb (h'.ok p hp) (hro p hp) (Pc.zO (hro p hp) hb))
def Dw(ps:RR Pc)(b:Nat):Prop:=∃p∈ps,p.ow b
def Hp.ar(h:Hp m0 m ps):∀b,Dw ps b->b<m.next:=fun _ ⟨p,hp,hb⟩=>Pc.iA (h.ok p hp) (Pc.nb hb)
def aF(H:QO):GPc:={ ow:=H,rd:=fun _=>False,P:=fun m=>∀b,H b->b<m.next,fr:=true,st:=fun _ _ h hn _ b hb=>OH (h b hb) hn,lt:=fun _ b h hb=>hb.elim (h b) fun h=>h.elim}
def Hp.bM(m:RN){H:QO}(hH:∀b,H b->b<m.next):Hp m m [.gen (aF H)]:=⟨.refl m,fun p h=>by rw[PJ.1 h]; exact⟨hH,fun h=>by cases h⟩,List.pairwise_singleton ..⟩
def Hp.Gj(h:Hp m0 m ps){new:RR Pc}(h':Hp m m' (new++[.gen (aF (Dw ps))]))(hbd:∀p∈new,p.bound=true):Hp m0 m' (new++ps) where
 ext:=h.ext.trans h'.ext
 ok:=fun q hq=>by
  rcases P1.1 hq with hq|hq
  exact Pc.JX (h'.ok q (List.mem_append_left _ hq)) h.ext.next
  exact Pc.jw (h.ok q hq) h'.ext.next fun b _ hlt=>h'.ext.same b hlt
 apart:=List.pairwise_append.2 ⟨(List.pairwise_append.1 h'.apart).1,h.apart,fun p hp q hq=>⟨fun b h1 h2=>by
  have:=Pc.Et (h'.ok p (List.mem_append_left _ hp)) (hbd p hp) h1;have:=Pc.iA (h.ok q hq) h2;omega,fun b h1 h2=>((List.pairwise_append.1 h'.apart).2.2 p hp _ (PJ.2 rfl)).2 b (.inr ⟨q,hq,h1⟩) h2⟩⟩
def Hp.au(h:Hp m0 m ps){k cap w n:Nat}{a:QN}{es:QM}(hp:pk ps k=some (.rd a cap w n es)):∀b,dG a=some b->¬Dw ps b:=fun b hb ⟨q,hq,h1⟩=>by
 obtain⟨i,hi⟩:=kl hq;have hne:i≠k:=fun e=>by
  rw[e,hp] at hi;cases hi;exact h1.elim (fun h=>by cases h.1) fun h=>h.elim
 exact(gB h.apart hi hp hne).1 b h1 (.inl hb)
end
structure TyI(P:QS)(ty:QQ)(ag:Bool)(sz:Nat):Prop where
 known:known P ty=true
 agg:eu P ty=ag
 size:aC P ty=sz
structure SlT(P:QS)(ty elem:QQ)(w:Nat):Prop where
 und:P.underlying ty=some (.slice elem)
 known:known P elem=true
 size:aC P elem=w
 pos:0<w
 zero:(cg P elem).any (fun z=>z.cells.size==w&&z.cells.toList.all aX)=true
 bytes:∃i,P.info? elem=some i/\i.bytes≠0/\i.bytes<=1024
structure ArT(P:QS)(ty elem:QQ)(len w:Nat):Prop where
 und:P.underlying ty=some (.array len elem)
 known:known P elem=true
 size:aC P elem=w
def Nn(P:QS)(ty elem:QQ)(w:Nat):Bool :=
 (match P.underlying ty with|some (.slice e)=>Nat.beq e elem|_=>false)&&known P elem&&Nat.beq (aC P elem) w&&Nat.blt 0 w &&(cg P elem).any (fun z=>z.cells.size==w&&z.cells.toList.all aX) &&(match P.info? elem with|some i=>!(Nat.beq i.bytes 0)&&Nat.ble i.bytes 1024|none=>false)
def SlT.of{P:QS}{ty elem:QQ}{w:Nat}(h:Nn P ty elem w=true):SlT P ty elem w:=by
 simp only[Nn,OD] at h;obtain⟨⟨⟨⟨⟨h1,h2⟩,h3⟩,h4⟩,h5⟩,h6⟩:=h;refine⟨?_,h2,OE h3,by rwa[Qd] at h4,h5,?_⟩
 split at h1
 rename_i e he; rw[he,OE h1]
 cases h1
 split at h6
 rename_i i hi;simp only[OD,Pv] at h6;exact⟨i,hi,Qb h6.1,OL h6.2⟩
 cases h6
section
variable{E:Env}{n:Nat}{m0:RN}{fs:Fs}{ps:RR Pc}
def Od(E:Env)(m0:RN)(fs:Fs)(ps:RR Pc)(o:Op)(v:QP)(ps':RR Pc):Prop :=
 ∀t m,Fr t fs->Hp m0 m ps->(∀b,bg E t o=some b->b<m.next)/\∀K:QP->RN->Prop,(∀m',Hp m0 m' ps'->K v m')->bN E t m o K
def Ox(E:Env)(m0:RN)(fs:Fs)(ps:RR Pc)(o:Op){α:Type}(V:α->QP)(N:α->RR Pc):Prop :=
 ∀t m,Fr t fs->Hp m0 m ps->(∀b,bg E t o=some b->b<m.next)/\∀K:QP->RN->Prop,(∀x m',Hp m0 m' (N x)->K (V x) m')->bN E t m o K
def Od.pure{o:Op}{v:QP}(hr:∀t,bg E t o=none)(h:∀t m,Fr t fs->∀K,bN E t m o K=K v m):Od E m0 fs ps o v ps :=
 fun t m hf hp=>⟨fun b hb=>(by rw[hr] at hb; cases hb),fun K hK=>by rw[h t m hf]; exact hK m hp⟩
variable{x y z:QR}{a b r v:QP}{ty ty':QQ}
def ab(h:ev E fs x=some v):Od E m0 fs ps (.move x) v ps:=.pure (fun _=>rfl) fun _ _ hf=>Go.Ab.Kv (hf.ev h)
def ai(h:ev E fs x=some v):Od E m0 fs ps (.assign x) v ps:=.pure (fun _=>rfl) fun _ _ hf=>Go.Ab.GK (hf.ev h)
def iO{c:QR}(hc:ev E fs c=some (.bool true))(h:ev E fs x=some v):Od E m0 fs ps (.pick c x y) v ps:=.pure (fun _=>rfl) fun _ _ hf=>Go.Ab.G3 (hf.ev hc) (hf.ev h)
def D4{c:QR}(hc:ev E fs c=some (.bool false))(h:ev E fs y=some v):Od E m0 fs ps (.pick c x y) v ps:=.pure (fun _=>rfl) fun _ _ hf=>Go.Ab.JC (hf.ev hc) (hf.ev h)
def an{op:BinOp}(h:ev E fs x=some a)(h':ev E fs y=some b)(hr:bS op ty E.P a b=some r):Od E m0 fs ps (.binOp op ty x y ty') r ps:=.pure (fun _=>rfl) fun _ _ hf=>Go.Ab.Nf (hf.ev h) (hf.ev h') hr
def iM{op:UnOp}(h:ev E fs x=some a)(hr:Al op a=some r):Od E m0 fs ps (.unOp op ty x) r ps:=.pure (fun _=>rfl) fun _ _ hf=>Go.Ab.iM (hf.ev h) hr
def jR(h:ev E fs x=some a)(hr:fF E.P ty ty' a=some r):Od E m0 fs ps (.convert ty ty' x) r ps:=.pure (fun _=>rfl) fun _ _ hf=>Go.Ab.Lr (hf.ev h) hr
def aW{f:Nat}(h:ev E fs x=some a)(hr:bh E.P ty a f=some r):Od E m0 fs ps (.fieldAddr ty x f) r ps:=.pure (fun _=>rfl) fun _ _ hf=>Go.Ab.xM (hf.ev h) hr
def Jn{f:Nat}(h:ev E fs x=some a)(hr:eX E.P ty a f=some r):Od E m0 fs ps (.field ty x f) r ps:=.pure (fun _=>rfl) fun _ _ hf=>Go.Ab.H7 (hf.ev h) hr
def yH(h:ev E fs x=some a)(h':ev E fs y=some b)(hr:bV E.P ty a b=some r):Od E m0 fs ps (.indexAddr ty x y) r ps:=.pure (fun _=>rfl) fun _ _ hf=>Go.Ab.yP (hf.ev h) (hf.ev h') hr
def NS(h:ev E fs x=some a)(h':ev E fs y=some b)(hr:gj E.P ty a b=some r):Od E m0 fs ps (.index ty x y) r ps:=.pure (fun _=>rfl) fun _ _ hf=>Go.Ab.Jz (hf.ev h) (hf.ev h') hr
def bZ{i:Nat}{vs:RU QP}(h:ev E fs x=some (.tuple vs))(hr:vs[i]? = some r):Od E m0 fs ps (.extract x i) r ps:=.pure (fun _=>rfl) fun _ _ hf=>Go.Ab.Dc (hf.ev h) hr
def K2{f:R2}{xs ys:RU QR}{vs ws:RR QP}(h:mw E fs xs.toList=some vs)(h':mw E fs ys.toList=some ws):Od E m0 fs ps (.makeFunc (.func f) xs ys) (.func (.func f) vs.toArray ws.toArray) ps :=
 .pure (fun _=>rfl) fun _ _ hf K=>by rw[Go.Ab.yK,hf.mw h,Go.Ab.dL,hf.mw h',Go.Ab.dL]
def fT{parts:RU (Nat×QR)}{vs:RR (Nat×QP)}{z:QP}(h:G1 E fs parts.toList=some vs)(hz:cg E.P ty=some z)(hpz:bO z=true)(hr:j9 E.P ty vs=some r):Od E m0 fs ps (.build ty parts) r ps :=
 .pure (fun _=>rfl) fun t m hf K=>by
  have:cY E t m (.build ty parts)=some (r,m):=by simp only[cY,hf.G1 h,hz,hpz,if_true,hr,OI]
  exact Go.Ab.D7 rfl this K
def DY(ag:Bool)(sz:Nat)(cs:RR QP)(o:Nat):RI QP :=
 match ag with
 | true=>match Nat.beq ((cs.drop o).take sz).length sz with
  | true=>some (.agg ((cs.drop o).take sz).toArray)
  | false=>none
 | false=>cs[o]?
def wz{P:QS}{m:RN}{ag:Bool}{sz b o:Nat}{cs:RR QP}{tg:Tag}(ht:TyI P ty ag sz)(hg:m.get b=some (.cells cs tg))(h:DY ag sz cs o=some v):dO P ty (ptr b o) m=some v:=by
 cases ag with
 | false=>exact Jg ht.known ht.agg hg h
 | true =>
  simp only[DY] at h
  split at h
  rename_i e;cases h;exact I4 ht.known ht.agg ht.size hg rfl (OE e)
  cases h
def Fh(ag:Bool)(sz c w:Nat):Bool:=(match ag with|true=>true|false=>Nat.beq sz 1)&&Nat.ble (c+sz) w
def vJ{ag:Bool}{sz c w:Nat}(h:Fh ag sz c w=true):(ag=false->sz=1)/\c+sz<=w:=by
 simp only[Fh,OD] at h;exact⟨fun e=>by subst e; exact OE h.1,OL h.2⟩
def Od.load{b o:Nat}(hx:ev E fs x=some (ptr b o))(h:∀m,Hp m0 m ps->b<m.next/\dO E.P ty (ptr b o) m=some v):Od E m0 fs ps (.load ty x) v ps :=
 fun t m hf hp=>⟨fun b' hb=>by
  simp only[bg,hf.ev hx] at hb;cases hb; exact(h m hp).1,fun K hK=>by
  rw[Go.Ab.E0 (hf.ev hx) (h m hp).2]; exact hK m hp⟩
def ay{ag:Bool}{sz b o k:Nat}{cs:RR QP}{tg:Tag}(ht:TyI E.P ty ag sz)(hx:ev E fs x=some (ptr b o))(hp:pk ps k=some (.obj b (.cells cs tg)))(hv:DY ag sz cs o=some v):Od E m0 fs ps (.load ty x) v ps :=
 .load hx fun m h=>⟨(h.get hp).2.1,wz ht (h.get hp).2.2 hv⟩
def Il{ag:Bool}{sz o w c:Nat}{all e:RR QP}(he:(all.drop o).take w=e)(hsz:ag=false->sz=1)(hc:c+sz<=w)(h:DY ag sz e c=some v):DY ag sz all (o+c)=some v:=by
 subst he;have key:((List.take w (List.drop o all)).drop c).take sz=(all.drop (o+c)).take sz:=by
  rw[List.drop_take,List.take_take,Qs,Ps (by omega)]
 cases ag with
 | true=>simp only[DY,key] at h ⊢; exact h
 | false =>
  simp only[DY,Qq,PZ] at h ⊢
  split at h
  exact h
  cases h
def oS{P:QS}{m:RN}{ag:Bool}{sz b o w j c:Nat}{es:QM}{e:RR QP}(ht:TyI P ty ag sz)(hl:oP m b o w es)(he:es[j]? = some e)(hv:DY ag sz e c=some v)(hsz:ag=false->sz=1)(hc:c+sz<=w):dO P ty (ptr b (o+j*w+c)) m=some v:=by
 obtain⟨_,all,tg,hg,_,h⟩:=hl;exact wz ht hg (Il (h j e he).1 hsz hc hv)
def CB{w:Nat}:∀{es:QM} {j:Nat} {e:RR QP},(∀e∈es,e.length=w)->es[j]? = some e->(es.flatten.drop (j*w)).take w=e:=by
 intro es
 induction es with
 | nil=>intro j e _ h; simp at h
 | cons x es ih =>
  intro j e hw h;have hx:=hw x (by simp)
  cases j with
  | zero =>
   simp only[OZ,Option.some.injEq] at h;subst h;rw[Px,Qi,List.drop_zero,List.take_left' hx]
  | succ j =>
   rw[Pn] at h;rw[Px,Qn,Nat.add_comm,<-Qs,List.drop_left' hx];exact ih (fun e he=>hw e (by simp[he])) h
def zv.KU{lo:Nat}{m:RN}{b w n:Nat}{es:QM}{tg:Tag}(h:zv lo m b w n es tg):oP m b 0 w es :=
 ⟨h.2.1,_,tg,h.2.2.1,fun sz e=>(by rcases h.2.2.2.2.2.1 with h1|h1<;>rw[h1] at e<;>cases e; rfl),fun i e he=>⟨by rw[Pr]; exact CB h.2.2.2.2.1 he,h.2.2.2.2.1 e (Pl he)⟩⟩
def iG{ag:Bool}{sz b w n j c k:Nat}{es:QM}{tg:Tag}{e:RR QP}(ht:TyI E.P ty ag sz)(hx:ev E fs x=some (ptr b (j*w+c)))(hp:pk ps k=some (.arr b w n es tg))(he:es[j]? = some e)(hv:DY ag sz e c=some v)(hs:Fh ag sz c w=true):Od E m0 fs ps (.load ty x) v ps:=by
 have hs:=vJ hs;refine .load hx fun m h=>⟨(h.get hp).2.1,?_⟩;have:=oS (P:=E.P) ht (zv.KU (h.get hp)) he hv hs.1 hs.2;rwa[Pr] at this
def bR{ag:Bool}{sz b o w n j c k:Nat}{es:QM}{e:RR QP}(ht:TyI E.P ty ag sz)(hx:ev E fs x=some (ptr b (o+j*w+c)))(hp:pk ps k=some (.ro b o w n es))(he:es[j]? = some e)(hv:DY ag sz e c=some v)(hs:Fh ag sz c w=true):Od E m0 fs ps (.load ty x) v ps:=by
 have hs:=vJ hs;exact .load hx fun m h=>⟨(h.get hp).2.1,oS (P:=E.P) ht (h.get hp).2 he hv hs.1 hs.2⟩
def bw{elem:QQ}{b o w n cap:Nat}{i:Int}{kd:IntKind}(ht:SlT E.P ty elem w)(hx:ev E fs x=some (.slice (some ⟨b,o,none⟩) n cap))(hy:ev E fs y=some (.int kd i))(hi:0<=i/\i.toNat<n):Od E m0 fs ps (.indexAddr ty x y) (ptr b (o+i.toNat*w+0)) ps:=by
 refine yH hx hy ?_;have hd:decide ((0:Int)<=i/\i<(n:Nat))=true:=by simp; omega
 simp only[bV,ht.und,ht.known,hd,PA,if_true,ht.size,Py]
def cF{elem:QQ}{b w n cap:Nat}{i:Int}{kd:IntKind}(ht:SlT E.P ty elem w)(hx:ev E fs x=some (.slice (some ⟨b,0,none⟩) n cap))(hy:ev E fs y=some (.int kd i))(hi:0<=i/\i.toNat<n):Od E m0 fs ps (.indexAddr ty x y) (ptr b (i.toNat*w+0)) ps:=by
 have:=bw (m0:=m0) (ps:=ps) ht hx hy hi;rwa[Pr] at this
def Hp.write{m:RN}(h:Hp m0 m ps){k b:Nat}{p p':Pc}{o':RP}(hp:pk ps k=some p)(ho:p.own=true)(hb:p.sV=some b)(hb':p'.sV=some b)(ho':p'.own=true)(hok:p'.ok m0.next (m.set b o')):Hp m0 (m.set b o') (dE ps k p') :=
 h.put hp ho (hb'.trans hb.symm) ho' (OF _) (h.ext.set (Pc.Fb (h.get hp) ho hb) _) hok fun x hx _=>by
  rw[RN.cu,OJ (fun e=>hx (by rw[e]; exact hb))]
def J0(cs:RR QP)(o:Nat)(v:QP)(sz:Nat):RI (RR QP) :=
 match Nat.beq v.cells.toList.length sz&&Nat.blt 0 sz&&bG v.cells.toList&&Nat.ble (o+sz) cs.length with
 | true=>some (aR cs o v.cells.toList)
 | false=>none
def iq:∀(cs:RR QP) (o:Nat) (vs:RR QP),o+vs.length<=cs.length->(aR cs o vs).length=cs.length
 | cs,0,[],_=>by cases cs<;>rfl
 | [],0,v::vs,h=>by simp at h
 | c::cs,0,v::vs,h=>by simp only[aR,Pg]; rw[iq cs 0 vs (by simpa using h)]
 | [],o+1,vs,h=>by simp at h
 | c::cs,o+1,vs,h=>by simp only[aR,Pg]; rw[iq cs o vs (by simp at h; omega)]
def xJ{P:QS}{m:RN}{ag:Bool}{sz b o:Nat}{cs cs':RR QP}{tg:Tag}(ht:TyI P ty ag sz)(hg:m.get b=some (.cells cs tg))(htg:tg≠.ro)(h:J0 cs o v sz=some cs'):fk P ty (ptr b o) v m=some (m.set b (.cells cs' tg)):=by
 simp only[J0] at h
 split at h
 ·rename_i e;cases h;simp only[OD] at e;obtain⟨⟨⟨h1,h2⟩,h3⟩,h4⟩:=e;have h1:=OE h1;have h2:0<sz:=by rwa[Qd] at h2
  have h4:=OL h4;have hs:(v.cells.size==aC P ty)=true:=by rw[ht.size,<-h1]; simp
  simp only[fk,ptr,ht.known,hs,h3,PA,if_true,RN.dB];cases hc:v.cells.toList with
  | nil=>rw[hc] at h1; simp at h1; omega
  | cons x xs =>
   rw[hc] at h1;simp only[hg];cases tg with
   | ro=>exact O6 rfl htg
   | own=>rw[OM (by rw[h1]; exact h4)]
   | more s=>rw[OM (by rw[h1]; exact h4)]
 cases h
def Od.store{bk o:Nat}{p':RR Pc}(hx:ev E fs x=some (ptr bk o))(hy:ev E fs y=some v)(h:∀m,Hp m0 m ps->∃m',fk E.P ty (ptr bk o) v m=some m'/\Hp m0 m' p'):Od E m0 fs ps (.store ty x y) undef p' :=
 fun t m hf hp=>⟨fun b hb=>by simp[bg] at hb,fun K hK=>by
  obtain⟨m',h1,h2⟩:=h m hp;rw[Go.Ab.HZ (hf.ev hx) (hf.ev hy) h1]; exact hK m' h2⟩
def B7:Tag->Bool
 | .ro=>false
 | _=>true
def bf{ag:Bool}{sz b o k:Nat}{cs cs':RR QP}{tg:Tag}(ht:TyI E.P ty ag sz)(hx:ev E fs x=some (ptr b o))(hy:ev E fs y=some v)(hp:pk ps k=some (.obj b (.cells cs tg)))(htg:B7 tg=true)(hv:J0 cs o v sz=some cs'):Od E m0 fs ps (.store ty x y) undef (dE ps k (.obj b (.cells cs' tg))) :=
 .store hx hy fun m h=>⟨_,xJ ht (h.get hp).2.2 (fun e=>by rw[e] at htg; cases htg) hv,h.write hp rfl rfl rfl rfl ⟨(h.get hp).1,(h.get hp).2.1,by rw[RN.cu,OM rfl]⟩⟩
def AO:∀(l r vs:RR QP) (c:Nat),c+vs.length<=l.length->aR (l++r) c vs=aR l c vs++r:=by
 intro l r
 induction l with
 | nil =>
  intro vs c h;have h0:c+vs.length<=0:=h;have h1:c=0:=by omega
  have h2:vs=[]:=P4.1 (by omega)
  subst h1 h2;cases r<;>rfl
 | cons a l ihl =>
  intro vs c h;cases c with
  | zero=>cases vs with
   | nil=>rfl
   | cons v vs=>simp only[QE,aR]; rw[ihl vs 0 (by simpa using h)]
  | succ c=>simp only[QE,aR]; rw[ihl vs c (by simp at h; omega)]
def yM:∀(l r vs:RR QP) (o:Nat),aR (l++r) (l.length+o) vs=l++aR r o vs:=by
 intro l r vs
 induction l with
 | nil=>intro o; simp
 | cons a l ihl=>intro o; rw[QE,Pg,show l.length+1+o=(l.length+o)+1 by omega,aR,ihl o]; rfl
def za{w c:Nat}{vs:RR QP}:∀{es:QM} {j:Nat} {e:RR QP},(∀e∈es,e.length=w)->es[j]? = some e->c+vs.length<=w->aR es.flatten (j*w+c) vs=(es.set j (aR e c vs)).flatten:=by
 intro es
 induction es with
 | nil=>intro j e _ h; simp at h
 | cons x es ih =>
  intro j e hw h hc;have hx:=hw x (by simp)
  cases j with
  | zero =>
   simp only[OZ,Option.some.injEq] at h;subst h;rw[Px,Qi,Pr,AO _ _ _ _ (by omega)]
   simp[Px]
  | succ j =>
   rw[Pn] at h;rw[Px,Qn,show j*w+w+c=x.length+(j*w+c) by omega,yM,ih (fun e he=>hw e (by simp[he])) h hc]
   simp[Px]
def sT{ag:Bool}{sz b w n j c k:Nat}{es:QM}{e e':RR QP}{tg:Tag}(ht:TyI E.P ty ag sz)(hx:ev E fs x=some (ptr b (j*w+c)))(hy:ev E fs y=some v)(hp:pk ps k=some (.arr b w n es tg))(he:es[j]? = some e)(hv:J0 e c v sz=some e'):Od E m0 fs ps (.store ty x y) undef (dE ps k (.arr b w n (es.set j e') tg)):=by
 refine .store hx hy fun m h=>?_;obtain⟨g1,g2,g3,g4,g5,g6,g7⟩:=h.get hp;have hew:=g5 e (Pl he);simp only[J0] at hv
 split at hv
 ·rename_i e1;cases hv;simp only[OD] at e1;obtain⟨⟨⟨h1,h2⟩,h3⟩,h4⟩:=e1;have h1:=OE h1;have h2':0<sz:=by rwa[Qd] at h2
  have h4:=OL h4;have hj:j<es.length:=(OX.1 he).1;have hfl:∀(l:QM),(∀e∈l,e.length=w)->l.flatten.length=l.length*w:=by
   intro l
   induction l with
   | nil=>intro _; simp
   | cons x l ih=>intro hl; rw[Px,OU,ih (fun e he=>hl e (by simp[he])),hl x (by simp),Pg,Qn]; omega
  have hmul:(j+1)*w<=es.length*w:=Ph w hj;rw[Qn] at hmul;have hst:J0 es.flatten (j*w+c) v sz=some (aR es.flatten (j*w+c) v.cells.toList):=by
   have:(Nat.beq v.cells.toList.length sz&&Nat.blt 0 sz&&bG v.cells.toList&&Nat.ble (j*w+c+sz) es.flatten.length)=true:=by
    simp only[OD];exact⟨⟨⟨by rw[h1]; exact Nat.beq_refl _,h2⟩,h3⟩,O9 (by rw[hfl es g5]; omega)⟩
   simp only[J0,this]
  refine⟨_,xJ ht g3 (by rcases g6 with rfl|rfl<;>simp) hst,h.write hp rfl rfl rfl rfl ?_⟩
  refine⟨g1,g2,?_,by simpa using g4,fun e'' he''=>?_,g6,g7⟩
  rw[RN.cu,OM rfl,za g5 he (by omega)]
  rcases List.mem_or_eq_of_mem_set he'' with h5|h5
  exact g5 _ h5
  rw[h5,iq _ _ _ (by omega)]; exact hew
 cases hv
def Ox.made{o:Op}{ob:Nat->RP}{p:Nat->Pc}{V:Nat->QP}(hr:∀t,bg E t o=none)(h:∀t m,Fr t fs->∀K,bN E t m o K=K (V m.next) (m.alloc (ob m.next)))
  (hb:∀b,(p b).sV=some b) (hp:∀lo m b,lo<=b->b<m.next->m.get b=some (ob b)->(p b).ok lo m) (hpg:∀b x,¬(p b).DT x:=by exact fun _ _ h=>h):Ox E m0 fs ps o V (fun b=>p b::ps) :=
 fun t m hf hm=>⟨fun b hb=>(by rw[hr] at hb; cases hb),fun K hK=>by
  rw[h t m hf];refine hK m.next _ (hm.cons (Nat.le_succ _) (hm.ext.alloc _) (fun b hlt=>by rw[RN.bD,QW]) (hp _ _ _ hm.ext.next (PD _) (by rw[RN.bD,OM rfl])) (fun b' h'=>?_) (hpg _))
  rw[hb] at h'; cases h'; exact OF _⟩
def bE{z:QP}(hz:cg E.P ty=some z)(hp:bO z=true):Ox E m0 fs ps (.alloc ty) (fun b=>ptr b 0) (fun b=>.obj b (.cells z.cells.toList .own)::ps) :=
 .made (ob:=fun _=>.cells z.cells.toList .own) (p:=fun b=>.obj b (.cells z.cells.toList .own)) (fun _=>rfl) (fun _ _ _ K=>Go.Ab.HG hz hp K) (fun _=>rfl) fun _ _ _ h1 h2 h3=>⟨h1,h2,h3⟩
def bQ(h:ev E fs x=some v):Ox E m0 fs ps (.box ty x) (fun b=>ptr b 0) (fun b=>.obj b (.cells v.cells.toList .own)::ps) :=
 .made (ob:=fun _=>.cells v.cells.toList .own) (p:=fun b=>.obj b (.cells v.cells.toList .own)) (fun _=>rfl) (fun _ _ hf K=>Go.Ab.Nl (hf.ev h) K) (fun _=>rfl) fun _ _ _ h1 h2 h3=>⟨h1,h2,h3⟩
def NL(P:QS)(elem:QQ)(w len:Nat)(vs:RR (Nat×QP)):RI (RR QP) :=
 match fH P elem len with
 | some zs=>match zs.all aX&&Nat.ble (len*w) 16777216 with
  | true=>gT (fun i=>some (i*w,w)) zs vs
  | false=>none
 | none=>none
def Na(w:Nat)(es:QM):Bool:=es.all fun e=>Nat.beq e.length w
def Hi{w:Nat}{es:QM}(h:Na w es=true):∀e∈es,e.length=w:=fun e he=>OE (OV.1 h e he)
def jl{elem:QQ}{w len:Nat}{parts:RU (Nat×QR)}{vs:RR (Nat×QP)}{es:QM}(ht:SlT E.P ty elem w)(h:G1 E fs parts.toList=some vs)(hf:NL E.P elem w len vs=some es.flatten)(hl:Nat.beq es.length len=true)(hw:Na w es=true) :
  Ox E m0 fs ps (.buildSlice ty len parts) (fun b=>.slice (some ⟨b,0,none⟩) len len) (fun b=>.arr b w len es .own::ps):=by
 refine .made (ob:=fun _=>.cells es.flatten .own) (p:=fun b=>.arr b w len es .own) (fun _=>rfl) (fun t m hfr K=>?_) (fun _=>rfl) fun _ _ _ h1 h2 h3=>⟨h1,h2,h3,OE hl,Hi hw,.inl rfl,ht.pos⟩;simp only[NL] at hf
 split at hf
 rename_i zs hz
 split at hf
 rename_i hc;simp only[OD] at hc;have:cY E t m (.buildSlice ty len parts)=some (.slice (some ⟨m.next,0,none⟩) len len,m.alloc (.cells es.flatten .own)):=by
  have h2:¬(len*w>2 ^ 24):=by have:=OL hc.2; omega
  simp only[cY,ht.und,hfr.G1 h,ht.known,ht.size,hz,hc.1,hf,OS,Bool.false_or,Pm h2,if_true,OI]
  rfl
 exact Go.Ab.D7 rfl this K
 cases hf
 cases hf
def lim(n:Nat):Bool:=Nat.ble n 1073741824
def pU{z:RR QP}:∀n,cC z n=(List.replicate n z).flatten
 | 0=>rfl
 | n+1=>by rw[cC,pU n,PT,Px]
def M9{elem:QQ}{w n:Nat}{i:Int}{z:QP}(ht:SlT E.P ty elem w)(hx:ev E fs x=some (.int .i64 i))(hi:i=(n:Int))(hl:lim n=true)(hz:cg E.P elem=some z)(hp:z.cells.toList.all aX=true) :
  Ox E m0 fs ps (.makeSlice ty x x) (fun b=>.slice (some ⟨b,0,none⟩) n n) (fun b=>.arr b w n (List.replicate n z.cells.toList) .own::ps):=by
 subst hi;have hzs:z.cells.size=w:=by have:=ht.zero; rw[hz] at this; simp only[Option.any_some,OD,beq_iff_eq] at this; exact this.1
 refine .made (ob:=fun _=>.cells (List.replicate n z.cells.toList).flatten .own) (p:=fun b=>.arr b w n (List.replicate n z.cells.toList) .own) (fun _=>rfl) (fun t m hfr K=>?_) (fun _=>rfl) fun _ _ _ h1 h2 h3=>⟨h1,h2,h3,by simp,fun e he=>by rw[List.eq_of_mem_replicate he]; simpa using hzs,.inl rfl,ht.pos⟩
 have hln:n<=1073741824:=OL hl;obtain⟨inf,hi1,hi2,hi3⟩:=ht.bytes;have hzz:fH E.P elem n=some (List.replicate n z.cells.toList).flatten:=by
  simp only[fH,hz,ht.size];rw[OM hzs,pU]
 have ha:(List.replicate n z.cells.toList).flatten.all aX=true:=by
  rw[OV];intro v hv;obtain⟨l,h1,h2⟩:=List.mem_flatten.1 hv;rw[List.eq_of_mem_replicate h1] at h2;exact OV.1 hp v h2
 have hmul:inf.bytes*n<=1024*1073741824:=Pe hi3 hln;have:cY E t m (.makeSlice ty x x)=some (.slice (some ⟨m.next,0,none⟩) n n,m.alloc (.cells (List.replicate n z.cells.toList).flatten .own)):=by
  have hc:(0:Int)<=(n:Int)/\(n:Int)<=(n:Int)/\(E.P.info? elem).any (fun i=>i.bytes*(n:Int)<=2 ^ 40&&i.bytes != 0)=true/\known E.P elem=true:=by
   refine⟨by omega,by omega,?_,ht.known⟩
   rw[hi1];have h5:((inf.bytes*n:Nat):Int)<=(1024*1073741824:Nat):=Int.ofNat_le.2 hmul;have h6:((inf.bytes*n:Nat):Int)=(inf.bytes:Int)*(n:Int):=Qk _ _;simp only[Option.any_some,OD,O5,bne_iff_ne,ne_eq];exact⟨by rw[<-h6]; omega,hi2⟩
  simp only[cY,ht.und,hfr.ev hx,OC,hzz];rw[OM hc,OM ha]
 exact Go.Ab.D7 rfl this K
end
end Go.Ab.W
section
open Go Go.Ab Go.Ab.W
abbrev RA:=@Hp.bM
end
end
section
namespace Go.Ab.W
open Go Go.Ab
attribute [local irreducible] Tm.at Trie.set Trie.get RN.get RN.set RN.alloc RN.ww RN.kill
section
variable{E:Env}{n:Nat}{m0 m m':RN}{fs:Fs}{ps:RR Pc}{x y:QR}{v:QP}{ty:QQ}
def zv.rd{lo b w n:Nat}{es:QM}{tg:Tag}(h:zv lo m b w n es tg):Rd m (some ⟨b,0,none⟩) n w n es :=
 ⟨h.2.2.2.1,OF _,.inr (.inr ⟨b,0,rfl,h.KU⟩)⟩
inductive IsRd:Pc->QN->Nat->Nat->Nat->QM->Prop
 | arr (b w n:Nat) (es:QM) (tg:Tag):IsRd (.arr b w n es tg) (some ⟨b,0,none⟩) n w n es
 | sl (a:QN) (w n:Nat) (es:QM):IsRd (.sl a w n es) a n w n es
 | rd (a:QN) (cap w n:Nat) (es:QM):IsRd (.rd a cap w n es) a cap w n es
 | nil {p:Pc} (w:Nat):IsRd p none 0 w 0 []
def Pc.Mk{p:Pc}{a:QN}{lo cap w n:Nat}{es:QM}(h:p.ok lo m)(hi:IsRd p a cap w n es):Rd m a cap w n es:=by
 cases hi with
 | arr b w n es tg=>exact zv.rd h
 | sl a w n es =>
  rcases h with⟨rfl,rfl,rfl,_⟩|⟨b,tg,rfl,h⟩
  exact⟨rfl,OF _,.inl ⟨rfl,rfl⟩⟩
  exact h.rd
 | rd a cap w n es=>exact h
 | nil w=>exact⟨rfl,OF _,.inl ⟨rfl,rfl⟩⟩
def Hp.rd(h:Hp m0 m ps){k:Nat}{p:Pc}{a:QN}{cap w n:Nat}{es:QM}(hp:pk ps k=some p)(hi:IsRd p a cap w n es):Rd m a cap w n es:=Pc.Mk (h.get hp) hi
def Rd.nil(m:RN)(w:Nat):Rd m none 0 w 0 []:=⟨rfl,OF _,.inl ⟨rfl,rfl⟩⟩
def Rd.cells{a:QN}{cap w n:Nat}{es:QM}(h:Rd m a cap w n es):cD w (.slice a n cap) n m=some es.flatten:=by
 obtain⟨h1,h2,h4⟩:=h
 by_cases hn:n=0
 ·subst hn;have:es=[]:=P4.1 h1;subst this;cases a with
  | none=>rfl
  | some a=>obtain⟨b,o,sp⟩:=a; cases sp<;>rfl
 ·rcases h4 with h4|⟨b,sp,rfl,h4,_⟩|⟨b,o,rfl,_,all,tg,hg,_,hl⟩
  exact O6 h4.2 hn
  exact O6 h4 hn
  ·simp only[cD,OJ hn,RN.dP,hg];have key:∀(es:QM) (k:Nat),(∀i e,es[i]? = some e->(all.drop (o+(k+i)*w)).take w=e/\e.length=w)->(all.drop (o+k*w)).take (es.length*w)=es.flatten/\es.flatten.length=es.length*w:=by
    intro es
    induction es with
    | nil=>intro k _; simp
    | cons e es ih =>
     intro k hk;obtain⟨a1,a2⟩:=hk 0 e rfl;obtain⟨b1,b2⟩:=ih (k+1) fun i e' he'=>by
      have:=hk (i+1) e' (by simpa using he')
      rwa[show k+(i+1)=k+1+i by omega] at this
     rw[Py] at a1;refine⟨?_,by rw[Px,OU,a2,b2,Pg,Qn]; omega⟩
     rw[Pg,Qn,Nat.add_comm,List.take_add,a1,Qs,Px,<-b1,Qn,QB]
   have:=key es 0 (fun i e he=>by rw[Pr]; exact hl i e he)
   rw[Qi,Py,h1] at this;rw[this.1,OM this.2]
def Hp.renew(h:Hp m0 m ps){k:Nat}{p p':Pc}(hp:pk ps k=some p)(hn:m.next<=m'.next)(hext:Ext m0 m')(hok:p'.ok m0.next m')(hb:∀b,p'.sV=some b->m.next<=b)(hpo:p.own=true)(hg:∀b,p.sV≠some b->b<m.next->m'.get b=m.get b)(hng:∀b,¬p'.DT b:=by exact fun _ h=>h):Hp m0 m' (dE ps k p') :=
 h.Oe hp (fun b a=>.inr ((Pc.nb a).elim (hb b) fun h=>O6 h (hng b))) (fun b a=>.inr (a.elim (hb b) fun h=>O6 h (hng b))) hn hext hok fun b hb' hlt=>hg b (fun e=>hb' (.inl ⟨hpo,e⟩)) hlt
def gP(es:QM):Prop:=∀e∈es,e.all mA=true
def A0{α:Type}{f:α->RR QP}(h:∀x,(f x).all mA=true)(xs:RR α):gP (xs.map f):=fun e he=>by
 obtain⟨x,_,rfl⟩:=Qw.1 he; exact h x
def yo{es:QM}(h:gP es):bG es.flatten=true:=by
 unfold bG;rw[OV];intro v hv;obtain⟨l,h1,h2⟩:=List.mem_flatten.1 hv;exact OV.1 (h l h1) v h2
def xq{w:Nat}:∀{l:QM},(∀e∈l,e.length=w)->l.flatten.length=l.length*w:=by
 intro l
 induction l with
 | nil=>intro _; simp
 | cons x l ih=>intro hl; rw[Px,OU,ih (fun e he=>hl e (by simp[he])),hl x (by simp),Pg,Qn]; omega
def oI {P:QS} {elem ty2:QQ} {w k n2 c0:Nat} {a a1:QN} {es e0:QM} (ht:SlT P ty elem w) (h5:∃e2,P.underlying ty2=some (.slice e2)) (h:Hp m0 m ps) (hp:pk ps k=some (.sl a w n es)) (hr:Rd m a1 c0 w n2 e0) (h4:∀e ∈ e0,e.length=w) (ho:gP e0) (hl:lim (n+n2)=true) :
  ∃a' m',dN P ty (some ty2) (.slice a n n) (.slice a1 n2 c0) m=some (.slice a' (n+n2) (n+n2),m')/\Hp m0 m' (dE ps k (.sl a' w (n+n2) (es++e0))):=by
 obtain⟨e2,h6⟩:=h5;obtain⟨inf,h7,h8,h9⟩:=ht.bytes;have hln:n+n2<=1073741824:=OL hl;have hc:=hr.cells;have hlen2:e0.flatten.length=n2*w:=by rw[xq h4,hr.1]
 have hnew:ir P elem (some ty2) (.slice a1 n2 c0) m=some (n2,e0.flatten):=by
  simp only[ir,Pf,h6,ht.size];have:cD w (.slice a1 n2 c0) n2 m=some e0.flatten:=hc;rw[this]; rfl
 have hfit:(P.info? elem).any (fun i=>gr i.bytes (n+n2)&&i.bytes != 0)=true:=by
  rw[h7];have hmul:(2*(n+n2)+2000)*inf.bytes<=(2*1073741824+2000)*1024:=Pe (by omega) h9
  simp only[Option.any_some,gr,OD,O5,bne_iff_ne,ne_eq];exact⟨by omega,h8⟩
 have hzero:(cg P elem).any (fun z=>z.cells.size==w&&z.cells.toList.all aX)=true:=ht.zero;have hpos:=ht.pos;have h10:(w==0)=false:=by simp; omega
 have hguard:(!(known P elem)||aC P elem==0 || !bG e0.flatten || !(P.info? elem).any (fun i=>gr i.bytes (n+n2)&&i.bytes != 0)||e0.flatten.length != n2*aC P elem || !(cg P elem).any (fun z=>z.cells.size==aC P elem&&z.cells.toList.all aX))=false:=by
  rw[ht.size,ht.known,hfit,hzero,yo ho,h10,hlen2]; simp
 have hres:∀a',(∃m',(.slice a' (n+n2) (n+n2),m')=((.slice a' (n+n2) (n+n2),m'):QP×RN)):=fun a'=>⟨m,rfl⟩;have hpc:=h.get hp;have hext:=h.ext;rcases hpc with⟨rfl,rfl,rfl,_⟩|⟨b,tg,rfl,hb⟩
 ·
  by_cases h0:n2=0
  ·subst h0;have hes:e0=[]:=P4.1 hr.1;subst hes;refine⟨none,m,?_,?_⟩
   unfold dN;simp only[ht.und,hnew];rw[OJ (by rw[hguard]; exact PR)]
   rfl
   ·have:dE ps k (.sl none w (0+0) ([]++[]))=ps:=by
     have:∀(l:RR Pc) (k:Nat) (p:Pc),pk l k=some p->dE l k p=l:=by
      intro l
      induction l with
      | nil=>intro k p h; simp[pk] at h
      | cons q l ih =>
       intro k p h;cases k with
       | zero=>rw[kz] at h; rw[jx,OK h]
       | succ k=>rw[fJ] at h; rw[ib,ih k p h]
     exact this ps k _ hp
    rw[this]; exact h
  refine⟨some ⟨m.next,0,none⟩,m.alloc (.cells e0.flatten (.more w)),?_,?_⟩
  unfold dN;simp only[ht.und,hnew];rw[OJ (by rw[hguard]; exact PR)]
  simp only[ht.size];rw[OJ (by simp),OJ h0,Pr]
  refine h.renew hp (by simp only[RN.next_alloc]; omega) (hext.alloc _) (.inr ⟨m.next,.more w,rfl,hext.next,(by rw[RN.next_alloc]; omega),?_,?_,?_,.inr rfl,hpos⟩) (fun b' hb'=>?_) rfl fun b' _ hlt=>?_
  rw[RN.bD,OM rfl,PM]
  rw[PM,hr.1,Pr]
  rw[PM]; exact h4
  cases hb'; exact OF _
  rw[RN.bD,QW]
 ·obtain⟨g4,g5,g0,g1,g2,g3,g6⟩:=hb;have hlen:es.flatten.length=n*w:=by rw[xq g2,g1]
  by_cases h0:n2=0
  ·subst h0;have hes:e0=[]:=P4.1 hr.1;subst hes;refine⟨some ⟨b,0,none⟩,m,?_,?_⟩
   unfold dN;simp only[ht.und,hnew];rw[OJ (by rw[hguard]; exact PR)]
   simp only[g0];rw[OM (Nat.le_of_eq (Py n))];simp[RN.dB]
   ·rw[P2,Py];have:dE ps k (.sl (some ⟨b,0,none⟩) w n es)=ps:=by
     have:∀(l:RR Pc) (k:Nat) (p:Pc),pk l k=some p->dE l k p=l:=by
      intro l
      induction l with
      | nil=>intro k p h; simp[pk] at h
      | cons q l ih =>
       intro k p h;cases k with
       | zero=>rw[kz] at h; rw[jx,OK h]
       | succ k=>rw[fJ] at h; rw[ib,ih k p h]
     exact this ps k _ hp
    rw[this]; exact h
  have hcap:¬(n+n2<=n):=by omega
  have htake:es.flatten.take (n*w)=es.flatten:=List.take_of_length_le (by omega)
  have hok:∀(mm:RN),m.next<=mm.next->Pc.ok m0.next (mm.alloc (.cells (es.flatten++e0.flatten) (.more w))) (.sl (some ⟨mm.next,0,none⟩) w (n+n2) (es++e0)):=fun mm hmm =>
   .inr ⟨mm.next,.more w,rfl,O3 hext.next hmm,(by rw[RN.next_alloc]; omega),by rw[RN.bD,OM rfl,List.flatten_append],by rw[OU,g1,hr.1],fun e he=>by
    rcases P1.1 he with he|he
    exact g2 e he
    exact h4 e he,.inr rfl,hpos⟩
  rcases g3 with rfl|rfl
  refine⟨some ⟨m.next,0,none⟩,m.alloc (.cells (es.flatten++e0.flatten) (.more w)),?_,?_⟩
  unfold dN;simp only[ht.und,hnew];rw[OJ (by rw[hguard]; exact PR)]
  simp only[ht.size,g0];rw[OJ hcap];have hld:m.dP b 0 (n*w)=some es.flatten:=by
   simp only[RN.dP,g0,List.drop_zero,htake];rw[OM hlen]
  simp only[hld]
  refine h.renew hp (by simp only[RN.next_alloc]; omega) (hext.alloc _) (hok m (OF _)) (fun b' hb'=>?_) rfl fun b' _ hlt=>?_
  cases hb'; exact OF _
  rw[RN.bD,QW]
  refine⟨some ⟨(m.kill b).next,0,none⟩,(m.kill b).alloc (.cells (es.flatten++e0.flatten) (.more w)),?_,?_⟩
  unfold dN;simp only[ht.und,hnew];rw[OJ (by rw[hguard]; exact PR)]
  simp only[ht.size,g0];rw[OJ hcap];simp only[and_self,if_true,htake,hlen,RN.next_kill]
  have hk:Ext m0 (m.kill b):=⟨by rw[RN.next_kill]; exact hext.next,fun x hx=>by rw[RN.fE,QW]; exact hext.same x hx,by
   rw[RN.wl_kill];have:=hext.wl; omega⟩
  refine h.renew hp (by simp only[RN.next_alloc,RN.next_kill]; omega) (hk.alloc _) (hok (m.kill b) (by rw[RN.next_kill]; exact OF _)) (fun b' hb'=>?_) rfl fun b' hb' hlt=>?_
  cases hb'; rw[RN.next_kill]; exact OF _
  rw[RN.bD,OJ (by simp; omega),RN.fE,OJ (fun e=>hb' (by rw[e]; rfl))]
def N6{elem ty2:QQ}{w k k2 n2 c0:Nat}{a a1:QN}{es e0:QM}{ars:RU QR}{p0:Pc}(ht:SlT E.P ty elem w)(h0:∃e2,E.P.underlying ty2=some (.slice e2))(ha:mw E fs ars.toList=some [.slice a n n,.slice a1 n2 c0])(hp:pk ps k=some (.sl a w n es))(h4:pk ps k2=some p0)(hr:IsRd p0 a1 c0 w n2 e0)(h5:∀e∈e0,e.length=w)(ho:gP e0)(hl:lim (n+n2)=true) :
  Ox E m0 fs ps (.call ⟨.builtin .append,ars,#[ty,ty2]⟩) (fun a':QN=>.slice a' (n+n2) (n+n2)) (fun a'=>dE ps k (.sl a' w (n+n2) (es++e0))) :=
 fun t m hf h=>⟨fun b hb=>(by simp[bg] at hb),fun K hK=>by
  obtain⟨a',m',h1,h2⟩:=oI (n:=n) ht h0 h hp (h.rd h4 hr) h5 ho hl;have:bP E.P .append #[ty,ty2] [.slice a n n,.slice a1 n2 c0] m=some (.slice a' (n+n2) (n+n2),m'):=h1;rw[Go.Ab.ie (hf.mw ha) this];exact hK a' m' h2⟩
def bj{k cap:Nat}{a:QN}{ars:RU QR}{p:Pc}{elem:QQ}(hu:E.P.underlying ty=some (.slice elem))(ha:mw E fs ars.toList=some [.slice a n cap])(hp:pk ps k=some p)(hb:dG a=p.sV\/a=none) :
  Od E m0 fs ps (.call ⟨.builtin .len,ars,#[ty]⟩) (.int .i64 (n:Int)) ps :=
 fun t m hf h=>⟨fun b hb'=>by
  simp only[bg,hf.mw ha] at hb';have hab:fO (.slice a n cap)=dG a:=by cases a<;>rfl
  rw[hab] at hb';exact hb.elim (fun hb=>Pc.LK (h.get hp) (hb▸hb')) (fun hb=>by rw[hb] at hb'; exact nomatch hb'),fun K hK=>by
  have:bP E.P .len #[ty] [.slice a n cap] m=some (.int .i64 (n:Int),m):=by
   have ht:(#[ty]:RU QQ)[0]? = some ty:=rfl;simp only[bP,ht,Pf,hu]
  rw[Go.Ab.ie (hf.mw ha) this]; exact hK m h⟩
def oZ{n cap lo hi:Nat}(h1:lo<=hi)(h2:hi<=cap){l h:RI QP}(hl:l=none/\lo=0\/∃k,l=some (.int k (lo:Int)))(hh:h=none/\hi=n\/∃k,h=some (.int k (hi:Int))):eM n cap l h none=some (lo,hi,cap):=by
 have hb:∀(k:IntKind) (x y:Nat),x<=y->jS (.int k (x:Int)) y=some x:=fun k x y hxy=>by
  simp only[jS]; rw[OM ⟨by omega,by omega⟩,OC]
 rcases hl with⟨rfl,rfl⟩|⟨k1,rfl⟩<;>rcases hh with⟨rfl,rfl⟩|⟨k2,rfl⟩<;>(unfold eM; simp only[hb _ _ _ h1,hb _ _ _ h2])
def oP.drop{b o w:Nat}{es:QM}(h:oP m b o w es)(lo k:Nat):oP m b (o+lo*w) w ((es.drop lo).take k):=by
 obtain⟨h1,all,tg,h2,hs,h3⟩:=h;refine⟨h1,all,tg,h2,hs,fun i e he=>?_⟩;rw[Qq] at he
 split at he
 rw[PZ] at he;have:=h3 (lo+i) e he;rwa[Po,<-QB] at this
 cases he
def Ev{P:QS}{elem:QQ}{cap w lo hi:Nat}{a:QN}{es:QM}{l h:RI QP}(ht:SlT P ty elem w)(hr:Rd m a cap w n es)(h1:lo<=hi)(h2:hi<=n)(hl:l=none/\lo=0\/∃k,l=some (.int k (lo:Int)))(hh:h=none/\hi=n\/∃k,h=some (.int k (hi:Int))) :
  ∃a' cap',cU P ty (.slice a n cap) l h none m=some (.slice a' (hi-lo) cap')/\Rd m a' cap' w (hi-lo) ((es.drop lo).take (hi-lo))/\(dG a'=dG a):=by
 obtain⟨r1,r2,r4⟩:=hr;have hlen:((es.drop lo).take (hi-lo)).length=hi-lo:=by rw[PV,QC,r1]; omega
 have hb:=oZ (n:=n) (cap:=cap) h1 (O3 h2 r2) hl hh;rcases r4 with⟨rfl,rfl⟩|⟨b,sp,rfl,rfl,rfl,hlt⟩|⟨b,o,rfl,hli⟩
 refine⟨none,cap-lo,?_,⟨hlen,by omega,.inl ⟨rfl,by omega⟩⟩,rfl⟩
 simp only[cU,ht.und,ht.known,if_true,hb]
 have e1:lo=0:=by omega
 have e2:hi=0:=by omega
 subst e1 e2;refine⟨some ⟨b,0,some sp⟩,0,?_,⟨hlen,OF _,.inr (.inl ⟨b,sp,rfl,rfl,rfl,hlt⟩)⟩,rfl⟩;simp only[cU,ht.und,ht.known,if_true,hb,Qv]
 ·have hli':=hli.drop lo (hi-lo);obtain⟨hlt,all,tg,hg,hs,hall⟩:=hli;have plain:(∀sz,tg≠.more sz)->∃a' cap',cU P ty (.slice (some ⟨b,o,none⟩) n cap) l h none m=some (.slice a' (hi-lo) cap')/\Rd m a' cap' w (hi-lo) ((es.drop lo).take (hi-lo))/\(dG a'=dG (some ⟨b,o,none⟩)):=by
   intro hne;have:cU P ty (.slice (some ⟨b,o,none⟩) n cap) l h none m=some (.slice (some (if cap=lo then⟨b,o,none⟩ else⟨b,o+lo*w,none⟩)) (hi-lo) (cap-lo)):=by
    cases tg with
    | more sz=>exact O6 rfl (hne sz)
    | ro=>simp only[cU,ht.und,ht.known,if_true,hg,hb,ht.size]
    | own=>simp only[cU,ht.und,ht.known,if_true,hg,hb,ht.size]
   by_cases hc:cap=lo
   rw[OM hc] at this;have e0:hi-lo=0:=by omega
   refine⟨_,_,this,⟨hlen,by omega,.inr (.inr ⟨b,o,rfl,hlt,all,tg,hg,hs,fun i e he=>?_⟩)⟩,rfl⟩
   rw[e0,List.take_zero] at he; simp at he
   rw[OJ hc] at this;exact⟨_,_,this,⟨hlen,by omega,.inr (.inr ⟨b,_,rfl,hli'⟩)⟩,rfl⟩
  cases tg with
  | ro=>exact plain fun sz e=>(by cases e)
  | own=>exact plain fun sz e=>(by cases e)
  | more sz =>
   have hsz:=hs sz rfl;subst hsz;have hb':=oZ (n:=n) (cap:=cap) h1 (O3 h2 r2) hl hh
   by_cases hc:cap=lo
   have e0:hi-lo=0:=by omega
   have e1:((es.drop lo).take (hi-lo))=[]:=by rw[e0]; rfl
   refine⟨some ⟨b,0,some 0⟩,0,?_,⟨hlen,by omega,.inr (.inl ⟨b,0,rfl,e0,rfl,hlt⟩)⟩,rfl⟩
   simp only[cU,ht.und,ht.known,if_true,hg,hb',ht.size,ne_eq,not_true_eq_false,if_false,e0,gL];rw[OM hc]
   refine⟨some ⟨b,o+lo*sz,none⟩,cap-lo,?_,⟨hlen,by omega,.inr (.inr ⟨b,_,rfl,hli'⟩)⟩,rfl⟩
   simp only[cU,ht.und,ht.known,if_true,hg,hb',ht.size,hc,ne_eq,not_true_eq_false,if_false]
def N2{elem:QQ}{k cap w lo hi:Nat}{a:QN}{es:QM}{x:QR}{lx hx:RI QR}{l h:RI QP}(ht:SlT E.P ty elem w)(hv:ev E fs x=some (.slice a n cap))(e1:GZ E fs lx=some l)(e2:GZ E fs hx=some h)(hp:pk ps k=some (.rd a cap w n es))(h1:lo<=hi)(h2:hi<=n)(hl:l=none/\lo=0\/∃k,l=some (.int k (lo:Int)))(hh:h=none/\hi=n\/∃k,h=some (.int k (hi:Int))) :
  Ox E m0 fs ps (.slice ty x lx hx none) (fun r:QN×Nat=>.slice r.1 (hi-lo) r.2) (fun r=>.rd r.1 r.2 w (hi-lo) ((es.drop lo).take (hi-lo))::ps) :=
 fun t m hf hm=>by
  obtain⟨a',cap',s1,s2,s3⟩:=Ev ht (hm.get hp) h1 h2 hl hh;refine⟨fun b hb=>?_,fun K hK=>?_⟩
  have hab:fO (.slice a n cap)=dG a:=by cases a<;>rfl
  simp only[bg,hf.ev hv,Pf,hab] at hb;exact Rd.lt (hm.get hp) hb
  rw[Go.Ab.Bq (hf.ev hv) (hf.GZ e1) (hf.GZ e2) rfl s1];exact hK (a',cap') m (hm.more hp rfl s2 rfl fun b hb=>by
   have:dG a'=some b:=hb;rw[s3] at this; exact this)
def vg(ps:RR Pc):Bool:=ps.all Pc.own
def lJ{α:Type}{V:α->QP}{N:α->RR Pc}{f:QR}{g:R2}{first cap:RU QP}{ars:RU QR}{ts:RU QQ}{args:RR QP}(hf:ev E fs f=some (.func (.func g) first cap))(ha:mw E fs ars.toList=some args)(hc:∀m,Hp m0 m ps->aG E g (first.toList++args++cap.toList) m (fun v m'=>∃x,v=V x/\Hp m0 m' (N x))):Ox E m0 fs ps (.call ⟨.value f,ars,ts⟩) V N :=
 fun t m hfr hm=>⟨fun b hb=>(by simp[bg] at hb),fun K hK=>by
  have hev:ax E t f=some (.func (.func g) first cap):=by
   cases f with
   | tmp i=>exact hfr.ev hf
   | const c=>exact hfr.ev hf
   | global g=>exact hfr.ev hf
   | func g=>exact hfr.ev hf
  show lK E (ax E t f) (bH E t ars.toList) m _
  rw[hev,hfr.mw ha]
  show aG E g (first.toList++args++cap.toList) m K
  exact(hc m hm).mono fun v m' ⟨x,e,h⟩=>by rw[e]; exact hK x m' h⟩
def bW{α:Type}{V:α->QP}{N:α->RR Pc}{f:QR}{g:R2}{ars:RU QR}{ts:RU QQ}{args:RR QP}(hf:ev E fs f=some (.func (.func g) #[] #[]))(ha:mw E fs ars.toList=some args)(hc:∀m,Hp m0 m ps->aG E g args m (fun v m'=>∃x,v=V x/\Hp m m' (N x)))(ho:∀x,vg (N x)=true):Ox E m0 fs ps (.call ⟨.value f,ars,ts⟩) V (fun x=>N x++ps) :=
 lJ hf ha fun m hm=>by
  simp only[PM,P2];exact(hc m hm).mono fun v m' ⟨x,e,h⟩=>⟨x,e,hm.after h fun p hp=>OV.1 (ho x) p hp⟩
end
def Ext.Nt{m0 m:RN}(h:Ext m0 m){w:Nat}(hw:min m0.wl m0.next<=w):Ext m0 (m.ww w):=⟨by rw[RN.next_ww]; exact h.next,fun b hb=>by rw[RN.get_ww]; exact h.same b hb,by rw[RN.wl_ww]; exact hw⟩
def Hp.ww{m0 m:RN}{ps:RR Pc}(h:Hp m0 m ps){w:Nat}(hw:min m0.wl m0.next<=w):Hp m0 (m.ww w) ps :=
 ⟨Ext.Nt h.ext hw,fun p hp=>Pc.jw (h.ok p hp) (by rw[RN.next_ww]; exact OF _) (fun b _ _=>by rw[RN.get_ww]),h.apart⟩
section
variable{E:Env}{n:Nat}{m0:RN}{fs:Fs}{ps ps':RR Pc}{ops:RU Oper}{os:RR Oper}{K:Tm->RN->Prop}{dr:Bool}
def Wo(dr:Bool)(E:Env)(n:Nat)(ops:RU Oper)(K:Tm->RN->Prop)(os:RR Oper)(m0:RN)(fs:Fs)(ps:RR Pc):Prop :=
 match dr with
 | false=>∀t m,Fr t fs->Hp m0 m ps->qP E n ops K os t m
 | true=>∀t m w,Fr t fs->Hp m0 m ps->min m0.wl m0.next<=w->jy E n ops K os t m w
variable{ty:QQ}{p:String}{af:RU Edge}{d:Nat}{o:Op}{g:RI (Nat×Bool)}{v:QP}
def xj(ops:RU Oper)(fs:Fs)(g:RI (Nat×Bool))(b:Bool):Prop:=∀t d o ty p af,Fr t fs->bt ops ⟨d,o,ty,p,af,g⟩ t=b
def gn:xj ops fs none true:=fun _ _ _ _ _ _ _=>rfl
def gg{j d:Nat}{b c r:Bool}(hd:(ops[j]?).bind (·.dst)=some d)(h:lk fs d=some (.bool c))(hr:(c==b)=r):xj ops fs (some (j,b)) r:=fun t d' o ty p af hf=>by
 rw[<-hr]; exact NO hd (hf d _ h)
def Wo.x{α:Type}{V:α->QP}{N:α->RR Pc}(h:Ox E m0 fs ps o V N)(hg:xj ops fs g true)(hd:Nat.blt d n=true)(k:∀x,Wo dr E n ops K os m0 ((d,V x)::fs) (N x)):Wo dr E n ops K (⟨some d,o,ty,p,af,g⟩::os) m0 fs ps:=by
 have hd':d<n:=by rwa[Qd] at hd
 cases dr with
 | false =>
  intro t m hf hm;simp only[qP,hg t _ _ _ _ _ hf,if_true];refine(h t m hf hm).2 _ fun x m' hm'=>?_;rw[cP,OM hd'];exact k x _ m' hf.set hm'
 | true =>
  intro t m w hf hm hw;simp only[jy,hg t _ _ _ _ _ hf,if_true];have hx:=hm.ext.next
  have hm':Hp m0 (m.ww m.next) ps:=hm.ww (by omega)
  refine⟨fun b hb=>?_,?_⟩
  have:=(h t _ hf hm').1 b hb;rwa[RN.next_ww] at this
  refine(h t _ hf hm').2 _ fun x m' hm''=>?_;rw[cP,OM hd'];have:=hm''.ext.wl;exact k x _ m' _ hf.set hm'' (by omega)
def Wo.x0{α:Type}{V:α->QP}{N:α->RR Pc}(h:Ox E m0 fs ps o V N)(hg:xj ops fs g true)(k:∀x,Wo dr E n ops K os m0 fs (N x)):Wo dr E n ops K (⟨none,o,ty,p,af,g⟩::os) m0 fs ps:=by
 cases dr with
 | false =>
  intro t m hf hm;simp only[qP,hg t _ _ _ _ _ hf,if_true];refine(h t m hf hm).2 _ fun x m' hm'=>?_;exact k x _ m' hf hm'
 | true =>
  intro t m w hf hm hw;simp only[jy,hg t _ _ _ _ _ hf,if_true];have hx:=hm.ext.next
  have hm':Hp m0 (m.ww m.next) ps:=hm.ww (by omega)
  refine⟨fun b hb=>?_,?_⟩
  have:=(h t _ hf hm').1 b hb;rwa[RN.next_ww] at this
  refine(h t _ hf hm').2 _ fun x m' hm''=>?_;have:=hm''.ext.wl;exact k x _ m' _ hf hm'' (by omega)
def Od.x(h:Od E m0 fs ps o v ps'):Ox E m0 fs ps o (fun _:RS=>v) (fun _=>ps'):=fun t m hf hm=>⟨(h t m hf hm).1,fun K hK=>(h t m hf hm).2 K fun m' hm'=>hK () m' hm'⟩
def Wo.od(h:Od E m0 fs ps o v ps')(hd:Nat.blt d n=true)(k:Wo dr E n ops K os m0 ((d,v)::fs) ps'):Wo dr E n ops K (⟨some d,o,ty,p,af,none⟩::os) m0 fs ps:=Wo.x h.x gn hd fun _=>k
def Wo.o0(h:Od E m0 fs ps o v ps')(k:Wo dr E n ops K os m0 fs ps'):Wo dr E n ops K (⟨none,o,ty,p,af,none⟩::os) m0 fs ps:=Wo.x0 h.x gn fun _=>k
def Wo.og(h:Od E m0 fs ps o v ps')(hg:xj ops fs g true)(hd:Nat.blt d n=true)(k:Wo dr E n ops K os m0 ((d,v)::fs) ps'):Wo dr E n ops K (⟨some d,o,ty,p,af,g⟩::os) m0 fs ps:=Wo.x h.x hg hd fun _=>k
def Wo.s(hg:xj ops fs g false)(hd:Nat.blt d n=true)(k:Wo dr E n ops K os m0 ((d,undef)::fs) ps):Wo dr E n ops K (⟨some d,o,ty,p,af,g⟩::os) m0 fs ps:=by
 have hd':d<n:=by rwa[Qd] at hd
 cases dr with
 | false =>
  intro t m hf hm;simp only[qP,hg t _ _ _ _ _ hf,OT,if_false];rw[cP,OM hd'];exact k _ m hf.set hm
 | true =>
  intro t m w hf hm hw;simp only[jy,hg t _ _ _ _ _ hf,OT,if_false];rw[cP,OM hd'];exact k _ m w hf.set hm hw
def ah(m0:RN)(ps:RR Pc)(qs:RR Pc):Prop:=∀m,Hp m0 m ps->Hp m0 m qs
def Wo.ei(h:ah m0 ps ps')(k:Wo dr E n ops K os m0 fs ps'):Wo dr E n ops K os m0 fs ps:=by
 cases dr with
 | false=>exact fun t m hf hm=>k t m hf (h m hm)
 | true=>exact fun t m w hf hm hw=>k t m w hf (h m hm) hw
def Wo.open{k w l:Nat}{a:QN}{es:QM}(hp:pk ps k=some (.sl a w l es))(hl:0<l)(h:∀b tg,a=some ⟨b,0,none⟩->B7 tg=true->Wo dr E n ops K os m0 fs (dE ps k (.arr b w l es tg))):Wo dr E n ops K os m0 fs ps:=by
 have key:∀m,Hp m0 m ps->∃b tg,a=some ⟨b,0,none⟩/\B7 tg=true/\Hp m0 m (dE ps k (.arr b w l es tg)):=by
  intro m hm;have h0:=hm.get hp;rcases h0 with⟨h1,_⟩|⟨b,tg,rfl,h1⟩
  omega
  refine⟨b,tg,rfl,by rcases h1.2.2.2.2.2.1 with rfl|rfl<;>rfl,hm.put hp rfl rfl rfl (OF _) hm.ext h1 fun _ _ _=>rfl⟩
 cases dr with
 | false=>intro t m hf hm; obtain⟨b,tg,h1,h2,h3⟩:=key m hm; exact h b tg h1 h2 t m hf h3
 | true=>intro t m w' hf hm hw; obtain⟨b,tg,h1,h2,h3⟩:=key m hm; exact h b tg h1 h2 t m w' hf h3 hw
def Wo.bJ{k w l cap:Nat}{a:QN}{es:QM}(hp:pk ps k=some (.rd a cap w l es))(hl:0<l)(h:∀b o,a=some ⟨b,o,none⟩->Wo dr E n ops K os m0 fs (.ro b o w l es::ps)):Wo dr E n ops K os m0 fs ps:=by
 have key:∀m,Hp m0 m ps->∃b o,a=some ⟨b,o,none⟩/\Hp m0 m (.ro b o w l es::ps):=by
  intro m hm;obtain⟨h1,h2,h3⟩:=hm.get hp;rcases h3 with⟨_,h3⟩|⟨_,_,_,h3,_⟩|⟨b,o,rfl,h3⟩
  omega
  omega
  exact⟨b,o,rfl,hm.more hp rfl ⟨h1,h3⟩ rfl fun b' hb=>hb⟩
 cases dr with
 | false=>intro t m hf hm; obtain⟨b,o,h1,h3⟩:=key m hm; exact h b o h1 t m hf h3
 | true=>intro t m w' hf hm hw; obtain⟨b,o,h1,h3⟩:=key m hm; exact h b o h1 t m w' hf h3 hw
def ah.trans{ps'':RR Pc}(h:ah m0 ps ps')(h':ah m0 ps' ps''):ah m0 ps ps'':=fun m hm=>h' m (h m hm)
def ah.ae(ks:RR Nat)(hnd:oM ks=true)(e:W.ae ps ks=some ps'):ah m0 ps ps':=fun _ h=>h.ae ks hnd e
def ah.close{k b w l:Nat}{es:QM}{tg:Tag}(hp:pk ps k=some (.arr b w l es tg)):ah m0 ps (dE ps k (.sl (some ⟨b,0,none⟩) w l es)):=fun _ h =>
 h.put hp rfl rfl rfl (OF _) h.ext (.inr ⟨b,tg,rfl,h.get hp⟩) fun _ _ _=>rfl
def ah.nil(w:Nat)(hw:Nat.blt 0 w=true):ah m0 ps (.sl none w 0 []::ps):=fun m h =>
 h.cons (OF _) h.ext (fun _ _=>rfl) (.inl ⟨rfl,rfl,rfl,by rwa[Qd] at hw⟩) fun b hb=>(by cases hb)
def tu{ps:RR Pc}{k:Nat}{p p':Pc}(hk:pk ps k=some p)(ho:p'.own=false)(hb:∀b,p'.sV=some b->p.sV=some b/\p.own=true)(h:ps.Pairwise Pc.apart)(hng:∀b,¬p'.DT b:=by exact fun _ h=>h):(dE ps k p').Pairwise Pc.apart :=
 iD hk (fun r _ ha=>⟨fun b a c=>a.elim (fun a=>by rw[ho] at a; cases a.1) fun a=>hng b (by cases p' with|gen g=>exact .inl a|_=>exact a),fun b a c=>ha.2 b a (c.elim (fun c=>.inl (hb b c).1) fun c=>O6 c (hng b))⟩) h
def ah.freeze{k w l:Nat}{a:QN}{es:QM}(hp:pk ps k=some (.sl a w l es)):ah m0 ps (dE ps k (.rd a l w l es)):=fun m h =>
 ⟨h.ext,fun q hq=>by
  rcases xT hp h.apart hq with rfl|⟨h1,_⟩
  exact Pc.Mk (h.get hp) (.sl a w l es)
  exact h.ok q h1,tu hp rfl (fun b hb=>⟨hb,rfl⟩) h.apart⟩
variable{fn:R2}{ro:RI Nat}{Q:RO->Tm->RN->Prop}
def Wk(E:Env)(n:Nat)(fn:R2)(ro:RI Nat)(c:Code)(Q:RO->Tm->RN->Prop)(m0:RN)(fs:Fs)(ps:RR Pc):Prop:=∀t m,Fr t fs->Hp m0 m ps->bK E n fn ro c Q t m
def At(Q:RO->Tm->RN->Prop)(e:RO)(m0:RN)(fs:Fs)(ps:RR Pc):Prop:=∀t m,Fr t fs->Hp m0 m ps->Q e t m
variable{a b c:Code}{id id':Nat}
def Wk.seq(h:Wk E n fn ro a (kR (bK E n fn ro b Q) Q) m0 fs ps):Wk E n fn ro (.seq a b) Q m0 fs ps:=fun t m hf hm=>.seq (h t m hf hm)
def Wk.skip(h:At Q .normal m0 fs ps):Wk E n fn ro .skip Q m0 fs ps:=fun t m hf hm=>.skip (h t m hf hm)
def Wk.exit(h:At Q (.exit id) m0 fs ps):Wk E n fn ro (.exit id) Q m0 fs ps:=fun t m hf hm=>.exit (h t m hf hm)
def Wk.ret(h:At Q .ret m0 fs ps):Wk E n fn ro .ret Q m0 fs ps:=fun t m hf hm=>.ret (h t m hf hm)
def Wk.cond{x:QR}{r:Bool}(hx:ev E fs x=some (.bool r))(ht:r=true->Wk E n fn ro a Q m0 fs ps)(hf:r=false->Wk E n fn ro b Q m0 fs ps):Wk E n fn ro (.cond x a b) Q m0 fs ps:=fun t m hfr hm=>.cond (hfr.ev hx) (fun h=>ht h t m hfr hm) (fun h=>hf h t m hfr hm)
def Wk.aA{x:QR}{r:Bool}(hx:ev E fs x=some (.bool r))(hr:r=true)(ht:Wk E n fn ro a Q m0 fs ps):Wk E n fn ro (.cond x a b) Q m0 fs ps:=.cond hx (fun _=>ht) (fun h=>by rw[hr] at h; cases h)
def Wk.az{x:QR}{r:Bool}(hx:ev E fs x=some (.bool r))(hr:r=false)(ht:Wk E n fn ro b Q m0 fs ps):Wk E n fn ro (.cond x a b) Q m0 fs ps:=.cond hx (fun h=>by rw[hr] at h; cases h) (fun _=>ht)
def Wk.block(h:Wk E n fn ro a (ep id Q) m0 fs ps):Wk E n fn ro (.block id a) Q m0 fs ps:=fun t m hf hm=>.block (h t m hf hm)
def Wk.scope(h:Wk E n fn ro a Q m0 fs ps):Wk E n fn ro (.scope a) Q m0 fs ps:=fun t m hf hm=>.scope (h t m hf hm)
def Wk.region(h:Wo false E n ops (Q .normal) ops.toList m0 fs ps):Wk E n fn ro (.region id ops false) Q m0 fs ps:=fun t m hf hm=>.Iu (h t m hf hm)
def zr{t:Tm}{m:RN}{o:Op}{K K':QP->RN->Prop}(h:bN E t m o K)(hk:∀v m',K v m'->K' v m'):bN E t m o K':=by
 unfold bN at h ⊢;cases hc:vS o with
 | some p =>
  obtain⟨f,ars⟩:=p;rw[hc] at h;simp only at h ⊢;cases hf:ax E t f with
  | none=>rw[hf] at h; exact h.elim
  | some v =>
   cases ha:bH E t ars with
   | none=>rw[hf,ha] at h; unfold lK at h; split at h<;>first |(rename_i h1 h2; cases h2)|exact h.elim
   | some vs =>
    rw[hf,ha] at h;unfold lK at h ⊢
    split at h
    rename_i h1 h2;cases h1; cases h2;exact h.mono hk
    rename_i h1 h2;cases h1; cases h2;obtain⟨v,m',h5,hv⟩:=h;exact⟨v,m',h5,hk v m' hv⟩
    exact h.elim
 | none =>
  rw[hc] at h;simp only at h ⊢;cases he:cY E t m o with
  | none=>rw[he] at h; exact h.elim
  | some r=>rw[he] at h; exact hk r.1 r.2 h
def Ak{K K':Tm->RN->Prop}(hK:∀t m,K t m->K' t m):∀(os:RR Oper) (t:Tm) (m:RN) (w:Nat),jy E n ops K os t m w->jy E n ops K' os t m w:=by
 intro os
 induction os with
 | nil=>intro t m w hk; exact hK _ _ hk
 | cons o os ih =>
  intro t m w hk;simp only[jy] at hk ⊢
  split at hk
  rename_i hw;rw[OM hw];refine⟨hk.1,zr hk.2 fun v m' hv=>?_⟩;obtain⟨t',e,h4⟩:=hv.A
  show E3 (gb n t o.dst v) fun t'=>jy E n ops K' os t' m' (min w m'.wl)
  rw[e]; exact ih _ _ _ h4
  rename_i hw;rw[OJ hw];obtain⟨t',e,h4⟩:=hk.A;rw[e]; exact ih _ _ _ h4
def Wk.draw(hp:iQ ops=some [])(h:Wo true E n ops (Q .normal) ops.toList m0 fs ps):Wk E n fn ro (.region id ops true) Q m0 fs ps:=fun t m hf hm=>.M5 hp fun K hK=>by
 exact Ak hK _ _ _ _ (h t m m.wl hf hm hm.ext.wl)
def Wo.nil(h:At Q .normal m0 fs ps):Wo dr E n ops (Q .normal) [] m0 fs ps:=by
 cases dr with
 | false=>exact fun t m hf hm=>h t m hf hm
 | true=>exact fun t m w hf hm hw=>h t _ hf (hm.ww hw)
def At.tn(h:Wk E n fn ro b Q m0 fs ps):At (kR (bK E n fn ro b Q) Q) .normal m0 fs ps:=h
def At.te{K:Tm->RN->Prop}(h:At Q (.exit id) m0 fs ps):At (kR K Q) (.exit id) m0 fs ps:=h
def At.tr{K:Tm->RN->Prop}(h:At Q .ret m0 fs ps):At (kR K Q) .ret m0 fs ps:=h
def At.bn(h:At Q .normal m0 fs ps):At (ep id Q) .normal m0 fs ps:=h
def At.be(h:At Q .normal m0 fs ps):At (ep id Q) (.exit id) m0 fs ps:=fun t m hf hm=>by rw[CD,OM rfl]; exact h t m hf hm
def At.bx(hne:Nat.beq id' id=false)(h:At Q (.exit id') m0 fs ps):At (ep id Q) (.exit id') m0 fs ps:=fun t m hf hm=>by rw[CD,OJ (Qb hne)]; exact h t m hf hm
def At.br(h:At Q .ret m0 fs ps):At (ep id Q) .ret m0 fs ps:=h
def Wk.cx{fs':Fs}(hs:sub fs fs')(h:ah m0 ps ps')(k:Wk E n fn ro c Q m0 fs' ps'):Wk E n fn ro c Q m0 fs ps:=fun t m hf hm=>k t m (hf.sub hs) (h m hm)
structure En where
 e:RO
 fs:Fs
 ps:RR Pc
def wL(m0:RN){γ:Type}(G:γ->En)(e:RO)(t:Tm)(m:RN):Prop:=∃g,e=(G g).e/\Fr t (G g).fs/\Hp m0 m (G g).ps
def At.en{γ:Type}{G:γ->En}{e:RO}(g:γ)(he:e=(G g).e)(hs:sub fs (G g).fs)(ht:ah m0 ps (G g).ps):At (wL m0 G) e m0 fs ps:=fun _ m hf hm=>⟨g,he,hf.sub hs,ht m hm⟩
def Wk.cut{γ:Type}{G:γ->En}(h:Wk E n fn ro c (wL m0 G) m0 fs ps)(k:∀g,At Q (G g).e m0 (G g).fs (G g).ps):Wk E n fn ro c Q m0 fs ps:=fun t m hf hm =>
 (h t m hf hm).mono fun e t' m' ⟨g,h1,h2,h3⟩=>by rw[h1]; exact k g t' m' h2 h3
def cy{σ ρ:Type}(body:σ->RI (σ⊕ρ)):Nat->σ->RI ρ
 | 0,_=>none
 | k+1,s=>match body s with
  | some (.inl s')=>cy body k s'
  | some (.inr r)=>some r
  | none=>none
def Wk.loop{σ ρ γ:Type}{δ:ρ->Type}(body:σ->RI (σ⊕ρ))(I:σ->γ->En)(X:(r:ρ)->δ r->En)
  (hb:∀s g r,body s=some r->Wk E n fn ro c (match r with|.inl s'=>wL m0 (I s')|.inr r=>wL m0 (X r)) m0 (I s g).fs (I s g).ps)
  (hn:∀s g,(I s g).e=.normal) (hx:∀r g,(X r g).e≠.normal) :
  ∀(N:Nat) (s:σ) (r:ρ),cy body N s=some r->∀g,Wk E n fn ro (.loop c) (wL m0 (X r)) m0 (I s g).fs (I s g).ps:=by
 intro N
 induction N with
 | zero=>intro s r h; cases h
 | succ N ih =>
  intro s r h g t m hf hm;refine .loop (.round ?_);simp only[cy] at h
  split at h
  ·rename_i s' hs;refine(hb s g _ hs t m hf hm).mono fun e t' m' ⟨g',h1,h2,h3⟩=>?_;rw[h1,hn];have:=ih s' r h g' t' m' h2 h3;obtain⟨e2,t2,m2,⟨k2,hk2⟩,q2⟩:=this;cases k2 with
   | zero=>cases hk2
   | succ k2=>exact⟨e2,t2,m2,⟨k2,hk2⟩,q2⟩
  ·rename_i r' hs;simp only[Option.some.injEq] at h;subst h;refine(hb s g _ hs t m hf hm).mono fun e t' m' ⟨g',h1,h2,h3⟩=>?_;have hq:wL m0 (X r') e t' m':=⟨g',h1,h2,h3⟩;cases he:e with
   | normal=>rw[h1] at he; exact O6 he (hx _ _)
   | exit id=>rw[he] at hq; exact hq
   | ret=>rw[he] at hq; exact hq
  cases h
def yk:RR QP->Nat->Fs->Fs
 | [],_,fs=>fs
 | v::vs,i,fs=>yk vs (i+1) ((i,v)::fs)
def Fr.args:∀(vs:RR QP) (i:Nat) (fs:Fs) (t:Tm),Fr t fs->Fr (Trie.ofList vs i t) (yk vs i fs)
 | [],_,_,_,h=>h
 | _::vs,i,_,_,h=>Fr.args vs (i+1) _ _ h.set
def aw{f:R2}{F:Func}{c:Code}{args:RR QP}{rs:RR ResultVar}{N:Nat}{R:QP->RN->Prop}(hp:E.dj f=none)(hf:E.P.funcs[f]? = some F)(hb:F.body=some c)(hrs:F.results.toList=rs)(hN:max args.length F.ntmps=N)
  {m:RN} (hm:Hp m0 m ps) (h:Wk E N f none c (nT E rs R) m0 (yk args 0 []) ps):aG E f args m R :=
 aG.Lx hp hf hb hrs hN (h _ m (Fr.args args 0 [] _ (Fr.nil _)) hm)
def Hp.start(m:RN):Hp m m []:=⟨.refl m,fun p h=>(by cases h),.nil⟩
inductive Res1(E:Env)(fs:Fs)(ps:RR Pc):RR ResultVar->RR QP->Prop
 | nil:Res1 E fs ps [] []
 | tmp {i:Nat} {v:QP} {rs:RR ResultVar} {vs:RR QP} (h:lk fs i=some v) (k:Res1 E fs ps rs vs):Res1 E fs ps (.tmp i::rs) (v::vs)
 | cell {i k b o sz:Nat} {ty:QQ} {v:QP} {rs:RR ResultVar} {vs:RR QP} {cs:RR QP} {tg:Tag} {ag:Bool} (ht:TyI E.P ty ag sz) (h:lk fs i=some (ptr b o)) (hp:pk ps k=some (.obj b (.cells cs tg))) (hv:DY ag sz cs o=some v) (k:Res1 E fs ps rs vs):Res1 E fs ps (.cell i ty::rs) (v::vs)
def Res1.ok{fs:Fs}{ps:RR Pc}{t:Tm}{m:RN}(hf:Fr t fs)(hm:Hp m0 m ps):∀{rs:RR ResultVar} {vs:RR QP},Res1 E fs ps rs vs->cj E t m rs=some vs:=by
 intro rs vs h
 induction h with
 | nil=>rfl
 | tmp h _ ih=>simp only[cj,ih,hf _ _ h,OI]
 | cell ht h hp hv _ ih=>simp only[cj,hf _ _ h,wz ht (hm.get hp).2.2 hv,ih]
def At.ret{rs:RR ResultVar}{vs:RR QP}{R:QP->RN->Prop}(h:Res1 E fs ps rs vs)(k:∀m,Hp m0 m ps->R (gp vs) m):At (nT E rs R) .ret m0 fs ps:=fun t m hf hm=>by
 rw[FZ,h.ok hf hm]; exact k m hm
end
end Go.Ab.W
section
open Go Go.Ab Go.Ab.W
abbrev Q5:=@Wo.x
abbrev QY:=@Wo.od
abbrev Ri:=@Wo.o0
abbrev Q6:=@Wo.og
abbrev Re:=@Wo.s
abbrev RF:=@Wo.ei
abbrev Ry:=@Wo.bJ
abbrev Q2:=@Wk.seq
abbrev Q8:=@Wk.skip
abbrev Rk:=@Wk.exit
abbrev Q9:=@Wk.ret
abbrev Rf:=@Wk.aA
abbrev Rg:=@Wk.az
abbrev Ra:=@Wk.block
abbrev QZ:=@Wk.region
abbrev RC:=@Wk.draw
abbrev Q3:=@Wo.nil
abbrev Q4:=@At.tn
abbrev Rs:=@At.te
abbrev Rp:=@At.tr
abbrev Rr:=@At.bn
abbrev Ru:=@At.be
abbrev RB:=@At.br
abbrev Rv:=@Wk.cx
abbrev Q7:=@At.en
abbrev Rh:=@Wk.cut
abbrev Rl:=@Wk.loop
abbrev Rj:=@Hp.start
abbrev Rb:=@At.ret
end
end
section
namespace Go.Ab.W
open Go Go.Ab
def ob{α β:Type}(o:RI α)(f:α->RI β):RI β :=
 match o with
 | some x=>f x
 | none=>none
def gd{β:Type}(b:Bool)(k:RI β):RI β :=
 match b with
 | true=>k
 | false=>none
def br{β:Type}(b:Bool)(k l:RI β):RI β :=
 match b with
 | true=>k
 | false=>l
section
variable{α β:Type}
def aa{o:RI α}{f:α->RI β}{r:β}(h:ob o f=some r):∃x,o=some x/\f x=some r:=by
 cases o with
 | none=>cases h
 | some x=>exact⟨x,rfl,h⟩
def ak{b:Bool}{k:RI β}{r:β}(h:gd b k=some r):b=true/\k=some r:=by
 cases b with
 | false=>cases h
 | true=>exact⟨rfl,h⟩
def aj{b:Bool}{k l:RI β}{r:β}(h:br b k l=some r):(b=true/\k=some r)\/(b=false/\l=some r):=by
 cases b with
 | false=>exact .inr ⟨rfl,h⟩
 | true=>exact .inl ⟨rfl,h⟩
def bY(i:Int)(n:Nat):Bool:=decide (0<=i/\i.toNat<n)
def aq{i:Int}{n:Nat}(h:bY i n=true):0<=i/\i.toNat<n:=of_decide_eq_true h
def aU{f:α->β}{xs:RR α}{i:Nat}{x:α}(h:xs[i]? = some x):(xs.map f)[i]? = some (f x):=by
 rw[O1,h]; rfl
def aO{i:Int}{n:Nat}(h:0<=i/\i.toNat<n):0<n:=by omega
def okB(lo hi:Int)(n:Nat):Bool:=decide (0<=lo/\lo<=hi/\hi<=(n:Int))
def E8{lo hi:Int}{n:Nat}(h:okB lo hi n=true):0<=lo/\lo<=hi/\hi<=(n:Int):=of_decide_eq_true h
end
def eI(k:IntKind)(x:Int):RR QP:=[.int k x]
def eN(k:IntKind)(x:Nat):RR QP:=[.int k (x:Int)]
def eB(b:Bool):RR QP:=[.bool b]
def eP{α β:Type}(f:α->RR QP)(g:β->RR QP)(p:α×β):RR QP:=f p.1++g p.2
structure Enc{α:Type}(f:α->RR QP)(w:Nat):Prop where
 len:∀x,(f x).length=w
 one:∀x,(f x).all mA=true
def JS(k:IntKind):Enc (eI k) 1:=⟨fun _=>rfl,fun _=>rfl⟩
def gS(k:IntKind):Enc (eN k) 1:=⟨fun _=>rfl,fun _=>rfl⟩
def sW:Enc eB 1:=⟨fun _=>rfl,fun _=>rfl⟩
def kJ{α β:Type}{f:α->RR QP}{g:β->RR QP}{w v:Nat}(h:Enc f w)(h':Enc g v):Enc (eP f g) (w+v) :=
 ⟨fun x=>by simp[eP,h.len,h'.len],fun x=>by simp only[eP,List.all_append,h.one,h'.one,PA]⟩
def Enc.vE{α:Type}{f:α->RR QP}{w:Nat}(h:Enc f w)(xs:RR α):∀e∈xs.map f,e.length=w:=fun e he=>by
 obtain⟨x,_,rfl⟩:=Qw.1 he; exact h.len x
def Enc.gP{α:Type}{f:α->RR QP}{w:Nat}(h:Enc f w)(xs:RR α):W.gP (xs.map f):=A0 h.one xs
def IC{α:Type}{f:α->RR QP}{xs:RR α}{i:Nat}{x:α}:(xs.map f).set i (f x)=(xs.set i x).map f:=(List.map_set).symm
def Jh{α:Type}{f:α->RR QP}{xs:RR α}{i k:Nat}:((xs.map f).drop i).take k=((xs.drop i).take k).map f:=by rw[<-List.map_drop,<-List.map_take]
def Jf{α:Type}{f:α->RR QP}{n:Nat}{x:α}:List.replicate n (f x)=(List.replicate n x).map f:=by simp
def uM(k:IntKind):Nat:=2 ^ k.bits
def uw(k:IntKind)(n:Nat):Nat:=n%uM k
def ui(k:IntKind)(i:Int):Nat:=(i%(uM k:Int)).toNat
def gZ(k:IntKind)(a b:Nat):Nat:=uw k (a+(uM k-uw k b))
def Ik(k:IntKind)(a:Nat):Nat:=uw k (uM k-uw k a)
def eY(k:IntKind)(a b:Nat):Nat:=uw k (a*2 ^ (min b k.bits))
def dF(k:IntKind)(a b:Nat):Nat:=a/2 ^ (min b k.bits)
def A2(k:IntKind)(a:Int)(b:Nat):Int:=k.wrap (a*2 ^ (min b k.bits))
def DK(k:IntKind)(a:Int)(b:Nat):Int:=a.fdiv (2 ^ (min b k.bits))
def GU(k:IntKind):0<uM k:=Nat.two_pow_pos _
def Nq(k:IntKind)(n:Nat):uw k n<uM k:=Pw _ (GU k)
def sP{k:IntKind}(h:k.signed=false)(n:Int):k.wrap n=((ui k n:Nat):Int):=by
 have h0:(0:Int)<=n%(uM k:Int):=Int.emod_nonneg _ (by have:=GU k; omega)
 simp only[IntKind.wrap,h,Bool.false_and,OT,if_false,ui];rw[Qo h0];simp[uM]
def zD(k:IntKind)(n:Nat):ui k (n:Int)=uw k n:=by
 unfold ui uw;rw[<-Int.natCast_emod,OC]
def iF{k:IntKind}(h:k.signed=false)(n:Nat):k.wrap (n:Int)=((uw k n:Nat):Int):=by rw[sP h,zD]
section
variable{k kd:IntKind}{ty:QQ}{P:QS}
def eV(h:k.signed=false)(a b:Nat):bS .add ty P (.int k (a:Int)) (.int k (b:Int))=some (.int k ((uw k (a+b):Nat):Int)):=by
 rw[aJ,<-Int.natCast_add,iF h]
def eH(h:k.signed=false)(a b:Nat):bS .mul ty P (.int k (a:Int)) (.int k (b:Int))=some (.int k ((uw k (a*b):Nat):Int)):=by
 rw[mi,<-Qk,iF h]
def kO(h:k.signed=false)(a b:Nat):bS .sub ty P (.int k (a:Int)) (.int k (b:Int))=some (.int k ((gZ k a b:Nat):Int)):=by
 rw[bT,sP h];have hlt:=Nq k b;have e:((a:Int)-(b:Int))%(uM k:Int)=(((a+(uM k-uw k b)):Nat):Int)%(uM k:Int):=by
  have h1:(b:Int)=(uM k:Int)*((b/uM k:Nat):Int)+((uw k b:Nat):Int):=by
   have:=P8 b (uM k);unfold uw;rw[<-Qk,<-Int.natCast_add]; exact PX Int.ofNat this.symm
  have h2:(((a+(uM k-uw k b)):Nat):Int)=((a:Int)-(b:Int))+(uM k:Int)*(1+((b/uM k:Nat):Int)):=by
   rw[Int.natCast_add,Int.natCast_sub (P3 hlt),Int.mul_add]; omega
  rw[h2,Int.add_mul_emod_self_left]
 have e2:ui k ((a:Int)-(b:Int))=gZ k a b:=by
  unfold ui;rw[e,<-Int.natCast_emod,OC]; rfl
 rw[e2]
def pA(h:k.signed=false)(a b:Nat)(hb:(0<b)):bS .quo ty P (.int k (a:Int)) (.int k (b:Int))=some (.int k ((uw k (a/b):Nat):Int)):=by
 rw[Bg _ _ _ (by omega),Int.tdiv_eq_ediv_of_nonneg (PF _),<-Int.natCast_ediv,iF h]
def nu(a b:Nat)(hb:0<b):bS .rem ty P (.int k (a:Int)) (.int k (b:Int))=some (.int k ((a%b:Nat):Int)):=by
 rw[Ci _ _ _ (by omega),Int.tmod_eq_emod_of_nonneg (PF _),<-Int.natCast_emod]
def jq(k:IntKind)(a:Nat):(BitVec.ofInt k.bits (a:Int)).toNat=uw k a:=by simp[uw,uM]
def rW(h:k.signed=false)(a b:Nat):bS .and ty P (.int k (a:Int)) (.int k (b:Int))=some (.int k ((uw k (uw k a &&& uw k b):Nat):Int)):=by
 simp only[bS,if_true]; rw[BitVec.toNat_and,jq,jq,iF h]
def Fe(h:k.signed=false)(a b:Nat):bS .or ty P (.int k (a:Int)) (.int k (b:Int))=some (.int k ((uw k (uw k a ||| uw k b):Nat):Int)):=by
 simp only[bS,if_true]; rw[BitVec.toNat_or,jq,jq,iF h]
def Ei(h:k.signed=false)(a b:Nat):bS .xor ty P (.int k (a:Int)) (.int k (b:Int))=some (.int k ((uw k (uw k a ^^^ uw k b):Nat):Int)):=by
 simp only[bS,if_true]; rw[BitVec.toNat_xor,jq,jq,iF h]
def A4(a b:Nat):bS .lss ty P (.int k (a:Int)) (.int k (b:Int))=some (.bool (decide (a<b))):=by rw[aM]; congr 2; exact decide_eq_decide.2 Int.ofNat_lt
def K6(a b:Nat):bS .leq ty P (.int k (a:Int)) (.int k (b:Int))=some (.bool (decide (a<=b))):=by rw[qq]; congr 2; exact decide_eq_decide.2 Int.ofNat_le
def AX(a b:Nat):bS .gtr ty P (.int k (a:Int)) (.int k (b:Int))=some (.bool (decide (b<a))):=by rw[cS]; congr 2; exact decide_eq_decide.2 Int.ofNat_lt
def nh(a b:Nat):bS .geq ty P (.int k (a:Int)) (.int k (b:Int))=some (.bool (decide (b<=a))):=by rw[dZ]; congr 2; exact decide_eq_decide.2 Int.ofNat_le
def vN(a b:Nat):bS .eql ty P (.int k (a:Int)) (.int k (b:Int))=some (.bool (decide (a=b))):=by rw[cW]; congr 2; exact decide_eq_decide.2 Int.ofNat_inj
def Lt(a b:Nat):bS .neq ty P (.int k (a:Int)) (.int k (b:Int))=some (.bool (!decide (a=b))):=by
 rw[CA]; congr 2
 by_cases h:a=b
 simp[h]
 have:¬((a:Int)=(b:Int)):=by omega
 simp[h,this]
def cc(a b:Int):bS .neq ty P (.int k a) (.int k b)=some (.bool (!decide (a=b))):=by
 rw[CA]; congr 2; by_cases h:a=b<;>simp[h]
def pJ(h:k.signed=false)(a:Nat)(b:Int)(hb:decide (0<=b)=true):bS .shl ty P (.int k (a:Int)) (.int kd b)=some (.int k ((eY k a b.toNat:Nat):Int)):=by
 have h0:¬(b<0):=by have:=of_decide_eq_true hb; omega
 simp only[bS,OJ h0];have h2:((a:Int)*2 ^ (min b.toNat k.bits))=((a*2 ^ (min b.toNat k.bits):Nat):Int):=by simp
 rw[h2,iF h]; rfl
def fP(a:Nat)(b:Int)(hb:decide (0<=b)=true):bS .shr ty P (.int k (a:Int)) (.int kd b)=some (.int k ((dF k a b.toNat:Nat):Int)):=by
 have h0:¬(b<0):=by have:=of_decide_eq_true hb; omega
 simp only[bS,OJ h0,dF]
 congr 2
 have h2:((2:Int) ^ (min b.toNat k.bits))=((2 ^ (min b.toNat k.bits):Nat):Int):=by simp
 rw[h2,Int.fdiv_eq_ediv_of_nonneg _ (PF _)];exact(Int.natCast_ediv a _).symm
def KX(a:Int)(b:Int)(hb:decide (0<=b)=true):bS .shl ty P (.int k a) (.int kd b)=some (.int k (A2 k a b.toNat)):=by
 have h0:¬(b<0):=by have:=of_decide_eq_true hb; omega
 simp only[bS,OJ h0,A2]
def K5(a:Int)(b:Int)(hb:decide (0<=b)=true):bS .shr ty P (.int k a) (.int kd b)=some (.int k (DK k a b.toNat)):=by
 have h0:¬(b<0):=by have:=of_decide_eq_true hb; omega
 simp only[bS,OJ h0,DK]
def lQ(a b:Int)(h:decide (b≠0)=true):bS .quo ty P (.int k a) (.int k b)=some (.int k (k.wrap (a.tdiv b))):=Bg k a b (of_decide_eq_true h)
def lb(a b:Int)(h:decide (b≠0)=true):bS .rem ty P (.int k a) (.int k b)=some (.int k (a.tmod b)):=Ci k a b (of_decide_eq_true h)
def Le(h:k.signed=false)(a:Nat):Al .neg (.int k (a:Int))=some (.int k ((Ik k a:Nat):Int)):=by
 have:=kO (ty:=0) (P:=default) h 0 a;rw[bT] at this;simp only[Al];have e:gZ k 0 a=Ik k a:=by unfold gZ Ik; rw[Pr]
 rw[e] at this; exact this
def sJ{s d:QQ}{x:Int}(hs:(P.underlying s).isSome=true)(hd:P.underlying d=some (.int k)):fF P s d (.int kd x)=some (.int k (k.wrap x)):=by
 cases h:P.underlying s with
 | none=>rw[h] at hs; cases hs
 | some u=>simp only[fF,h,hd]
def vR{s d:QQ}{x:Int}(hs:(P.underlying s).isSome=true)(hd:P.underlying d=some (.int k))(hk:k.signed=false):fF P s d (.int kd x)=some (.int k ((ui k x:Nat):Int)):=by
 rw[sJ hs hd,sP hk]
def Ns{s d:QQ}{x:Nat}(hs:(P.underlying s).isSome=true)(hd:P.underlying d=some (.int k))(hk:k.signed=false):fF P s d (.int kd (x:Int))=some (.int k ((uw k x:Nat):Int)):=by
 rw[vR hs hd hk,zD]
def ES{a b:Bool}(hu:P.underlying ty=some .bool):bS .eql ty P (.bool a) (.bool b)=some (.bool (a==b)):=by
 simp only[bS,Op.maxDepth,kV,hu,OI]
def Bn{a b:Bool}(hu:P.underlying ty=some .bool):bS .neq ty P (.bool a) (.bool b)=some (.bool (!(a==b))):=by
 simp only[bS,Op.maxDepth,kV,hu,OI]
end
def gK{c:Bool}(h:c=true):(c==true)=true:=by rw[h]; rfl
def cp{c:Bool}(h:c=false):(c==false)=true:=by rw[h]; rfl
def cw{c:Bool}(h:c=true):(c==false)=false:=by rw[h]; rfl
def gN{c:Bool}(h:c=false):(c==true)=false:=by rw[h]; rfl
section
variable{E:Env}{n:Nat}{m0:RN}{fs:Fs}{ps:RR Pc}{x y:QR}{v:QP}{ty:QQ}
def dv{c:QR}{b:Bool}(hc:ev E fs c=some (.bool b))(hb:b=true)(h:ev E fs x=some v):Od E m0 fs ps (.pick c x y) v ps:=iO (by rw[hc,hb]) h
def cX{c:QR}{b:Bool}(hc:ev E fs c=some (.bool b))(hb:b=false)(h:ev E fs y=some v):Od E m0 fs ps (.pick c x y) v ps:=D4 (by rw[hc,hb]) h
def k6{α:Type}{f:α->RR QP}{elem ty2:QQ}{w k k2 c0 l l2:Nat}{a a1:QN}{xs ys:RR α}{ars:RU QR}{p0:Pc}(he:Enc f w)(ht:SlT E.P ty elem w)(h4:∃e2,E.P.underlying ty2=some (.slice e2))(ha:mw E fs ars.toList=some [.slice a l l,.slice a1 l2 c0])(hp:pk ps k=some (.sl a w l (xs.map f)))(h0:pk ps k2=some p0)(hr:IsRd p0 a1 c0 w l2 (ys.map f))(hl:lim (xs++ys).length=true) :
  Ox E m0 fs ps (.call ⟨.builtin .append,ars,#[ty,ty2]⟩) (fun a':QN=>.slice a' (xs++ys).length (xs++ys).length) (fun a'=>dE ps k (.sl a' w (xs++ys).length ((xs++ys).map f))):=by
 intro t m hf hm;have h1:l=xs.length:=by
  have:=hm.get hp;rcases this with⟨h5,h1,_⟩|⟨b,tg,_,h1⟩
  rw[h5,List.map_eq_nil_iff.1 h1]; rfl
  have:=h1.2.2.2.1; rw[O7] at this; exact this.symm
 have h2:l2=ys.length:=by
  have:=(hm.rd h0 hr).1; rw[O7] at this; exact this.symm
 have:=N6 (m0:=m0) ht h4 ha hp h0 hr (he.vE ys) (he.gP ys) (by rw[h1,h2,<-OU]; exact hl) t m hf hm
 have e1:xs.map f++ys.map f=(xs++ys).map f:=List.map_append.symm;have e2:l+l2=(xs++ys).length:=by rw[h1,h2,OU]
 rw[e1,e2] at this;exact this
def B3{α:Type}{f:α->RR QP}{elem:QQ}{k cap w l:Nat}{lo hi:Int}{a:QN}{xs:RR α}{lx hx:RI QR}{lv hv:RI QP}(ht:SlT E.P ty elem w)(hv':ev E fs x=some (.slice a l cap))(e1:GZ E fs lx=some lv)(e2:GZ E fs hx=some hv)(hp:pk ps k=some (.rd a cap w l (xs.map f)))(hb:okB lo hi l=true)(hl:lv=none/\lo=0\/∃k,lv=some (.int k lo))(hh:hv=none/\hi=(l:Int)\/∃k,hv=some (.int k hi)) :
  Ox E m0 fs ps (.slice ty x lx hx none) (fun r:QN×Nat=>.slice r.1 ((xs.drop lo.toNat).take (hi.toNat-lo.toNat)).length r.2) (fun r=>.rd r.1 r.2 w ((xs.drop lo.toNat).take (hi.toNat-lo.toNat)).length (((xs.drop lo.toNat).take (hi.toNat-lo.toNat)).map f)::ps):=by
 intro t m hf hm;obtain⟨b1,b2,b3⟩:=E8 hb;have h1:xs.length=l:=by have:=(hm.get hp).1; rw[O7] at this; exact this
 have elo:((lo.toNat:Nat):Int)=lo:=Qo b1;have ehi:((hi.toNat:Nat):Int)=hi:=Qo (by omega)
 have hlen:((xs.drop lo.toNat).take (hi.toNat-lo.toNat)).length=hi.toNat-lo.toNat:=by rw[PV,QC,h1]; omega
 have:=N2 (m0:=m0) (lo:=lo.toNat) (hi:=hi.toNat) ht hv' e1 e2 hp (by omega) (by omega) (by
  rcases hl with⟨h,h'⟩|⟨k,h⟩
  exact .inl ⟨h,by omega⟩
  exact .inr ⟨k,by rw[elo]; exact h⟩) (by
  rcases hh with⟨h,h'⟩|⟨k,h⟩
  exact .inl ⟨h,by omega⟩
  exact .inr ⟨k,by rw[ehi]; exact h⟩) t m hf hm
 rw[Jh] at this;rw[hlen];exact this
def lT{α:Type}{f:α->RR QP}{z0:α}{elem:QQ}{w:Nat}{i:Int}{z:QP}(ht:SlT E.P ty elem w)(hx:ev E fs x=some (.int .i64 i))(hi:decide (0<=i)=true)(hl:lim i.toNat=true)(hz:cg E.P elem=some z)(hp:z.cells.toList.all aX=true)(hzf:z.cells.toList=f z0) :
  Ox E m0 fs ps (.makeSlice ty x x) (fun b=>.slice (some ⟨b,0,none⟩) i.toNat i.toNat) (fun b=>.arr b w i.toNat ((List.replicate i.toNat z0).map f) .own::ps):=by
 have:=M9 (m0:=m0) (ps:=ps) ht hx (Qo (of_decide_eq_true hi)).symm hl hz hp;rw[hzf,Jf] at this;exact this
def fu{α:Type}{f:α->RR QP}{ag:Bool}{sz b w l j c k:Nat}{xs:RR α}{x1 x2:α}{tg:Tag}(ht:TyI E.P ty ag sz)(hx:ev E fs x=some (ptr b (j*w+c)))(hy:ev E fs y=some v)(hp:pk ps k=some (.arr b w l (xs.map f) tg))(he:xs[j]? = some x1)(hv:J0 (f x1) c v sz=some (f x2)):Od E m0 fs ps (.store ty x y) undef (dE ps k (.arr b w l ((xs.set j x2).map f) tg)):=by
 have:=sT (m0:=m0) ht hx hy hp (aU he) hv;rwa[IC] at this
end
def HU:Tag->Bool
 | .more _=>false
 | _=>true
def LU:Tag->Bool
 | .own=>true
 | _=>false
def sn{fs:Fs}:sub fs []:=trivial
def sc{fs l:Fs}{i:Nat}{v:QP}(h:lk fs i=some v)(k:sub fs l):sub fs ((i,v)::l):=⟨h,k⟩
def cI{k:IntKind}{e y:Int}(h:some e=some y):some (Value.int k e)=some (.int k y):=by rw[OK h]
def cN{k:IntKind}{e y:Nat}(h:some e=some y):some (Value.int k (e:Int))=some (.int k (y:Int)):=by rw[OK h]
def nn(b:Nat):decide (0<=(b:Int))=true:=OY (PF b)
section
variable{P:QS}{ty el:QQ}{w len:Nat}
def An(h:ArT P ty el len w){b o i:Nat}{kd:IntKind}(hi:i<len):bV P ty (ptr b o) (.int kd (i:Int))=some (ptr b (o+i*w)):=KB h.und h.known h.size hi
def LQ{cs:RU QP}{off sz:Nat}{v:QP}(h:TyI P ty true sz)(hv:(Value.agg (cs.extract off (off+sz)))=v):eT P ty cs off=some v:=by
 simp only[eT,h.known,h.agg,h.size,OS,OT,if_false,if_true,hv]
def zz{cs:RU QP}{off sz:Nat}{v:QP}(h:TyI P ty false sz)(hv:cs[off]? = some v):eT P ty cs off=some v:=by
 simp only[eT,h.known,h.agg,OS,OT,if_false,hv]
structure BdT(P:QS)(ty:QQ)(z:QP)(offs:RR (Nat×Nat)):Prop where
 bd:∀parts,(parts.all fun p=>Nat.blt p.1 offs.length)=true->j9 P ty parts=(gT (fun i=>offs[i]?) z.cells.toList parts).map fun cs=>.agg cs.toArray
def Ow(P:QS)(ty:QQ)(z:QP)(offs:RR (Nat×Nat)):Prop :=
 cg P ty=some z/\match P.underlying ty with
  | some (.struct fields)=>fields.toList.all (fun f=>known P f.type)=true/\fields.toList.map (fun f=>(f.offset,aC P f.type))=offs
  | some (.array n elem)=>known P elem=true/\(List.range n).map (fun i=>(i*aC P elem,aC P elem))=offs
  | _=>False
def lB{p q:Nat->RI (Nat×Nat)}{n:Nat}(h:∀i,i<n->p i=q i):∀(parts:RR (Nat×QP)) (cs:RR QP),(parts.all fun p=>Nat.blt p.1 n)=true->gT p cs parts=gT q cs parts
 | [],_,_=>rfl
 |(i,v)::rest,cs,hp=>by
  rw[PI,OD] at hp;have hi:i<n:=by have:=hp.1; rwa[Qd] at this
  simp only[gT,h i hi];cases q i with
  | none=>rfl
  | some r=>simp only[]; split; rfl; exact lB h rest _ hp.2
def BdT.of{z:QP}{offs:RR (Nat×Nat)}(h:Ow P ty z offs):BdT P ty z offs:=⟨fun parts hp=>by
 obtain⟨hz,h⟩:=h;unfold j9;rw[hz];cases hu:P.underlying ty with
 | none=>rw[hu] at h; exact h.elim
 | some u =>
  rw[hu] at h;cases u with
  | struct fields =>
   simp only at h ⊢;rw[OM h.1]
   congr 1
   refine lB (n:=offs.length) (fun i hi=>?_) parts _ hp;rw[<-h.2,O1]; simp
  | array n elem =>
   simp only at h ⊢;rw[OM h.1]
   congr 1
   refine lB (n:=offs.length) (fun i hi=>?_) parts _ hp;have hl:offs.length=n:=by rw[<-h.2]; simp
   rw[<-h.2,O1,List.getElem?_range (by omega)]; rfl
  | _=>exact h.elim⟩
def Oa(P:QS)(ty:QQ)(offs:RR (Nat×Nat)):Bool :=
 match P.underlying ty with
 | some (.struct fields)=>fields.toList.all (fun f=>known P f.type)&&decide (fields.toList.map (fun f=>(f.offset,aC P f.type))=offs)
 | some (.array n elem)=>known P elem&&decide ((List.range n).map (fun i=>(i*aC P elem,aC P elem))=offs)
 | _=>false
def BdT.mk'{z:QP}{offs:RR (Nat×Nat)}(hz:cg P ty=some z)(h:Oa P ty offs=true):BdT P ty z offs:=by
 refine .of ⟨hz,?_⟩;unfold Oa at h;cases hu:P.underlying ty with
 | none=>rw[hu] at h; cases h
 | some u =>
  rw[hu] at h;cases u with
  | struct fields=>simp only[OD,O5] at h ⊢; exact h
  | array n elem=>simp only[OD,O5] at h ⊢; exact h
  | _=>cases h
def fL{z r:QP}{offs:RR (Nat×Nat)}{parts:RR (Nat×QP)}{cs:RR QP}(h:BdT P ty z offs)(hp:(parts.all fun p=>Nat.blt p.1 offs.length)=true)(hr:gT (fun i=>offs[i]?) z.cells.toList parts=some cs)(e:Value.agg cs.toArray=r):j9 P ty parts=some r:=by
 rw[h.bd parts hp,hr]; exact PX some e
def jm{n:Nat}{vs:RR (Nat×QP)}{z:QP}{cs:RR QP}(ht:SlT P ty el w)(hz:cg P el=some z)(h1:((cC z.cells.toList n).all aX&&Nat.ble (n*w) 16777216)=true)(hr:gT (fun i=>some (i*w,w)) (cC z.cells.toList n) vs=some cs):NL P el w n vs=some cs:=by
 have hzs:z.cells.size=w:=by have:=ht.zero; rw[hz] at this; simp only[Option.any_some,OD,beq_iff_eq] at this; exact this.1
 have:fH P el n=some (cC z.cells.toList n):=by simp only[fH,hz,ht.size]; rw[OM hzs]
 simp only[NL,this,h1]; exact hr
def J2{xs ys:RU QP}{b:Bool}(h:P.eqGuardType P.depth ty=false)(hb:kV P Op.maxDepth ty (.agg xs) (.agg ys)=some b):bS .neq ty P (.agg xs) (.agg ys)=some (.bool (!b)):=by
 simp only[bS,h,OT,if_false,hb,OI]
end
section
variable{E:Env}{n:Nat}{m0:RN}{fs:Fs}{ps:RR Pc}{x y:QR}{v:QP}{ty:QQ}
def ML{el:QQ}{len w b o k:Nat}{cs:RR QP}{tg:Tag}(ht:ArT E.P ty el len w)(hx:ev E fs x=some (ptr b o))(hp:pk ps k=some (.obj b (.cells cs tg)))(htg:HU tg=true)(hlen:Nat.blt 0 len=true):Od E m0 fs ps (.slice ty x none none none) (.slice (some ⟨b,o,none⟩) len len) ps :=
 fun t m hf h=>⟨fun b' hb=>by
  have:fO (ptr b o)=some b:=rfl;simp only[bg,hf.ev hx,Pf,this] at hb;cases hb; exact(h.get hp).2.1,fun K hK=>by
  have hg:=(h.get hp).2.2;have hb:eM len len none none none=some (0,len,len):=oZ (P6 _) (OF _) (.inl ⟨rfl,rfl⟩) (.inl ⟨rfl,rfl⟩);have hl:len≠0:=by rw[Qd] at hlen; omega
  have:cU E.P ty (ptr b o) none none none m=some (.slice (some ⟨b,o,none⟩) len len):=by
   cases tg with
   | more s=>cases htg
   | ro=>simp only[cU,ptr,ht.und,ht.known,if_true,hg,hb,Qv,OJ hl,Qi,Py]
   | own=>simp only[cU,ptr,ht.und,ht.known,if_true,hg,hb,Qv,OJ hl,Qi,Py]
  rw[Go.Ab.Bq (hf.ev hx) rfl rfl rfl this]; exact hK m h⟩
variable{ops:RU Oper}{os:RR Oper}{K:Tm->RN->Prop}{dr:Bool}
def Wo.len{α:Type}{f:α->RR QP}{k w l:Nat}{a:QN}{xs:RR α}(hp:pk ps k=some (.sl a w l (xs.map f)))(h:l=xs.length->Wo dr E n ops K os m0 fs ps):Wo dr E n ops K os m0 fs ps:=by
 have key:∀m,Hp m0 m ps->l=xs.length:=fun m hm=>by
  rcases hm.get hp with⟨h0,h1,_⟩|⟨b,tg,_,h1⟩
  rw[h0,List.map_eq_nil_iff.1 h1]; rfl
  have:=h1.2.2.2.1; rw[O7] at this; exact this.symm
 cases dr with
 | false=>exact fun t m hf hm=>h (key m hm) t m hf hm
 | true=>exact fun t m w hf hm hw=>h (key m hm) t m w hf hm hw
end
def ah.Ja{m0:RN}{ps:RR Pc}(w:Nat):ah m0 ps (.rd none 0 w 0 []::ps):=fun m h =>
 h.cons (OF _) h.ext (fun _ _=>rfl) (Rd.nil m w) fun b hb=>(by cases hb)
def Hp.Ou{m0 m:RN}{ps:RR Pc}{α:Type}{xs:RR α}{f:α->RR QP}{k b o w l:Nat}{cs:RR QP}{tg:Tag}(h:Hp m0 m ps)(hp:pk ps k=some (.obj b (.cells cs tg)))(htg:LU tg=true)(hl:Nat.beq xs.length l=true)(hc:(cs.drop o).take (l*w)=(xs.map f).flatten)(he:Enc f w):Rd m (some ⟨b,o,none⟩) l w l (xs.map f):=by
 have hl:=OE hl;have hnm:∀sz,tg=.more sz->sz=w:=fun sz e=>by rw[e] at htg; cases htg
 have hg:=(h.get hp).2.2;refine⟨by rw[O7]; exact hl,OF _,.inr (.inr ⟨b,o,rfl,(h.get hp).2.1,cs,tg,hg,hnm,fun i e hi=>?_⟩)⟩
 have hw:=he.vE xs;have h1:=CB hw hi;have hlt:i<l:=by have:=(OX.1 hi).1; rw[O7,hl] at this; exact this
 refine⟨?_,hw e (Pl hi)⟩;rw[<-hc] at h1;rw[<-h1,List.drop_take,List.take_take,Qs];have:w<=l*w-i*w:=by
  have:(i+1)*w<=l*w:=Ph w hlt;rw[Qn] at this; omega
 rw[Ps this]
def gu{ops:RU Oper}{fs:Fs}{j d:Nat}{b:Bool}(hd:(ops[j]?).bind (·.dst)=some d)(h:lk fs d=some undef):xj ops fs (some (j,b)) false:=fun t d' o ty p af hf=>by
 rw[GM];have hat:=hf d _ h;unfold dc;rw[hd];unfold Tm.at at hat;cases hg:Trie.get t d with
 | none=>simp only[hg]
 | some v=>rw[hg] at hat; have hv:v=undef:=hat; subst hv; simp only[hg]; rfl
section
variable{P:QS}{ty:QQ}{k:IntKind}
end
section
variable{E:Env}{n:Nat}{m0:RN}{fs:Fs}{ps:RR Pc}{x y:QR}{v:QP}{ty:QQ}
def MN{s:ByteArray}{kd:IntKind}{i:Int}{b:Nat}(tab:RR Nat)(hu:E.P.underlying ty=some .string)(hx:ev E fs x=some (.string s))(hs:s.data.toList.map (·.toNat)=tab)(hy:ev E fs y=some (.int kd i))(hi:bY i tab.length=true)(hb:tab[i.toNat]? = some b):Od E m0 fs ps (.index ty x y) (.int .u8 (b:Int)) ps:=by
 refine NS hx hy ?_;have h0:=(aq hi).1;simp only[gj,hu];rw[OM h0];subst hs;rw[O1] at hb;have:s[i.toNat]? = s.data.toList[i.toNat]?:=by
  cases hs:s.data.toList[i.toNat]? with
  | none =>
   have:=List.getElem?_eq_none_iff.1 hs;exact getElem?_neg s i.toNat (by have e:s.size=s.data.toList.length:=Qt.symm; omega)
  | some u =>
   obtain⟨h1,h2⟩:=OX.1 hs;have h3:i.toNat<s.size:=by have e:s.size=s.data.toList.length:=Qt.symm; omega
   rw[getElem?_pos s i.toNat h3]
   congr 1
 rw[this];cases hs:s.data.toList[i.toNat]? with
 | none=>rw[hs] at hb; cases hb
 | some u=>rw[hs] at hb; simp only[OI,Option.some.injEq] at hb ⊢; rw[hb]
end
end Go.Ab.W
end
section
namespace Go.Ab
open Go Go.Ab.W
def L1(j:aT)(u:QP):∃v,VR j v u:=by
 match h:u with
 | .agg cs =>
  have:∀i (hi:i<cs.size),∃v,VR j v cs[i]:=fun i hi=>L1 j cs[i];refine⟨.agg (Array.ofFn fun i:Fin cs.size=>Classical.choose (this i.1 i.2)),.agg (by simp) fun i a b=>?_⟩
  have hi:i<cs.size:=b;have:=Qh (this i hi)
  simpa using this
 | .tuple cs =>
  have:∀i (hi:i<cs.size),∃v,VR j v cs[i]:=fun i hi=>L1 j cs[i];refine⟨.tuple (Array.ofFn fun i:Fin cs.size=>Classical.choose (this i.1 i.2)),.tuple (by simp) fun i a b=>?_⟩
  have hi:i<cs.size:=b;have:=Qh (this i hi)
  simpa using this
 | .bool b=>exact⟨_,.bool b⟩
 | .int k n=>exact⟨_,.int k n⟩
 | .float k b=>exact⟨_,.junk rfl⟩
 | .complex k a b=>exact⟨_,.junk rfl⟩
 | .string s=>exact⟨_,.string s⟩
 | .pointer none=>exact⟨_,.pnil⟩
 | .pointer (some a)=>exact⟨_,.junk rfl⟩
 | .slice none l c=>exact⟨_,.snil l c⟩
 | .slice (some a) l c=>exact⟨_,.junk rfl⟩
 | .map none=>exact⟨_,.mnil⟩
 | .map (some r)=>exact⟨_,.junk rfl⟩
 | .chan r=>exact⟨_,.junk rfl⟩
 | .func f a b=>exact⟨_,.junk rfl⟩
 | .nilFunc=>exact⟨_,.nilFunc⟩
 | .iface t v=>exact⟨_,.junk rfl⟩
 | .nilIface=>exact⟨_,.nilIface⟩
termination_by SizeOf.sizeOf u
decreasing_by
 all_goals
  subst h;have:=Array.sizeOf_getElem cs i hi;simp only[Value.agg.sizeOf_spec,Value.tuple.sizeOf_spec];omega
open Classical in
noncomputable def seen (j:aT) (v':QP):QP:=if aX v' then v' else match v' with
 | .slice (some _) 0 _=>.slice (some ⟨0,0,some 0⟩) 0 0
 | .slice (some a) (l+1) c=>if a.spot=none/\j a.block=some ⟨a.block,none⟩ then .slice (some a) (l+1) c else Classical.choose (L1 j (.slice (some a) (l+1) c))
 | v'=>Classical.choose (L1 j v')
def BD(j:aT)(v':QP):VR j (seen j v') v':=by
 unfold seen
 split
 rename_i h; exact .aX h
 split
 exact .gL
 rename_i a l c _
 split
 rename_i h;obtain⟨b,o,s⟩:=a;obtain⟨h1,h2⟩:=h;cases h1;exact .slice (k:=⟨b,none⟩) h2 rfl
 exact Qh (L1 j _)
 exact Qh (L1 j _)
def IP{j:aT}{a:Addr}{l c:Nat}(h0:l≠0)(h1:a.spot=none)(h2:j a.block=some ⟨a.block,none⟩):seen j (.slice (some a) l c)=.slice (some a) l c:=by
 obtain⟨l,rfl⟩:∃k,l=k+1:=⟨l-1,by omega⟩
 unfold seen;rw[OJ (fun h=>by cases h)]
 dsimp only
 rw[OM ⟨h1,h2⟩]
def Ft{j:aT}{a:Addr}{c:Nat}:seen j (.slice (some a) 0 c)=.slice (some ⟨0,0,some 0⟩) 0 0:=by
 unfold seen;rw[OJ (fun h=>by cases h)]
def rl{j:aT}{v':QP}(h:aX v'=true):seen j v'=v':=by unfold seen; rw[OM h]
def eG(W:QT):aT:=fun b=>if b<W.heap.size then some ⟨b,none⟩ else none
noncomputable def eZ (W:QT):RN:={ next:=W.heap.size,wl:=W.heap.size,cd:=.nil,base:=fun b=>match W.heap[b]? with
 | some (.cells c _ _)=>some (.cells (c.toList.map (seen (eG W))) .ro)
 | _=>none}
def rI(W:QT)(b:Nat):(eZ W).get b=match W.heap[b]? with
 | some (.cells c _ _)=>some (.cells (c.toList.map (seen (eG W))) .ro)
 | _=>none:=by
 simp[RN.get,eZ,Heap.get_nil]
def oz{W:QT}{b:Nat}{c:RU QP}{t:QQ}{fz:Nat×Nat}(h:W.heap[b]? = some (.cells c t fz)):(eZ W).get b=some (.cells (c.toList.map (seen (eG W))) .ro):=by
 rw[rI,h]
def LM{E:Env}{W:QT}(hg:E.glob<=W.heap.size):MR E (eG W) (eZ W) W:=by
 have hj:∀b k,eG W b=some k->b<W.heap.size/\k=⟨b,none⟩:=by
  intro b k h;unfold eG at h
  split at h
  rename_i hb; cases h; exact⟨hb,rfl⟩
  cases h
 refine⟨fun b k h=>?_,fun b o k ho h=>?_,fun b b' k k' h h' _ _ hc=>?_,fun g hgl=>?_⟩
 obtain⟨h1,rfl⟩:=hj b k h;exact⟨h1,h1⟩
 obtain⟨h1,rfl⟩:=hj b k h;rw[rI] at ho
 split at ho
 rename_i c t fz hc;cases ho;refine⟨_,hc,⟨rfl,by simp⟩,fun i v hi=>?_⟩
 rw[O1] at hi;obtain⟨x,hx,rfl⟩:=P9.1 hi;exact⟨x,by simpa using hx,BD _ _⟩
 cases ho
 obtain⟨_,rfl⟩:=hj b k h;obtain⟨_,rfl⟩:=hj b' k' h';exact hc
 unfold eG;rw[QX]
inductive Lf where
 | int (k:IntKind)
 | bool
 | sl (e:QQ)
 deriving DecidableEq
def BM(Gz:QQ->RI (RR Lf))(P:QS):RR Field->Nat->RI (RR Lf)
 | [],_=>some []
 | f::fs,off=>match Gz f.type,BM Gz P fs (off+P.cellsOf f.type) with
  | some l,some r=>if f.offset=off/\l.length=P.cellsOf f.type then some (l++r) else none
  | _,_=>none
def Gz(P:QS):Nat->QQ->RI (RR Lf)
 | 0,_=>none
 | d+1,t=>match P.underlying t with
  | some (.int k)=>some [.int k]
  | some .bool=>some [.bool]
  | some (.slice e)=>some [.sl e]
  | some (.array n e)=>match Gz P d e with
   | some l=>if l.length=P.cellsOf e/\P.cellsOf t=n*P.cellsOf e then some (List.replicate n l).flatten else none
   | none=>none
  | some (.struct fs)=>match BM (Gz P d) P fs.toList 0 with
   | some l=>if l.length=P.cellsOf t then some l else none
   | none=>none
  | _=>none
def tI{H:Type}(enc:QQ×QP->H)(P:QS)(W:QT)(base:Nat)(sp:Nat->Bool)(held:Bool):Lf->QP->Prop
 | .int k,v=>∃n,v=.int k n/\(Lit.int k n).wf=true
 | .bool,v=>∃b,v=.bool b
 | .sl e,v=>(v=.slice none 0 0)\/∃(a:Addr) (len cap:Nat) (n:Nat),v=.slice (some a) len cap/\len<=cap/\cap<=maxLen/\base<=a.block /\
   ∀i,i<len->∃cs x,W.cells? base (a.add (i*P.cellsOf e)) (P.cellsOf e)=some cs/\DataW.trod enc P W base sp held n e cs=some x
inductive All2{α β:Type}(R:α->β->Prop):RR α->RR β->Prop
 | nil:All2 R [] []
 | cons {a:α} {b:β} {l:RR α} {r:RR β} (h:R a b) (t:All2 R l r):All2 R (a::l) (b::r)
def All2.append{α β:Type}{R:α->β->Prop}{l l':RR α}{r r':RR β}(h:All2 R l r)(h':All2 R l' r'):All2 R (l++l') (r++r'):=by
 induction h with
 | nil=>exact h'
 | cons h _ ih=>exact .cons h ih
section
variable{H:Type}{enc:QQ×QP->H}{P:QS}{W:QT}{base:Nat}{sp:Nat->Bool}{held:Bool}
theorem uD{R:Lf->QP->Prop}{l:RR Lf}:∀(n w:Nat) (cs:RR QP),cs.length=n*w->(∀i,i<n->All2 R l ((cs.drop (i*w)).take w))->All2 R (List.replicate n l).flatten cs
 | 0,w,cs,hl,_=>by
  have:cs=[]:=P4.1 (by simpa using hl)
  subst this; exact .nil
 | n+1,w,cs,hl,h=>by
  rw[PT,Px];have h0:=h 0 (by omega)
  simp only[Qi,List.drop_zero] at h0;have hw:w<=cs.length:=by rw[hl,Po]; omega
  rw[<-List.take_append_drop w cs];refine All2.append h0 (uD n w _ (by rw[QC,hl,Po]; omega) fun i hi=>?_)
  have:=h (i+1) (by omega)
  rw[Qs];have e:w+i*w=(i+1)*w:=by rw[Po]; omega
  rw[e]; exact this
theorem yc:∀(d:Nat) (t:QQ) (L:RR Lf),Gz P d t=some L->∀(n:Nat) (cs:RR QP) (x:DataW H×RR MemPlace),DataW.trod enc P W base sp held n t cs=some x->All2 (tI enc P W base sp held) L cs:=by
 intro d
 induction d with
 | zero=>intro t L h; cases h
 | succ d ih =>
  intro t L hL n cs x hx;unfold Gz at hL
  split at hL
  rename_i k hu;cases hL;obtain⟨m,rfl,_,hwf⟩:=DataW.trod_int hu hx;exact .cons ⟨m,rfl,hwf⟩ .nil
  rename_i hu;cases hL;obtain⟨b,rfl,_⟩:=DataW.trod_bool hu hx;exact .cons ⟨b,rfl⟩ .nil
  rename_i e hu;cases hL;rcases DataW.trod_slice hu hx with⟨rfl,_⟩|⟨a,len,cap,elems,rest,m,rfl,rfl,_,hb,h1,h2,h3,h4,_⟩
  exact .cons (.inl rfl) .nil
  refine .cons (.inr ⟨a,len,cap,m,rfl,h1,h2,hb,fun i hi=>?_⟩) .nil;have:=h4 i hi;have hi':i<elems.length:=by omega
  rw[OG hi'] at this;obtain⟨cs,h5,h6⟩:=Option.bind_eq_some_iff.1 this;exact⟨cs,_,h5,h6⟩
  rename_i m e hu
  split at hL
  rename_i l hl
  split at hL
  rename_i hc;cases hL;obtain⟨xs,m',rfl,_,hcl,hxl,hel⟩:=DataW.trod_array hu hx;refine uD m (P.cellsOf e) cs (hcl.trans hc.2) fun i hi=>?_;have:=hel i hi;rw[OG (by omega)] at this
  exact ih e l hl m' _ _ this
  cases hL
  cases hL
  ·rename_i fs hu
   split at hL
   ·rename_i l hl
    split at hL
    ·rename_i hc;cases hL;obtain⟨xs,m',rfl,_,hcl,hxl,hel⟩:=DataW.trod_struct hu hx;have hfield:∀f∈fs.toList,∃y,DataW.trod enc P W base sp held m' f.type ((cs.drop f.offset).take (P.cellsOf f.type))=some y:=by
      intro f hf;obtain⟨i,hi,hif⟩:=List.getElem_of_mem hf;have hi':i<fs.size:=by simpa using hi
      have:=hel i f (by rw[<-hif]; simp[hi'])
      rw[OG (by omega)] at this
      exact⟨_,this⟩
     have key:∀(l1:RR Field) (off:Nat) (r:RR Lf),BM (Gz P d) P l1 off=some r->(∀f∈l1,∃y,DataW.trod enc P W base sp held m' f.type ((cs.drop f.offset).take (P.cellsOf f.type))=some y)->All2 (tI enc P W base sp held) r ((cs.drop off).take r.length):=by
      intro l1
      induction l1 with
      | nil=>intro off r hr _; cases hr; simp only[List.length_nil,List.take_zero]; exact .nil
      | cons f l1 ih1 =>
       intro off r hr hf;unfold BM at hr
       split at hr
       rename_i l2 r2 hl2 hr2
       split at hr
       rename_i ho;cases hr;obtain⟨y,hy⟩:=hf f (by simp)
       have h1:=ih f.type l2 hl2 m' _ _ hy;have h2:=ih1 _ _ hr2 fun g hg=>hf g (by simp[hg])
       rw[ho.1,<-ho.2] at h1;rw[<-ho.2] at h2;have:=All2.append h1 h2;rw[OU,List.take_add,Qs];exact this
       cases hr
       cases hr
     have:=key fs.toList 0 _ hl hfield;rw[List.drop_zero,hc,<-hcl,List.take_length] at this;exact this
    cases hL
   cases hL
  cases hL
end
end Go.Ab
end
section
namespace Go.Ab
open Go Go.Ab.W Go.ChangeShapes Go.WideShapes Go.RowKit
section
variable{H:Type}{enc:QQ×QP->H}{P:QS}{W:QT}{sp:Nat->Bool}{held:Bool}
theorem xY{a:Addr}(h:a.spot=none)(n:Nat):a.add n=⟨a.block,a.off+n,none⟩:=by
 unfold Addr.add
 split
 rename_i e; subst e; cases a; cases h; rfl
 rfl
theorem pG{W:QT}{a:Addr}{v:QP}(h:W.cell? a=some v):a.spot=none/\∃c t fz,W.heap[a.block]? = some (.cells c t fz)/\c[a.off]? = some v:=by
 unfold World.cell? at h
 split at h
 rename_i c t fz hc
 split at h
 cases h
 rename_i hs;refine⟨by simpa using hs,c,t,fz,hc,h⟩
 cases h
theorem Is{α:Type}{f:α->RR QP}{R:α->Prop}{e w:Nat}(hw:P.cellsOf e=w)(hw0:0<w)(hsz:0<W.heap.size)
  (hdec:∀n cs x,DataW.trod enc P W 0 sp held n e cs=some x->∃p,cs.map (seen (eG W))=f p/\R p) {v:QP} (h:tI enc P W 0 sp held (.sl e) v) :
  ∃(a:QN) (cap:Nat) (l:RR α),seen (eG W) v=.slice a l.length cap/\(∀b,dG a=some b->b<W.heap.size)/\Rd (eZ W) a cap w l.length (l.map f)/\(∀p∈l,R p)/\l.length<=maxLen:=by
 rcases h with rfl|⟨a,len,cap,n,rfl,h1,h2,_,h3⟩
 exact⟨none,0,[],rl rfl,fun b h=>(by cases h),Rd.nil _ _,fun p hp=>(by cases hp),P6 _⟩
 by_cases h0:len=0
 subst h0;exact⟨some ⟨0,0,some 0⟩,0,[],Ft,fun b h=>(by cases h; exact hsz),⟨rfl,OF _,.inr (.inl ⟨0,0,rfl,rfl,rfl,hsz⟩)⟩,fun p hp=>(by cases hp),P6 _⟩
 rw[hw] at h3;have hg:∀i:Fin len,∃(p:α) (cs:RR QP),W.cells? 0 (a.add (i.1*w)) w=some cs/\cs.map (seen (eG W))=f p/\R p:=by
  intro i;obtain⟨cs,x,h4,h5⟩:=h3 i.1 i.2;obtain⟨p,he,hR⟩:=hdec _ _ _ h5;exact⟨p,cs,h4,he,hR⟩
 obtain⟨g,q,hg⟩:∃(g:Fin len->α) (q:Fin len->RR QP),∀i,W.cells? 0 (a.add (i.1*w)) w=some (q i)/\(q i).map (seen (eG W))=f (g i)/\R (g i):=⟨fun i=>Classical.choose (hg i),fun i=>Classical.choose (Qh (hg i)),fun i=>Qh (Qh (hg i))⟩;have hat:∀(i:Fin len) (k:Nat),k<w->W.cell? ((a.add (i.1*w)).add k)=(q i)[k]?:=fun i k hk=>(World.cells?_some (hg i).1).2.2 k hk;have hql:∀i,(q i).length=w:=fun i=>(World.cells?_some (hg i).1).2.1;have hfl:∀i,(f (g i)).length=w:=fun i=>by rw[<-(hg i).2.1,O7,hql]
 have hsm:∀(i:Fin len) (k:Nat),k<w->∃x,(q i)[k]? = some x:=fun i k hk=>⟨_,OG (by rw[hql]; exact hk)⟩
 have hspot:a.spot=none:=by
  obtain⟨x,hx⟩:=hsm ⟨0,by omega⟩ 0 hw0
  have:=hat ⟨0,by omega⟩ 0 hw0
  rw[hx] at this;have:=(pG this).1
  simpa [Addr.add] using this
 obtain⟨c,t,fz,hc⟩:∃c t fz,W.heap[a.block]? = some (.cells c t fz):=by
  obtain⟨x,hx⟩:=hsm ⟨0,by omega⟩ 0 hw0
  have:=hat ⟨0,by omega⟩ 0 hw0
  rw[hx] at this;obtain⟨_,c,t,fz,hc,_⟩:=pG this;refine⟨c,t,fz,?_⟩
  simpa [Addr.add] using hc
 have hcell:∀(i:Fin len) (k:Nat),k<w->c[a.off+i.1*w+k]? =(q i)[k]?:=by
  intro i k hk;obtain⟨x,hx⟩:=hsm i k hk;have:=hat i k hk;rw[hx] at this;rw[hx];rw[xY hspot,xY rfl] at this;obtain⟨_,c',t',fz',hc',h6⟩:=pG this;rw[hc] at hc';cases hc';exact h6
 have hb:a.block<W.heap.size:=by
  rcases Pk a.block W.heap.size with h|h
  exact h
  rw[Array.getElem?_eq_none h] at hc; cases hc
 have ha:a=⟨a.block,a.off,none⟩:=by cases a; cases hspot; rfl
 refine⟨some a,cap,List.ofFn g,?_,fun b h=>?_,?_,fun p hp=>?_,?_⟩
 rw[List.length_ofFn];exact IP h0 hspot (by unfold eG; rw[OM hb])
 cases h; exact hb
 refine⟨by simp,by simpa using h1,.inr (.inr ⟨a.block,a.off,by rw[<-ha],hb,_,_,oz hc,fun sz e=>(by cases e),fun i e he=>?_⟩)⟩
 rw[O1] at he;obtain⟨p,hp,rfl⟩:=P9.1 he;have hi:i<len:=by
  have:=(OX.1 hp).1
  simpa using this
 have hpg:p=g ⟨i,hi⟩:=by
  rw[List.getElem?_ofFn] at hp;simp[hi] at hp;exact hp.symm
 subst hpg;refine⟨?_,hfl _⟩;apply Qg;intro k
 by_cases hk:k<w
 rw[List.getElem?_take_of_lt hk,PZ,O1];have h7:=hcell ⟨i,hi⟩ k hk;obtain⟨x,hx⟩:=hsm ⟨i,hi⟩ k hk;rw[hx] at h7;have h8:c.toList[a.off+i*w+k]? = some x:=by simpa using h7
 rw[h8,<-(hg ⟨i,hi⟩).2.1,O1,hx]
 rw[Pp (by rw[PV]; omega),Pp (by rw[hfl]; omega)]
 obtain⟨i,hi,rfl⟩:=List.getElem_of_mem hp;simp only[List.getElem_ofFn];exact(hg _).2.2
 rw[List.length_ofFn]; omega
theorem LL{α:Type}{f:α->RR QP}{R:α->Prop}{e w:Nat}(hw:P.cellsOf e=w)(hw0:0<w)(hsz:0<W.heap.size)(hf:∀p,(f p).all aX=true)
  (hdec:∀n cs x,DataW.trod enc P W 0 sp held n e cs=some x->∃p,cs=f p/\R p) {v:QP} (h:tI enc P W 0 sp held (.sl e) v) :
  ∃(a:QN) (cap:Nat) (l:RR α),VR (eG W) (.slice a l.length cap) v/\Rd (eZ W) a cap w l.length (l.map f)/\(∀p∈l,R p)/\l.length<=maxLen:=by
 obtain⟨a,cap,l,h1,_,h2,h3,h4⟩:=Is (f:=f) (R:=R) hw hw0 hsz (fun n cs x hx=>by
  obtain⟨p,rfl,hR⟩:=hdec n cs x hx;refine⟨p,?_,hR⟩;have:∀(l:RR QP),l.all aX=true->l.map (seen (eG W))=l:=fun l hl=>by
   induction l with
   | nil=>rfl
   | cons x l ih =>
    rw[PI,OD] at hl;rw[QH,rl hl.1,ih hl.2]
  exact this _ (hf p)) h
 exact⟨a,cap,l,by rw[<-h1]; exact BD _ _,h2,h3,h4⟩
theorem FD{base:Nat}{v:QP}(h:tI enc P W base sp held (.int .u8) v):∃n:Nat,v=.int .u8 (n:Int)/\n<256:=by
 obtain⟨n,rfl,hw⟩:=h;have:=bounds_u8 hw;exact⟨n.toNat,by rw[Qo this.1],by omega⟩
theorem pB{α β:Type}{R:α->β->Prop}{a:α}{l:RR α}{r:RR β}(h:All2 R (a::l) r):∃b r',r=b::r'/\R a b/\All2 R l r':=by
 cases h with
 | cons h t=>exact⟨_,_,rfl,h,t⟩
theorem xE{α β:Type}{R:α->β->Prop}{r:RR β}(h:All2 R [] r):r=[]:=by cases h; rfl
theorem zS{base d t n:Nat}{cs:RU QP}{L:RR Lf}{x:DataW H×RR MemPlace}(hl:Gz P d t=some L)(h:DataW.trod enc P W base sp held n t (Value.agg cs).cells.toList=some x):All2 (tI enc P W base sp held) L cs.toList:=yc d t L hl n _ x h
theorem Kc{j:aT}{l:RR QP}{cs:RU QP}(h:LR j l cs.toList):VR j (.agg l.toArray) (.agg cs):=.z8 (by simpa using h)
theorem mH{T:QQ->Prop}(K:Kids P T)(hsz:∀{t e:QQ},T t->P.underlying t=some (.slice e)->0<P.cellsOf e){W':QT}{sp':Nat->Bool}:∀{ts:RR QQ} {vs:RR QP} {ds:RR (DataW H)} {ps:RR MemPlace},
  (∀t∈ts,T t)->DataW.TrodAll enc P W 0 (fun _=>true) true ts vs ds ps->(∀p∈ps,W.sameAt W' p)->(∀p∈ps,sp' p.block=true)->DataW.TrodAll enc P W' 0 sp' true ts vs ds ps
 | [],[],[],_,_,h,_,_=>h
 | t::ts,v::vs,d::ds,_,hT,⟨p,q,⟨n,hn⟩,hs,e⟩,h1,h2=>by
  subst e;refine⟨p,q,⟨n,DataW.trod_stays K hsz (fun h=>(by cases h)) (hT t (by simp)) hn (fun x hx=>h1 x (by simp[hx])) fun x hx=>h2 x (by simp[hx])⟩,mH K hsz (fun t' ht'=>hT t' (by simp[ht'])) hs (fun x hx=>h1 x (by simp[hx])) (fun x hx=>h2 x (by simp[hx])),rfl⟩
theorem Dq{w w':QT}{p:MemPlace}(h:w'.heap[p.block]? = w.heap[p.block]?):w.sameAt w' p:=by
 cases p with
 | cell b o=>simp only[World.sameAt,World.cell?]; rw[show w'.heap[b]? = w.heap[b]? from h]
 | map b=>simp only[World.sameAt]; rw[show w'.heap[b]? = w.heap[b]? from h]
def sizedB(P:QS):Bool:=(List.range P.types.size).all fun t=>match P.underlying t with
 | some (.slice e)=>decide (0<P.cellsOf e)
 | _=>true
theorem Dy(h:sizedB P=true){t e:QQ}(ht:t<P.types.size)(hu:P.underlying t=some (.slice e)):0<P.cellsOf e:=by
 have:=OV.1 h t (by simpa using ht)
 rw[hu] at this
 simpa using this
theorem Fc{f:Func}{s:ChangeSpec}{W':QT}{args:RU QP}{ds:RR (DataW H)}{before:RR MemPlace}{tb:QQ}{fresh handsOn:Bool}(hlo:laidOutB P=true)(hm:mapsRowed P=true)(hsz:sizedB P=true)
  (hvars:s.vars=[]) (hres:f.resultTypes.toList=[tb]) (hrs:f.resultTypes.size=1) (htb:P.underlying tb=some .bool) (hpt:∀t∈f.params.toList,t<P.types.size) (hfn:s.fn H ds ={ results:=[.lit (.bool true)],args:=ds,vars:=[]})
  (hW:DataW.Whole enc P f.params.toList s.vars false W args.toList ds [] before) {E:Env} (hcalm:iH E W W') (hg:∀c,c<W.heap.size->W'.heap[c]? = W.heap[c]?) :
  s.post enc P f false fresh handsOn false W args (.bool true) W':=by
 have hW':=hW;obtain⟨p,q,hA,hV,rfl,_,_⟩:=hW;rw[hvars] at hV;obtain⟨_,rfl⟩:=trodVars_none hV;have hlt:=hW'.lt;refine⟨ds,[],_,[],p,[],hW',?_,?_,?_,qf hcalm hg _,fun h=>by cases h⟩
 rw[P2,hfn,hres]
 show DataW.TrodAll enc P W' _ _ handsOn [tb] ((Value.bool true).resultList f.resultTypes.size) [.lit (.bool true)] []
 rw[hrs];exact trodAll_mk1 (shut_bool htb true)
 rw[P2,hfn];refine mH (kids_rows hlo hm) (fun ht hu=>Dy hsz ht hu) hpt hA (fun x hx=>Dq (hg _ (hlt x (by simp[hx])))) fun x hx=>by
  have:=hlt x (by simp[hx])
  simpa using this
 rw[P2,hfn,hvars];exact rfl
end
end Go.Ab
end
section
namespace Go.Ab
open Go
def u7(x y c:Nat):QP:=.tuple #[.int .u64 (.ofNat ((x+y+c)%18446744073709551616)),.int .u64 (.ofNat ((x+y+c)/18446744073709551616))]
def s6(x y c:Nat):QP:=.tuple #[.int .u64 (.ofNat ((x+18446744073709551616-y-c)%18446744073709551616)),.int .u64 (.ofNat (if x<y+c then 1 else 0))]
def dQ(V:Nat->Nat->Nat->QP)(args:RR QP)(m:RN):RI (QP×RN) :=
 match args with
 | [.int .u64 (.ofNat x),.int .u64 (.ofNat y),.int .u64 (.ofNat c)]=>if Nat.ble c 1 then some (V x y c,m) else none
 | _=>none
def s5{V:Nat->Nat->Nat->QP}{args:RR QP}{m m':RN}{v:QP}(h:dQ V args m=some (v,m')) :
  ∃x y c:Nat,args=[.int .u64 x,.int .u64 y,.int .u64 c]/\c<=1/\v=V x y c/\m'=m:=by
 unfold dQ at h
 split at h
 rename_i x y c
 split at h
 rename_i hc;cases h;exact⟨x,y,c,rfl,OL hc,rfl,rfl⟩
 cases h
 cases h
section
variable{E:Env}{j:aT}{m:RN}{w:QT}
def LR.Cv:∀{l l':RR QP},l.all Ab.aX=true->LR j l l'->l'=l:=by
 intro l
 induction l with
 | nil=>intro l' _ h; exact h.dz
 | cons v l ih =>
  intro l' hp h;obtain⟨v1,vs,rfl,h1,h2⟩:=h.cons_inv;rw[PI,OD] at hp;rw[eL hp.1 h1,ih hp.2 h2]
def nF{V:Nat->Nat->Nat->QP}{f:R2}(hV:∀x y c,bO (V x y c)=true)(hrun:∀(x y c:Nat) (w:QT),c<=1->(callFunc f #[.int .u64 x,.int .u64 y,.int .u64 c]).run E.P w=.ok (.value (V x y c)) w)(hpr:(E.dj f).isSome=true)
  {args args':RR QP} {v:QP} {m':RN} (he:dQ V args m=some (v,m')) (h:MR E j m w) (hl:LR j args args') :
  dX E.P (E.dj f).isSome f args'.toArray w (fA E j m w v m'):=by
 obtain⟨x,y,c,rfl,hc,rfl,rfl⟩:=s5 he;rw[LR.Cv rfl hl];exact .inr ⟨hpr,V x y c,w,hrun x y c w hc,j,.refl h,.bO (hV x y c)⟩
end
def AP(x y c:Nat):bO (u7 x y c)=true:=rfl
def AI(x y c:Nat):bO (s6 x y c)=true:=rfl
section
variable{P:QS}{f:R2}{fn:Func}
def HD (hf : P.funcs[f]? = some fn) (hname : (fn.name == "runtime.NumGoroutine") = false) (hb : fn.body.isNone = true) (hn : Extern.findNext fn = none) (he : Extern.find fn = some add64Entry) (x y c : Nat) (w : QT) (hc : c <= 1) :
  (callFunc f #[.int .u64 x,.int .u64 y,.int .u64 c]).run P w=.ok (.value (u7 x y c)) w:=by
 rw[run_callFunc_extern hf hname hb hn he,run_add64 x y c (by omega) (by omega) (by omega) (by omega)]
 simp only[Result.andThen,u7]
 congr 5
def Im (hf : P.funcs[f]? = some fn) (hname : (fn.name == "runtime.NumGoroutine") = false) (hb : fn.body.isNone = true) (hn : Extern.findNext fn = none) (he : Extern.find fn = some Go.Proofs.sub64Entry) (x y c : Nat) (w : QT) (hc : c <= 1) :
  (callFunc f #[.int .u64 x,.int .u64 y,.int .u64 c]).run P w=.ok (.value (s6 x y c)) w:=by
 rw[run_callFunc_extern hf hname hb hn he,Go.Proofs.run_sub64 x y c hc]
 rfl
end
noncomputable def G8 (v:QP) (k:Nat->Bool):Bool:=mz v fun kd z=>dS (jU kd .u64) (DF z k false) false
def oL{v:QP}{k:Nat->Bool}(h:G8 v k=true):∃x:Nat,v=.int .u64 x/\k x=true:=by
 obtain⟨kd,z,rfl,h⟩:=cT h;obtain⟨h1,h⟩:=bz h;cases eK h1;rcases iz h with⟨x,rfl,h⟩|h
 exact⟨x,rfl,h⟩
 cases h
noncomputable def xa (W:Nat->Nat->Nat->(QP->Bool)->Bool) (args:RR QP) (m:RN) (K:QP->RN->Bool):Bool :=
 dS (ED args 3) (xL 0 args fun a=>xL 1 args fun b=>xL 2 args fun d=>G8 a fun x=>G8 b fun y=>G8 d fun c=>dS (Nat.ble c 1) (W x y c fun v=>K v m) false) false
noncomputable def KH (x y c:Nat) (k:QP->Bool):Bool:=fN ((x+y+c)%18446744073709551616) fun s=>fN ((x+y+c)/18446744073709551616) fun d=>k (.tuple #[.int .u64 (.ofNat s),.int .u64 (.ofNat d)])
noncomputable def Ki (x y c:Nat) (k:QP->Bool):Bool:=fN ((x+18446744073709551616-y-c)%18446744073709551616) fun s=>dS (Nat.blt x (y+c)) (k (.tuple #[.int .u64 (.ofNat s),.int .u64 (.ofNat 1)])) (k (.tuple #[.int .u64 (.ofNat s),.int .u64 (.ofNat 0)]))
def Cj(x y c:Nat)(k:QP->Bool):KH x y c k=k (u7 x y c):=by unfold KH u7; rw[dn,dn]
def Bf(x y c:Nat)(k:QP->Bool):Ki x y c k=k (s6 x y c):=by
 unfold Ki s6;rw[dn]
 by_cases h:x<y+c
 have:Nat.blt x (y+c)=true:=by rw[Qd]; exact h
 rw[this,OM h]; rfl
 ·have:Nat.blt x (y+c)=false:=by
   cases hb:Nat.blt x (y+c) with
   | false=>rfl
   | true=>rw[Qd] at hb; exact O6 hb h
  rw[this,OJ h]; rfl
def lV{V:Nat->Nat->Nat->QP}{W:Nat->Nat->Nat->(QP->Bool)->Bool}(hW:∀x y c k,W x y c k=k (V x y c)){args:RR QP}{m:RN}{K:QP->RN->Bool}(h:xa W args m K=true):∃v m',dQ V args m=some (v,m')/\K v m'=true:=by
 unfold xa at h;obtain⟨hl,h⟩:=bz h;obtain⟨a,ha,h⟩:=fX h;obtain⟨b,hb,h⟩:=fX h;obtain⟨d,hd,h⟩:=fX h;obtain⟨x,ea,h⟩:=oL h;obtain⟨y,eb,h⟩:=oL h;obtain⟨c,ed,h⟩:=oL h;rw[ea] at ha; rw[eb] at hb; rw[ed] at hd;obtain⟨hc,h⟩:=bz h;rw[hW] at h;have hargs:args=[.int .u64 x,.int .u64 y,.int .u64 c]:=by
  have:=lY hl
  match args,this,ha,hb,hd with
  | [p,q,r],_,ha,hb,hd=>cases ha; cases hb; cases hd; rfl
 refine⟨_,_,?_,h⟩;rw[hargs]
 show(if Nat.ble c 1 then some (V x y c,m) else none)=_
 rw[hc]; rfl
end Go.Ab
end
section
section
open Go Go.Ab Go.Ab.W
def RH:Nat->Nat->RR Nat
 | _,0=>[]
 | a,n+1=>a::RH (a+1) n
end
namespace Go.Proofs.YtpkadoocdgdcfaaGreatDoor
open Go.ChangeShapes Go.WideShapes Go.ChangeAt Go.WideMaps Go.WideElems Go.RowKit Go.Ab
def My:ownKnob Tryz.prog.godebug=none:=by kernel_rfl
def NV : Tryz.prog.globalNamed "math/bits.deBruijn64tab" = some 0 := by kernel_rfl
def j7:RR Int:=[0,1,56,2,57,49,28,3,61,58,42,50,38,29,17,4,62,47,59,36,45,43,51,22,53,39,33,30,24,18,12,5,63,55,48,27,60,41,37,16,46,35,44,21,52,32,23,11,54,26,40,15,34,20,31,10,25,14,19,9,13,8,7,6]
abbrev qS : RR (String × DataW RS) := [("math/bits.deBruijn64tab", Rows.laid_math_bits_deBruijn64tab)]
def ft:Nat->RI (RR QP):=fun b=>if b=0 then some (j7.map (.int .u8)) else none
def Ob:RN:=CG 1 ft
noncomputable def wj (p q r:RI Prim) (f:R2):RI Prim:=if f=234 then some ⟨dQ u7⟩ else if f=251 then some ⟨dQ s6⟩ else if f=66 then p else if f=11 then q else if f=70 then r else none
noncomputable def eo (p q r:RI Prim):Env:={ P:=Tryz.prog,glob:=1,dj:=wj p q r,mono:=False}
noncomputable abbrev mC:Env:=eo none none none
def Gt:zp Tryz.prog=true:=by kernel_rfl
def rM{p q r:RI Prim}(hp:∀c,p=some c->∀args m v m',c.run args m=some (v,m')->∀(j:aT) (w:QT) (args':RR QP),MR (eo p q r) j m w->LR j args args'->dX Tryz.prog true 66 args'.toArray w (fA (eo p q r) j m w v m'))
  (hq:∀c,q=some c->∀args m v m',c.run args m=some (v,m')->∀(j:aT) (w:QT) (args':RR QP),MR (eo p q r) j m w->LR j args args'->dX Tryz.prog true 11 args'.toArray w (fA (eo p q r) j m w v m'))
  (hr:∀c,r=some c->∀args m v m',c.run args m=some (v,m')->∀(j:aT) (w:QT) (args':RR QP),MR (eo p q r) j m w->LR j args args'->dX Tryz.prog true 70 args'.toArray w (fA (eo p q r) j m w v m')):EnvOk (eo p q r):=EA Gt fun f pc hf args m v m' hrun j w args' hm hl=>by
 have hp':wj p q r f=some pc:=hf;unfold wj at hp'
 split at hp'
 rename_i hf;subst hf;cases hp';exact nF (E:=eo p q r) AP (fun x y c w hc=>HD Tryz.func234 (by kernel_rfl) (by kernel_rfl) (by kernel_rfl) (by kernel_rfl) x y c w hc) rfl hrun hm hl
 split at hp'
 rename_i hf;subst hf;cases hp';exact nF (E:=eo p q r) AI (fun x y c w hc=>Im Tryz.func251 (by kernel_rfl) (by kernel_rfl) (by kernel_rfl) (by kernel_rfl) x y c w hc) rfl hrun hm hl
 split at hp'
 rename_i hf;subst hf;have e:((eo p q r).dj 66).isSome=true:=by show(wj p q r 66).isSome=true; unfold wj; simp[hp']
 rw[e];exact hp pc hp' args m v m' hrun j w args' hm hl
 split at hp'
 rename_i hf;subst hf;have e:((eo p q r).dj 11).isSome=true:=by show(wj p q r 11).isSome=true; unfold wj; simp[hp']
 rw[e];exact hq pc hp' args m v m' hrun j w args' hm hl
 split at hp'
 rename_i hf;subst hf;have e:((eo p q r).dj 70).isSome=true:=by show(wj p q r 70).isSome=true; unfold wj; simp[hp']
 rw[e];exact hr pc hp' args m v m' hrun j w args' hm hl
 cases hp'
def oi:EnvOk mC:=rM (fun c h=>by cases h) (fun c h=>by cases h) (fun c h=>by cases h)
def zm(os:Os)(args:RU QP):laidMetH Tryz.prog qS ((World.doorLaid Tryz.prog 400 os).forCall (fun _ _=>0) ⟨#[],args,[]⟩).memory :=
 laidMetH_of_parts3 (fuel:=8) (laidMet_of_run' 8 (by kernel_rfl) (by kernel_rfl)) (by kernel_rfl) (by kernel_rfl)
noncomputable def kS (f:R2):RI PSem:=if f=234 then some ⟨xa KH⟩ else if f=251 then some ⟨xa Ki⟩ else none
def oU(p q r:RI Prim):Lj (eo p q r) kS:=by
 intro f S hS;unfold kS at hS
 split at hS
 rename_i e; cases hS; subst e;exact⟨⟨dQ u7⟩,rfl,fun h=>lV Cj h⟩
 split at hS
 rename_i e; cases hS; subst e;exact⟨⟨dQ s6⟩,rfl,fun h=>lV Bf h⟩
 cases hS
end Go.Proofs.YtpkadoocdgdcfaaGreatDoor
end
section
namespace Go.Ab.W
open Go Go.Ab
attribute [local irreducible] Tm.at Trie.set Trie.get RN.get RN.set RN.alloc RN.ww RN.kill
section
variable{E:Env}{n:Nat}{m0:RN}{fs:Fs}{ps ps':RR Pc}{ops:RU Oper}{os:RR Oper}{K:Tm->RN->Prop}{prs:RR (Nat×Nat)}
variable{ty:QQ}{p:String}{af:RU Edge}{d:Nat}{o:Op}{g:RI (Nat×Bool)}{v:QP}
inductive Nk
 | any
 | call
 | rd (b:Nat)
 | wr (b:Nat)
 | low (b:Nat)
 | kp (l:RR Nat)
 | rn (o:RI Nat)
 | ka (l:RR (RI Nat))
def Nk.of:Nk->Note->Prop
 | .any,_=>True
 | .call,x=>x.next<=x.wl
 | .rd b,x=>x.read=some b
 | .wr b,x=>x.wrote=some b
 | .low b,x=>b<x.wl
 | .kp l,x=>∀b∈l,x.kept b=true
 | .rn o,x=>x.read=o
 | .ka l,x=>∀b,some b∈l->x.kept b=true
def NR:RR Nk->RR Note->Prop
 | [],[]=>True
 | b::bs,x::xs=>du x=true/\b.of x/\NR bs xs
 | _,_=>False
def NR.at:∀{bs:RR Nk} {ns:RR Note} {i:Nat} {b:Nk},NR bs ns->bs[i]? = some b->∃x,ns[i]? = some x/\b.of x
 | b::bs,x::xs,0,c,h,e=>by simp only[OZ,Option.some.injEq] at e; subst e; exact⟨x,rfl,h.2.1⟩
 | b::bs,x::xs,i+1,c,h,e=>by rw[Pn] at e ⊢; exact NR.at h.2.2 e
 | [],[],i,c,h,e=>by simp at e
 | [],_::_,_,_,h,_=>h.elim
 | _::_,[],_,_,h,_=>h.elim
def NR.all:∀{bs:RR Nk} {ns:RR Note},NR bs ns->ns.all du=true
 | [],[],_=>rfl
 | _::_,_::_,h=>by rw[PI,h.1,NR.all h.2.2]; rfl
 | [],_::_,h=>h.elim
 | _::_,[],h=>h.elim
def NR.snoc:∀{bs:RR Nk} {ns:RR Note} {b:Nk} {x:Note},NR bs ns->du x=true->b.of x->NR (bs++[b]) (ns++[x])
 | [],[],_,_,_,h1,h2=>⟨h1,h2,trivial⟩
 | _::_,_::_,_,_,h,h1,h2=>⟨h.1,h.2.1,NR.snoc h.2.2 h1 h2⟩
 | [],_::_,_,_,h,_,_=>h.elim
 | _::_,[],_,_,h,_,_=>h.elim
def Nk.NA:Nk->Bool
 | .call=>true
 | _=>false
def Gb(ops:RU Oper)(ss:RR Nk)(p:Nat×Nat):Prop :=
 match ss[p.1]?,ss[p.2]? with
  | some (.rd b),some (.wr b')=>b≠b'/\aK (ops.getD p.1 default).op=false
  | some (.wr b),some (.rd b')=>b'≠b/\aK (ops.getD p.2 default).op=false
  | some (.rd b),some (.low b')=>b<=b'/\aK (ops.getD p.1 default).op=false
  | some (.low b),some (.rd b')=>b'<=b/\aK (ops.getD p.2 default).op=false
  | some (.rd b),some (.kp l)=>b∈l/\aK (ops.getD p.1 default).op=false
  | some (.kp l),some (.rd b)=>b∈l/\aK (ops.getD p.2 default).op=false
  | some (.rd b),some (.ka l)=>some b∈l/\aK (ops.getD p.1 default).op=false
  | some (.ka l),some (.rd b)=>some b∈l/\aK (ops.getD p.2 default).op=false
  | some (.rn o),some (.ka l)=>o∈l/\aK (ops.getD p.1 default).op=false
  | some (.ka l),some (.rn o)=>o∈l/\aK (ops.getD p.2 default).op=false
  | some a,some b=>((a.NA || !(aK (ops.getD p.1 default).op)) &&(b.NA || !(aK (ops.getD p.2 default).op)))=true
  | _,_=>False
def fo(ops:RU Oper)(ss:RR Nk):RR (Nat×Nat)->Prop
 | []=>True
 | p::ps=>Gb ops ss p/\fo ops ss ps
def Kp(ops:RU Oper)(ss:RR Nk):RR (Nat×Nat)->Bool
 | []=>true
 | p::ps=>(match ss[p.1]?,ss[p.2]? with
  | some (.rd _),some (.wr _)=>false
  | some (.wr _),some (.rd _)=>false
  | some (.rd _),some (.low _)=>false
  | some (.low _),some (.rd _)=>false
  | some (.rd _),some (.kp _)=>false
  | some (.kp _),some (.rd _)=>false
  | some (.rd _),some (.ka _)=>false
  | some (.ka _),some (.rd _)=>false
  | some (.rn _),some (.ka _)=>false
  | some (.ka _),some (.rn _)=>false
  | some a,some b=>((a.NA || !(aK (ops.getD p.1 default).op)) &&(b.NA || !(aK (ops.getD p.2 default).op)))
  | _,_=>false)&&Kp ops ss ps
def fo.all{ops:RU Oper}{ss:RR Nk}:∀{ps:RR (Nat×Nat)},Kp ops ss ps=true->fo ops ss ps
 | [],_=>trivial
 | p::ps,h=>by
  simp only[Kp,OD] at h;refine⟨?_,fo.all h.2⟩;have h1:=h.1;unfold Gb
  split at h1
  cases h1
  cases h1
  cases h1
  cases h1
  cases h1
  cases h1
  cases h1
  cases h1
  cases h1
  cases h1
  rename_i a b ha hb hn1 hn2;exact h1
  cases h1
def fo.nil{ops:RU Oper}{ss:RR Nk}:fo ops ss []:=trivial
section
variable{ops:RU Oper}{ss:RR Nk}{ps:RR (Nat×Nat)}{i j b b':Nat}{l:RR Nat}{o:RI Nat}{la:RR (RI Nat)}
def fo.rw(h1:ss[i]? = some (.rd b))(h2:ss[j]? = some (.wr b'))(he:aK (ops.getD i default).op=false)(hne:b≠b')(k:fo ops ss ps):fo ops ss ((i,j)::ps):=by
 refine⟨?_,k⟩;simp only[Gb,h1,h2]; exact⟨hne,he⟩
def fo.rk(h1:ss[i]? = some (.rd b))(h2:ss[j]? = some (.kp l))(he:aK (ops.getD i default).op=false)(hm:b∈l)(k:fo ops ss ps):fo ops ss ((i,j)::ps):=by
 refine⟨?_,k⟩;simp only[Gb,h1,h2]; exact⟨hm,he⟩
end
def Jb{r e:Note}(h:e.next<=e.wl):Note.ok r e=true:=by
 unfold Note.ok
 split
 rfl
 rename_i b _
 by_cases hb:b<e.wl
 simp[hb]
 have:e.next<=b:=by omega
 simp[this]
def BO{r e:Note}{b b':Nat}(h1:r.read=some b)(h2:e.wrote=some b')(hne:b≠b'):Note.ok r e=true:=by
 unfold Note.ok;rw[h1,h2];simp[hne]
def xV{r e:Note}{b b':Nat}(h1:r.read=some b)(h2:b'<e.wl)(hne:b<=b'):Note.ok r e=true:=by
 unfold Note.ok;rw[h1];simp[show b<e.wl by omega]
def BK{r e:Note}{b:Nat}{l:RR Nat}(h1:r.read=some b)(h2:∀b∈l,e.kept b=true)(hm:b∈l):Note.ok r e=true:=by
 unfold Note.ok;rw[h1];simp[h2 b hm]
def vr{r e:Note}{b:Nat}{l:RR (RI Nat)}(h1:r.read=some b)(h2:∀b,some b∈l->e.kept b=true)(hm:some b∈l):Note.ok r e=true:=by
 unfold Note.ok;rw[h1];simp[h2 b hm]
def Bt{r e:Note}{o:RI Nat}{l:RR (RI Nat)}(h1:r.read=o)(h2:∀b,some b∈l->e.kept b=true)(hm:o∈l):Note.ok r e=true:=by
 cases o with
 | none=>unfold Note.ok; rw[h1]
 | some b=>exact vr h1 h2 hm
def Nk.ok{a b:Nk}{x y:Note}(_:a.of x)(hy:b.of y)(h:b.NA=true):Note.ok x y=true:=by
 cases b with
 | call=>exact Jb hy
 | _=>cases h
def zf{ops:RU Oper}{ss:RR Nk}{ns:RR Note}(h:NR ss ns):∀{prs:RR (Nat×Nat)},fo ops ss prs->prs.all (dD ns ops)=true
 | [],_=>rfl
 | p::prs,hk=>by
  rw[PI,zf h hk.2,Bool.and_true];have h1:=hk.1;unfold Gb at h1
  split at h1
  rename_i b b' ha hb;obtain⟨x,hx1,hx2⟩:=h.at ha;obtain⟨y,hy1,hy2⟩:=h.at hb;simp only[dD,hx1,hy1,BO hx2 hy2 h1.1,h1.2,Qz,PC,Qy,PA]
  rename_i b b' ha hb;obtain⟨x,hx1,hx2⟩:=h.at ha;obtain⟨y,hy1,hy2⟩:=h.at hb;simp only[dD,hx1,hy1,BO hy2 hx2 h1.1,h1.2,Qz,PC,Qy,PA]
  rename_i b b' ha hb;obtain⟨x,hx1,hx2⟩:=h.at ha;obtain⟨y,hy1,hy2⟩:=h.at hb;simp only[dD,hx1,hy1,xV hx2 hy2 h1.1,h1.2,Qz,PC,Qy,PA]
  rename_i b b' ha hb;obtain⟨x,hx1,hx2⟩:=h.at ha;obtain⟨y,hy1,hy2⟩:=h.at hb;simp only[dD,hx1,hy1,xV hy2 hx2 h1.1,h1.2,Qz,PC,Qy,PA]
  rename_i b b' ha hb;obtain⟨x,hx1,hx2⟩:=h.at ha;obtain⟨y,hy1,hy2⟩:=h.at hb;simp only[dD,hx1,hy1,BK hx2 hy2 h1.1,h1.2,Qz,PC,Qy,PA]
  rename_i b b' ha hb;obtain⟨x,hx1,hx2⟩:=h.at ha;obtain⟨y,hy1,hy2⟩:=h.at hb;simp only[dD,hx1,hy1,BK hy2 hx2 h1.1,h1.2,Qz,PC,Qy,PA]
  rename_i b l ha hb;obtain⟨x,hx1,hx2⟩:=h.at ha;obtain⟨y,hy1,hy2⟩:=h.at hb;simp only[dD,hx1,hy1,vr hx2 hy2 h1.1,h1.2,Qz,PC,Qy,PA]
  rename_i b l ha hb;obtain⟨x,hx1,hx2⟩:=h.at ha;obtain⟨y,hy1,hy2⟩:=h.at hb;simp only[dD,hx1,hy1,vr hy2 hx2 h1.1,h1.2,Qz,PC,Qy,PA]
  rename_i b l ha hb;obtain⟨x,hx1,hx2⟩:=h.at ha;obtain⟨y,hy1,hy2⟩:=h.at hb;simp only[dD,hx1,hy1,Bt hx2 hy2 h1.1,h1.2,Qz,PC,Qy,PA]
  rename_i b l ha hb;obtain⟨x,hx1,hx2⟩:=h.at ha;obtain⟨y,hy1,hy2⟩:=h.at hb;simp only[dD,hx1,hy1,Bt hy2 hx2 h1.1,h1.2,Qz,PC,Qy,PA]
  rename_i a b _ _ _ _ _ _ _ _ _ _ ha hb;obtain⟨x,hx1,hx2⟩:=h.at ha;obtain⟨y,hy1,hy2⟩:=h.at hb;simp only[OD,PN,Pv] at h1;simp only[dD,hx1,hy1,OD,PN,Pv];refine⟨?_,?_⟩
  rcases h1.2 with h2|h2
  exact .inr (Nk.ok hx2 hy2 h2)
  exact .inl h2
  rcases h1.1 with h2|h2
  exact .inr (Nk.ok hy2 hx2 h2)
  exact .inl h2
  exact h1.elim
def NR.rev:∀{bs:RR Nk} {ns:RR Note},NR bs ns->NR bs.reverse ns.reverse
 | [],[],_=>trivial
 | b::bs,x::xs,h=>by
  rw[List.reverse_cons,List.reverse_cons];exact(NR.rev h.2.2).snoc h.1 h.2.1
 | [],_::_,h=>h.elim
 | _::_,[],h=>h.elim
variable{ss:RR Nk}
def Wn(E:Env)(n:Nat)(ops:RU Oper)(prs:RR (Nat×Nat))(K:Tm->RN->Prop)(os:RR Oper)(ss:RR Nk)(m0:RN)(fs:Fs)(ps:RR Pc):Prop :=
 ∀t m ns,Fr t fs->Hp m0 m ps->NR ss ns->dW E n ops (fun t m ns=>(prs.all (dD ns ops)&&ns.all du)=true/\K t m) os t m ns
def Wn.nil{Q:RO->Tm->RN->Prop}(hk:∀m,Hp m0 m ps->fo ops ss.reverse prs)(h:At Q .normal m0 fs ps):Wn E n ops prs (Q .normal) [] ss m0 fs ps:=fun t m ns hf hm hn=>by
 refine⟨?_,h t m hf hm⟩;rw[zf hn.rev (hk m hm),hn.rev.all]; rfl
def Wn.xg{α:Type}{V:α->QP}{N:α->RR Pc}{c:Nk}(h:∀t m,Fr t fs->Hp m0 m ps->m.wl=m.next->(∀b,bg E t o=some b->b<m.next)/\∀K:QP->RN->Prop,(∀x m',Hp m0 m' (N x)->c.of { read:=bg E t o,wl:=m'.wl,next:=m.next,wrote:=ek E t o,kept:=gY m m'}->K (V x) m')->bN E t m o K)
  (hg:xj ops fs g true) (dst:RI Nat) (hd:∀d,dst=some d->Nat.blt d n=true) (k:∀x,Wn E n ops prs K os (c::ss) m0 (match dst with|some d=>(d,V x)::fs|none=>fs) (N x)):Wn E n ops prs K (⟨dst,o,ty,p,af,g⟩::os) ss m0 fs ps:=by
 intro t m ns hf hm hn;simp only[dW,hg t _ _ _ _ _ hf,if_true];have hx:=hm.ext.next
 have hm':Hp m0 (m.ww m.next) ps:=hm.ww (by omega)
 have hwl:(m.ww m.next).wl=(m.ww m.next).next:=by rw[RN.wl_ww,RN.next_ww]
 have e0:({ next:=m.next,wl:=m.next,cd:=m.cd,base:=m.base}:RN)=m.ww m.next:=by unfold RN.ww; rfl
 rw[e0];obtain⟨h1,h2⟩:=h t _ hf hm' hwl;rw[RN.next_ww] at h1;refine bN.A (h2 _ fun x m' hm'' hc=>?_);rw[RN.next_ww] at hc;have hw:=hm''.ext.wl;have e1:({ next:=m'.next,wl:=min m.wl m'.wl,cd:=m'.cd,base:=m'.base}:RN)=m'.ww (min m.wl m'.wl):=by unfold RN.ww; rfl
 have hw0:=hm.ext.wl;have hfin:Hp m0 (m'.ww (min m.wl m'.wl)) (N x):=hm''.ww (by omega)
 have hkp:gY (m.ww m.next) m'=gY m m':=by
  funext b
  unfold gY;rw[RN.get_ww]
 rw[hkp] at hc;have hnr:NR (c::ss) ({ read:=bg E t o,wl:=m'.wl,next:=m.next,wrote:=ek E t o,kept:=gY m m'}::ns):=⟨uA h1,hc,hn⟩
 cases dst with
 | none=>exact⟨t,rfl,by rw[e1]; exact k x t _ _ hf hfin hnr⟩
 | some d =>
  have hd':d<n:=by have:=hd d rfl; rwa[Qd] at this
  exact⟨t.set d (V x),by rw[cP,OM hd'],by rw[e1]; exact k x _ _ _ hf.set hfin hnr⟩
def Wn.x{α:Type}{V:α->QP}{N:α->RR Pc}(h:Ox E m0 fs ps o V N)(hg:xj ops fs g true)(hd:Nat.blt d n=true)(k:∀x,Wn E n ops prs K os (.any::ss) m0 ((d,V x)::fs) (N x)):Wn E n ops prs K (⟨some d,o,ty,p,af,g⟩::os) ss m0 fs ps :=
 Wn.xg (c:=.any) (fun t m hf hm _=>⟨(h t m hf hm).1,fun K hK=>(h t m hf hm).2 K fun x m' h1=>hK x m' h1 trivial⟩) hg (some d) (fun d' e=>by cases e; exact hd) k
def Wn.x0{α:Type}{V:α->QP}{N:α->RR Pc}(h:Ox E m0 fs ps o V N)(hg:xj ops fs g true)(k:∀x,Wn E n ops prs K os (.any::ss) m0 fs (N x)):Wn E n ops prs K (⟨none,o,ty,p,af,g⟩::os) ss m0 fs ps :=
 Wn.xg (c:=.any) (fun t m hf hm _=>⟨(h t m hf hm).1,fun K hK=>(h t m hf hm).2 K fun x m' h1=>hK x m' h1 trivial⟩) hg none (fun d' e=>by cases e) k
def Ai:QP->Bool
 | .int _ _|.bool _|.slice _ _ _|.map _|.pointer _=>true
 | _=>false
def MX:QP->Bool
 | .func (.func _) a c=>a.toList.all Ai&&c.toList.all Ai
 | v=>Ai v
def CW{α:Type}(ps:RR Pc)(N:α->RR Pc):RR Nat->Prop
 | []=>True
 | b::l=>(∃cs k,pk ps k=some (.obj b (.cells cs .own))/\cs.all MX=true/\∀x,∃k',pk (N x) k'=some (.obj b (.cells cs .own)))/\CW ps N l
def E2{m m':RN}{b:Nat}(h:m.get b=m'.get b):gY m m' b=true:=by
 unfold gY;rw[PN];exact .inr (@decide_eq_true _ (Classical.propDecidable _) h)
def CW.kept{α:Type}{N:α->RR Pc}{m m':RN}{x:α}(hm:Hp m0 m ps)(hm':Hp m0 m' (N x)):∀{l:RR Nat},CW ps N l->∀b∈l,gY m m' b=true
 | [],_,b,hb=>by cases hb
 | c::l,h,b,hb=>by
  rcases Pb.1 hb with rfl|hb
  obtain⟨cs,k,h1,h2,h3⟩:=h.1;obtain⟨k',h4⟩:=h3 x;exact E2 (by rw[(hm.get h1).2.2,(hm'.get h4).2.2])
  exact CW.kept hm hm' h.2 b hb
def Wn.xk{α:Type}{V:α->QP}{N:α->RR Pc}{l:RR Nat}(h:Ox E m0 fs ps o V N)(hl:CW ps N l)(hg:xj ops fs g true)(hd:Nat.blt d n=true)(k:∀x,Wn E n ops prs K os (.kp l::ss) m0 ((d,V x)::fs) (N x)):Wn E n ops prs K (⟨some d,o,ty,p,af,g⟩::os) ss m0 fs ps :=
 Wn.xg (c:=.kp l) (fun t m hf hm _=>⟨(h t m hf hm).1,fun K hK=>(h t m hf hm).2 K fun x m' h1=>hK x m' h1 (CW.kept hm h1 hl)⟩) hg (some d) (fun d' e=>by cases e; exact hd) k
def Hp.ne{m:RN}{i j b b':Nat}{x y:Pc}(h:Hp m0 m ps)(hx:pk ps i=some x)(hy:pk ps j=some y)(hb:x.sV=some b)(hb':y.sV=some b')(hne:i≠j)(ho:x.own=true):b≠b':=fun e=>(gB h.apart hx hy hne).1 b (Pc.Ma ho hb) (.inl (by rw[e]; exact hb'))
def Oc(E:Env)(m0:RN)(fs:Fs)(ps:RR Pc)(o:Op){α:Type}(V:α->QP)(N:α->RR Pc):Prop :=
 ∀t m,Fr t fs->Hp m0 m ps->m.wl=m.next->(∀b,bg E t o=some b->b<m.next)/\∀K:QP->RN->Prop,(∀x m',Hp m0 m' (N x)->m.next<=m'.wl->K (V x) m')->bN E t m o K
def oj{α:Type}{V:α->QP}{N:α->RR Pc}{f:QR}{g:R2}{ars:RU QR}{ts:RU QQ}{args:RR QP}(hf:ev E fs f=some (.func (.func g) #[] #[]))(ha:mw E fs ars.toList=some args)(hc:∀m,Hp m0 m ps->aG E g args m (fun v m'=>∃x,v=V x/\Hp m m' (N x)))(ho:∀x,vg (N x)=true):Oc E m0 fs ps (.call ⟨.value f,ars,ts⟩) V (fun x=>N x++ps) :=
 fun t m hfr hm hwl=>⟨fun b hb=>(by simp[bg] at hb),fun K hK=>by
  show lK E (ax E t f) (bH E t ars.toList) m _
  rw[hfr.ev hf,hfr.mw ha,rJ];refine(hc m hm).mono fun v m' ⟨x,e,h⟩=>?_;rw[e];refine hK x m' (hm.after h fun p hp=>OV.1 (ho x) p hp) ?_;have:=h.ext.wl;omega⟩
def Wn.c{α:Type}{V:α->QP}{N:α->RR Pc}(h:Oc E m0 fs ps o V N)(hg:xj ops fs g true)(hd:Nat.blt d n=true)(k:∀x,Wn E n ops prs K os (.call::ss) m0 ((d,V x)::fs) (N x)):Wn E n ops prs K (⟨some d,o,ty,p,af,g⟩::os) ss m0 fs ps :=
 Wn.xg (c:=.call) (fun t m hf hm hw=>⟨(h t m hf hm hw).1,fun K hK=>(h t m hf hm hw).2 K fun x m' h1 h2=>hK x m' h1 h2⟩) hg (some d) (fun d' e=>by cases e; exact hd) k
def Wn.od(h:Od E m0 fs ps o v ps')(hd:Nat.blt d n=true)(k:Wn E n ops prs K os (.any::ss) m0 ((d,v)::fs) ps'):Wn E n ops prs K (⟨some d,o,ty,p,af,none⟩::os) ss m0 fs ps:=Wn.x h.x gn hd fun _=>k
def Wn.o0(h:Od E m0 fs ps o v ps')(k:Wn E n ops prs K os (.any::ss) m0 fs ps'):Wn E n ops prs K (⟨none,o,ty,p,af,none⟩::os) ss m0 fs ps:=Wn.x0 h.x gn fun _=>k
def Wn.og(h:Od E m0 fs ps o v ps')(hg:xj ops fs g true)(hd:Nat.blt d n=true)(k:Wn E n ops prs K os (.any::ss) m0 ((d,v)::fs) ps'):Wn E n ops prs K (⟨some d,o,ty,p,af,g⟩::os) ss m0 fs ps:=Wn.x h.x hg hd fun _=>k
def Wn.Om{x:QR}{b off:Nat}{ty':QQ}(hx:ev E fs x=some (ptr b off))(h:Od E m0 fs ps (.load ty' x) v ps')(hg:xj ops fs g true)(hd:Nat.blt d n=true)(k:Wn E n ops prs K os (.rd b::ss) m0 ((d,v)::fs) ps'):Wn E n ops prs K (⟨some d,.load ty' x,ty,p,af,g⟩::os) ss m0 fs ps :=
 Wn.xg (V:=fun _:RS=>v) (N:=fun _=>ps') (c:=.rd b) (fun t m hf hm _=>⟨(h t m hf hm).1,fun K hK=>(h t m hf hm).2 K fun m' h1=>hK () m' h1 (by show bg E t (.load ty' x)=some b; simp only[bg,hf.ev hx]; rfl)⟩) hg (some d) (fun d' e=>by cases e; exact hd) fun _=>k
def Wn.No{x:QR}{b off:Nat}{ty':QQ}(hx:ev E fs x=some (ptr b off))(h:Od E m0 fs ps (.load ty' x) v ps')(hd:Nat.blt d n=true)(k:Wn E n ops prs K os (.rd b::ss) m0 ((d,v)::fs) ps'):Wn E n ops prs K (⟨some d,.load ty' x,ty,p,af,none⟩::os) ss m0 fs ps:=Wn.Om hx h gn hd k
def Wn.N0{x y:QR}{b off:Nat}{ty':QQ}(hx:ev E fs x=some (ptr b off))(h:Od E m0 fs ps (.store ty' x y) v ps')(hg:xj ops fs g true)(k:Wn E n ops prs K os (.wr b::ss) m0 fs ps'):Wn E n ops prs K (⟨none,.store ty' x y,ty,p,af,g⟩::os) ss m0 fs ps :=
 Wn.xg (V:=fun _:RS=>v) (N:=fun _=>ps') (c:=.wr b) (fun t m hf hm _=>⟨(h t m hf hm).1,fun K hK=>(h t m hf hm).2 K fun m' h1=>hK () m' h1 (by show ek E t (.store ty' x y)=some b; simp only[ek,hf.ev hx]; rfl)⟩) hg none (fun d' e=>by cases e) fun _=>k
def Wn.Oj{x y:QR}{b off:Nat}{ty':QQ}(hx:ev E fs x=some (ptr b off))(h:Od E m0 fs ps (.store ty' x y) v ps')(k:Wn E n ops prs K os (.wr b::ss) m0 fs ps'):Wn E n ops prs K (⟨none,.store ty' x y,ty,p,af,none⟩::os) ss m0 fs ps:=Wn.N0 hx h gn k
def Wn.s(hg:xj ops fs g false)(hd:Nat.blt d n=true)(k:Wn E n ops prs K os (.call::ss) m0 ((d,undef)::fs) ps):Wn E n ops prs K (⟨some d,o,ty,p,af,g⟩::os) ss m0 fs ps:=by
 have hd':d<n:=by rwa[Qd] at hd
 intro t m ns hf hm hn;simp only[dW,hg t _ _ _ _ _ hf,OT,if_false];exact⟨t.set d undef,by rw[cP,OM hd'],k _ _ _ hf.set hm ⟨rfl,OF _,hn⟩⟩
def Wn.ei(h:ah m0 ps ps')(k:Wn E n ops prs K os ss m0 fs ps'):Wn E n ops prs K os ss m0 fs ps:=fun t m ns hf hm hn=>k t m ns hf (h m hm) hn
def Wn.open{k w l:Nat}{a:QN}{es:QM}(hp:pk ps k=some (.sl a w l es))(hl:0<l)(h:∀b tg,a=some ⟨b,0,none⟩->B7 tg=true->Wn E n ops prs K os ss m0 fs (dE ps k (.arr b w l es tg))):Wn E n ops prs K os ss m0 fs ps:=by
 intro t m ns hf hm hn;rcases hm.get hp with⟨h1,_⟩|⟨b,tg,rfl,h1⟩
 omega
 exact h b tg rfl (by rcases h1.2.2.2.2.2.1 with rfl|rfl<;>rfl) t m ns hf (hm.put hp rfl rfl rfl (OF _) hm.ext h1 fun _ _ _=>rfl) hn
def Wn.bJ{k w l cap:Nat}{a:QN}{es:QM}(hp:pk ps k=some (.rd a cap w l es))(hl:0<l)(h:∀b o,a=some ⟨b,o,none⟩->Wn E n ops prs K os ss m0 fs (.ro b o w l es::ps)):Wn E n ops prs K os ss m0 fs ps:=by
 intro t m ns hf hm hn;obtain⟨h1,h2,h3⟩:=hm.get hp;rcases h3 with⟨_,h3⟩|⟨_,_,_,h3,_⟩|⟨b,o,rfl,h3⟩
 omega
 omega
 exact h b o rfl t m ns hf (hm.more hp rfl ⟨h1,h3⟩ rfl fun b' hb=>hb) hn
def Wn.len{α:Type}{f:α->RR QP}{k w l:Nat}{a:QN}{xs:RR α}(hp:pk ps k=some (.sl a w l (xs.map f)))(h:l=xs.length->Wn E n ops prs K os ss m0 fs ps):Wn E n ops prs K os ss m0 fs ps:=fun t m ns hf hm hn=>by
 refine h ?_ t m ns hf hm hn;rcases hm.get hp with⟨h0,h1,_⟩|⟨b,tg,_,h1⟩
 rw[h0,List.map_eq_nil_iff.1 h1]; rfl
 have:=h1.2.2.2.1; rw[O7] at this; exact this.symm
def Wk.cB{fn:R2}{ro:RI Nat}{Q:RO->Tm->RN->Prop}{id:Nat}(hp:iQ ops=some prs)(h:Wn E n ops prs (Q .normal) ops.toList [] m0 fs ps):Wk E n fn ro (.region id ops true) Q m0 fs ps:=fun t m hf hm=>.draw hp (h t m [] hf hm trivial)
end
section
variable{E:Env}{n:Nat}{fn:R2}{m0:RN}{fs:Fs}{ps:RR Pc}{Q:RO->Tm->RN->Prop}
structure Rn where
 st:LoopState
 pe:RI Code
 ps:RR Pc
end
section
variable{E:Env}{n:Nat}{m0 m1 m m':RN}{fs:Fs}{ps:RR Pc}{ops:RU Oper}{os:RR Oper}{K:Tm->RN->Prop}{x y:QR}{ty:QQ}
end
section
variable{α β:Type}[DecidableEq α]
structure KeyE(P:QS)(kt:QQ)(kE:α->QP):Prop where
 eq:∀a b,kV P Op.maxDepth kt (kE a) (kE b)=some (decide (a=b))
 ok:∀a,iW P kt (kE a)=true
 plain:∀a,bO (kE a)=true
 same:∀a,Instr.sameBits 10000 (kE a) (kE a)=true
end
section
variable{E:Env}{n:Nat}{m0 m:RN}{fs:Fs}{ps:RR Pc}{x y z:QR}{ty:QQ}
variable{α β:Type}[DecidableEq α]
def Wk.label{fn:R2}{ro:RI Nat}{Q:RO->Tm->RN->Prop}{l:Nat}(h:At Q .normal m0 fs ps):Wk E n fn ro (.label l) Q m0 fs ps:=fun t m hf hm=>.label (h t m hf hm)
def EW{γ:Type}{f:γ->RR QP}{xs:RR γ}{k cap w l:Nat}{a:QN}(h:Hp m0 m ps)(hp:pk ps k=some (.rd a cap w l (xs.map f))):l=xs.length:=by
 have:=(h.get hp).1;rw[O7] at this;exact this.symm
end
section
variable{E:Env}{n:Nat}{m0 m:RN}{fs:Fs}{ps ps':RR Pc}{x y z:QR}{ty:QQ}
end
end Go.Ab.W
section
open Go Go.Ab Go.Ab.W
abbrev Rx:=@Wn.nil
abbrev Rw:=@Wn.c
abbrev Rc:=@Wn.od
abbrev RE:=@Wn.o0
abbrev RG:=@Wn.og
abbrev RD:=@Wk.cB
end
end
section
namespace Go.Ab.W
open Go Go.Ab
set_option maxRecDepth 10000
attribute [local irreducible] Tm.at Trie.set Trie.get RN.get RN.set RN.alloc RN.ww
section
variable{E:Env}{n:Nat}{m0:RN}{fs:Fs}{ps:RR Pc}{x y z:QR}{v:QP}{ty ty2:QQ}
end
end Go.Ab.W
end
section
namespace Go.Ab.W
open Go Go.Ab
attribute [local irreducible] Tm.at Trie.set Trie.get RN.get RN.set RN.alloc RN.ww RN.kill
section
variable{α:Type}
def LG:RR α->RI (α×α×α×α×α×α×α×α)
 | [a,b,c,d,e,f,g,h]=>some (a,b,c,d,e,f,g,h)
 | _=>none
def nL{xs:RR α}{a b c d e f g h:α}(hx:LG xs=some (a,b,c,d,e,f,g,h)):xs=[a,b,c,d,e,f,g,h]:=by
 unfold LG at hx
 split at hx
 cases hx; rfl
 cases hx
end
section
variable{E:Env}{n:Nat}{m0 m:RN}{fs:Fs}{ps:RR Pc}{x y z:QR}{ty:QQ}
def ah.pY{α:Type}{xs:RR α}{f:α->RR QP}{k b w l:Nat}{cs:RR QP}(hp:pk ps k=some (.obj b (.cells cs .own)))(hx:cs=(xs.map f).flatten)(hl:xs.length=l)(he:Enc f w)(h0:Nat.blt 0 w=true):ah m0 ps (dE ps k (.arr b w l (xs.map f) .own)):=fun m h=>by
 subst hx;exact h.put hp rfl rfl rfl (OF _) h.ext ⟨(h.get hp).1,(h.get hp).2.1,(h.get hp).2.2,by rw[O7]; exact hl,fun e hm=>by obtain⟨x,_,rfl⟩:=Qw.1 hm; exact he.1 x,.inl rfl,by rwa[Qd] at h0⟩ fun _ _ _=>rfl
def ah.vH{α:Type}{xs ys:RR α}{f:α->RR QP}{k b w l:Nat}{cs:RR QP}{tg:Tag}(hp:pk ps k=some (.arr b w l (xs.map f) tg))(hx:xs=ys)(hc:(ys.map f).flatten=cs):ah m0 ps (dE ps k (.obj b (.cells cs tg))):=fun m h=>by
 subst hx hc;exact h.put hp rfl rfl rfl (OF _) h.ext ⟨(h.get hp).1,(h.get hp).2.1,(h.get hp).2.2.1⟩ fun _ _ _=>rfl
def kC{el:QQ}{b len w:Nat}{i:Int}{kd:IntKind}(h:ArT E.P ty el len w)(hx:ev E fs x=some (ptr b 0))(hy:ev E fs y=some (.int kd i))(hi:0<=i/\i.toNat<len):Od E m0 fs ps (.indexAddr ty x y) (ptr b (i.toNat*w+0)) ps:=by
 obtain⟨j,rfl⟩:=Int.eq_ofNat_of_zero_le hi.1;have hj:j<len:=by simpa using hi.2
 refine yH hx hy ?_;rw[An h (b:=b) (o:=0) hj];simp
end
section
variable{E:Env}{n:Nat}{m0 m:RN}{fs:Fs}{ps:RR Pc}
def yq(l:RR Pc):Bool:=l.all Pc.bound
def bA{α:Type}{V:α->QP}{N:α->RR Pc}{f:QR}{g:R2}{ars:RU QR}{ts:RU QQ}{args:RR QP}(hf:ev E fs f=some (.func (.func g) #[] #[]))(ha:mw E fs ars.toList=some args)(hc:∀m,Hp m0 m ps->aG E g args m (fun v m'=>∃x,v=V x/\Hp m m' (N x++[.gen (aF (Dw ps))])))(ho:∀x,yq (N x)=true):Ox E m0 fs ps (.call ⟨.value f,ars,ts⟩) V (fun x=>N x++ps) :=
 lJ hf ha fun m hm=>by
  simp only[PM,P2];exact(hc m hm).mono fun v m' ⟨x,e,h⟩=>⟨x,e,hm.Gj h fun p hp=>OV.1 (ho x) p hp⟩
def bu{α:Type}{V:α->QP}{N:α->RR Pc}{f:QR}{g:R2}{ars:RU QR}{ts:RU QQ}{args:RR QP}(hf:ev E fs f=some (.func (.func g) #[] #[]))(ha:mw E fs ars.toList=some args)(hc:∀m,Hp m0 m ps->aG E g args m (fun v m'=>∃x,v=V x/\Hp m m' (N x++[.gen (aF (Dw ps))])))(ho:∀x,yq (N x)=true):Oc E m0 fs ps (.call ⟨.value f,ars,ts⟩) V (fun x=>N x++ps) :=
 fun t m hfr hm hwl=>⟨fun b hb=>(by simp[bg] at hb),fun K hK=>by
  show lK E (ax E t f) (bH E t ars.toList) m _
  rw[hfr.ev hf,hfr.mw ha,rJ];refine(hc m hm).mono fun v m' ⟨x,e,h⟩=>?_;rw[e];refine hK x m' (hm.Gj h fun p hp=>OV.1 (ho x) p hp) ?_;have:=h.ext.wl;omega⟩
end
section
variable{E:Env}{n:Nat}{m0:RN}{fs:Fs}{ps:RR Pc}{ops:RU Oper}{os:RR Oper}{dr:Bool}
def Wo.aI{K:Tm->RN->Prop}{α:Type}{f:α->RR QP}{k w l cap:Nat}{a:QN}{xs:RR α}(hp:pk ps k=some (.rd a cap w l (xs.map f)))(h:l=xs.length->Wo dr E n ops K os m0 fs ps):Wo dr E n ops K os m0 fs ps:=by
 have key:∀m,Hp m0 m ps->l=xs.length:=fun m hm=>EW hm hp;cases dr with
 | false=>exact fun t m hf hm=>h (key m hm) t m hf hm
 | true=>exact fun t m w hf hm hw=>h (key m hm) t m w hf hm hw
def Wn.aI{prs:RR (Nat×Nat)}{K:Tm->RN->Prop}{ss:RR Nk}{α:Type}{f:α->RR QP}{k w l cap:Nat}{a:QN}{xs:RR α}(hp:pk ps k=some (.rd a cap w l (xs.map f)))(h:l=xs.length->Wn E n ops prs K os ss m0 fs ps):Wn E n ops prs K os ss m0 fs ps :=
 fun t m ns hf hm hn=>h (EW hm hp) t m ns hf hm hn
end
section
variable{E:Env}{m0:RN}{fs:Fs}{ps:RR Pc}{ty:QQ}
def Ms{α:Type}{f:α->RR QP}{elem ty2:QQ}{w k c0 l l2:Nat}{a a1:QN}{xs ys:RR α}{ars:RU QR}(he:Enc f w)(ht:SlT E.P ty elem w)(h4:∃e2,E.P.underlying ty2=some (.slice e2))(ha:mw E fs ars.toList=some [.slice a l l,.slice a1 l2 c0])(hp:pk ps k=some (.sl a w l (xs.map f)))(hr:∀m,Hp m0 m ps->Rd m a1 c0 w l2 (ys.map f))(hl:lim (xs++ys).length=true) :
  Ox E m0 fs ps (.call ⟨.builtin .append,ars,#[ty,ty2]⟩) (fun a':QN=>.slice a' (xs++ys).length (xs++ys).length) (fun a'=>dE ps k (.sl a' w (xs++ys).length ((xs++ys).map f))):=fun t m hf hm=>⟨fun b hb=>(by simp[bg] at hb),fun K hK=>by
 have h1:l=xs.length:=by
  have:=hm.get hp;rcases this with⟨h5,h1,_⟩|⟨b,tg,_,h1⟩
  rw[h5,List.map_eq_nil_iff.1 h1]; rfl
  have:=h1.2.2.2.1; rw[O7] at this; exact this.symm
 have h2:l2=ys.length:=by
  have:=(hr m hm).1; rw[O7] at this; exact this.symm
 have e2:l+l2=(xs++ys).length:=by rw[h1,h2,OU]
 obtain⟨a',m',h3,h0⟩:=oI (n:=l) ht h4 hm hp (hr m hm) (he.vE ys) (he.gP ys) (by rw[e2]; exact hl)
 have:bP E.P .append #[ty,ty2] [.slice a l l,.slice a1 l2 c0] m=some (.slice a' (l+l2) (l+l2),m'):=h3;rw[Go.Ab.ie (hf.mw ha) this];have e1:xs.map f++ys.map f=(xs++ys).map f:=List.map_append.symm;rw[e1,e2] at h0;rw[e2];exact hK a' m' h0⟩
end
section
def nZ(c:QP)(cs:RR QP)(o:Nat)(vs:RR QP):aR (c::cs) (o+1) vs=c::aR cs o vs:=by cases vs<;>rfl
def fx:∀(cs:RR QP) (o:Nat),aR cs o []=cs
 | [],0=>rfl
 | _::_,0=>rfl
 | [],_+1=>rfl
 | c::cs,o+1=>by rw[nZ,fx cs o]
def p5{f:Nat->RR QP}{v:Nat->QP}(hf:∀x,f x=[v x]):∀{ys xs zs:RR Nat},ys++xs.drop ys.length=zs->ys.length<=xs.length->aR (xs.map f).flatten 0 (ys.map f).flatten=(zs.map f).flatten
 | [],xs,zs,h,_=>by
  rw[PM,List.length_nil,List.drop_zero] at h;rw[h];exact fx _ 0
 | y::ys,[],zs,_,hl=>by simp at hl
 | y::ys,x::xs,zs,h,hl=>by
  have ih:=p5 hf (ys:=ys) (xs:=xs) (zs:=ys++xs.drop ys.length) rfl (by simpa using hl)
  subst h;simp only[QH,Px,hf,QE,PM,Pg,List.drop_succ_cons] at ih ⊢
  show v y::aR _ 0 _=_
  rw[ih]
def M7{f:Nat->RR QP}{v:Nat->QP}(hf:∀x,f x=[v x]){c:QP}{ys xs zs:RR Nat}(h:ys++xs.drop ys.length=zs)(hl:ys.length<=xs.length):aR (c::(xs.map f).flatten) 1 (ys.map f).flatten=c::(zs.map f).flatten:=by
 rw[show(1:Nat)=0+1 from rfl,nZ,p5 hf h hl]
variable{E:Env}{m0:RN}{fs:Fs}{ps:RR Pc}{ty:QQ}
def MB{f:Nat->RR QP}{elem ty2:QQ}{k b o q c0 l2:Nat}{a1:QN}{cs cs':RR QP}{ys:RR Nat}{ars:RU QR}(he:Enc f 1)(ht:SlT E.P ty elem 1)(ha:mw E fs ars.toList=some [.slice (some ⟨b,o,none⟩) q q,.slice a1 l2 c0])(hp:pk ps k=some (.obj b (.cells cs .own)))(hr:∀m,Hp m0 m ps->Rd m a1 c0 1 l2 (ys.map f))(hq:decide (ys.length<=q)=true)(ho:Nat.ble (o+q) cs.length=true)(hs:aR cs o (ys.map f).flatten=cs') :
  Od E m0 fs ps (.call ⟨.builtin .copy,ars,#[ty,ty2]⟩) (.int .i64 (ys.length:Int)) (dE ps k (.obj b (.cells cs' .own))):=fun t m hf hm=>⟨fun b hb=>(by simp[bg] at hb),fun K hK=>by
 have h2:l2=ys.length:=by
  have:=(hr m hm).1; rw[O7] at this; exact this.symm
 have hq':=of_decide_eq_true hq;have ho':=OL ho;have hc:=(hr m hm).cells;have hmin:min l2 q=l2:=by omega
 have hone:bG (ys.map f).flatten=true:=by
  unfold bG;rw[OV];intro x hx;obtain⟨e,h3,h5⟩:=List.mem_flatten.1 hx;exact OV.1 (he.gP ys e h3) x h5
 have hlen:(ys.map f).flatten.length=ys.length:=by
  clear hs hr hq hK h2 hq' hc hone
  induction ys with
  | nil=>rfl
  | cons x l ih=>rw[QH,Px,OU,ih,he.1 x,Pg]; omega
 have hg:=(hm.get hp).2.2;have hsrc:cD (aC E.P elem) (.slice a1 l2 c0) (min l2 q) m=some (ys.map f).flatten:=by rw[ht.size,hmin]; exact hc
 cases hy:ys with
 | nil =>
  subst hy;have e1:cs'=cs:=by rw[<-hs]; exact fx cs o
  have h0:min l2 q=0:=by rw[hmin,h2]; rfl
  have:bP E.P .copy #[ty,ty2] [.slice (some ⟨b,o,none⟩) q q,.slice a1 l2 c0] m=some (.int .i64 0,m):=by
   show rv E.P ty _ _ m=_
   unfold rv;rw[h0] at hsrc;simp only[ht.und,ht.known,OS,OT,if_false,h0,hsrc,hone]
  rw[Go.Ab.ie (hf.mw ha) this];exact hK m (by rw[e1]; exact hm.put hp rfl rfl rfl (OF _) hm.ext (hm.get hp) fun _ _ _=>rfl)
 | cons y y2 =>
  have h4:min l2 q=y2.length+1:=by rw[hmin,h2,hy]; rfl
  have hst:m.dB b o (ys.map f).flatten=some (m.set b (.cells cs' .own)):=by
   have hne:(ys.map f).flatten≠[]:=fun e=>by rw[e,hy] at hlen; cases hlen
   unfold RN.dB
   split
   rename_i e; exact O6 e hne
   rw[hg];simp only[hlen];rw[QX,hs]
  have:bP E.P .copy #[ty,ty2] [.slice (some ⟨b,o,none⟩) q q,.slice a1 l2 c0] m=some (.int .i64 (ys.length:Int),m.set b (.cells cs' .own)):=by
   show rv E.P ty _ _ m=_
   unfold rv;rw[h4] at hsrc;simp only[ht.und,ht.known,OS,OT,if_false,h4,hsrc,hone,hst,OI];rw[hy]; rfl
  rw[Go.Ab.ie (hf.mw ha) this];have hw:Hp m0 (m.set b (.cells cs' .own)) (dE ps k (.obj b (.cells cs' .own))):=hm.write (o':=.cells cs' .own) (p':=.obj b (.cells cs' .own)) hp rfl rfl rfl rfl ⟨(hm.get hp).1,by rw[RN.next_set]; exact(hm.get hp).2.1,by rw[RN.cu,OM rfl]⟩
  exact hK _ hw⟩
end
end Go.Ab.W
section
open Go Go.Ab Go.Ab.W
abbrev Ro:=@Wo.aI
abbrev Rm:=@Wn.aI
end
end
section
namespace Go.Ab.W
open Go Go.Ab
section
variable{α:Type}
end
section
variable{α:Type}{E:Env}{m0 m:RN}{fs:Fs}{ps:RR Pc}{f:α->RR QP}{w:Nat}
variable{x:QR}{ty:QQ}
variable{N:Nat}{ops:RU Oper}{os:RR Oper}{dr:Bool}
end
attribute [local irreducible] Tm.at Trie.set Trie.get RN.get RN.set RN.alloc RN.ww RN.kill
section
variable{α:Type}{E:Env}{m0 m:RN}{fs:Fs}{ps:RR Pc}{f:α->RR QP}{w:Nat}{ty:QQ}
def I8{β:Type}{V:β->QP}{N:β->RR Pc}{x:QR}{b off:Nat}(hx:ev E fs x=some (ptr b off))(hb:∀m,Hp m0 m ps->b<m.next)(h:∀m,Hp m0 m ps->∃z,dO E.P ty (ptr b off) m=some (V z)/\Hp m0 m (N z)):Ox E m0 fs ps (.load ty x) V N :=
 fun t m hf hm=>⟨fun b' hb'=>by
  have hx':ax E t x=some (ptr b off):=hf.ev hx;simp only[bg,hx',Pf] at hb';cases hb'; exact hb m hm,fun K hK=>by
  obtain⟨z,h1,h2⟩:=h m hm;rw[Go.Ab.E0 (hf.ev hx) h1]; exact hK z m h2⟩
end
section
variable{α:Type}{E:Env}{n:Nat}{m0 m:RN}{fs:Fs}{ps:RR Pc}{f:α->RR QP}{w:Nat}{ops:RU Oper}{os:RR Oper}{prs:RR (Nat×Nat)}{K:Tm->RN->Prop}{ss:RR Nk}
end
def MM(m:RN)(RW:QO)(rb:Nat)(row:RR (Bool×RR Nat)):Prop :=
 rb<m.next/\∃vs,m.get rb=some (.cells vs .own)/\vs.length=row.length*2/\∀(j:Nat) (x:Bool×RR Nat),row[j]? = some x->vs[j*2]? = some (.bool x.1)/\∃a c,vs[j*2+1]? = some (.slice a x.2.length c)/\Rd m a c 1 x.2.length (x.2.map (eN .u64))/\∀b,dG a=some b->RW b
def N4(ρ:Nat->Nat)(L:RR (RR (Bool×RR Nat)))(x:Nat):Prop:=∃i row,L[i]? = some row/\row≠[]/\x=ρ i
structure MatAt(m:RN)(b n:Nat)(ρ:Nat->Nat)(RW:QO)(L:RR (RR (Bool×RR Nat))):Prop where
 lt:b<m.next
 len:n=L.length
 cells:∃cs,m.get b=some (.cells cs .own)/\cs.length=n/\∀(i:Nat) (row:RR (Bool×RR Nat)),L[i]? = some row->(row=[]/\cs[i]? = some (.slice none 0 0))\/(row≠[]/\cs[i]? = some (.slice (some ⟨ρ i,0,none⟩) row.length row.length))
 rows:∀(i:Nat) (row:RR (Bool×RR Nat)),L[i]? = some row->row≠[]->MM m RW (ρ i) row
 rw:∀x,RW x->x<m.next/\x≠b/\¬N4 ρ L x
 out:∀(i:Nat) (row:RR (Bool×RR Nat)),L[i]? = some row->row≠[]->ρ i≠b
 inj:∀(i j:Nat) (row row':RR (Bool×RR Nat)),L[i]? = some row->L[j]? = some row'->row≠[]->row'≠[]->ρ i=ρ j->i=j
section
variable{E:Env}{m0 m:RN}{fs:Fs}{ps:RR Pc}{x y:QR}{ty:QQ}{b n:Nat}{ρ:Nat->Nat}{RW:Nat->Prop}{L:RR (RR (Bool×RR Nat))}
end
section
variable{E:Env}{m0 m:RN}{fs:Fs}{ps:RR Pc}{x y z:QR}{ty:QQ}{H:Nat->Prop}{M:RR (RI Nat×RR (Int×Bool))}
end
end Go.Ab.W
end
section
namespace Go.Ab.W
open Go Go.Ab
section
variable{P:QS}{ty el:QQ}
def gz{eq:QQ->QP->QP->RI Bool}{xs ys:RU QP}{t off:Nat}{rest:RR (QQ×Nat)}{x y:QP}{b r:Bool}(h1:eT P t xs off=some x)(h2:eT P t ys off=some y)(h3:eq t x y=some b)(h4:hB eq P xs ys rest=some r):hB eq P xs ys ((t,off)::rest)=some (b&&r):=by
 unfold hB;rw[h1,h2]
 dsimp only
 rw[h3];cases b with
 | true=>exact h4
 | false=>rfl
def pV{k:IntKind}(he:P.underlying el=some (.int k))(d:Nat)(x y:Nat):kV P (d+1) el (.int k ((x:Nat):Int)) (.int k ((y:Nat):Int))=some (decide (x=y)):=by
 simp only[kV,he,if_true]
 congr 1
 rw[Bool.eq_iff_iff];simp only[beq_iff_eq,O5];omega
def Fy{k:IntKind}(hu:P.underlying ty=some (.array 8 el))(hk:known P el=true)(hs:aC P el=1)(ha:eu P el=false)(he:P.underlying el=some (.int k))(d:Nat)(x0 y0 x1 y1 x2 y2 x3 y3 x4 y4 x5 y5 x6 y6 x7 y7:Nat) :
  kV P (d+2) ty (.agg #[.int k ((x0:Nat):Int),.int k ((x1:Nat):Int),.int k ((x2:Nat):Int),.int k ((x3:Nat):Int),.int k ((x4:Nat):Int),.int k ((x5:Nat):Int),.int k ((x6:Nat):Int),.int k ((x7:Nat):Int)])
   (.agg #[.int k ((y0:Nat):Int),.int k ((y1:Nat):Int),.int k ((y2:Nat):Int),.int k ((y3:Nat):Int),.int k ((y4:Nat):Int),.int k ((y5:Nat):Int),.int k ((y6:Nat):Int),.int k ((y7:Nat):Int)]) =
   some (decide (x0=y0)&&decide (x1=y1)&&decide (x2=y2)&&decide (x3=y3)&&decide (x4=y4)&&decide (x5=y5)&&decide (x6=y6)&&decide (x7=y7)):=by
 have hp:∀(cs:RU QP) (i:Nat) (v:QP),cs[i]? = some v->eT P el cs i=some v:=fun cs i v h=>by
  unfold eT;rw[hk,ha,h]; rfl
 show kV P ((d+1)+1) ty _ _=_
 unfold kV;simp only[hu,hk,if_true,hs]
 show hB _ P _ _ [(el,0),(el,1),(el,2),(el,3),(el,4),(el,5),(el,6),(el,7)]=_
 simp only[Bool.and_assoc];rw[gz (hp _ 0 _ rfl) (hp _ 0 _ rfl) (pV he d x0 y0) (gz (hp _ 1 _ rfl) (hp _ 1 _ rfl) (pV he d x1 y1) (gz (hp _ 2 _ rfl) (hp _ 2 _ rfl) (pV he d x2 y2) (gz (hp _ 3 _ rfl) (hp _ 3 _ rfl) (pV he d x3 y3) (gz (hp _ 4 _ rfl) (hp _ 4 _ rfl) (pV he d x4 y4) (gz (hp _ 5 _ rfl) (hp _ 5 _ rfl) (pV he d x5 y5) (gz (hp _ 6 _ rfl) (hp _ 6 _ rfl) (pV he d x6 y6) (gz (hp _ 7 _ rfl) (hp _ 7 _ rfl) (pV he d x7 y7) rfl)))))))];simp only[Bool.and_true]
def MK {k : IntKind} {w : QQ} {fs : RU _} (hu2 : P.underlying ty = some (.struct fs)) (hst : (P.stoodInHeld ty || fs.any (·.name == "_")) = false) (hm : fs.toList.map (fun f => (f.type, f.offset)) = [(w, 0), (w, 8)])
  (hkw:known P w=true) (haw:eu P w=true) (hsw:aC P w=8)
  (hu:P.underlying w=some (.array 8 el)) (hk:known P el=true) (hs:aC P el=1) (ha:eu P el=false) (he:P.underlying el=some (.int k)) (x0 y0 x1 y1 x2 y2 x3 y3 x4 y4 x5 y5 x6 y6 x7 y7 x8 y8 x9 y9 x10 y10 x11 y11 x12 y12 x13 y13 x14 y14 x15 y15:Nat) :
  kV P Op.maxDepth ty (.agg #[.int k ((x0:Nat):Int),.int k ((x1:Nat):Int),.int k ((x2:Nat):Int),.int k ((x3:Nat):Int),.int k ((x4:Nat):Int),.int k ((x5:Nat):Int),.int k ((x6:Nat):Int),.int k ((x7:Nat):Int),.int k ((x8:Nat):Int),.int k ((x9:Nat):Int),.int k ((x10:Nat):Int),.int k ((x11:Nat):Int),.int k ((x12:Nat):Int),.int k ((x13:Nat):Int),.int k ((x14:Nat):Int),.int k ((x15:Nat):Int)]) (.agg #[.int k ((y0:Nat):Int),.int k ((y1:Nat):Int),.int k ((y2:Nat):Int),.int k ((y3:Nat):Int),.int k ((y4:Nat):Int),.int k ((y5:Nat):Int),.int k ((y6:Nat):Int),.int k ((y7:Nat):Int),.int k ((y8:Nat):Int),.int k ((y9:Nat):Int),.int k ((y10:Nat):Int),.int k ((y11:Nat):Int),.int k ((y12:Nat):Int),.int k ((y13:Nat):Int),.int k ((y14:Nat):Int),.int k ((y15:Nat):Int)])=some (decide (x0=y0)&&decide (x1=y1)&&decide (x2=y2)&&decide (x3=y3)&&decide (x4=y4)&&decide (x5=y5)&&decide (x6=y6)&&decide (x7=y7)&&decide (x8=y8)&&decide (x9=y9)&&decide (x10=y10)&&decide (x11=y11)&&decide (x12=y12)&&decide (x13=y13)&&decide (x14=y14)&&decide (x15=y15)):=by
 have hp0:∀a0 a1 a2 a3 a4 a5 a6 a7 b0 b1 b2 b3 b4 b5 b6 b7:QP,eT P w #[a0,a1,a2,a3,a4,a5,a6,a7,b0,b1,b2,b3,b4,b5,b6,b7] 0=some (.agg #[a0,a1,a2,a3,a4,a5,a6,a7]):=fun _ _ _ _ _ _ _ _ _ _ _ _ _ _ _ _=>by
  unfold eT;rw[hkw,haw,hsw]; rfl
 have hp8:∀a0 a1 a2 a3 a4 a5 a6 a7 b0 b1 b2 b3 b4 b5 b6 b7:QP,eT P w #[a0,a1,a2,a3,a4,a5,a6,a7,b0,b1,b2,b3,b4,b5,b6,b7] 8=some (.agg #[b0,b1,b2,b3,b4,b5,b6,b7]):=fun _ _ _ _ _ _ _ _ _ _ _ _ _ _ _ _=>by
  unfold eT;rw[hkw,haw,hsw]; rfl
 show kV P (9999+1) ty _ _=_
 unfold kV;simp only[hu2,hst,OT,if_false,hm];rw[gz (hp0 ..) (hp0 ..) (Fy hu hk hs ha he 9997 x0 y0 x1 y1 x2 y2 x3 y3 x4 y4 x5 y5 x6 y6 x7 y7) (gz (hp8 ..) (hp8 ..) (Fy hu hk hs ha he 9997 x8 y8 x9 y9 x10 y10 x11 y11 x12 y12 x13 y13 x14 y14 x15 y15) rfl)];simp only[Bool.and_true,Bool.and_assoc]
def Nz(P:QS)(ty w:QQ):Bool:=match P.underlying ty with
 | some (.struct fs) => !(P.stoodInHeld ty || fs.any (·.name == "_")) && (fs.toList.map (fun f => (f.type, f.offset)) == [(w, 0), (w, 8)]) && known P w && eu P w && (aC P w == 8)
 | _=>false
def Kh{k:IntKind}{w:QQ}(h:Nz P ty w=true)
  (hu:P.underlying w=some (.array 8 el)) (hk:known P el=true) (hs:aC P el=1) (ha:eu P el=false) (he:P.underlying el=some (.int k)) (x0 y0 x1 y1 x2 y2 x3 y3 x4 y4 x5 y5 x6 y6 x7 y7 x8 y8 x9 y9 x10 y10 x11 y11 x12 y12 x13 y13 x14 y14 x15 y15:Nat) :
  kV P Op.maxDepth ty (.agg #[.int k ((x0:Nat):Int),.int k ((x1:Nat):Int),.int k ((x2:Nat):Int),.int k ((x3:Nat):Int),.int k ((x4:Nat):Int),.int k ((x5:Nat):Int),.int k ((x6:Nat):Int),.int k ((x7:Nat):Int),.int k ((x8:Nat):Int),.int k ((x9:Nat):Int),.int k ((x10:Nat):Int),.int k ((x11:Nat):Int),.int k ((x12:Nat):Int),.int k ((x13:Nat):Int),.int k ((x14:Nat):Int),.int k ((x15:Nat):Int)]) (.agg #[.int k ((y0:Nat):Int),.int k ((y1:Nat):Int),.int k ((y2:Nat):Int),.int k ((y3:Nat):Int),.int k ((y4:Nat):Int),.int k ((y5:Nat):Int),.int k ((y6:Nat):Int),.int k ((y7:Nat):Int),.int k ((y8:Nat):Int),.int k ((y9:Nat):Int),.int k ((y10:Nat):Int),.int k ((y11:Nat):Int),.int k ((y12:Nat):Int),.int k ((y13:Nat):Int),.int k ((y14:Nat):Int),.int k ((y15:Nat):Int)])=some (decide (x0=y0)&&decide (x1=y1)&&decide (x2=y2)&&decide (x3=y3)&&decide (x4=y4)&&decide (x5=y5)&&decide (x6=y6)&&decide (x7=y7)&&decide (x8=y8)&&decide (x9=y9)&&decide (x10=y10)&&decide (x11=y11)&&decide (x12=y12)&&decide (x13=y13)&&decide (x14=y14)&&decide (x15=y15)):=by
 unfold Nz at h
 split at h
 rename_i fs hf;simp only[OD,Pv,beq_iff_eq] at h;exact MK hf h.1.1.1.1 h.1.1.1.2 h.1.1.2 h.1.2 h.2 hu hk hs ha he x0 y0 x1 y1 x2 y2 x3 y3 x4 y4 x5 y5 x6 y6 x7 y7 x8 y8 x9 y9 x10 y10 x11 y11 x12 y12 x13 y13 x14 y14 x15 y15
 cases h
end
section
variable{P:QS}{ty:QQ}
end
attribute [local irreducible] Tm.at Trie.set Trie.get RN.get RN.set RN.alloc RN.ww RN.kill
section
variable{E:Env}{n:Nat}{m0 m:RN}{fs:Fs}{ps:RR Pc}{x y:QR}{ty:QQ}
variable{α:Type}{f:α->RR QP}{elem:QQ}{k cap w l:Nat}{a:QN}{es:QM}{xs:RR α}
end
section
variable{E:Env}{n:Nat}{m0:RN}{fs:Fs}{ps:RR Pc}{ops:RU Oper}{os:RR Oper}{K:Tm->RN->Prop}{dr:Bool}
end
section
variable{E:Env}{n:Nat}{m0 m:RN}{fs:Fs}{ps:RR Pc}{x y:QR}{ty:QQ}{v:QP}
end
section
variable{α γ:Type}[DecidableEq α]
end
section
variable{α γ:Type}[DecidableEq α]{E:Env}{m0 m:RN}{fs:Fs}{ps:RR Pc}{f:γ->RR QP}{w:Nat}{kE:α->QP}
variable{x y z:QR}{ty:QQ}
end
structure Rep(α:Type) where
 w:Nat
 G:Type
 V:α->G->RR QP
 A:RN->(Nat->Prop)->α->G->Prop
 N:α->G->(Nat->Prop)->RR Pc
 mono:∀{m:RN} {R R':QO} {x:α} {g:G},A m R x g->(∀b,R b->R' b)->A m R' x g
 st:∀{m m':RN} {R:QO} {x:α} {g:G},A m R x g->m.next<=m'.next->(∀b,R b->b<m.next->m'.get b=m.get b)->A m' R x g
 len:∀x g,(V x g).length=w
 one:∀x g,(V x g).all mA=true
 hN:∀{lo:Nat} {m:RN} {R:QO} {x:α} {g:G},A m R x g->(∀b,R b->b<m.next)->∀p∈N x g R,p.ok lo m/\(∀b,¬p.ow b)/\∀b,p.any b->R b
section
variable{α β:Type}
def gQ(r:Rep α)(m:RN)(R:QO)(L:RR α)(es:QM):Prop :=
 es.length=L.length/\∀(i:Nat) (x:α),L[i]? = some x->∃g,es[i]? = some (r.V x g)/\r.A m R x g
def gQ.mono{r:Rep α}{m:RN}{R R':QO}{L:RR α}{es:QM}(h:gQ r m R L es)(hR:∀b,R b->R' b):gQ r m R' L es :=
 ⟨h.1,fun i x hi=>by obtain⟨g,h1,h2⟩:=h.2 i x hi; exact⟨g,h1,r.mono h2 hR⟩⟩
def gQ.st{r:Rep α}{m m':RN}{R:QO}{L:RR α}{es:QM}(h:gQ r m R L es)(hn:m.next<=m'.next)(hg:∀b,R b->b<m.next->m'.get b=m.get b):gQ r m' R L es :=
 ⟨h.1,fun i x hi=>by obtain⟨g,h1,h2⟩:=h.2 i x hi; exact⟨g,h1,r.st h2 hn hg⟩⟩
def gQ.nil{r:Rep α}{m:RN}{R:QO}:gQ r m R [] []:=⟨rfl,fun i x h=>by simp at h⟩
def gQ.cons{r:Rep α}{m:RN}{R:QO}{L:RR α}{es:QM}{x:α}{g:r.G}(hx:r.A m R x g)(h:gQ r m R L es):gQ r m R (x::L) (r.V x g::es) :=
 ⟨by simp[h.1],fun i y hi=>by
  cases i with
  | zero=>cases hi; exact⟨g,rfl,hx⟩
  | succ i=>exact h.2 i y (by simpa using hi)⟩
def gQ.append{r:Rep α}{m:RN}{R:QO}{L L':RR α}{es es':QM}(h:gQ r m R L es)(h':gQ r m R L' es'):gQ r m R (L++L') (es++es') :=
 ⟨by simp[h.1,h'.1],fun i y hi=>by
  by_cases hlt:i<L.length
  rw[Pj hlt] at hi;rw[Pj (by rw[h.1]; exact hlt)]
  exact h.2 i y hi
  rw[O2 (by omega)] at hi
  rw[O2 (by rw[h.1]; omega),h.1]
  exact h'.2 _ y hi⟩
def gQ.set{r:Rep α}{m:RN}{R:QO}{L:RR α}{es:QM}{x:α}{g:r.G}(h:gQ r m R L es)(j:Nat)(hx:r.A m R x g):gQ r m R (L.set j x) (es.set j (r.V x g)) :=
 ⟨by simp[h.1],fun i y hi=>by
  rw[List.getElem?_set] at hi ⊢
  split at hi
  rename_i e;subst e
  split at hi
  rename_i hlt;cases hi;rw[OM rfl,OM (by rw[h.1]; exact hlt)]
  exact⟨g,rfl,hx⟩
  cases hi
  rename_i e;rw[OJ e];exact h.2 i y hi⟩
def gQ.gP{r:Rep α}{m:RN}{R:QO}{L:RR α}{es:QM}(h:gQ r m R L es):W.gP es:=fun e he=>by
 obtain⟨i,hi,rfl⟩:=List.mem_iff_getElem.1 he;obtain⟨g,h1,_⟩:=h.2 i (L[i]'(by rw[<-h.1]; exact hi)) (by simp)
 rw[OG hi] at h1;rw[OK h1]; exact r.one _ _
def gQ.width{r:Rep α}{m:RN}{R:QO}{L:RR α}{es:QM}(h:gQ r m R L es):∀e∈es,e.length=r.w:=fun e he=>by
 obtain⟨i,hi,rfl⟩:=List.mem_iff_getElem.1 he;obtain⟨g,h1,_⟩:=h.2 i (L[i]'(by rw[<-h.1]; exact hi)) (by simp)
 rw[OG hi] at h1;rw[OK h1]; exact r.len _ _
def aN(r:Rep α)(R:QO)(L:RR α)(es:QM):GPc where
 ow _:=False
 rd b:=R b
 P m:=gQ r m R L es/\∀b,R b->b<m.next
 st _ _ h hn hg:=⟨h.1.st hn fun b hb hlt=>hg b (.inr hb) hlt,fun b hb=>OH (h.2 b hb) hn⟩
 lt _ b h hb:=hb.elim (fun h=>h.elim) (h.2 b)
def jN{r:Rep α}{R:QO}{L:RR α}{es:QM}{b:Nat}:¬Pc.ow (.gen (aN r R L es)) b:=fun h=>h.elim (fun h=>by cases h.1) fun h=>h
def uW{r:Rep α}{R:QO}{L:RR α}{es:QM}{b:Nat}(h:Pc.any (.gen (aN r R L es)) b):R b:=h.elim (fun h=>by cases h) fun h=>h.elim (fun h=>h.elim) id
def zg{a:QN}{cap w n:Nat}{es:QM}{b:Nat}:¬Pc.ow (.rd a cap w n es) b:=fun h=>h.elim (fun h=>by cases h.1) fun h=>h.elim
def FT{a:QN}{cap w n:Nat}{es:QM}{b:Nat}(h:Pc.any (.rd a cap w n es) b):dG a=some b:=h.elim id fun h=>h.elim
def rF(f:α->RR QP)(w:Nat)(h:Enc f w):Rep α where
 w:=w
 G:=RS
 V x _:=f x
 A _ _ _ _:=True
 N _ _ _:=[]
 mono _ _:=trivial
 st _ _ _:=trivial
 len x _:=h.len x
 one x _:=h.one x
 hN _ _ p hp:=by cases hp
def rS(f:α->RR QP)(w:Nat):Rep (RR α) where
 w:=1
 G:=QN×Nat
 V l g:=[.slice g.1 l.length g.2]
 A m R l g:=Rd m g.1 g.2 w l.length (l.map f)/\∀b,dG g.1=some b->R b
 N l g _:=[.rd g.1 g.2 w l.length (l.map f)]
 mono h hR:=⟨h.1,fun b hb=>hR b (h.2 b hb)⟩
 st h hn hg:=⟨h.1.lg hn fun b hb hlt=>hg b (h.2 b hb) hlt,h.2⟩
 len _ _:=rfl
 one _ _:=rfl
 hN h _ p hp:=by
  rw[PJ.1 hp];exact⟨h.1,fun b=>zg,fun b hb=>h.2 b (FT hb)⟩
def rP(r:Rep α)(s:Rep β):Rep (α×β) where
 w:=r.w+s.w
 G:=r.G×s.G
 V x g:=r.V x.1 g.1++s.V x.2 g.2
 A m R x g:=r.A m R x.1 g.1/\s.A m R x.2 g.2
 N x g R:=r.N x.1 g.1 R++s.N x.2 g.2 R
 mono h hR:=⟨r.mono h.1 hR,s.mono h.2 hR⟩
 st h hn hg:=⟨r.st h.1 hn hg,s.st h.2 hn hg⟩
 len x g:=by rw[OU,r.len,s.len]
 one x g:=by rw[List.all_append,r.one,s.one]; rfl
 hN h hlt p hp:=by
  rcases P1.1 hp with hp|hp
  exact r.hN h.1 hlt p hp
  exact s.hN h.2 hlt p hp
end
section
variable{α β:Type}{E:Env}{n:Nat}{m0 m:RN}{fs:Fs}{ps:RR Pc}{r:Rep α}{r2:Rep β}{x:QR}{ty:QQ}
def tU:∀(l:RR Pc) (k:Nat),pk (l++ps) (l.length+k)=pk ps k
 | [],k=>by rw[PM,List.length_nil,Pr]
 | p::l,k=>by rw[QE,Pg,show l.length+1+k=(l.length+k)+1 by omega,fJ,tU l k]
def Hp.FM{q:Nat}{p:Pc}(h:Hp m0 m ps)(hq:pk ps q=some p)(hpo:∀b,¬p.ow b):∀new:RR Pc,(∀r∈new,r.ok m0.next m/\(∀b,¬r.ow b)/\∀b,r.any b->p.any b)->Hp m0 m (new++ps)
 | [],_=>h
 | r::l,hl=>(h.FM hq hpo l fun r' h'=>hl r' (List.mem_cons_of_mem _ h')).J5 (k:=l.length+q) (by rw[tU]; exact hq) hpo (hl r (Qp ..)).1 (hl r (Qp ..)).2.1 (hl r (Qp ..)).2.2
def dV{ag:Bool}{sz b o w j c q off:Nat}{R:QO}{L:RR α}{es:QM}{z:α}{V:r.G->QP}{N:r.G->RR Pc}(ht:TyI E.P ty ag sz)(hx:ev E fs x=some (ptr b off))(ho:off=o+j*w+c)(hli:∀m,Hp m0 m ps->oP m b o w es)(hq:pk ps q=some (.gen (aN r R L es)))(hl:L[j]? = some z)(hv:∀g,DY ag sz (r.V z g) c=some (V g))(hs:Fh ag sz c w=true)(hN:∀g,N g=r.N z g R++ps):Ox E m0 fs ps (.load ty x) V N:=by
 subst ho;refine I8 hx (fun m hm=>(hli m hm).1) fun m hm=>?_;have hP:=(hm.get hq).1;obtain⟨g,h1,h2⟩:=hP.1.2 j z hl;have hs:=vJ hs;refine⟨g,oS ht (hli m hm) h1 (hv g) hs.1 hs.2,?_⟩;rw[hN];exact hm.FM hq (fun b=>jN) _ fun p hp=>by
  obtain⟨a1,a2,a3⟩:=r.hN h2 hP.2 p hp;exact⟨a1,a2,fun b hb=>.inr (.inr (a3 b hb))⟩
def kn{k b w l:Nat}{es:QM}{tg:Tag}(hp:pk ps k=some (.arr b w l es tg)):∀m,Hp m0 m ps->oP m b 0 w es:=fun _ h=>zv.KU (h.get hp)
def gJ{k b o w l:Nat}{es:QM}(hp:pk ps k=some (.ro b o w l es)):∀m,Hp m0 m ps->oP m b o w es:=fun _ h=>(h.get hp).2
def Hp.lf{j q:Nat}{R:QO}{L:RR α}{es:QM}{z:α}(hm:Hp m0 m ps)(hq:pk ps q=some (.gen (aN r R L es)))(hl:L[j]? = some z):∃g,es[j]? = some (r.V z g)/\Hp m0 m (r.N z g R++ps):=by
 have hP:=(hm.get hq).1;obtain⟨g,h1,h2⟩:=hP.1.2 j z hl;exact⟨g,h1,hm.FM hq (fun b=>jN) _ fun p hp=>by
  obtain⟨a1,a2,a3⟩:=r.hN h2 hP.2 p hp;exact⟨a1,a2,fun b hb=>.inr (.inr (a3 b hb))⟩⟩
def wG(a c:Nat):a+c=0+a+c:=by rw[Pr]
def Lf(m0:RN)(ps:RR Pc)(r:Rep α)(z:α)(g:r.G)(S:QO):Prop:=∀m,Hp m0 m ps->r.A m S z g/\∀b,S b->∃q∈ps,(∀b,¬q.ow b)/\q.any b
def Lf.f{f:α->RR QP}{w:Nat}(h:Enc f w)(z:α):Lf m0 ps (rF f w h) z () (fun _=>False):=fun _ _=>⟨trivial,fun _ h=>h.elim⟩
def Lf.s{f:α->RR QP}{a:QN}{k cap w:Nat}{l:RR α}(hp:pk ps k=some (.rd a cap w l.length (l.map f))):Lf m0 ps (rS f w) l (a,cap) (fun b=>dG a=some b):=fun _ hm =>
 ⟨⟨hm.get hp,fun _ h=>h⟩,fun _ hb=>⟨_,lO hp,fun _=>zg,.inl hb⟩⟩
def Lf.s0{f:α->RR QP}{w:Nat}:Lf m0 ps (rS f w) [] (none,0) (fun _=>False):=fun _ _=>⟨⟨Rd.nil _ _,fun _ h=>(by cases h)⟩,fun _ h=>h.elim⟩
def Lf.p{z:α}{y:β}{g:r.G}{g':r2.G}{S S':QO}(h:Lf m0 ps r z g S)(h':Lf m0 ps r2 y g' S'):Lf m0 ps (rP r r2) (z,y) (g,g') (fun b=>S b\/S' b):=fun m hm =>
 ⟨⟨r.mono (h m hm).1 fun _ h=>.inl h,r2.mono (h' m hm).1 fun _ h=>.inr h⟩,fun b hb=>hb.elim ((h m hm).2 b) ((h' m hm).2 b)⟩
def sY(m0:RN)(ps:RR Pc)(r:Rep α)(L:RR α)(es:QM)(S:QO):Prop:=∀m,Hp m0 m ps->gQ r m S L es/\∀b,S b->∃q∈ps,(∀b,¬q.ow b)/\q.any b
def sY.nil:sY m0 ps r [] [] (fun _=>False):=fun _ _=>⟨.nil,fun _ h=>h.elim⟩
def sY.cons{z:α}{g:r.G}{S S':QO}{L:RR α}{es:QM}(h:Lf m0 ps r z g S)(h':sY m0 ps r L es S'):sY m0 ps r (z::L) (r.V z g::es) (fun b=>S b\/S' b):=fun m hm =>
 ⟨.cons (r.mono (h m hm).1 fun _ h=>.inl h) ((h' m hm).1.mono fun _ h=>.inr h),fun b hb=>hb.elim ((h m hm).2 b) ((h' m hm).2 b)⟩
def Hp.Hl{S:QO}{p:Pc}(h:Hp m0 m ps)(hp:p.ok m0.next m)(ho:∀b,¬p.ow b)(ha:∀b,p.any b->∃q∈ps,(∀b,¬q.ow b)/\q.any b):Hp m0 m (p::ps) :=
 ⟨h.ext,fun q hq=>by
  rcases Pb.1 hq with rfl|hq
  exact hp
  exact h.ok q hq,PE.2 ⟨fun q hq=>⟨fun b h1 _=>ho b h1,fun b h1 h2=>by
  obtain⟨q',hq',h3,h4⟩:=ha b h2;obtain⟨i,hi⟩:=kl hq;obtain⟨j,hj⟩:=kl hq'
  by_cases e:i=j
  subst e;rw[hi] at hj;exact h3 b (by rw[<-OK hj]; exact h1)
  exact(gB h.apart hi hj e).1 b h1 h4⟩,h.apart⟩⟩
def ah.dp{L:RR α}{es:QM}{S:QO}(h:sY m0 ps r L es S):ah m0 ps (.gen (aN r S L es)::ps):=fun m hm=>by
 obtain⟨h1,h2⟩:=h m hm;refine hm.Hl (S:=S) ⟨⟨h1,fun b hb=>?_⟩,fun _ b hb=>hb.elim⟩ (fun _=>jN) fun b hb=>h2 b (uW hb);obtain⟨q,hq,_,h4⟩:=h2 b hb;exact Pc.iA (hm.ok q hq) h4
def ah.rq:ah m0 ps (.gen (aN r (fun _=>False) [] [])::ps):=ah.dp .nil
def Hp.Fq{q:Nat}{R S:QO}{L L':RR α}{es es':QM}(h:Hp m0 m ps)(hq:pk ps q=some (.gen (aN r R L es)))(h1:gQ r m (fun b=>R b\/S b) L' es')(h2:∀b,S b->∃q∈ps,(∀b,¬q.ow b)/\q.any b):Hp m0 m (dE ps q (.gen (aN r (fun b=>R b\/S b) L' es'))):=by
 have hP:=h.get hq;refine⟨h.ext,fun p hp=>?_,iD hq (fun p hp ha=>⟨fun b h3 _=>(jN h3).elim,fun b h3 h4=>?_⟩) h.apart⟩
 rcases uK hp with hp|rfl
 exact h.ok p hp
 refine⟨⟨h1,fun b hb=>hb.elim (hP.1.2 b) fun hb=>?_⟩,fun _ b hb=>hb.elim⟩;obtain⟨q',hq',_,h5⟩:=h2 b hb;exact Pc.iA (h.ok q' hq') h5
 rcases uW h4 with h4|h4
 exact ha.2 b h3 (.inr (.inr h4))
 obtain⟨q',hq',h5,h6⟩:=h2 b h4;obtain⟨i,hi⟩:=kl hp;obtain⟨j,hj⟩:=kl hq'
 by_cases e:i=j
 subst e;rw[hi] at hj;exact h5 b (by rw[<-OK hj]; exact h3)
 exact(gB h.apart hi hj e).1 b h3 h6
def ah.mO{q j:Nat}{R S:QO}{L:RR α}{es:QM}{z:α}{g:r.G}(hq:pk ps q=some (.gen (aN r R L es)))(h:Lf m0 ps r z g S):ah m0 ps (dE ps q (.gen (aN r (fun b=>R b\/S b) (L.set j z) (es.set j (r.V z g))))):=fun m hm =>
 hm.Fq hq (((hm.get hq).1.1.mono fun _ h=>.inl h).set j (r.mono (h m hm).1 fun _ h=>.inr h)) (h m hm).2
def ah.MQ{q q2:Nat}{R S:QO}{L L':RR α}{es es':QM}(hq:pk ps q=some (.gen (aN r R L es)))(hq2:pk ps q2=some (.gen (aN r S L' es'))):ah m0 ps (dE ps q (.gen (aN r (fun b=>R b\/S b) (L++L') (es++es')))):=fun m hm =>
 hm.Fq hq (((hm.get hq).1.1.mono fun _ h=>.inl h).append ((hm.get hq2).1.1.mono fun _ h=>.inr h)) fun _ hb=>⟨_,lO hq2,fun _=>jN,.inr (.inr hb)⟩
def Pc.FJ{lo w l:Nat}{a:QN}{es:QM}(h:Pc.ok lo m (.sl a w l es)):l=es.length:=by
 rcases h with⟨h0,h1,_⟩|⟨b,tg,_,h1⟩
 rw[h0,h1]; rfl
 exact h1.2.2.2.1.symm
def CE{elem ty2:QQ}{w k k2 q q2 c0 l l2:Nat}{a a1:QN}{R S:QO}{L L':RR α}{es es':QM}{ars:RU QR}{p0:Pc}(ht:SlT E.P ty elem w)(h6:∃e2,E.P.underlying ty2=some (.slice e2))(ha:mw E fs ars.toList=some [.slice a l l,.slice a1 l2 c0])(hp:pk ps k=some (.sl a w l es))(hq:pk ps q=some (.gen (aN r R L es)))(h4:pk ps k2=some p0)(hr:IsRd p0 a1 c0 w l2 es')(h0:pk ps q2=some (.gen (aN r S L' es')))(hw:r.w=w)(hl:lim (L++L').length=true) :
  Ox E m0 fs ps (.call ⟨.builtin .append,ars,#[ty,ty2]⟩) (fun y:QN ×(Nat->Prop)=>.slice y.1 (L++L').length (L++L').length) (fun y=>dE (dE ps q (.gen (aN r y.2 (L++L') (es++es')))) k (.sl y.1 w (L++L').length (es++es'))):=fun t m hf hm=>⟨fun b hb=>(by simp[bg] at hb),fun K hK=>by
 have e1:l=L.length:=by rw[Pc.FJ (hm.get hp),(hm.get hq).1.1.1]
 have e2:l2=L'.length:=by rw[<-(hm.rd h4 hr).1,(hm.get h0).1.1.1]
 have e0:l+l2=(L++L').length:=by rw[e1,e2,OU]
 have h1:=ah.MQ (m0:=m0) hq h0 m hm;have hkq:k≠q:=fun e=>by rw[e,hq] at hp; cases hp
 have h7:pk (dE ps q (.gen (aN r (fun b=>R b\/S b) (L++L') (es++es')))) k=some (.sl a w l es):=by
  have:∀(l:RR Pc) (q k:Nat) (x:Pc),k≠q->pk (dE l q x) k=pk l k:=by
   intro l
   induction l with
   | nil=>intro q k x _; rfl
   | cons p l ih =>
    intro q k x hne;cases q with
    | zero =>
     cases k with
     | zero=>exact O6 rfl hne
     | succ k=>rfl
    | succ q =>
     cases k with
     | zero=>rfl
     | succ k=>rw[ib,fJ,fJ]; exact ih q k x fun e=>hne (by rw[e])
  rw[this ps q k _ hkq]; exact hp
 obtain⟨a',m',h3,h5⟩:=oI (n:=l) ht h6 h1 h7 (hm.rd h4 hr) (fun e he=>by rw[<-hw]; exact(hm.get h0).1.1.width e he) (hm.get h0).1.1.gP (by rw[e0]; exact hl)
 have:bP E.P .append #[ty,ty2] [.slice a l l,.slice a1 l2 c0] m=some (.slice a' (l+l2) (l+l2),m'):=h3;rw[Go.Ab.ie (hf.mw ha) this];rw[e0] at h5 ⊢;exact hK (a',_) m' h5⟩
def Hp.dp{q:Nat}{R:QO}{L:RR α}{es:QM}(h:Hp m0 m ps)(hq:pk ps q=some (.gen (aN r R L es))):(aN r R L es).P m:=(h.get hq).1
def Hp.AH{R:QO}{L:RR α}{es:QM}(h:Hp m0 m ps)(ho:∀p∈ps,∀b,¬p.ow b)(hd:(aN r R L es).P m):Hp m0 m (.gen (aN r R L es)::ps) :=
 ⟨h.ext,fun p hp=>by
  rcases Pb.1 hp with rfl|hp
  exact⟨hd,fun _ b hb=>hb.elim⟩
  exact h.ok p hp,PE.2 ⟨fun q hq=>⟨fun b h1 _=>(jN h1).elim,fun b h1 _=>(ho q hq b h1).elim⟩,h.apart⟩⟩
def Hp.cL{a:QN}{cap w l:Nat}{es:QM}(h:Hp m0 m ps)(ho:∀p∈ps,∀b,¬p.ow b)(hr:Rd m a cap w l es):Hp m0 m (.rd a cap w l es::ps) :=
 ⟨h.ext,fun p hp=>by
  rcases Pb.1 hp with rfl|hp
  exact hr
  exact h.ok p hp,PE.2 ⟨fun q hq=>⟨fun b h1 _=>(zg h1).elim,fun b h1 _=>(ho q hq b h1).elim⟩,h.apart⟩⟩
def Hp.Mq{l0:RR Pc}{H R:QO}{L:RR α}{es:QM}(h:Hp m0 m (l0++[.gen (aF H)]))(ho:∀p∈l0,∀b,¬p.ow b)(hd:(aN r R L es).P m)(ha:∀b,R b->¬H b):Hp m0 m (.gen (aN r R L es)::(l0++[.gen (aF H)])) :=
 ⟨h.ext,fun p hp=>by
  rcases Pb.1 hp with rfl|hp
  exact⟨hd,fun _ b hb=>hb.elim⟩
  exact h.ok p hp,PE.2 ⟨fun q hq=>⟨fun b h1 _=>(jN h1).elim,fun b h1 h2=>by
  rcases P1.1 hq with hq|hq
  exact(ho q hq b h1).elim
  rw[PJ.1 hq] at h1;rcases h1 with h1|h1
  cases h1.1
  exact ha b (uW h2) h1⟩,h.apart⟩⟩
def Hp.bB{l0:RR Pc}{H:QO}{a:QN}{cap w l:Nat}{es:QM}(h:Hp m0 m (l0++[.gen (aF H)]))(ho:∀p∈l0,∀b,¬p.ow b)(hr:Rd m a cap w l es)(ha:∀b,dG a=some b->¬H b):Hp m0 m (.rd a cap w l es::(l0++[.gen (aF H)])) :=
 ⟨h.ext,fun p hp=>by
  rcases Pb.1 hp with rfl|hp
  exact hr
  exact h.ok p hp,PE.2 ⟨fun q hq=>⟨fun b h1 _=>(zg h1).elim,fun b h1 h2=>by
  rcases P1.1 hq with hq|hq
  exact(ho q hq b h1).elim
  rw[PJ.1 hq] at h1;rcases h1 with h1|h1
  cases h1.1
  exact ha b (FT h2) h1⟩,h.apart⟩⟩
def cl:∀p ∈([]:RR Pc),∀b,¬p.ow b:=fun _ h=>by cases h
def dJ{l:RR Pc}{a:QN}{cap w k:Nat}{es:QM}(h:∀p∈l,∀b,¬p.ow b):∀p ∈(Pc.rd a cap w k es::l),∀b,¬p.ow b:=fun p hp=>by
 rcases Pb.1 hp with rfl|hp
 exact fun _=>zg
 exact h p hp
def Mx{l:RR Pc}{R:QO}{L:RR α}{es:QM}(h:∀p∈l,∀b,¬p.ow b):∀p ∈(Pc.gen (aN r R L es)::l),∀b,¬p.ow b:=fun p hp=>by
 rcases Pb.1 hp with rfl|hp
 exact fun _=>jN
 exact h p hp
def Hp.Gr{q:Nat}{R:QO}{L:RR α}{es:QM}(h:Hp m0 m ps)(hq:pk ps q=some (.gen (aN r R L es))):∀b,R b->¬Dw ps b:=fun b hb ⟨p,hp,h1⟩=>by
 obtain⟨i,hi⟩:=kl hp
 by_cases e:i=q
 rw[e,hq] at hi;rw[<-OK hi] at h1;exact jN h1
 exact(gB h.apart hi hq e).1 b h1 (.inr (.inr hb))
end
section
variable{α:Type}{E:Env}{n:Nat}{m0:RN}{fs:Fs}{ps:RR Pc}{ops:RU Oper}{os:RR Oper}{dr:Bool}{K:Tm->RN->Prop}{r:Rep α}
def Wo.lf{j q:Nat}{R:QO}{L:RR α}{es:QM}{z:α}{N:r.G->RR Pc}(hq:pk ps q=some (.gen (aN r R L es)))(hl:L[j]? = some z)(hN:∀g,N g=r.N z g R++ps)(k:∀g,es[j]? = some (r.V z g)->Wo dr E n ops K os m0 fs (N g)):Wo dr E n ops K os m0 fs ps:=by
 cases dr with
 | false=>intro t m hf hm; obtain⟨g,h1,h2⟩:=hm.lf hq hl; exact k g h1 t m hf (by rw[hN]; exact h2)
 | true=>intro t m w hf hm hw; obtain⟨g,h1,h2⟩:=hm.lf hq hl; exact k g h1 t m w hf (by rw[hN]; exact h2) hw
end
section
variable{α:Type}{E:Env}{n:Nat}{m0:RN}{fs:Fs}{ps:RR Pc}{ops:RU Oper}{os:RR Oper}{dr:Bool}{K:Tm->RN->Prop}{r:Rep α}{prs:RR (Nat×Nat)}{ss:RR Nk}
def Wo.dp{L:RR α}{es:QM}{S:QO}(h:sY m0 ps r L es S)(k:∀R,Wo dr E n ops K os m0 fs (.gen (aN r R L es)::ps)):Wo dr E n ops K os m0 fs ps:=RF (ah.dp h) (k _)
def Wo.mO{q j:Nat}{R S:QO}{L:RR α}{es:QM}{z:α}{g:r.G}(hq:pk ps q=some (.gen (aN r R L es)))(h:Lf m0 ps r z g S)(k:∀R',Wo dr E n ops K os m0 fs (dE ps q (.gen (aN r R' (L.set j z) (es.set j (r.V z g)))))):Wo dr E n ops K os m0 fs ps:=RF (ah.mO hq h) (k _)
def Wn.mO{q j:Nat}{R S:QO}{L:RR α}{es:QM}{z:α}{g:r.G}(hq:pk ps q=some (.gen (aN r R L es)))(h:Lf m0 ps r z g S)(k:∀R',Wn E n ops prs K os ss m0 fs (dE ps q (.gen (aN r R' (L.set j z) (es.set j (r.V z g)))))):Wn E n ops prs K os ss m0 fs ps:=Wn.ei (ah.mO hq h) (k _)
def La{m:RN}{q:Nat}{R:QO}{L:RR α}{es:QM}(hm:Hp m0 m ps)(hq:pk ps q=some (.gen (aN r R L es))):es.length=L.length:=(hm.get hq).1.1.1
def LC{lo k w l:Nat}{m:RN}{p:Pc}{a:QN}{es:QM}(hm:Hp m0 m ps)(hp:pk ps k=some p)(h:p=.sl a w l es\/(∃c,p=.rd a c w l es)\/∃b tg,p=.arr b w l es tg):l=es.length:=by
 have h0:=hm.get hp;rcases h with rfl|⟨c,rfl⟩|⟨b,tg,rfl⟩
 exact Pc.FJ h0
 exact h0.1.symm
 exact h0.2.2.2.1.symm
def Wo.vz{k q w l:Nat}{a:QN}{p:Pc}{R:QO}{L:RR α}{es:QM}(hp:pk ps k=some p)(hp':p=.sl a w l es\/(∃c,p=.rd a c w l es)\/∃b tg,p=.arr b w l es tg)(hq:pk ps q=some (.gen (aN r R L es)))(h:l=L.length->Wo dr E n ops K os m0 fs ps):Wo dr E n ops K os m0 fs ps:=by
 have key:∀m,Hp m0 m ps->l=L.length:=fun m hm=>(LC (lo:=0) hm hp hp').trans (La hm hq);cases dr with
 | false=>exact fun t m hf hm=>h (key m hm) t m hf hm
 | true=>exact fun t m w hf hm hw=>h (key m hm) t m w hf hm hw
def Wn.lf{j q:Nat}{R:QO}{L:RR α}{es:QM}{z:α}{N:r.G->RR Pc}(hq:pk ps q=some (.gen (aN r R L es)))(hl:L[j]? = some z)(hN:∀g,N g=r.N z g R++ps)(k:∀g,es[j]? = some (r.V z g)->Wn E n ops prs K os ss m0 fs (N g)):Wn E n ops prs K os ss m0 fs ps:=fun t m ns hf hm hn=>by
 obtain⟨g,h1,h2⟩:=hm.lf hq hl; exact k g h1 t m ns hf (by rw[hN]; exact h2) hn
end
section
variable{m0 m:RN}{ps qs:RR Pc}
end
structure Orp{α:Type}(r:Rep α) where
 G:Type
 V:α->G->RR QP
 N:α->G->RR Pc
 len:∀x g,(V x g).length=r.w
 one:∀x g,(V x g).all mA=true
 own:∀x g,∀p∈N x g,p.bound=true/\∀b,p.any b->p.ow b
 frz:∀{m:RN} {x:α} {g:G} {S:QO},(∀p∈N x g,p.ok 0 m)->(∀p∈N x g,∀b,p.any b->S b)->∃g',V x g=r.V x g'/\r.A m S x g'
section
variable{α β:Type}{r:Rep α}{r2:Rep β}
end
section
variable{α:Type}{r:Rep α}{o:Orp r}{E:Env}{n:Nat}{m0 m:RN}{fs:Fs}{ps:RR Pc}
end
section
variable{α:Type}{E:Env}{n:Nat}{m0 m:RN}{fs:Fs}{ps:RR Pc}{r:Rep α}{x:QR}{ty elem:QQ}
def sY.rep{z:α}{g:r.G}{S:QO}(h:Lf m0 ps r z g S)(k:Nat):sY m0 ps r (List.replicate k z) ((List.replicate k (r.V z g)).map fun e=>e) S:=fun m hm=>by
 refine⟨?_,(h m hm).2⟩;rw[List.map_id'];refine⟨by simp,fun i y hi=>?_⟩
 obtain⟨hi1,hi2⟩:=OX.1 hi;rw[List.length_replicate] at hi1;rw[List.getElem_replicate] at hi2;subst hi2;exact⟨g,by rw[PW,OM hi1],(h m hm).1⟩
end
end Go.Ab.W
section
open Go Go.Ab Go.Ab.W
abbrev Rz:=@Hp.cL
abbrev Rq:=@Hp.bB
end
end
