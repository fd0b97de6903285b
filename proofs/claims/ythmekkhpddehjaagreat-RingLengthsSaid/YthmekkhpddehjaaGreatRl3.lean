/- A part of the proof. -/
import Derived.Test.YthmekkhpddehjaaGreatRl2
import Derived.ChangeStays
import Derived.ChangeShapes
import Derived.OpenShut
import Derived.RowKit
import Derived.Shelf.Spec.BitsCarry
import Derived.Test.YthmekkhpddehjaaGreatRows
import Derived.ProofKit
import Derived.Stop.Joined
import Derived.Shelf.SlIterI.Nil
import Derived.Shelf.SortM.Plain
import Derived.Shelf.SortM.SortNone
import Derived.Ground.GgzProg
import Derived.Ground.SlgmProg
import Derived.Test.YthmekkhpddehjaaGreatProg
set_option linter.all false
namespace Go.Ab
open Go
structure Sem where
 run:Hand->SA Nat->Tm->Sr->(Ss->Tm->Sr->Bool)->Bool
noncomputable def iM (e:Ss) (a:Bool) (b:Nat->Bool) (c:Bool):Bool:=Ss.rec (motive:=fun _=>Bool) a b c e
noncomputable def EP (S:Sem):Nat->Hand->SA Nat->Tm->Sr->(Ss->Tm->Sr->Bool)->Bool :=
 Nat.rec (fun _ _ _ _ _=>false) fun _ ih H ro t m K=>S.run H ro t m fun e t m=>iM e (ih H ro t m K) (fun id=>K (.exit id) t m) (K .ret t m)
noncomputable def pW (s:LoopState) (ready busy other:Bool):Bool:=LoopState.rec (motive:=fun _=>Bool) ready busy other other s
noncomputable def qI (ro:SA Nat) (m:Sr) (x:Bool):Bool:=Option.rec (motive:=fun _=>Bool) x (fun l=>rD m l fun _=>x) ro
noncomputable def Hm {α:Type} (o:SA α):Bool:=Option.rec (motive:=fun _=>Bool) true (fun _=>false) o
noncomputable def LA (E:Env) (H:Hand) (f:Fn) (first captured:SD Rx) (l:Nat) (m:Sr) (K:Rx->Sr->Bool):Bool :=
 Fn.rec (motive:=fun _=>Bool) (fun g=>dY (Hm (E.cM g)) (ko first.toList [.func (.yield l) #[] #[]] fun ars=>ko ars captured.toList fun ars=>H.call g ars m K) false) (fun _=>false) (fun _ _=>false) (fun _ _ _ _=>false) (fun _=>false) f
noncomputable def jU (E:Env) (n:Nat) (fn:SJ):Code->Sem
 | .skip=>⟨fun _ _ t m K=>K .normal t m⟩
 | .label _=>⟨fun _ _ t m K=>K .normal t m⟩
 | .exit id=>⟨fun _ _ t m K=>K (.exit id) t m⟩
 | .ret=>⟨fun _ _ t m K=>K .ret t m⟩
 | .seq a b=>⟨fun H ro t m K=>(jU E n fn a).run H ro t m fun e t m=>iM e ((jU E n fn b).run H ro t m K) (fun id=>K (.exit id) t m) (K .ret t m)⟩
 | .cond x a b=>⟨fun H ro t m K=>(dy E x).run t fun v=>rJ v (fun c=>dY c ((jU E n fn a).run H ro t m K) ((jU E n fn b).run H ro t m K)) false⟩
 | .block id a=>⟨fun H ro t m K=>(jU E n fn a).run H ro t m fun e t m=>iM e (K .normal t m) (fun id'=>dY (Nat.beq id' id) (K .normal t m) (K (.exit id') t m)) (K .ret t m)⟩
 | .scope a=>⟨fun H ro t m K=>(jU E n fn a).run H ro t m K⟩
 | .loop a=>⟨fun H ro t m K=>EP (jU E n fn a) 1000000 H ro t m K⟩
 | .region _ ops draw=>⟨fun H _ t m K=>(JQ E n ops draw).run H t m fun t m=>K .normal t m⟩
 | .rangeFunc f params assign body=>⟨fun H ro t m K=>qI ro m ((dy E f).run t fun fv=>DY fv fun g first captured =>
   dh m (.loop { state:=.ready,pending:=none,fn:=fn,tmps:=t,n:=n,params:=params,assign:=assign,body:=body}) fun l m1=>LA E H g first captured l m1 fun _ m2 =>
    rD m2 l fun r=>ALoop.rec (motive:=fun _=>Bool) (fun state pending fn' tmps' n' params' assign' body'=>pW state
     (cZ m2 l (.loop ⟨.exhausted,pending,fn',tmps',n',params',assign',body'⟩) fun m3=>Option.rec (motive:=fun _=>Bool) (K .normal t m3) (fun c=>Code.rec (motive:=fun _=>Bool) false (fun _ _ _=>false) (fun _ _ _ _=>false) (fun _ _ _ _ _=>false) (fun _ _ _=>false) (fun _ _=>false) (fun _ _ _ _ _ _=>false) (fun id=>K (.exit id) t m3) (fun _ _=>false) (fun _=>false) (fun _=>false) (K .ret t m3) (fun _=>false) c) pending)
     false
     (cZ m2 l (.loop ⟨.exhausted,pending,fn',tmps',n',params',assign',body'⟩) fun m3=>Option.rec (motive:=fun _=>Bool) (K .normal t m3) (fun c=>Code.rec (motive:=fun _=>Bool) false (fun _ _ _=>false) (fun _ _ _ _=>false) (fun _ _ _ _ _=>false) (fun _ _ _=>false) (fun _ _=>false) (fun _ _ _ _ _ _=>false) (fun id=>K (.exit id) t m3) (fun _ _=>false) (fun _=>false) (fun _=>false) (K .ret t m3) (fun _=>false) c) pending)) r)⟩
 | .goto _=>⟨fun _ _ _ _ _=>false⟩
 | .refuse _=>⟨fun _ _ _ _ _=>false⟩
section
variable{E:Env}{n:Nat}{fn:SJ}{ro:SA Nat}{Q:Ss->Tm->Sr->Prop}{t:Tm}{m:Sr}
def Kp(E:Env)(n:Nat)(fn:SJ)(ro:SA Nat)(t:Tm)(l:Nat)(Q:Ss->Tm->Sr->Prop)(m2:Sr):Prop :=
 ∃r,m2.get l=some (.loop r)/\r.state≠.busy/\((r.pending=none/\Q .normal t (m2.set l (.loop { r with state:=.exhausted})))\/(∃c,r.pending=some c/\bN E n fn ro c Q t (m2.set l (.loop { r with state:=.exhausted}))))
def bN.rangeFunc{f:Rz}{params:SD Tmp}{assign body:Code}{g:SJ}{first captured:SD Rx}(hf:aB E t f=some (.func (.func g) first captured))(ha:fF E ⟨t,n,fn,ro⟩ m f=true)
  (h:aK E g (first.toList++[.func (.yield m.next) #[] #[]]++captured.toList) (m.alloc (.loop { state:=.ready,pending:=none,fn:=fn,tmps:=t,n:=n,params:=params,assign:=assign,body:=body})) (fun _ m2=>Kp E n fn ro t m.next Q m2)) :
  bN E n fn ro (.rangeFunc f params assign body) Q t m:=by
 obtain⟨v,m2,⟨k1,h1⟩,r,hr,hb,hq⟩:=h;rcases hq with⟨hp,hq⟩|⟨c,hp,e,t',m',⟨k2,h2⟩,hq⟩
 ·refine⟨_,_,_,bl (k:=k1) ?_,hq⟩;cases hs:r.state with
  | busy=>exact Pz hs hb
  | _=>simp only[step,hf,ha,h1,hr,hs,hp]
 ·refine⟨_,_,_,bl (k:=max k1 k2) ?_,hq⟩;obtain⟨state,pending,fn',tmps',n',params',assign',body'⟩:=r;have hp':pending=some c:=hp;subst hp';have h2':=fQ (QV k1 k2) h2;cases state with
  | busy=>exact Pz rfl hb
  | _=>simp only[step,hf,ha,fQ (Q5 k1 k2) h1,hr,h2']
def OH(ro:SA Nat)(m:Sr):Bool :=
 match ro with
 | none=>true
 | some l=>match m.get l with
  | some (.loop _)=>true
  | _=>false
def pH{x:Bool}(h:qI ro m x=true):x=true/\OH ro m=true:=by
 cases ro with
 | none=>exact⟨h,rfl⟩
 | some l =>
  obtain⟨r,h1,h2⟩:=hZ h;exact⟨h2,by simp only[OH,h1]⟩
def fg{e:Ss}{a:Bool}{b:Nat->Bool}{c:Bool}(h:iM e a b c=true):(e=.normal/\a=true)\/(∃id,e=.exit id/\b id=true)\/(e=.ret/\c=true):=by
 cases e with
 | normal=>exact .inl ⟨rfl,h⟩
 | exit id=>exact .inr (.inl ⟨id,rfl,h⟩)
 | ret=>exact .inr (.inr ⟨rfl,h⟩)
def wY{H:Hand}{a:Code}{S:Sem}(hS:∀{t:Tm} {m:Sr} {K:Ss->Tm->Sr->Bool},S.run H ro t m K=true->bN E n fn ro a (fun e t m=>K e t m=true) t m){K:Ss->Tm->Sr->Bool} :
  ∀(k:Nat) {t:Tm} {m:Sr},EP S k H ro t m K=true->pz E n fn ro a (fun e t m=>K e t m=true) t m
 | 0,t,m,h=>by cases h
 | k+1,t,m,h=>by
  have h':(S.run H ro t m fun e t m=>iM e (EP S k H ro t m K) (fun id=>K (.exit id) t m) (K .ret t m))=true:=h;refine .round ((hS h').mono fun e t m h=>?_);rcases fg h with⟨rfl,h⟩|⟨id,rfl,h⟩|⟨rfl,h⟩
  exact wY hS k h
  exact h
  exact h
def Ak{c:Code}{a:Nat->Bool}{b:Bool}(h:Code.rec (motive:=fun _=>Bool) false (fun _ _ _=>false) (fun _ _ _ _=>false) (fun _ _ _ _ _=>false) (fun _ _ _=>false) (fun _ _=>false) (fun _ _ _ _ _ _=>false) a (fun _ _=>false) (fun _=>false) (fun _=>false) b (fun _=>false) c=true) :
  (∃id,c=.exit id/\a id=true)\/(c=.ret/\b=true):=by
 cases c<;>first|exact .inl ⟨_,rfl,h⟩|exact .inr ⟨rfl,h⟩|cases h
def ru{H:Hand}(hH:Gy E H):∀(c:Code) {ro:SA Nat} {t:Tm} {m:Sr} {K:Ss->Tm->Sr->Bool},(jU E n fn c).run H ro t m K=true->bN E n fn ro c (fun e t m=>K e t m=true) t m:=by
 intro c
 induction c with
 | skip=>intro ro t m K h; exact .skip h
 | label l=>intro ro t m K h; exact .label h
 | exit id=>intro ro t m K h; exact .exit h
 | ret=>intro ro t m K h; exact .ret h
 | seq a b iha ihb =>
  intro ro t m K h;refine .seq ((iha (K:=fun e t m=>iM e ((jU E n fn b).run H ro t m K) (fun id=>K (.exit id) t m) (K .ret t m)) h).mono fun e t m h=>?_);rcases fg h with⟨rfl,h⟩|⟨id,rfl,h⟩|⟨rfl,h⟩
  exact ihb h
  exact h
  exact h
 | cond x a b iha ihb =>
  intro ro t m K h;obtain⟨v,h1,h⟩:=bo (x:=x) h;obtain⟨c,rfl,h⟩:=js h;refine .cond h1 (fun hc=>?_) (fun hc=>?_)
  subst hc; exact iha h
  subst hc; exact ihb h
 | block id a ih =>
  intro ro t m K h;refine .block ((ih (K:=fun e t m=>iM e (K .normal t m) (fun id'=>dY (Nat.beq id' id) (K .normal t m) (K (.exit id') t m)) (K .ret t m)) h).mono fun e t m h=>?_);rcases fg h with⟨rfl,h⟩|⟨id',rfl,h⟩|⟨rfl,h⟩
  exact h
  simp only[fA];rcases cP h with⟨h1,h⟩|⟨h1,h⟩
  rw[Ph (Py h1)]; exact h
  rw[Pb (QA h1)]; exact h
  exact h
 | scope a ih=>intro ro t m K h; exact .scope (ih h)
 | loop a ih=>intro ro t m K h; exact .loop (wY (fun h=>ih h) 1000000 h)
 | region id ops draw=>intro ro t m K h; exact Hb hH (fun t m h=>h) h
 | rangeFunc f params assign body iha ihb =>
  intro ro t m K h;obtain⟨h,hro⟩:=pH h;obtain⟨fv,h1,h⟩:=bo (x:=f) h;have g:=sq h; clear h; obtain⟨g,first,captured,rfl,h⟩:=g
  rw[cu] at h;cases g with
  | func g =>
   have g':=bD h; clear h; obtain⟨hp,h⟩:=g';rw[fy,fy] at h;have hp':(E.cM g).isNone=true:=by cases hg:E.cM g with
    | none=>rfl
    | some p=>rw[hg] at hp; cases hp
   have hro':fF E ⟨t,n,fn,ro⟩ m f=true:=by
    unfold fF;simp only[h1,hp',Bool.true_and];exact hro
   refine .rangeFunc h1 hro' ((hH.1 h).mono fun v m2 h=>?_);obtain⟨r,hr,h⟩:=hZ h;refine⟨r,hr,?_⟩;obtain⟨state,pending,fn',tmps',n',params',assign',body'⟩:=r;have key:∀{x:Bool},(x=cZ m2 m.next (.loop ⟨.exhausted,pending,fn',tmps',n',params',assign',body'⟩) fun m3=>Option.rec (motive:=fun _=>Bool) (K .normal t m3) (fun c=>Code.rec (motive:=fun _=>Bool) false (fun _ _ _=>false) (fun _ _ _ _=>false) (fun _ _ _ _ _=>false) (fun _ _ _=>false) (fun _ _=>false) (fun _ _ _ _ _ _=>false) (fun id=>K (.exit id) t m3) (fun _ _=>false) (fun _=>false) (fun _=>false) (K .ret t m3) (fun _=>false) c) pending)->x=true ->
     ((pending=none/\K .normal t (m2.set m.next (.loop ⟨.exhausted,pending,fn',tmps',n',params',assign',body'⟩))=true)\/(∃c,pending=some c/\bN E n fn ro c (fun e t m=>K e t m=true) t (m2.set m.next (.loop ⟨.exhausted,pending,fn',tmps',n',params',assign',body'⟩)))):=by
    intro x hx hx';rw[hx,cU] at hx';cases pending with
    | none=>exact .inl ⟨rfl,hx'⟩
    | some c =>
     rcases Ak hx' with⟨id,rfl,h⟩|⟨rfl,h⟩
     exact .inr ⟨_,rfl,.exit h⟩
     exact .inr ⟨_,rfl,.ret h⟩
   cases state with
   | busy=>cases h
   | ready=>exact⟨(by intro e; cases e),key rfl h⟩
   | done=>exact⟨(by intro e; cases e),key rfl h⟩
   | exhausted=>exact⟨(by intro e; cases e),key rfl h⟩
  | _=>cases h
 | goto l=>intro ro t m K h; cases h
 | refuse w=>intro ro t m K h; cases h
end
structure ResSem where
 run:Tm->Sr->(SB Rx->Bool)->Bool
noncomputable def DP (E:Env):SB ResultVar->ResSem
 | []=>⟨fun _ _ k=>k []⟩
 | .tmp i::rs=>⟨fun t m k=>(xa i).run t fun v=>(DP E rs).run t m fun vs=>k (v::vs)⟩
 | .cell a ty::rs=>⟨fun t m k=>(xa a).run t fun p=>(Bu E.P ty).run p m fun v=>(DP E rs).run t m fun vs=>k (v::vs)⟩
def p8{E:Env}{t:Tm}{m:Sr}:∀{rs:SB ResultVar} {k:SB Rx->Bool},(DP E rs).run t m k=true->∃vs,cd E t m rs=some vs/\k vs=true
 | [],k,h=>⟨[],rfl,h⟩
 | .tmp i::rs,k,h=>by
  have h':=rA (d:=i) h;obtain⟨vs,h1,h2⟩:=p8 h';exact⟨_,by simp only[cd,h1,Pj],h2⟩
 | .cell a ty::rs,k,h=>by
  have h':=rA (d:=a) h;obtain⟨v,h1,h'⟩:=yz h';obtain⟨vs,h2,h3⟩:=p8 h';exact⟨_,by simp only[cd,h1,h2],h3⟩
noncomputable def JS (vs:SB Rx) (k:Rx->Bool):Bool :=
 List.rec (motive:=fun _=>Bool) (k (.tuple #[])) (fun v rest _=>List.rec (motive:=fun _=>Bool) (k v) (fun w rest' _=>k (.tuple ⟨v::w::rest'⟩)) rest) vs
def BV(vs:SB Rx)(k:Rx->Bool):JS vs k=k (ie vs):=by
 match vs with
 | []=>rfl
 | [v]=>rfl
 | v::w::rest=>rfl
noncomputable def zZ (args:SB Rx):Nat->Tm->(Tm->Bool)->Bool :=
 List.rec (motive:=fun _=>Nat->Tm->(Tm->Bool)->Bool) (fun _ t k=>k t) (fun v _ ih i t k=>(BQ i).run t v fun t=>fN (Nat.succ i) fun i=>ih i t k) args
def tw:∀(args:SB Rx) (i:Nat) (t:Tm) (k:Tm->Bool),i+args.length<=512->zZ args i t k=k (Trie.ofList args i t)
 | [],i,t,k,_=>rfl
 | v::vs,i,t,k,h=>by
  have hi:i<512:=by simp at h; omega
  show(BQ i).run t v (fun t=>fN (Nat.succ i) fun i=>zZ vs i t k)=_
  rw[xw i hi,dm,tw vs (i+1) _ k (by simp at h; omega)]
  rfl
structure FunSem where
 run:Hand->SB Rx->Sr->(Rx->Sr->Bool)->Bool
structure PSem where
 run:SB Rx->Sr->(Rx->Sr->Bool)->Bool
def MZ(E:Env)(F:SJ->SA PSem):Prop:=∀{f:SJ} {S:PSem},F f=some S->∃p,E.cM f=some p/\∀{args:SB Rx} {m:Sr} {K:Rx->Sr->Bool},S.run args m K=true->∃v m',p.run args m=some (v,m')/\K v m'=true
noncomputable def AO (E:Env) (f:SJ):FunSem :=
 match E.P.funcs[f]? with
 | some fn=>match fn.body,Nat.ble fn.ntmps 512 with
  | some c,true=>⟨fun H args m K=>dY (Nat.ble args.length fn.ntmps) (zZ args 0 .nil fun t=>(jU E fn.ntmps f c).run H none t m fun e t m=>iM e ((DP E fn.results.toList).run t m fun vs=>JS vs fun v=>K v m) (fun _=>false) ((DP E fn.results.toList).run t m fun vs=>JS vs fun v=>K v m)) false⟩
  | _,_=>⟨fun _ _ _ _=>false⟩
 | none=>⟨fun _ _ _ _=>false⟩
noncomputable def LG (E:Env) (F:SJ->SA PSem) (f:SJ):FunSem :=
 match F f with
 | some S=>⟨fun _ args m K=>S.run args m K⟩
 | none=>match E.cM f with
  | some p=>⟨fun H args m K=>Option.rec (motive:=fun _=>Bool) ((AO E f).run H args m K) (fun r=>Prod.rec (motive:=fun _=>Bool) (fun v m'=>fV v fun v=>fM m' fun m'=>K v m') r) (p.run args m)⟩
  | none=>AO E f
def aK.cM{E:Env}{f:SJ}{p:Prim}{args:SB Rx}{m m':Sr}{v:Rx}{R:Rx->Sr->Prop}(hp:E.cM f=some p)(h:p.run args m=some (v,m'))(hR:R v m'):aK E f args m R:=by
 have hpa:lr E f args m=some (v,m'):=by
  unfold lr;rw[hp];exact h
 exact⟨v,m',bl (k:=0) (by simp only[step,hpa]),hR⟩
def wK{E:Env}{H:Hand}(hH:Gy E H){f:SJ}{args:SB Rx}{m:Sr}(hpa:lr E f args m=none){K:Rx->Sr->Bool}(h:(AO E f).run H args m K=true):aK E f args m fun v m'=>K v m'=true:=by
 unfold AO at h
 split at h
 rename_i F hf
 split at h
 rename_i c hb hn;have g:=bD h; clear h; obtain⟨h1,h⟩:=g;have hle:=Pt h1;have hn':=Pt hn;rw[tw args 0 _ _ (by omega)] at h
 have hmax:max args.length F.ntmps=F.ntmps:=Nat.max_eq_right hle;refine .LD hpa hf hb ?_;rw[hmax];refine(ru hH c h).mono fun e t m h=>?_;rcases fg h with⟨rfl,h⟩|⟨id,rfl,h⟩|⟨rfl,h⟩
 obtain⟨vs,h2,h⟩:=p8 h;rw[BV] at h;exact⟨fun id e=>(by cases e),vs,h2,h⟩
 cases h
 obtain⟨vs,h2,h⟩:=p8 h;rw[BV] at h;exact⟨fun id e=>(by cases e),vs,h2,h⟩
 cases h
 cases h
def Hf{E:Env}{F:SJ->SA PSem}(hF:MZ E F){H:Hand}(hH:Gy E H){f:SJ}{args:SB Rx}{m:Sr}{K:Rx->Sr->Bool}(h:(LG E F f).run H args m K=true):aK E f args m fun v m'=>K v m'=true:=by
 unfold LG at h
 split at h
 rename_i S hS;obtain⟨p,hp,hS'⟩:=hF hS;obtain⟨v,m',h1,h2⟩:=hS' h;exact .cM hp h1 h2
 split at h
 ·rename_i p hp;simp only at h;cases he:p.run args m with
  | none =>
   rw[he] at h;exact wK hH (by unfold lr; rw[hp]; exact he) h
  | some r =>
   obtain⟨v,m'⟩:=r;rw[he] at h;simp only[AF,Ee] at h;exact .cM hp he h
 rename_i hp;exact wK hH (by unfold lr; rw[hp]; rfl) h
noncomputable def jo (n:Nat):SB Tmp->SB Rx->Tm->(Tm->Bool)->Bool
 | p::ps,v::vs,t,k=>(mg n (some p)).run t v fun t=>jo n ps vs t k
 | _,_,t,k=>k t
def mD{n:Nat}:∀{ps:SB Tmp} {vs:SB Rx} {t:Tm} {k:Tm->Bool},jo n ps vs t k=true->∃t',dU n t ps vs=some t'/\k t'=true
 | p::ps,v::vs,t,k,h=>by
  have h':((mg n (some p)).run t v fun t=>jo n ps vs t k)=true:=by rw[jo] at h; exact h
  obtain⟨t',hp,h2⟩:=iH h';obtain⟨t'',h3,h4⟩:=mD h2;refine⟨t'',?_,h4⟩;unfold dU;unfold hU at hp;simp only at hp
  split at hp
  rename_i hb; cases hp; exact h3
  cases hp
 | [],vs,t,k,h=>⟨t,by unfold dU; rfl,by rw[jo] at h; exact h; intros; simp_all⟩
 | p::ps,[],t,k,h=>⟨t,by unfold dU; rfl,by rw[jo] at h; exact h; intros; simp_all⟩
noncomputable def EG (E:Env) (H:Hand) (l:Nat) (args:SB Rx) (m:Sr) (K:Rx->Sr->Bool):Bool :=
 rD m l fun r=>ALoop.rec (motive:=fun _=>Bool) (fun state _ fn tmps n params assign body=>pW state
  (dY (Nat.beq args.length params.size) (jo n params.toList args tmps fun t0=>(jU E n fn assign).run H (some l) t0 m fun e t1 m1=>iM e
   (rD m1 l fun r1=>ALoop.rec (motive:=fun _=>Bool) (fun state1 pending1 fn1 tmps1 n1 params1 assign1 body1=>pW state1
    (cZ m1 l (.loop ⟨.busy,pending1,fn1,tmps1,n1,params1,assign1,body1⟩) fun m1'=>(jU E n fn body).run H (some l) t1 m1' fun e _ m2=>rD m2 l fun r2=>ALoop.rec (motive:=fun _=>Bool) (fun _ _ fn2 tmps2 n2 params2 assign2 body2 =>
     iM e (cZ m2 l (.loop ⟨.ready,none,fn2,tmps2,n2,params2,assign2,body2⟩) fun m3=>K (.bool true) m3)
      (fun id=>cZ m2 l (.loop ⟨.done,some (.exit id),fn2,tmps2,n2,params2,assign2,body2⟩) fun m3=>K (.bool false) m3)
      (cZ m2 l (.loop ⟨.done,some .ret,fn2,tmps2,n2,params2,assign2,body2⟩) fun m3=>K (.bool false) m3)) r2)
    false false) r1)
   (fun _=>false) false) false)
  false false) r
def lI{s:LoopState}{a:Bool}(h:pW s a false false=true):s=.ready/\a=true:=by
 cases s<;>first|exact⟨rfl,h⟩|cases h
def Cg{E:Env}{H:Hand}(hH:Gy E H){l:Nat}{args:SB Rx}{m:Sr}{K:Rx->Sr->Bool}(h:EG E H l args m K=true):qB E l args m fun v m'=>K v m'=true:=by
 obtain⟨r,hr,h⟩:=hZ h;obtain⟨state,pending,fn,tmps,n,params,assign,body⟩:=r;have g:=lI h; clear h; obtain⟨rfl,h⟩:=g;obtain⟨h1,h⟩:=bD h;obtain⟨t0,h2,h⟩:=mD h;obtain⟨e,t1,m1,⟨k1,h3⟩,h⟩:=ru hH assign h;rcases fg h with⟨rfl,h⟩|⟨id,rfl,h⟩|⟨rfl,h⟩
 obtain⟨r1,hr1,h⟩:=hZ h;obtain⟨state1,pending1,fn1,tmps1,n1,params1,assign1,body1⟩:=r1;have g:=lI h; clear h; obtain⟨rfl,h⟩:=g;rw[cU] at h;obtain⟨e,t2,m2,⟨k2,h4⟩,h⟩:=ru hH body h;obtain⟨r2,hr2,h⟩:=hZ h;obtain⟨state2,pending2,fn2,tmps2,n2,params2,assign2,body2⟩:=r2;have hlen:¬args.length≠params.size:=by have:=Py h1; omega
 have hb:step E (run E (max k1 k2)) (.round l args m)=some (.val (.bool (fx e).isNone) (m2.set l (.loop ⟨if(fx e).isNone then .ready else .done,fx e,fn2,tmps2,n2,params2,assign2,body2⟩))):=by
  simp only[step,hr,Pb hlen,h2,fQ (Q5 k1 k2) h3,hr1,fQ (QV k1 k2) h4,hr2]
 rcases fg h with⟨rfl,hz⟩|⟨id,rfl,hz⟩|⟨rfl,hz⟩
 rw[cU] at hz;exact⟨_,_,bl (k:=max k1 k2) hb,hz⟩
 rw[cU] at hz;exact⟨_,_,bl (k:=max k1 k2) hb,hz⟩
 rw[cU] at hz;exact⟨_,_,bl (k:=max k1 k2) hb,hz⟩
 cases h
 cases h
noncomputable def hand (E:Env) (F:SJ->SA PSem):Nat->Hand :=
 Nat.rec ⟨fun _ _ _ _=>false,fun _ _ _ _=>false⟩ fun _ ih=>⟨fun f args m K=>(LG E F f).run ih args m K,fun l args m K=>EG E ih l args m K⟩
def uN{E:Env}{F:SJ->SA PSem}(hF:MZ E F):∀n,Gy E (hand E F n)
 | 0=>⟨fun h=>(by cases h),fun h=>(by cases h)⟩
 | n+1=>⟨fun h=>Hf hF (uN hF n) h,fun h=>Cg (uN hF n) h⟩
def uA{E:Env}{F:SJ->SA PSem}(hF:MZ E F){n:Nat}{f:SJ}{args:SB Rx}{m:Sr}{K:Rx->Sr->Bool}(h:(hand E F n).call f args m K=true):∃fuel v m',run E fuel (.call f args m)=some (.val v m')/\K v m'=true:=by
 obtain⟨v,m',⟨k,h1⟩,h2⟩:=(uN hF n).1 h;exact⟨k,v,m',h1,h2⟩
noncomputable def NC (n:Nat) (v:Rx) (m:Sr):Bool:=rJ v (fun b=>dY b (Nat.ble n m.wl) false) false
def w9{E:Env}{F:SJ->SA PSem}(hF:MZ E F){n g:Nat}{f:SJ}{args:SB Rx}{m:Sr}(h:(hand E F n).call f args m (NC g)=true):∃fuel m',run E fuel (.call f args m)=some (.val (.bool true) m')/\g<=m'.wl:=by
 obtain⟨k,v,m',h1,h2⟩:=uA hF h;obtain⟨b,rfl,h2⟩:=js h2;obtain⟨rfl,h2⟩:=bD h2;exact⟨k,m',h1,Pt h2⟩
section
variable{E:Env}{n:Nat}{t:Tm}{m:Sr}{K:Tm->Sr->Prop}{ops:SD Oper}{os:SB Oper}{ty:Ry}{p:String}{af:SD Edge}{d:Nat}
variable{L:Tm->Sr->SB Note->Prop}{ns:SB Note}
variable{a b r v:Rx}{x y:Rz}{e e':Ry}
def K6(h:aB E t x=some v)(K':Rx->Sr->Prop):bH E t m (.move x) K'=K' v m:=by rw[GD,h]; rfl
def Fv(h:aB E t x=some v)(K':Rx->Sr->Prop):bH E t m (.assign x) K'=K' v m:=by rw[CR,h]; rfl
def IK{c:Rz}(hc:aB E t c=some (.bool true))(h:aB E t x=some v)(K':Rx->Sr->Prop):bH E t m (.pick c x y) K'=K' v m:=by rw[BP,hc,yV,h]; rfl
def GJ{c:Rz}(hc:aB E t c=some (.bool false))(h:aB E t y=some v)(K':Rx->Sr->Prop):bH E t m (.pick c x y) K'=K' v m:=by rw[BP,hc,xN,h]; rfl
def My(h:aB E t x=some v)(K':Rx->Sr->Prop):bH E t m (.box e x) K'=K' (ptr m.next 0) (m.alloc (.cells v.cells.toList .own)):=by rw[J8,h]; rfl
def Mv{op:BinOp}(h:aB E t x=some a)(h':aB E t y=some b)(hr:bU op e E.P a b=some r)(K':Rx->Sr->Prop):bH E t m (.binOp op e x y e') K'=K' r m:=by rw[FX,h,dE,h',dE,hr]; rfl
def eG{op:UnOp}(h:aB E t x=some a)(hr:yO op a=some r)(K':Rx->Sr->Prop):bH E t m (.unOp op e x) K'=K' r m:=by rw[Hc,h,dE,hr]; rfl
def Lo(h:aB E t x=some a)(hr:fO E.P e e' a=some r)(K':Rx->Sr->Prop):bH E t m (.convert e e' x) K'=K' r m:=by rw[yQ,h,dE,hr]; rfl
def Gb(h:aB E t x=some a)(hr:dB E.P e a m=some r)(K':Rx->Sr->Prop):bH E t m (.load e x) K'=K' r m:=by rw[H0,h,dE,hr]; rfl
def G7{m':Sr}(h:aB E t x=some a)(h':aB E t y=some b)(hr:eW E.P e a b m=some m')(K':Rx->Sr->Prop):bH E t m (.store e x y) K'=K' undef m':=by rw[DI,h,dE,h',dE,hr]; rfl
def xJ{f:Nat}(h:aB E t x=some a)(hr:aM E.P e a f=some r)(K':Rx->Sr->Prop):bH E t m (.fieldAddr e x f) K'=K' r m:=by rw[vg,h,dE,hr]; rfl
def yu(h:aB E t x=some a)(h':aB E t y=some b)(hr:bP E.P e a b=some r)(K':Rx->Sr->Prop):bH E t m (.indexAddr e x y) K'=K' r m:=by rw[uZ,h,dE,h',dE,hr]; rfl
def Ix(h:aB E t x=some a)(h':aB E t y=some b)(hr:fD E.P e a b=some r)(K':Rx->Sr->Prop):bH E t m (.index e x y) K'=K' r m:=by rw[Dw,h,dE,h',dE,hr]; rfl
def Ce{i:Nat}{vs:SD Rx}(h:aB E t x=some (.tuple vs))(hr:vs[i]? = some r)(K':Rx->Sr->Prop):bH E t m (.extract x i) K'=K' r m:=by rw[Aj h,hr]; rfl
def pP{l h k:SA Rz}{l' h' k':SA Rx}(h1:aB E t x=some a)(h2:dz E t l=some l')(h3:dz E t h=some h')(h4:dz E t k=some k')(hr:cj E.P e a l' h' k' m=some r)(K':Rx->Sr->Prop):bH E t m (.slice e x l h k) K'=K' r m:=by rw[Gn h1 h2 h3 h4,hr]; rfl
def HY{z:Rx}(hz:bK E.P e=some z)(hp:bF z=true)(K':Rx->Sr->Prop):bH E t m (.alloc e) K'=K' (ptr m.next 0) (m.alloc (.cells z.cells.toList .own)):=by
 rw[Dz]; simp only[cQ,hz,hp,if_true]; rfl
def dL{bi:Builtin}{ars:SD Rz}{ts:SD Ry}{vs:SB Rx}{m':Sr}(h:bA E t ars.toList=some vs)(hr:bf E.P bi ts vs m=some (r,m'))(K':Rx->Sr->Prop):bH E t m (.call ⟨.builtin bi,ars,ts⟩) K'=K' r m':=by rw[rO,h,dE,hr]; rfl
def Fi{op:Op}{m':Sr}(hc:lV op=none)(hr:cQ E t m op=some (r,m'))(K':Rx->Sr->Prop):bH E t m op K'=K' r m':=by
 unfold bH; rw[hc]; simp only[hr]; rfl
def NP{ops:SD Oper}{t:Tm}{dst:SA Tmp}{o:Op}{ty:Ry}{p:String}{a:SD Edge}{j d:Nat}{b c:Bool}(hd:(ops[j]?).bind (·.dst)=some d)(h:t.at d=.bool c):bB ops ⟨dst,o,ty,p,a,some (j,b)⟩ t=(c==b):=by
 rw[DS]; unfold cX; rw[hd]; simp only[A0 h]
end
section
variable{E:Env}{n:Nat}{fn:SJ}{ro:SA Nat}{Q:Ss->Tm->Sr->Prop}{t:Tm}{m:Sr}{w:Nat}
def iV(E:Env)(n:Nat)(ops:SD Oper)(K:Tm->Sr->Prop):SB Oper->Tm->Sr->Nat->Prop
 | [],t,m,w=>K t (m.ww w)
 | o::os,t,m,w =>
  if bB ops o t then(∀b,aQ E t o.op=some b->b<m.next)/\bH E t (m.ww m.next) o.op fun v m'=>Gq (hU n t o.dst v) fun t'=>iV E n ops K os t' m' (min w m'.wl)
  else Gq (hU n t o.dst undef) fun t'=>iV E n ops K os t' m w
def sU{r:SA Nat}{x y:Nat}{z:SA Nat}{u:Nat->Bool}(h:∀b,r=some b->b<y):df { read:=r,wl:=x,next:=y,wrote:=z,kept:=u}=true:=by
 cases r with
 | none=>rfl
 | some b =>
  have:=h b rfl
  show Nat.blt b y=true
  rw[QB]; exact this
def lZ{ops:SD Oper}{K:Tm->Sr->Prop}:∀{os:SB Oper} {t:Tm} {m:Sr} {w:Nat} {ns:SB Note},iV E n ops K os t m w->ns.all df=true->dQ E n ops (fun t m ns=>ns.all df=true/\K t m) os t (m.ww w) ns
 | [],t,m,w,ns,h,hn=>⟨by simpa using hn,h⟩
 | o::os,t,m,w,ns,h,hn=>by
  simp only[iV] at h;simp only[dQ]
  split at h
  ·rename_i hw;rw[Ph hw];obtain⟨h1,h2⟩:=h;refine h2.A.mono fun v m' hv=>?_;obtain⟨t',hp,h3⟩:=hv.A;refine⟨t',hp,?_⟩;have:=lZ (ns:={ read:=aQ E t o.op,wl:=m'.wl,next:=m.next,wrote:=dS E t o.op,kept:=gQ m m'}::ns) h3 (by rw[Qq,hn,Bool.and_true]; exact sU h1)
   exact this
  rename_i hw;rw[Pb hw];obtain⟨t',hp,h2⟩:=h.A;exact⟨t',hp,lZ h2 (by rw[Qq,hn]; rfl)⟩
def bN.Me{id:Nat}{ops:SD Oper}(hp:du ops=some [])(h:∀K:Tm->Sr->Prop,(∀t m,Q .normal t m->K t m)->iV E n ops K ops.toList t m m.wl):bN E n fn ro (.region id ops true) Q t m:=by
 refine .draw hp ?_;have h1:=lZ (ns:=[]) (h (fun t m=>Q .normal t m) fun _ _ h=>h) rfl;have mono:∀{os:SB Oper} {t:Tm} {m:Sr} {ns:SB Note},dQ E n ops (fun t m ns=>ns.all df=true/\Q .normal t m) os t m ns->dQ E n ops (fun t m ns=>(([]:SB (Nat×Nat)).all (dx ns ops)&&ns.all df)=true/\Q .normal t m) os t m ns:=by
  intro os t m ns h
  simpa using h
 exact mono h1
variable{K:Tm->Sr->Prop}{ops:SD Oper}{os:SB Oper}{ty:Ry}{p:String}{af:SD Edge}{d:Nat}{g:SA (Nat×Bool)}{v a b r:Rx}{x y:Rz}{e:Ry}
def Hu{xs:SB Rz}{vs:SB Rx}(h:aB E t x=some v)(hs:bA E t xs=some vs):bA E t (x::xs)=some (v::vs):=by simp only[bA,h,hs]
end
end Go.Ab
section
namespace Go.Ab.W
open Go Go.Ab
abbrev Fs:=SB (Nat×Rx)
def lk:Fs->Nat->SA Rx
 | [],_=>none
 | p::l,i=>match Nat.beq p.1 i with
  | true=>some p.2
  | false=>lk l i
def Fr(t:Tm)(fs:Fs):Prop:=∀i v,lk fs i=some v->t.at i=v
def Fr.nil(t:Tm):Fr t []:=fun i v h=>by cases h
def Fr.set{t:Tm}{fs:Fs}{d:Nat}{v:Rx}(h:Fr t fs):Fr (Trie.set t d v) ((d,v)::fs):=by
 intro i x hx;unfold lk at hx;rw[at_set]
 split at hx
 rename_i e;have:d=i:=Py e;rw[Ph this.symm]; exact Pf hx
 rename_i e;have:d≠i:=QA e;rw[Pb (Ne.symm this)]; exact h i x hx
def sub(fs:Fs):Fs->Prop
 | []=>True
 | p::l=>lk fs p.1=some p.2/\sub fs l
def Fr.sub{t:Tm}{fs:Fs}:∀{fs':Fs},Fr t fs->sub fs fs'->Fr t fs'
 | [],_,_=>Fr.nil t
 | p::l,h,hs=>by
  intro i v hv;unfold lk at hv
  split at hv
  rename_i e;have:p.1=i:=Py e;subst this;cases hv;exact h _ _ hs.1
  exact Fr.sub h hs.2 i v hv
def ev(E:Env)(fs:Fs):Rz->SA Rx
 | .tmp i=>lk fs i
 | .const v=>match bF v with
  | true=>some v
  | false=>none
 | .global g=>match Nat.blt g E.glob with
  | true=>some (ptr g 0)
  | false=>none
 | .func f=>some (.func (.func f) #[] #[])
def gK(E:Env)(fs:Fs):SB Rz->SA (SB Rx)
 | []=>some []
 | x::xs=>match ev E fs x with
  | some v=>match gK E fs xs with
   | some vs=>some (v::vs)
   | none=>none
  | none=>none
def xh(E:Env)(fs:Fs):SA Rz->SA (SA Rx)
 | none=>some none
 | some x=>match ev E fs x with
  | some v=>some (some v)
  | none=>none
def D5(E:Env)(fs:Fs):SB (Nat×Rz)->SA (SB (Nat×Rx))
 | []=>some []
 | x::xs=>match ev E fs x.2 with
  | some v=>match D5 E fs xs with
   | some vs=>some ((x.1,v)::vs)
   | none=>none
  | none=>none
section
variable{E:Env}{t:Tm}{fs:Fs}
def Fr.ev(h:Fr t fs):∀{x:Rz} {v:Rx},ev E fs x=some v->aB E t x=some v
 | .tmp i,v,e=>by show some (t.at i)=some v; rw[h i v e]
 | .const c,v,e=>by
  simp only[Go.Ab.W.ev] at e
  split at e
  rename_i hp; cases e; simp only[aB]; rw[Ph hp]
  cases e
 | .global g,v,e=>by
  simp only[Go.Ab.W.ev] at e
  split at e
  rename_i hp; cases e; simp only[aB]; rw[Ph (by rwa[QB] at hp)]
  cases e
 | .func f,v,e=>by simp only[Go.Ab.W.ev] at e; exact e
def Fr.gK(h:Fr t fs):∀{xs:SB Rz} {vs:SB Rx},gK E fs xs=some vs->bA E t xs=some vs
 | [],vs,e=>by simp only[Go.Ab.W.gK] at e; exact e
 | x::xs,vs,e=>by
  simp only[Go.Ab.W.gK] at e
  split at e
  rename_i v hv
  split at e
  rename_i ws hw;cases e;exact Hu (h.ev hv) (Fr.gK h hw)
  cases e
  cases e
def Fr.xh(h:Fr t fs):∀{x:SA Rz} {v:SA Rx},xh E fs x=some v->dz E t x=some v
 | none,v,e=>by simp only[Go.Ab.W.xh] at e; exact e
 | some x,v,e=>by
  simp only[Go.Ab.W.xh] at e
  split at e
  rename_i w hw; cases e; simp only[dz]; rw[h.ev hw]; rfl
  cases e
def Fr.D5(h:Fr t fs):∀{xs:SB (Nat×Rz)} {vs:SB (Nat×Rx)},D5 E fs xs=some vs->dg E t xs=some vs
 | [],vs,e=>by simp only[Go.Ab.W.D5] at e; exact e
 | x::xs,vs,e=>by
  simp only[Go.Ab.W.D5] at e
  split at e
  rename_i v hv
  split at e
  rename_i ws hw;cases e;obtain⟨i,y⟩:=x;unfold dg;rw[h.ev hv,Fr.D5 h hw]
  cases e
  cases e
end
def pM(m:Sr)(b o w:Nat)(es:Ru):Prop :=
 b<m.next/\∃all tg,m.get b=some (.cells all tg)/\(∀sz,tg=.more sz->sz=w)/\∀i e,es[i]? = some e->(all.drop (o+i*w)).take w=e/\e.length=w
def eL:Rv->SA Nat
 | some a=>some a.block
 | none=>none
def Rd(m:Sr)(a:Rv)(cap w n:Nat)(es:Ru):Prop :=
 es.length=n/\n<=cap/\((a=none/\n=0)\/(∃b sp,a=some ⟨b,0,some sp⟩/\n=0/\cap=0/\b<m.next)\/∃b o,a=some ⟨b,o,none⟩/\pM m b o w es)
def Rd.lt{m:Sr}{a:Rv}{cap w n:Nat}{es:Ru}(h:Rd m a cap w n es){b:Nat}(hb:eL a=some b):b<m.next:=by
 rcases h.2.2 with⟨rfl,_⟩|⟨b',sp,rfl,_,_,h4⟩|⟨b',o,rfl,h4⟩
 cases hb
 cases hb; exact h4
 cases hb; exact h4.1
def Own(lo:Nat)(m:Sr)(b w n:Nat)(es:Ru)(tg:Tag):Prop :=
 lo<=b/\b<m.next/\m.get b=some (.cells es.flatten tg)/\es.length=n/\(∀e∈es,e.length=w)/\(tg=.own\/tg=.more w)/\0<w
structure GPc where
 ow:Nat->Prop
 rd:Nat->Prop
 P:Sr->Prop
 st:∀m m':Sr,P m->m.next<=m'.next->(∀b,ow b\/rd b->b<m.next->m'.get b=m.get b)->P m'
 lt:∀(m:Sr) b,P m->ow b\/rd b->b<m.next
 fr:Bool:=false
inductive Pc
 | obj (b:Nat) (o:St)
 | arr (b w n:Nat) (es:Ru) (tg:Tag)
 | sl (a:Rv) (w n:Nat) (es:Ru)
 | rd (a:Rv) (cap w n:Nat) (es:Ru)
 | ro (b o w n:Nat) (es:Ru)
 | gen (g:GPc)
def Pc.nK:Pc->SA Nat
 | .obj b _=>some b
 | .arr b _ _ _ _=>some b
 | .sl a _ _ _=>eL a
 | .rd a _ _ _ _=>eL a
 | .ro b _ _ _ _=>some b
 | .gen _=>none
def Pc.own:Pc->Bool
 | .obj _ _|.arr _ _ _ _ _|.sl _ _ _ _=>true
 | _=>false
def Pc.OD:Pc->Nat->Prop
 | .gen g=>g.ow
 | _=>fun _=>False
def Pc.CU:Pc->Nat->Prop
 | .gen g=>fun b=>g.ow b\/g.rd b
 | _=>fun _=>False
def Pc.ow(p:Pc)(b:Nat):Prop:=(p.own=true/\p.nK=some b)\/p.OD b
def Pc.any(p:Pc)(b:Nat):Prop:=p.nK=some b\/p.CU b
def Pc.lR{p:Pc}{b:Nat}(h:p.ow b):p.any b:=by
 rcases h with h|h
 exact .inl h.2
 ·cases p with
  | gen g=>exact .inr (.inl h)
  | _=>exact h.elim
def Pc.Mo{p:Pc}{b:Nat}(ho:p.own=true)(hb:p.nK=some b):p.ow b:=.inl ⟨ho,hb⟩
def Pc.Av{p:Pc}{b:Nat}(ho:p.own=true)(h:p.any b):p.nK=some b:=by
 rcases h with h|h
 exact h
 ·cases p with
  | gen g=>cases ho
  | _=>exact h.elim
def Pc.ok(lo:Nat)(m:Sr):Pc->Prop
 | .obj b o=>lo<=b/\b<m.next/\m.get b=some o
 | .arr b w n es tg=>Own lo m b w n es tg
 | .sl a w n es=>(n=0/\es=[]/\a=none/\0<w)\/∃b tg,a=some ⟨b,0,none⟩/\Own lo m b w n es tg
 | .rd a cap w n es=>Rd m a cap w n es
 | .ro b o w n es=>es.length=n/\pM m b o w es
 | .gen g=>g.P m/\(g.fr=false->∀b,g.ow b->lo<=b)
def Pc.bound:Pc->Bool
 | .gen g=>!g.fr
 | _=>true
def Pc.apart(p q:Pc):Prop:=(∀b,p.ow b->q.any b->False)/\∀b,q.ow b->p.any b->False
structure Hp(m0 m:Sr)(ps:SB Pc):Prop where
 ext:Ext m0 m
 ok:∀p∈ps,p.ok m0.next m
 apart:ps.Pairwise Pc.apart
def pk:SB Pc->Nat->SA Pc
 | [],_=>none
 | p::_,0=>some p
 | _::l,k+1=>pk l k
def cf:SB Pc->Nat->Pc->SB Pc
 | [],_,_=>[]
 | _::l,0,p=>p::l
 | q::l,k+1,p=>q::cf l k p
def jB(p:Pc)(l:SB Pc):pk (p::l) 0=some p:=rfl
def ey(p:Pc)(l:SB Pc)(k:Nat):pk (p::l) (k+1)=pk l k:=rfl
def kJ:∀{ps:SB Pc} {k:Nat} {p:Pc},pk ps k=some p->p∈ps:=by
 intro ps
 induction ps with
 | nil=>intro k p h; simp[pk] at h
 | cons q l ih =>
  intro k p h;cases k with
  | zero=>rw[jB] at h; have:=Pf h; simp[this]
  | succ k=>rw[ey] at h; have:=ih h; simp[this]
def hI(q:Pc)(l:SB Pc)(p:Pc):cf (q::l) 0 p=p::l:=rfl
def dV(q:Pc)(l:SB Pc)(k:Nat)(p:Pc):cf (q::l) (k+1) p=q::cf l k p:=rfl
def oA:∀{l:SB Pc} {k:Nat} {p r:Pc},r∈cf l k p->r∈l\/r=p:=by
 intro l
 induction l with
 | nil=>intro k p r h; simp[cf] at h
 | cons a l ih =>
  intro k p r h;cases k with
  | zero =>
   rw[hI,Pp] at h;rcases h with h|h
   exact .inr h
   exact .inl (by simp[h])
  | succ k =>
   rw[dV,Pp] at h;rcases h with h|h
   exact .inl (by simp[h])
   rcases ih h with h1|h1
   exact .inl (by simp[h1])
   exact .inr h1
def pM.gG{m m':Sr}{b o w:Nat}{es:Ru}(h:pM m b o w es)(hn:m.next<=m'.next)(hg:m'.get b=m.get b):pM m' b o w es:=by
 obtain⟨h1,all,tg,h2,h3⟩:=h;exact⟨by omega,all,tg,by rw[hg]; exact h2,h3⟩
def Own.gG{lo:Nat}{m m':Sr}{b w n:Nat}{es:Ru}{tg:Tag}(h:Own lo m b w n es tg)(hn:m.next<=m'.next)(hg:m'.get b=m.get b):Own lo m' b w n es tg:=by
 obtain⟨h1,h2,h3,h4⟩:=h;exact⟨h1,by omega,by rw[hg]; exact h3,h4⟩
def Rd.gG{m m':Sr}{a:Rv}{cap w n:Nat}{es:Ru}(h:Rd m a cap w n es)(hn:m.next<=m'.next)(hg:∀b,eL a=some b->b<m.next->m'.get b=m.get b):Rd m' a cap w n es:=by
 obtain⟨h1,h2,h4⟩:=h;refine⟨h1,h2,?_⟩;rcases h4 with h4|⟨b,sp,rfl,a1,a2,a3⟩|⟨b,o,rfl,h⟩
 exact .inl h4
 exact .inr (.inl ⟨b,sp,rfl,a1,a2,Pn a3 hn⟩)
 exact .inr (.inr ⟨b,o,rfl,h.gG hn (hg b rfl h.1)⟩)
def Pc.iZ{lo:Nat}{m m':Sr}{p:Pc}(h:p.ok lo m)(hn:m.next<=m'.next)(hg:∀b,p.any b->b<m.next->m'.get b=m.get b):p.ok lo m':=by
 cases p with
 | obj b o=>exact⟨h.1,by have:=h.2.1; omega,by rw[hg b (.inl rfl) h.2.1]; exact h.2.2⟩
 | arr b w n es tg=>exact Own.gG h hn (hg b (.inl rfl) h.2.1)
 | sl a w n es =>
  rcases h with h|⟨b,tg,rfl,h⟩
  exact .inl h
  exact .inr ⟨b,tg,rfl,h.gG hn (hg b (.inl rfl) h.2.1)⟩
 | rd a cap w n es=>exact Rd.gG h hn fun b hb=>hg b (.inl hb)
 | ro b o w n es=>exact⟨h.1,h.2.gG hn (hg b (.inl rfl) h.2.1)⟩
 | gen g=>exact⟨g.st m m' h.1 hn fun b hb=>hg b (.inr hb),h.2⟩
def Pc.eH{lo:Nat}{m:Sr}{p:Pc}(h:p.ok lo m){b:Nat}(hb:p.any b):b<m.next:=by
 cases p with
 | obj b' o=>rcases hb with hb|hb; cases hb; exact h.2.1; exact hb.elim
 | arr b' w n es tg=>rcases hb with hb|hb; cases hb; exact h.2.1; exact hb.elim
 | sl a w n es =>
  rcases hb with hb|hb
  rcases h with⟨_,_,rfl,_⟩|⟨b',tg,rfl,h⟩
  cases hb
  cases hb; exact h.2.1
  exact hb.elim
 | rd a cap w n es=>rcases hb with hb|hb; exact Rd.lt h hb; exact hb.elim
 | ro b' o w n es=>rcases hb with hb|hb; cases hb; exact h.2.1; exact hb.elim
 | gen g=>rcases hb with hb|hb; cases hb; exact g.lt m b h.1 hb
def Pc.F7{lo:Nat}{m:Sr}{p:Pc}(h:p.ok lo m){b:Nat}(hb:p.nK=some b):b<m.next:=Pc.eH h (.inl hb)
def Pc.Ge{lo:Nat}{m:Sr}{p:Pc}(h:p.ok lo m)(hf:p.bound=true){b:Nat}(hb:p.ow b):lo<=b:=by
 rcases hb with⟨ho,hb⟩|hb
 ·cases p with
  | obj b' o=>cases hb; exact h.1
  | arr b' w n es tg=>cases hb; exact h.1
  | sl a w n es =>
   rcases h with⟨_,_,rfl,_⟩|⟨b',tg,rfl,h⟩
   cases hb
   cases hb; exact h.1
  | rd a cap w n es=>cases ho
  | ro b' o w n es=>cases ho
  | gen g=>cases ho
 ·cases p with
  | gen g=>exact h.2 (by simpa [Pc.bound] using hf) b hb
  | _=>exact hb.elim
def Pc.FB{lo:Nat}{m:Sr}{p:Pc}(h:p.ok lo m)(ho:p.own=true){b:Nat}(hb:p.nK=some b):lo<=b:=Pc.Ge h (by cases p<;>first|rfl|cases ho) (.inl ⟨ho,hb⟩)
section
variable{m0 m m':Sr}{ps:SB Pc}
def Hp.get(h:Hp m0 m ps){k:Nat}{p:Pc}(hp:pk ps k=some p):p.ok m0.next m:=h.ok p (kJ hp)
def Pc.jP{p r:Pc}(h:Pc.apart p r):Pc.apart r p:=⟨h.2,h.1⟩
def ft:∀{ps:SB Pc} {k:Nat} {p p':Pc},pk ps k=some p->(∀r∈ps,Pc.apart p r->Pc.apart p' r)->ps.Pairwise Pc.apart->(cf ps k p').Pairwise Pc.apart:=by
 intro ps
 induction ps with
 | nil=>intro k p p' hk; simp[pk] at hk
 | cons q l ih =>
  intro k p p' hk hr h;rw[PC] at h;cases k with
  | zero =>
   rw[jB] at hk;have hk:=Pf hk;subst hk;rw[hI];exact PC.2 ⟨fun r hm=>hr r (by simp[hm]) (h.1 r hm),h.2⟩
  | succ k =>
   rw[ey] at hk;rw[dV];refine PC.2 ⟨fun r hm=>?_,ih hk (fun r hm=>hr r (by simp[hm])) h.2⟩
   rcases oA hm with hm|hm
   exact h.1 r hm
   rw[hm]; exact Pc.jP (hr q (by simp) (Pc.jP (h.1 p (kJ hk))))
def wO:∀{ps:SB Pc} {k:Nat} {p p' r:Pc},pk ps k=some p->ps.Pairwise Pc.apart->r∈cf ps k p'->r=p'\/(r∈ps/\Pc.apart r p):=by
 intro ps
 induction ps with
 | nil=>intro k p p' r hk; simp[pk] at hk
 | cons q l ih =>
  intro k p p' r hk h hr;rw[PC] at h;cases k with
  | zero =>
   rw[jB] at hk;have hk:=Pf hk;subst hk;rw[hI,Pp] at hr;rcases hr with hr|hr
   exact .inl hr
   exact .inr ⟨by simp[hr],Pc.jP (h.1 r hr)⟩
  | succ k =>
   rw[ey] at hk;rw[dV,Pp] at hr;rcases hr with hr|hr
   rw[hr]; exact .inr ⟨by simp,h.1 p (kJ hk)⟩
   rcases ih hk h.2 hr with h1|⟨h1,h2⟩
   exact .inl h1
   exact .inr ⟨by simp[h1],h2⟩
def Hp.Dt(h:Hp m0 m ps){k:Nat}{p p':Pc}(hp:pk ps k=some p)(wj:∀b,p'.ow b->p.ow b\/m.next<=b)(hany:∀b,p'.any b->p.any b\/m.next<=b)(hn:m.next<=m'.next)(hext:Ext m0 m')
  (hok:p'.ok m0.next m') (hg:∀b,¬p.ow b->b<m.next->m'.get b=m.get b):Hp m0 m' (cf ps k p') where
 ext:=hext
 apart:=ft hp (fun r hr ha=>⟨fun b a c=>(wj b a).elim (fun a=>ha.1 b a c) fun a=>by have:=Pc.eH (h.ok r hr) c; omega,fun b a c=>(hany b c).elim (fun c=>ha.2 b a c) fun c=>by have:=Pc.eH (h.ok r hr) (Pc.lR a); omega⟩) h.apart
 ok:=fun r hr=>by
  rcases wO hp h.apart hr with rfl|⟨h1,h2⟩
  exact hok
  exact Pc.iZ (h.ok r h1) hn fun b hb' hlt=>hg b (fun e=>h2.2 b e hb') hlt
def Hp.put(h:Hp m0 m ps){k:Nat}{p p':Pc}(hp:pk ps k=some p)(ho:p.own=true)(hb:p'.nK=p.nK)(ho':p'.own=true)(hn:m.next<=m'.next)(hext:Ext m0 m')
  (hok:p'.ok m0.next m') (hg:∀b,p.nK≠some b->b<m.next->m'.get b=m.get b):Hp m0 m' (cf ps k p') :=
 h.Dt hp (fun b a=>.inl (.inl ⟨ho,by rw[<-hb]; exact Pc.Av ho' (Pc.lR a)⟩)) (fun b a=>.inl (.inl (by rw[<-hb]; exact Pc.Av ho' a))) hn hext hok fun b hb' hlt=>hg b (fun e=>hb' (.inl ⟨ho,e⟩)) hlt
def Hp.Nu(h:Hp m0 m ps){p:Pc}(hn:m.next<=m'.next)(hext:Ext m0 m')(hsame:∀b,b<m.next->m'.get b=m.get b)(hp:p.ok m0.next m')(hb:∀b,p.any b->m.next<=b):Hp m0 m' (p::ps) where
 ext:=hext
 ok:=fun q hq=>by
  rcases Pp.1 hq with rfl|hq
  exact hp
  exact Pc.iZ (h.ok q hq) hn fun b hb' hlt=>hsame b hlt
 apart:=PC.2 ⟨fun q hq=>⟨fun b h1 h2=>by
  have:=Pc.eH (h.ok q hq) h2;have:=hb b (Pc.lR h1);omega,fun b h1 h2=>by
  have:=Pc.eH (h.ok q hq) (Pc.lR h1);have:=hb b h2;omega⟩,h.apart⟩
def Hp.cons(h:Hp m0 m ps){p:Pc}(hn:m.next<=m'.next)(hext:Ext m0 m')(hsame:∀b,b<m.next->m'.get b=m.get b)(hp:p.ok m0.next m')(hb:∀b,p.nK=some b->m.next<=b)(hng:∀b,¬p.CU b:=by exact fun _ h=>h):Hp m0 m' (p::ps) :=
 h.Nu hn hext hsame hp fun b hb'=>hb'.elim (hb b) fun h=>Pz h (hng b)
def ab(ps:SB Pc):SB Nat->SA (SB Pc)
 | []=>some []
 | k::ks=>match pk ps k with
  | some p=>match ab ps ks with
   | some qs=>some (p::qs)
   | none=>none
  | none=>none
def nS:SB Nat->Bool
 | []=>true
 | k::ks=>!(ks.any (Nat.beq k))&&nS ks
def tC:∀{ks:SB Nat} {qs:SB Pc},ab ps ks=some qs->∀q∈qs,∃k∈ks,pk ps k=some q:=by
 intro ks
 induction ks with
 | nil=>intro qs h q hq; simp only[ab,Option.some.injEq] at h; subst h; cases hq
 | cons k ks ih =>
  intro qs h q hq;simp only[ab] at h
  split at h
  rename_i p hp
  split at h
  rename_i qs' hqs;simp only[Option.some.injEq] at h;subst h;rcases Pp.1 hq with rfl|hq
  exact⟨k,by simp,hp⟩
  obtain⟨k',h1,h2⟩:=ih hqs q hq;exact⟨k',by simp[h1],h2⟩
  cases h
  cases h
def dZ:∀{ps:SB Pc} {i j:Nat} {p q:Pc},ps.Pairwise Pc.apart->pk ps i=some p->pk ps j=some q->i≠j->Pc.apart p q:=by
 intro ps
 induction ps with
 | nil=>intro i j p q _ h; simp[pk] at h
 | cons r l ih =>
  intro i j p q h hi hj hne;rw[PC] at h;cases i with
  | zero =>
   cases j with
   | zero=>exact Pz rfl hne
   | succ j =>
    rw[jB] at hi;rw[ey] at hj;rw[<-Pf hi];exact h.1 q (kJ hj)
  | succ i =>
   cases j with
   | zero =>
    rw[jB] at hj;rw[ey] at hi;rw[<-Pf hj];exact Pc.jP (h.1 p (kJ hi))
   | succ j=>rw[ey] at hi hj; exact ih h.2 hi hj (fun e=>hne (by rw[e]))
def ig:∀{ps:SB Pc} {r:Pc},r∈ps->∃k,pk ps k=some r:=by
 intro ps
 induction ps with
 | nil=>intro r h; cases h
 | cons p l ih =>
  intro r h;rcases Pp.1 h with rfl|h
  exact⟨0,rfl⟩
  obtain⟨k,hk⟩:=ih h; exact⟨k+1,hk⟩
def Hp.Jn(h:Hp m0 m ps){k:Nat}{p q:Pc}(hp:pk ps k=some p)(hpo:∀b,¬p.ow b)(hq:q.ok m0.next m)(hqo:∀b,¬q.ow b)(hb:∀b,q.any b->p.any b):Hp m0 m (q::ps) where
 ext:=h.ext
 ok:=fun r hr=>by
  rcases Pp.1 hr with rfl|hr
  exact hq
  exact h.ok r hr
 apart:=PC.2 ⟨fun r hr=>⟨fun b h1 _=>hqo b h1,fun b h1 h2=>by
  obtain⟨k',hk'⟩:=ig hr;have hne:k≠k':=fun e=>by
   rw[<-e,hp] at hk';exact hpo b (by rw[Pf hk']; exact h1)
  exact(dZ h.apart hp hk' hne).2 b h1 (hb b h2)⟩,h.apart⟩
def Hp.more(h:Hp m0 m ps){k:Nat}{p q:Pc}(hp:pk ps k=some p)(hpo:p.own=false)(hq:q.ok m0.next m)(hqo:q.own=false)(hb:∀b,q.nK=some b->p.nK=some b)(hpg:∀b,¬p.OD b:=by exact fun _ h=>h)(hqg:∀b,¬q.CU b:=by exact fun _ h=>h):Hp m0 m (q::ps) :=
 h.Jn hp (fun b h=>h.elim (fun h=>by rw[hpo] at h; cases h.1) (hpg b)) hq (fun b h=>h.elim (fun h=>by rw[hqo] at h; cases h.1) fun h=>hqg b (by cases q with|gen g=>exact .inl h|_=>exact h)) fun b h=>h.elim (fun h=>.inl (hb b h)) fun h=>Pz h (hqg b)
def wJ(h:ps.Pairwise Pc.apart):∀{ks:SB Nat} {qs:SB Pc},nS ks=true->ab ps ks=some qs->qs.Pairwise Pc.apart:=by
 intro ks
 induction ks with
 | nil=>intro qs _ e; simp only[ab,Option.some.injEq] at e; subst e; exact .nil
 | cons k ks ih =>
  intro qs hnd e;simp only[nS,Pe,Qe,List.any_eq_false] at hnd;simp only[ab] at e
  split at e
  rename_i p hp
  split at e
  rename_i qs' hqs;simp only[Option.some.injEq] at e;subst e;refine PC.2 ⟨fun q hq=>?_,ih hnd.2 hqs⟩;obtain⟨k',h1,h2⟩:=tC hqs q hq;exact dZ h hp h2 fun e=>hnd.1 k' h1 (by rw[e]; exact Nat.beq_refl _)
  cases e
  cases e
def Hp.ab(h:Hp m0 m ps)(ks:SB Nat){qs:SB Pc}(hnd:nS ks=true)(e:W.ab ps ks=some qs):Hp m0 m qs where
 ext:=h.ext
 ok:=fun q hq=>by
  obtain⟨k,_,hk⟩:=tC e q hq;exact h.ok q (kJ hk)
 apart:=wJ h.apart hnd e
def Pc.Jz{lo lo':Nat}{m:Sr}{p:Pc}(h:p.ok lo m)(hle:lo'<=lo):p.ok lo' m:=by
 have up:∀{b w n es tg},Own lo m b w n es tg->Own lo' m b w n es tg:=fun ho=>⟨PB hle ho.1,ho.2⟩;cases p with
 | obj b o=>exact⟨PB hle h.1,h.2⟩
 | arr b w n es tg=>exact up h
 | sl a w n es =>
  rcases h with h1|⟨b,tg,e,h1⟩
  exact .inl h1
  exact .inr ⟨b,tg,e,up h1⟩
 | rd a cap w n es=>exact h
 | ro b o w n es=>exact h
 | gen g=>exact⟨h.1,fun hf b hb=>PB hle (h.2 hf b hb)⟩
def Hp.LC(h:Hp m0 m ps){new:SB Pc}(h':Hp m m' new)(hbd:∀p∈new,p.bound=true)(hro:∀p∈new,∀b,p.any b->m.next<=b\/(¬p.ow b/\∃q∈ps,(∀b,¬q.ow b)/\q.any b)):Hp m0 m' (new++ps) where
 ext:=h.ext.trans h'.ext
 ok:=fun q hq=>by
  rcases PX.1 hq with hq|hq
  exact Pc.Jz (h'.ok q hq) h.ext.next
  exact Pc.iZ (h.ok q hq) h'.ext.next fun b _ hlt=>h'.ext.same b hlt
 apart:=List.pairwise_append.2 ⟨h'.apart,h.apart,fun p hp q hq=>⟨fun b h1 h2=>by
  have:=Pc.Ge (h'.ok p hp) (hbd p hp) h1;have:=Pc.eH (h.ok q hq) h2;omega,fun b h1 h2=>by
  rcases hro p hp b h2 with h3|⟨_,r,hr,hr1,hr2⟩
  have:=Pc.eH (h.ok q hq) (Pc.lR h1);omega
  obtain⟨i,hi⟩:=ig hq;obtain⟨j,hj⟩:=ig hr;have hne:i≠j:=fun e=>by
   rw[e,hj] at hi;exact hr1 b (by rw[Pf hi]; exact h1)
  exact(dZ h.apart hi hj hne).1 b h1 hr2⟩⟩
def Hp.after(h:Hp m0 m ps){new:SB Pc}(h':Hp m m' new)(hro:∀p∈new,p.own=true):Hp m0 m' (new++ps) :=
 h.LC h' (fun p hp=>by have:=hro p hp; cases p<;>first|rfl|cases this) fun p hp b hb=>.inl (Pc.FB (h'.ok p hp) (hro p hp) (Pc.Av (hro p hp) hb))
def owns(ps:SB Pc)(b:Nat):Prop:=∃p∈ps,p.ow b
def Hp.bt(h:Hp m0 m ps):∀b,owns ps b->b<m.next:=fun _ ⟨p,hp,hb⟩=>Pc.eH (h.ok p hp) (Pc.lR hb)
def bu(H:Rw):GPc:={ ow:=H,rd:=fun _=>False,P:=fun m=>∀b,H b->b<m.next,fr:=true,st:=fun _ _ h hn _ b hb=>Pn (h b hb) hn,lt:=fun _ b h hb=>hb.elim (h b) fun h=>h.elim}
def Hp.dR(m:Sr){H:Rw}(hH:∀b,H b->b<m.next):Hp m m [.gen (bu H)]:=⟨.refl m,fun p h=>by rw[PM.1 h]; exact⟨hH,fun h=>by cases h⟩,List.pairwise_singleton ..⟩
def Hp.E2(h:Hp m0 m ps){new:SB Pc}(h':Hp m m' (new++[.gen (bu (owns ps))]))(hbd:∀p∈new,p.bound=true):Hp m0 m' (new++ps) where
 ext:=h.ext.trans h'.ext
 ok:=fun q hq=>by
  rcases PX.1 hq with hq|hq
  exact Pc.Jz (h'.ok q (List.mem_append_left _ hq)) h.ext.next
  exact Pc.iZ (h.ok q hq) h'.ext.next fun b _ hlt=>h'.ext.same b hlt
 apart:=List.pairwise_append.2 ⟨(List.pairwise_append.1 h'.apart).1,h.apart,fun p hp q hq=>⟨fun b h1 h2=>by
  have:=Pc.Ge (h'.ok p (List.mem_append_left _ hp)) (hbd p hp) h1;have:=Pc.eH (h.ok q hq) h2;omega,fun b h1 h2=>((List.pairwise_append.1 h'.apart).2.2 p hp _ (PM.2 rfl)).2 b (.inr ⟨q,hq,h1⟩) h2⟩⟩
def Hp.bZ(h:Hp m0 m ps){k cap w n:Nat}{a:Rv}{es:Ru}(hp:pk ps k=some (.rd a cap w n es)):∀b,eL a=some b->¬owns ps b:=fun b hb ⟨q,hq,h1⟩=>by
 obtain⟨i,hi⟩:=ig hq;have hne:i≠k:=fun e=>by
  rw[e,hp] at hi;cases hi;exact h1.elim (fun h=>by cases h.1) fun h=>h.elim
 exact(dZ h.apart hi hp hne).1 b h1 (.inl hb)
end
structure TyI(P:RA)(ty:Ry)(ag:Bool)(sz:Nat):Prop where
 known:known P ty=true
 agg:dK P ty=ag
 size:aE P ty=sz
structure SlT(P:RA)(ty elem:Ry)(w:Nat):Prop where
 und:P.underlying ty=some (.slice elem)
 known:known P elem=true
 size:aE P elem=w
 pos:0<w
 zero:(bK P elem).any (fun z=>z.cells.size==w&&z.cells.toList.all aR)=true
 bytes:∃i,P.info? elem=some i/\i.bytes≠0/\i.bytes<=1024
structure ArT(P:RA)(ty elem:Ry)(len w:Nat):Prop where
 und:P.underlying ty=some (.array len elem)
 known:known P elem=true
 size:aE P elem=w
def L3(P:RA)(ty elem:Ry)(w:Nat):Bool :=
 (match P.underlying ty with|some (.slice e)=>Nat.beq e elem|_=>false)&&known P elem&&Nat.beq (aE P elem) w&&Nat.blt 0 w &&(bK P elem).any (fun z=>z.cells.size==w&&z.cells.toList.all aR) &&(match P.info? elem with|some i=>!(Nat.beq i.bytes 0)&&Nat.ble i.bytes 1024|none=>false)
def SlT.of{P:RA}{ty elem:Ry}{w:Nat}(h:L3 P ty elem w=true):SlT P ty elem w:=by
 simp only[L3,Pe] at h;obtain⟨⟨⟨⟨⟨h1,h2⟩,h3⟩,h4⟩,h5⟩,h6⟩:=h;refine⟨?_,h2,Py h3,by rwa[QB] at h4,h5,?_⟩
 split at h1
 rename_i e he; rw[he,Py h1]
 cases h1
 split at h6
 rename_i i hi;simp only[Pe,Qe] at h6;exact⟨i,hi,QA h6.1,Pt h6.2⟩
 cases h6
section
variable{E:Env}{n:Nat}{m0:Sr}{fs:Fs}{ps:SB Pc}
def Od(E:Env)(m0:Sr)(fs:Fs)(ps:SB Pc)(o:Op)(v:Rx)(ps':SB Pc):Prop :=
 ∀t m,Fr t fs->Hp m0 m ps->(∀b,aQ E t o=some b->b<m.next)/\∀K:Rx->Sr->Prop,(∀m',Hp m0 m' ps'->K v m')->bH E t m o K
def Ox(E:Env)(m0:Sr)(fs:Fs)(ps:SB Pc)(o:Op){α:Type}(V:α->Rx)(N:α->SB Pc):Prop :=
 ∀t m,Fr t fs->Hp m0 m ps->(∀b,aQ E t o=some b->b<m.next)/\∀K:Rx->Sr->Prop,(∀x m',Hp m0 m' (N x)->K (V x) m')->bH E t m o K
def Od.pure{o:Op}{v:Rx}(hr:∀t,aQ E t o=none)(h:∀t m,Fr t fs->∀K,bH E t m o K=K v m):Od E m0 fs ps o v ps :=
 fun t m hf hp=>⟨fun b hb=>(by rw[hr] at hb; cases hb),fun K hK=>by rw[h t m hf]; exact hK m hp⟩
variable{x y z:Rz}{a b r v:Rx}{ty ty':Ry}
def aa(h:ev E fs x=some v):Od E m0 fs ps (.move x) v ps:=.pure (fun _=>rfl) fun _ _ hf=>Go.Ab.K6 (hf.ev h)
def ai(h:ev E fs x=some v):Od E m0 fs ps (.assign x) v ps:=.pure (fun _=>rfl) fun _ _ hf=>Go.Ab.Fv (hf.ev h)
def ir{c:Rz}(hc:ev E fs c=some (.bool true))(h:ev E fs x=some v):Od E m0 fs ps (.pick c x y) v ps:=.pure (fun _=>rfl) fun _ _ hf=>Go.Ab.IK (hf.ev hc) (hf.ev h)
def HO{c:Rz}(hc:ev E fs c=some (.bool false))(h:ev E fs y=some v):Od E m0 fs ps (.pick c x y) v ps:=.pure (fun _=>rfl) fun _ _ hf=>Go.Ab.GJ (hf.ev hc) (hf.ev h)
def aj{op:BinOp}(h:ev E fs x=some a)(h':ev E fs y=some b)(hr:bU op ty E.P a b=some r):Od E m0 fs ps (.binOp op ty x y ty') r ps:=.pure (fun _=>rfl) fun _ _ hf=>Go.Ab.Mv (hf.ev h) (hf.ev h') hr
def eG{op:UnOp}(h:ev E fs x=some a)(hr:yO op a=some r):Od E m0 fs ps (.unOp op ty x) r ps:=.pure (fun _=>rfl) fun _ _ hf=>Go.Ab.eG (hf.ev h) hr
def jS(h:ev E fs x=some a)(hr:fO E.P ty ty' a=some r):Od E m0 fs ps (.convert ty ty' x) r ps:=.pure (fun _=>rfl) fun _ _ hf=>Go.Ab.Lo (hf.ev h) hr
def az{f:Nat}(h:ev E fs x=some a)(hr:aM E.P ty a f=some r):Od E m0 fs ps (.fieldAddr ty x f) r ps:=.pure (fun _=>rfl) fun _ _ hf=>Go.Ab.xJ (hf.ev h) hr
def wP(h:ev E fs x=some a)(h':ev E fs y=some b)(hr:bP E.P ty a b=some r):Od E m0 fs ps (.indexAddr ty x y) r ps:=.pure (fun _=>rfl) fun _ _ hf=>Go.Ab.yu (hf.ev h) (hf.ev h') hr
def cr{i:Nat}{vs:SD Rx}(h:ev E fs x=some (.tuple vs))(hr:vs[i]? = some r):Od E m0 fs ps (.extract x i) r ps:=.pure (fun _=>rfl) fun _ _ hf=>Go.Ab.Ce (hf.ev h) hr
def FH{f:SJ}{xs ys:SD Rz}{vs ws:SB Rx}(h:gK E fs xs.toList=some vs)(h':gK E fs ys.toList=some ws):Od E m0 fs ps (.makeFunc (.func f) xs ys) (.func (.func f) vs.toArray ws.toArray) ps :=
 .pure (fun _=>rfl) fun _ _ hf K=>by rw[Go.Ab.xY,hf.gK h,Go.Ab.dE,hf.gK h',Go.Ab.dE]
def je{bi:Builtin}{ars:SD Rz}{ts:SD Ry}{vs:SB Rx}(h:gK E fs ars.toList=some vs)(hn:(match bi with|.len|.cap=>false|_=>true)=true)(hr:∀m,bf E.P bi ts vs m=some (r,m)):Od E m0 fs ps (.call ⟨.builtin bi,ars,ts⟩) r ps :=
 .pure (fun _=>by cases bi<;>first|rfl|cases hn) fun _ _ hf K=>Go.Ab.dL (hf.gK h) (hr _) K
def cY{parts:SD (Nat×Rz)}{vs:SB (Nat×Rx)}{z:Rx}(h:D5 E fs parts.toList=some vs)(hz:bK E.P ty=some z)(hpz:bF z=true)(hr:jC E.P ty vs=some r):Od E m0 fs ps (.build ty parts) r ps :=
 .pure (fun _=>rfl) fun t m hf K=>by
  have:cQ E t m (.build ty parts)=some (r,m):=by simp only[cQ,hf.D5 h,hz,hpz,if_true,hr,Pj]
  exact Go.Ab.Fi rfl this K
def B1(ag:Bool)(sz:Nat)(cs:SB Rx)(o:Nat):SA Rx :=
 match ag with
 | true=>match Nat.beq ((cs.drop o).take sz).length sz with
  | true=>some (.agg ((cs.drop o).take sz).toArray)
  | false=>none
 | false=>cs[o]?
def vO{P:RA}{m:Sr}{ag:Bool}{sz b o:Nat}{cs:SB Rx}{tg:Tag}(ht:TyI P ty ag sz)(hg:m.get b=some (.cells cs tg))(h:B1 ag sz cs o=some v):dB P ty (ptr b o) m=some v:=by
 cases ag with
 | false=>exact H4 ht.known ht.agg hg h
 | true =>
  simp only[B1] at h
  split at h
  rename_i e;cases h;exact Gz ht.known ht.agg ht.size hg rfl (Py e)
  cases h
def Cq(ag:Bool)(sz c w:Nat):Bool:=(match ag with|true=>true|false=>Nat.beq sz 1)&&Nat.ble (c+sz) w
def pT{ag:Bool}{sz c w:Nat}(h:Cq ag sz c w=true):(ag=false->sz=1)/\c+sz<=w:=by
 simp only[Cq,Pe] at h;exact⟨fun e=>by subst e; exact Py h.1,Pt h.2⟩
def Od.load{b o:Nat}(hx:ev E fs x=some (ptr b o))(h:∀m,Hp m0 m ps->b<m.next/\dB E.P ty (ptr b o) m=some v):Od E m0 fs ps (.load ty x) v ps :=
 fun t m hf hp=>⟨fun b' hb=>by
  simp only[aQ,hf.ev hx] at hb;cases hb; exact(h m hp).1,fun K hK=>by
  rw[Go.Ab.Gb (hf.ev hx) (h m hp).2]; exact hK m hp⟩
def aw{ag:Bool}{sz b o k:Nat}{cs:SB Rx}{tg:Tag}(ht:TyI E.P ty ag sz)(hx:ev E fs x=some (ptr b o))(hp:pk ps k=some (.obj b (.cells cs tg)))(hv:B1 ag sz cs o=some v):Od E m0 fs ps (.load ty x) v ps :=
 .load hx fun m h=>⟨(h.get hp).2.1,vO ht (h.get hp).2.2 hv⟩
def He{ag:Bool}{sz o w c:Nat}{all e:SB Rx}(he:(all.drop o).take w=e)(hsz:ag=false->sz=1)(hc:c+sz<=w)(h:B1 ag sz e c=some v):B1 ag sz all (o+c)=some v:=by
 subst he;have key:((List.take w (List.drop o all)).drop c).take sz=(all.drop (o+c)).take sz:=by
  rw[List.drop_take,List.take_take,Ri,Rk (by omega)]
 cases ag with
 | true=>simp only[B1,key] at h ⊢; exact h
 | false =>
  simp only[B1,Rh,QK] at h ⊢
  split at h
  exact h
  cases h
def kT{P:RA}{m:Sr}{ag:Bool}{sz b o w j c:Nat}{es:Ru}{e:SB Rx}(ht:TyI P ty ag sz)(hl:pM m b o w es)(he:es[j]? = some e)(hv:B1 ag sz e c=some v)(hsz:ag=false->sz=1)(hc:c+sz<=w):dB P ty (ptr b (o+j*w+c)) m=some v:=by
 obtain⟨_,all,tg,hg,_,h⟩:=hl;exact vO ht hg (He (h j e he).1 hsz hc hv)
def vQ{w:Nat}:∀{es:Ru} {j:Nat} {e:SB Rx},(∀e∈es,e.length=w)->es[j]? = some e->(es.flatten.drop (j*w)).take w=e:=by
 intro es
 induction es with
 | nil=>intro j e _ h; simp at h
 | cons x es ih =>
  intro j e hw h;have hx:=hw x (by simp)
  cases j with
  | zero =>
   simp only[PF,Option.some.injEq] at h;subst h;rw[P1,QO,List.drop_zero,List.take_left' hx]
  | succ j =>
   rw[PT] at h;rw[P1,QI,Nat.add_comm,<-Ri,List.drop_left' hx];exact ih (fun e he=>hw e (by simp[he])) h
def Own.Ky{lo:Nat}{m:Sr}{b w n:Nat}{es:Ru}{tg:Tag}(h:Own lo m b w n es tg):pM m b 0 w es :=
 ⟨h.2.1,_,tg,h.2.2.1,fun sz e=>(by rcases h.2.2.2.2.2.1 with h1|h1<;>rw[h1] at e<;>cases e; rfl),fun i e he=>⟨by rw[PV]; exact vQ h.2.2.2.2.1 he,h.2.2.2.2.1 e (PO he)⟩⟩
def ef{ag:Bool}{sz b w n j c k:Nat}{es:Ru}{tg:Tag}{e:SB Rx}(ht:TyI E.P ty ag sz)(hx:ev E fs x=some (ptr b (j*w+c)))(hp:pk ps k=some (.arr b w n es tg))(he:es[j]? = some e)(hv:B1 ag sz e c=some v)(hs:Cq ag sz c w=true):Od E m0 fs ps (.load ty x) v ps:=by
 have hs:=pT hs;refine .load hx fun m h=>⟨(h.get hp).2.1,?_⟩;have:=kT (P:=E.P) ht (Own.Ky (h.get hp)) he hv hs.1 hs.2;rwa[PV] at this
def bC{ag:Bool}{sz b o w n j c k:Nat}{es:Ru}{e:SB Rx}(ht:TyI E.P ty ag sz)(hx:ev E fs x=some (ptr b (o+j*w+c)))(hp:pk ps k=some (.ro b o w n es))(he:es[j]? = some e)(hv:B1 ag sz e c=some v)(hs:Cq ag sz c w=true):Od E m0 fs ps (.load ty x) v ps:=by
 have hs:=pT hs;exact .load hx fun m h=>⟨(h.get hp).2.1,kT (P:=E.P) ht (h.get hp).2 he hv hs.1 hs.2⟩
def bp{elem:Ry}{b o w n cap:Nat}{i:Int}{kd:IntKind}(ht:SlT E.P ty elem w)(hx:ev E fs x=some (.slice (some ⟨b,o,none⟩) n cap))(hy:ev E fs y=some (.int kd i))(hi:0<=i/\i.toNat<n):Od E m0 fs ps (.indexAddr ty x y) (ptr b (o+i.toNat*w+0)) ps:=by
 refine wP hx hy ?_;have hd:decide ((0:Int)<=i/\i<(n:Nat))=true:=by simp; omega
 simp only[bP,ht.und,ht.known,hd,Qc,if_true,ht.size,Qh]
def cF{elem:Ry}{b w n cap:Nat}{i:Int}{kd:IntKind}(ht:SlT E.P ty elem w)(hx:ev E fs x=some (.slice (some ⟨b,0,none⟩) n cap))(hy:ev E fs y=some (.int kd i))(hi:0<=i/\i.toNat<n):Od E m0 fs ps (.indexAddr ty x y) (ptr b (i.toNat*w+0)) ps:=by
 have:=bp (m0:=m0) (ps:=ps) ht hx hy hi;rwa[PV] at this
def Hp.write{m:Sr}(h:Hp m0 m ps){k b:Nat}{p p':Pc}{o':St}(hp:pk ps k=some p)(ho:p.own=true)(hb:p.nK=some b)(hb':p'.nK=some b)(ho':p'.own=true)(hok:p'.ok m0.next (m.set b o')):Hp m0 (m.set b o') (cf ps k p') :=
 h.put hp ho (hb'.trans hb.symm) ho' (Pd _) (h.ext.set (Pc.FB (h.get hp) ho hb) _) hok fun x hx _=>by
  rw[Sr.bL,Pb (fun e=>hx (by rw[e]; exact hb))]
def Jt(cs:SB Rx)(o:Nat)(v:Rx)(sz:Nat):SA (SB Rx) :=
 match Nat.beq v.cells.toList.length sz&&Nat.blt 0 sz&&bg v.cells.toList&&Nat.ble (o+sz) cs.length with
 | true=>some (aT cs o v.cells.toList)
 | false=>none
def iu:∀(cs:SB Rx) (o:Nat) (vs:SB Rx),o+vs.length<=cs.length->(aT cs o vs).length=cs.length
 | cs,0,[],_=>by cases cs<;>rfl
 | [],0,v::vs,h=>by simp at h
 | c::cs,0,v::vs,h=>by simp only[aT,PD]; rw[iu cs 0 vs (by simpa using h)]
 | [],o+1,vs,h=>by simp at h
 | c::cs,o+1,vs,h=>by simp only[aT,PD]; rw[iu cs o vs (by simp at h; omega)]
def xd{P:RA}{m:Sr}{ag:Bool}{sz b o:Nat}{cs cs':SB Rx}{tg:Tag}(ht:TyI P ty ag sz)(hg:m.get b=some (.cells cs tg))(htg:tg≠.ro)(h:Jt cs o v sz=some cs'):eW P ty (ptr b o) v m=some (m.set b (.cells cs' tg)):=by
 simp only[Jt] at h
 split at h
 ·rename_i e;cases h;simp only[Pe] at e;obtain⟨⟨⟨h1,h2⟩,h3⟩,h4⟩:=e;have h1:=Py h1;have h2:0<sz:=by rwa[QB] at h2
  have h4:=Pt h4;have hs:(v.cells.size==aE P ty)=true:=by rw[ht.size,<-h1]; simp
  simp only[eW,ptr,ht.known,hs,h3,Qc,if_true,Sr.cE];cases hc:v.cells.toList with
  | nil=>rw[hc] at h1; simp at h1; omega
  | cons x xs =>
   rw[hc] at h1;simp only[hg];cases tg with
   | ro=>exact Pz rfl htg
   | own=>rw[Ph (by rw[h1]; exact h4)]
   | more s=>rw[Ph (by rw[h1]; exact h4)]
 cases h
def Od.store{bk o:Nat}{p':SB Pc}(hx:ev E fs x=some (ptr bk o))(hy:ev E fs y=some v)(h:∀m,Hp m0 m ps->∃m',eW E.P ty (ptr bk o) v m=some m'/\Hp m0 m' p'):Od E m0 fs ps (.store ty x y) undef p' :=
 fun t m hf hp=>⟨fun b hb=>by simp[aQ] at hb,fun K hK=>by
  obtain⟨m',h1,h2⟩:=h m hp;rw[Go.Ab.G7 (hf.ev hx) (hf.ev hy) h1]; exact hK m' h2⟩
def BT:Tag->Bool
 | .ro=>false
 | _=>true
def bJ{ag:Bool}{sz b o k:Nat}{cs cs':SB Rx}{tg:Tag}(ht:TyI E.P ty ag sz)(hx:ev E fs x=some (ptr b o))(hy:ev E fs y=some v)(hp:pk ps k=some (.obj b (.cells cs tg)))(htg:BT tg=true)(hv:Jt cs o v sz=some cs'):Od E m0 fs ps (.store ty x y) undef (cf ps k (.obj b (.cells cs' tg))) :=
 .store hx hy fun m h=>⟨_,xd ht (h.get hp).2.2 (fun e=>by rw[e] at htg; cases htg) hv,h.write hp rfl rfl rfl rfl ⟨(h.get hp).1,(h.get hp).2.1,by rw[Sr.bL,Ph rfl]⟩⟩
def Ac:∀(l r vs:SB Rx) (c:Nat),c+vs.length<=l.length->aT (l++r) c vs=aT l c vs++r:=by
 intro l r
 induction l with
 | nil =>
  intro vs c h;have h0:c+vs.length<=0:=h;have h1:c=0:=by omega
  have h2:vs=[]:=Qa.1 (by omega)
  subst h1 h2;cases r<;>rfl
 | cons a l ihl =>
  intro vs c h;cases c with
  | zero=>cases vs with
   | nil=>rfl
   | cons v vs=>simp only[Qb,aT]; rw[ihl vs 0 (by simpa using h)]
  | succ c=>simp only[Qb,aT]; rw[ihl vs c (by simp at h; omega)]
def pg:∀(l r vs:SB Rx) (o:Nat),aT (l++r) (l.length+o) vs=l++aT r o vs:=by
 intro l r vs
 induction l with
 | nil=>intro o; simp
 | cons a l ihl=>intro o; rw[Qb,PD,show l.length+1+o=(l.length+o)+1 by omega,aT,ihl o]; rfl
def xB{w c:Nat}{vs:SB Rx}:∀{es:Ru} {j:Nat} {e:SB Rx},(∀e∈es,e.length=w)->es[j]? = some e->c+vs.length<=w->aT es.flatten (j*w+c) vs=(es.set j (aT e c vs)).flatten:=by
 intro es
 induction es with
 | nil=>intro j e _ h; simp at h
 | cons x es ih =>
  intro j e hw h hc;have hx:=hw x (by simp)
  cases j with
  | zero =>
   simp only[PF,Option.some.injEq] at h;subst h;rw[P1,QO,PV,Ac _ _ _ _ (by omega)]
   simp[P1]
  | succ j =>
   rw[PT] at h;rw[P1,QI,show j*w+w+c=x.length+(j*w+c) by omega,pg,ih (fun e he=>hw e (by simp[he])) h hc]
   simp[P1]
def L7{ag:Bool}{sz b w n j c k:Nat}{es:Ru}{e e':SB Rx}{tg:Tag}(ht:TyI E.P ty ag sz)(hx:ev E fs x=some (ptr b (j*w+c)))(hy:ev E fs y=some v)(hp:pk ps k=some (.arr b w n es tg))(he:es[j]? = some e)(hv:Jt e c v sz=some e'):Od E m0 fs ps (.store ty x y) undef (cf ps k (.arr b w n (es.set j e') tg)):=by
 refine .store hx hy fun m h=>?_;obtain⟨g1,g2,g3,g4,g5,g6,g7⟩:=h.get hp;have hew:=g5 e (PO he);simp only[Jt] at hv
 split at hv
 ·rename_i e1;cases hv;simp only[Pe] at e1;obtain⟨⟨⟨h1,h2⟩,h3⟩,h4⟩:=e1;have h1:=Py h1;have h2':0<sz:=by rwa[QB] at h2
  have h4:=Pt h4;have hj:j<es.length:=(PN.1 he).1;have hfl:∀(l:Ru),(∀e∈l,e.length=w)->l.flatten.length=l.length*w:=by
   intro l
   induction l with
   | nil=>intro _; simp
   | cons x l ih=>intro hl; rw[P1,Pm,ih (fun e he=>hl e (by simp[he])),hl x (by simp),PD,QI]; omega
  have hmul:(j+1)*w<=es.length*w:=Qd w hj;rw[QI] at hmul;have hst:Jt es.flatten (j*w+c) v sz=some (aT es.flatten (j*w+c) v.cells.toList):=by
   have:(Nat.beq v.cells.toList.length sz&&Nat.blt 0 sz&&bg v.cells.toList&&Nat.ble (j*w+c+sz) es.flatten.length)=true:=by
    simp only[Pe];exact⟨⟨⟨by rw[h1]; exact Nat.beq_refl _,h2⟩,h3⟩,PG (by rw[hfl es g5]; omega)⟩
   simp only[Jt,this]
  refine⟨_,xd ht g3 (by rcases g6 with rfl|rfl<;>simp) hst,h.write hp rfl rfl rfl rfl ?_⟩
  refine⟨g1,g2,?_,by simpa using g4,fun e'' he''=>?_,g6,g7⟩
  rw[Sr.bL,Ph rfl,xB g5 he (by omega)]
  rcases List.mem_or_eq_of_mem_set he'' with h5|h5
  exact g5 _ h5
  rw[h5,iu _ _ _ (by omega)]; exact hew
 cases hv
def Ox.made{o:Op}{ob:Nat->St}{p:Nat->Pc}{V:Nat->Rx}(hr:∀t,aQ E t o=none)(h:∀t m,Fr t fs->∀K,bH E t m o K=K (V m.next) (m.alloc (ob m.next)))
  (hb:∀b,(p b).nK=some b) (hp:∀lo m b,lo<=b->b<m.next->m.get b=some (ob b)->(p b).ok lo m) (hpg:∀b x,¬(p b).CU x:=by exact fun _ _ h=>h):Ox E m0 fs ps o V (fun b=>p b::ps) :=
 fun t m hf hm=>⟨fun b hb=>(by rw[hr] at hb; cases hb),fun K hK=>by
  rw[h t m hf];refine hK m.next _ (hm.cons (Nat.le_succ _) (hm.ext.alloc _) (fun b hlt=>by rw[Sr.bh,RE]) (hp _ _ _ hm.ext.next (QL _) (by rw[Sr.bh,Ph rfl])) (fun b' h'=>?_) (hpg _))
  rw[hb] at h'; cases h'; exact Pd _⟩
def cC{z:Rx}(hz:bK E.P ty=some z)(hp:bF z=true):Ox E m0 fs ps (.alloc ty) (fun b=>ptr b 0) (fun b=>.obj b (.cells z.cells.toList .own)::ps) :=
 .made (ob:=fun _=>.cells z.cells.toList .own) (p:=fun b=>.obj b (.cells z.cells.toList .own)) (fun _=>rfl) (fun _ _ _ K=>Go.Ab.HY hz hp K) (fun _=>rfl) fun _ _ _ h1 h2 h3=>⟨h1,h2,h3⟩
def bQ(h:ev E fs x=some v):Ox E m0 fs ps (.box ty x) (fun b=>ptr b 0) (fun b=>.obj b (.cells v.cells.toList .own)::ps) :=
 .made (ob:=fun _=>.cells v.cells.toList .own) (p:=fun b=>.obj b (.cells v.cells.toList .own)) (fun _=>rfl) (fun _ _ hf K=>Go.Ab.My (hf.ev h) K) (fun _=>rfl) fun _ _ _ h1 h2 h3=>⟨h1,h2,h3⟩
def Np:Ox E m0 fs ps (.makeMap ty none) (fun b=>.map (some b)) (fun b=>.obj b (.map [])::ps) :=
 .made (ob:=fun _=>.map []) (p:=fun b=>.obj b (.map [])) (fun _=>rfl) (fun _ _ _ _=>Go.Ab.zd) (fun _=>rfl) fun _ _ _ h1 h2 h3=>⟨h1,h2,h3⟩
def Nj(P:RA)(elem:Ry)(w len:Nat)(vs:SB (Nat×Rx)):SA (SB Rx) :=
 match eK P elem len with
 | some zs=>match zs.all aR&&Nat.ble (len*w) 16777216 with
  | true=>gI (fun i=>some (i*w,w)) zs vs
  | false=>none
 | none=>none
def HD(w:Nat)(es:Ru):Bool:=es.all fun e=>Nat.beq e.length w
def Az{w:Nat}{es:Ru}(h:HD w es=true):∀e∈es,e.length=w:=fun e he=>Py (Pr.1 h e he)
def fS{elem:Ry}{w len:Nat}{parts:SD (Nat×Rz)}{vs:SB (Nat×Rx)}{es:Ru}(ht:SlT E.P ty elem w)(h:D5 E fs parts.toList=some vs)(hf:Nj E.P elem w len vs=some es.flatten)(hl:Nat.beq es.length len=true)(hw:HD w es=true) :
  Ox E m0 fs ps (.buildSlice ty len parts) (fun b=>.slice (some ⟨b,0,none⟩) len len) (fun b=>.arr b w len es .own::ps):=by
 refine .made (ob:=fun _=>.cells es.flatten .own) (p:=fun b=>.arr b w len es .own) (fun _=>rfl) (fun t m hfr K=>?_) (fun _=>rfl) fun _ _ _ h1 h2 h3=>⟨h1,h2,h3,Py hl,Az hw,.inl rfl,ht.pos⟩;simp only[Nj] at hf
 split at hf
 rename_i zs hz
 split at hf
 rename_i hc;simp only[Pe] at hc;have:cQ E t m (.buildSlice ty len parts)=some (.slice (some ⟨m.next,0,none⟩) len len,m.alloc (.cells es.flatten .own)):=by
  have h2:¬(len*w>2 ^ 24):=by have:=Pt hc.2; omega
  simp only[cQ,ht.und,hfr.D5 h,ht.known,ht.size,hz,hc.1,hf,PE,Bool.false_or,PL h2,if_true,Pj]
  rfl
 exact Go.Ab.Fi rfl this K
 cases hf
 cases hf
def lim(n:Nat):Bool:=Nat.ble n 1073741824
def kB{z:SB Rx}:∀n,ct z n=(List.replicate n z).flatten
 | 0=>rfl
 | n+1=>by rw[ct,kB n,Q8,P1]
def Oh{elem:Ry}{w n:Nat}{i:Int}{z:Rx}(ht:SlT E.P ty elem w)(hx:ev E fs x=some (.int .i64 i))(hi:i=(n:Int))(hl:lim n=true)(hz:bK E.P elem=some z)(hp:z.cells.toList.all aR=true) :
  Ox E m0 fs ps (.makeSlice ty x x) (fun b=>.slice (some ⟨b,0,none⟩) n n) (fun b=>.arr b w n (List.replicate n z.cells.toList) .own::ps):=by
 subst hi;have hzs:z.cells.size=w:=by have:=ht.zero; rw[hz] at this; simp only[Rj,Pe,beq_iff_eq] at this; exact this.1
 refine .made (ob:=fun _=>.cells (List.replicate n z.cells.toList).flatten .own) (p:=fun b=>.arr b w n (List.replicate n z.cells.toList) .own) (fun _=>rfl) (fun t m hfr K=>?_) (fun _=>rfl) fun _ _ _ h1 h2 h3=>⟨h1,h2,h3,by simp,fun e he=>by rw[QH he]; simpa using hzs,.inl rfl,ht.pos⟩
 have hln:n<=1073741824:=Pt hl;obtain⟨inf,hi1,hi2,hi3⟩:=ht.bytes;have hzz:eK E.P elem n=some (List.replicate n z.cells.toList).flatten:=by
  simp only[eK,hz,ht.size];rw[Ph hzs,kB]
 have ha:(List.replicate n z.cells.toList).flatten.all aR=true:=by
  rw[Pr];intro v hv;obtain⟨l,h1,h2⟩:=List.mem_flatten.1 hv;rw[QH h1] at h2;exact Pr.1 hp v h2
 have hmul:inf.bytes*n<=1024*1073741824:=Qw hi3 hln;have:cQ E t m (.makeSlice ty x x)=some (.slice (some ⟨m.next,0,none⟩) n n,m.alloc (.cells (List.replicate n z.cells.toList).flatten .own)):=by
  have hc:(0:Int)<=(n:Int)/\(n:Int)<=(n:Int)/\(E.P.info? elem).any (fun i=>i.bytes*(n:Int)<=2 ^ 40&&i.bytes != 0)=true/\known E.P elem=true:=by
   refine⟨by omega,by omega,?_,ht.known⟩
   rw[hi1];have h5:((inf.bytes*n:Nat):Int)<=(1024*1073741824:Nat):=Int.ofNat_le.2 hmul;have h6:((inf.bytes*n:Nat):Int)=(inf.bytes:Int)*(n:Int):=P8 _ _;simp only[Rj,Pe,Pv,bne_iff_ne,ne_eq];exact⟨by rw[<-h6]; omega,hi2⟩
  simp only[cQ,ht.und,hfr.ev hx,Pg,hzz];rw[Ph hc,Ph ha]
 exact Go.Ab.Fi rfl this K
end
attribute [local irreducible] Tm.at Trie.set Trie.get Sr.get Sr.set Sr.alloc Sr.ww Sr.kill
section
variable{E:Env}{n:Nat}{m0 m m':Sr}{fs:Fs}{ps:SB Pc}{x y:Rz}{v:Rx}{ty:Ry}
def Own.rd{lo b w n:Nat}{es:Ru}{tg:Tag}(h:Own lo m b w n es tg):Rd m (some ⟨b,0,none⟩) n w n es :=
 ⟨h.2.2.2.1,Pd _,.inr (.inr ⟨b,0,rfl,h.Ky⟩)⟩
inductive IsRd:Pc->Rv->Nat->Nat->Nat->Ru->Prop
 | arr (b w n:Nat) (es:Ru) (tg:Tag):IsRd (.arr b w n es tg) (some ⟨b,0,none⟩) n w n es
 | sl (a:Rv) (w n:Nat) (es:Ru):IsRd (.sl a w n es) a n w n es
 | rd (a:Rv) (cap w n:Nat) (es:Ru):IsRd (.rd a cap w n es) a cap w n es
 | nil {p:Pc} (w:Nat):IsRd p none 0 w 0 []
def Pc.MX{p:Pc}{a:Rv}{lo cap w n:Nat}{es:Ru}(h:p.ok lo m)(hi:IsRd p a cap w n es):Rd m a cap w n es:=by
 cases hi with
 | arr b w n es tg=>exact Own.rd h
 | sl a w n es =>
  rcases h with⟨rfl,rfl,rfl,_⟩|⟨b,tg,rfl,h⟩
  exact⟨rfl,Pd _,.inl ⟨rfl,rfl⟩⟩
  exact h.rd
 | rd a cap w n es=>exact h
 | nil w=>exact⟨rfl,Pd _,.inl ⟨rfl,rfl⟩⟩
def Hp.rd(h:Hp m0 m ps){k:Nat}{p:Pc}{a:Rv}{cap w n:Nat}{es:Ru}(hp:pk ps k=some p)(hi:IsRd p a cap w n es):Rd m a cap w n es:=Pc.MX (h.get hp) hi
def Rd.nil(m:Sr)(w:Nat):Rd m none 0 w 0 []:=⟨rfl,Pd _,.inl ⟨rfl,rfl⟩⟩
def Rd.cells{a:Rv}{cap w n:Nat}{es:Ru}(h:Rd m a cap w n es):cO w (.slice a n cap) n m=some es.flatten:=by
 obtain⟨h1,h2,h4⟩:=h
 by_cases hn:n=0
 ·subst hn;have:es=[]:=Qa.1 h1;subst this;cases a with
  | none=>rfl
  | some a=>obtain⟨b,o,sp⟩:=a; cases sp<;>rfl
 ·rcases h4 with h4|⟨b,sp,rfl,h4,_⟩|⟨b,o,rfl,_,all,tg,hg,_,hl⟩
  exact Pz h4.2 hn
  exact Pz h4 hn
  ·simp only[cO,Pb hn,Sr.dq,hg];have key:∀(es:Ru) (k:Nat),(∀i e,es[i]? = some e->(all.drop (o+(k+i)*w)).take w=e/\e.length=w)->(all.drop (o+k*w)).take (es.length*w)=es.flatten/\es.flatten.length=es.length*w:=by
    intro es
    induction es with
    | nil=>intro k _; simp
    | cons e es ih =>
     intro k hk;obtain⟨a1,a2⟩:=hk 0 e rfl;obtain⟨b1,b2⟩:=ih (k+1) fun i e' he'=>by
      have:=hk (i+1) e' (by simpa using he')
      rwa[show k+(i+1)=k+1+i by omega] at this
     rw[Qh] at a1;refine⟨?_,by rw[P1,Pm,a2,b2,PD,QI]; omega⟩
     rw[PD,QI,Nat.add_comm,List.take_add,a1,Ri,P1,<-b1,QI,Re]
   have:=key es 0 (fun i e he=>by rw[PV]; exact hl i e he)
   rw[QO,Qh,h1] at this;rw[this.1,Ph this.2]
def Hp.renew(h:Hp m0 m ps){k:Nat}{p p':Pc}(hp:pk ps k=some p)(hn:m.next<=m'.next)(hext:Ext m0 m')(hok:p'.ok m0.next m')(hb:∀b,p'.nK=some b->m.next<=b)(hpo:p.own=true)(hg:∀b,p.nK≠some b->b<m.next->m'.get b=m.get b)(hng:∀b,¬p'.CU b:=by exact fun _ h=>h):Hp m0 m' (cf ps k p') :=
 h.Dt hp (fun b a=>.inr ((Pc.lR a).elim (hb b) fun h=>Pz h (hng b))) (fun b a=>.inr (a.elim (hb b) fun h=>Pz h (hng b))) hn hext hok fun b hb' hlt=>hg b (fun e=>hb' (.inl ⟨hpo,e⟩)) hlt
def fw(es:Ru):Prop:=∀e∈es,e.all k9=true
def zh{α:Type}{f:α->SB Rx}(h:∀x,(f x).all k9=true)(xs:SB α):fw (xs.map f):=fun e he=>by
 obtain⟨x,_,rfl⟩:=P6.1 he; exact h x
def pv{es:Ru}(h:fw es):bg es.flatten=true:=by
 unfold bg;rw[Pr];intro v hv;obtain⟨l,h1,h2⟩:=List.mem_flatten.1 hv;exact Pr.1 (h l h1) v h2
def dw{w:Nat}:∀{l:Ru},(∀e∈l,e.length=w)->l.flatten.length=l.length*w:=by
 intro l
 induction l with
 | nil=>intro _; simp
 | cons x l ih=>intro hl; rw[P1,Pm,ih (fun e he=>hl e (by simp[he])),hl x (by simp),PD,QI]; omega
def oT {P:RA} {elem ty2:Ry} {w k n1 c0:Nat} {a a0:Rv} {es e0:Ru} (ht:SlT P ty elem w) (h2:∃e1,P.underlying ty2=some (.slice e1)) (h:Hp m0 m ps) (hp:pk ps k=some (.sl a w n es)) (hr:Rd m a0 c0 w n1 e0) (h1:∀e ∈ e0,e.length=w) (ho:fw e0) (hl:lim (n+n1)=true) :
  ∃a' m',bV P ty (some ty2) (.slice a n n) (.slice a0 n1 c0) m=some (.slice a' (n+n1) (n+n1),m')/\Hp m0 m' (cf ps k (.sl a' w (n+n1) (es++e0))):=by
 obtain⟨e1,h3⟩:=h2;obtain⟨inf,h4,h5,h6⟩:=ht.bytes;have hln:n+n1<=1073741824:=Pt hl;have hc:=hr.cells;have hlen2:e0.flatten.length=n1*w:=by rw[dw h1,hr.1]
 have hnew:eh P elem (some ty2) (.slice a0 n1 c0) m=some (n1,e0.flatten):=by
  simp only[eh,PI,h3,ht.size];have:cO w (.slice a0 n1 c0) n1 m=some e0.flatten:=hc;rw[this]; rfl
 have hfit:(P.info? elem).any (fun i=>dG i.bytes (n+n1)&&i.bytes != 0)=true:=by
  rw[h4];have hmul:(2*(n+n1)+2000)*inf.bytes<=(2*1073741824+2000)*1024:=Qw (by omega) h6
  simp only[Rj,dG,Pe,Pv,bne_iff_ne,ne_eq];exact⟨by omega,h5⟩
 have hzero:(bK P elem).any (fun z=>z.cells.size==w&&z.cells.toList.all aR)=true:=ht.zero;have hpos:=ht.pos;have h7:(w==0)=false:=by simp; omega
 have hguard:(!(known P elem)||aE P elem==0 || !bg e0.flatten || !(P.info? elem).any (fun i=>dG i.bytes (n+n1)&&i.bytes != 0)||e0.flatten.length != n1*aE P elem || !(bK P elem).any (fun z=>z.cells.size==aE P elem&&z.cells.toList.all aR))=false:=by
  rw[ht.size,ht.known,hfit,hzero,pv ho,h7,hlen2]; simp
 have hres:∀a',(∃m',(.slice a' (n+n1) (n+n1),m')=((.slice a' (n+n1) (n+n1),m'):Rx×Sr)):=fun a'=>⟨m,rfl⟩;have hpc:=h.get hp;have hext:=h.ext;rcases hpc with⟨rfl,rfl,rfl,_⟩|⟨b,tg,rfl,hb⟩
 ·
  by_cases h0:n1=0
  ·subst h0;have hes:e0=[]:=Qa.1 hr.1;subst hes;refine⟨none,m,?_,?_⟩
   unfold bV;simp only[ht.und,hnew];rw[Pb (by rw[hguard]; exact PZ)]
   rfl
   ·have:cf ps k (.sl none w (0+0) ([]++[]))=ps:=by
     have:∀(l:SB Pc) (k:Nat) (p:Pc),pk l k=some p->cf l k p=l:=by
      intro l
      induction l with
      | nil=>intro k p h; simp[pk] at h
      | cons q l ih =>
       intro k p h;cases k with
       | zero=>rw[jB] at h; rw[hI,Pf h]
       | succ k=>rw[ey] at h; rw[dV,ih k p h]
     exact this ps k _ hp
    rw[this]; exact h
  refine⟨some ⟨m.next,0,none⟩,m.alloc (.cells e0.flatten (.more w)),?_,?_⟩
  unfold bV;simp only[ht.und,hnew];rw[Pb (by rw[hguard]; exact PZ)]
  simp only[ht.size];rw[Pb (by simp),Pb h0,PV]
  refine h.renew hp (by simp only[Sr.next_alloc]; omega) (hext.alloc _) (.inr ⟨m.next,.more w,rfl,hext.next,(by rw[Sr.next_alloc]; omega),?_,?_,?_,.inr rfl,hpos⟩) (fun b' hb'=>?_) rfl fun b' _ hlt=>?_
  rw[Sr.bh,Ph rfl,P7]
  rw[P7,hr.1,PV]
  rw[P7]; exact h1
  cases hb'; exact Pd _
  rw[Sr.bh,RE]
 ·obtain⟨g4,g5,g0,g1,g2,g3,g6⟩:=hb;have hlen:es.flatten.length=n*w:=by rw[dw g2,g1]
  by_cases h0:n1=0
  ·subst h0;have hes:e0=[]:=Qa.1 hr.1;subst hes;refine⟨some ⟨b,0,none⟩,m,?_,?_⟩
   unfold bV;simp only[ht.und,hnew];rw[Pb (by rw[hguard]; exact PZ)]
   simp only[g0];rw[Ph (Ro (Qh n))];simp[Sr.cE]
   ·rw[PU,Qh];have:cf ps k (.sl (some ⟨b,0,none⟩) w n es)=ps:=by
     have:∀(l:SB Pc) (k:Nat) (p:Pc),pk l k=some p->cf l k p=l:=by
      intro l
      induction l with
      | nil=>intro k p h; simp[pk] at h
      | cons q l ih =>
       intro k p h;cases k with
       | zero=>rw[jB] at h; rw[hI,Pf h]
       | succ k=>rw[ey] at h; rw[dV,ih k p h]
     exact this ps k _ hp
    rw[this]; exact h
  have hcap:¬(n+n1<=n):=by omega
  have htake:es.flatten.take (n*w)=es.flatten:=Ra (by omega)
  have hok:∀(mm:Sr),m.next<=mm.next->Pc.ok m0.next (mm.alloc (.cells (es.flatten++e0.flatten) (.more w))) (.sl (some ⟨mm.next,0,none⟩) w (n+n1) (es++e0)):=fun mm hmm =>
   .inr ⟨mm.next,.more w,rfl,PB hext.next hmm,(by rw[Sr.next_alloc]; omega),by rw[Sr.bh,Ph rfl,List.flatten_append],by rw[Pm,g1,hr.1],fun e he=>by
    rcases PX.1 he with he|he
    exact g2 e he
    exact h1 e he,.inr rfl,hpos⟩
  rcases g3 with rfl|rfl
  refine⟨some ⟨m.next,0,none⟩,m.alloc (.cells (es.flatten++e0.flatten) (.more w)),?_,?_⟩
  unfold bV;simp only[ht.und,hnew];rw[Pb (by rw[hguard]; exact PZ)]
  simp only[ht.size,g0];rw[Pb hcap];have hld:m.dq b 0 (n*w)=some es.flatten:=by
   simp only[Sr.dq,g0,List.drop_zero,htake];rw[Ph hlen]
  simp only[hld]
  refine h.renew hp (by simp only[Sr.next_alloc]; omega) (hext.alloc _) (hok m (Pd _)) (fun b' hb'=>?_) rfl fun b' _ hlt=>?_
  cases hb'; exact Pd _
  rw[Sr.bh,RE]
  refine⟨some ⟨(m.kill b).next,0,none⟩,(m.kill b).alloc (.cells (es.flatten++e0.flatten) (.more w)),?_,?_⟩
  unfold bV;simp only[ht.und,hnew];rw[Pb (by rw[hguard]; exact PZ)]
  simp only[ht.size,g0];rw[Pb hcap];simp only[and_self,if_true,htake,hlen,Sr.next_kill]
  have hk:Ext m0 (m.kill b):=⟨by rw[Sr.next_kill]; exact hext.next,fun x hx=>by rw[Sr.eo,RE]; exact hext.same x hx,by
   rw[Sr.wl_kill];have:=hext.wl; omega⟩
  refine h.renew hp (by simp only[Sr.next_alloc,Sr.next_kill]; omega) (hk.alloc _) (hok (m.kill b) (by rw[Sr.next_kill]; exact Pd _)) (fun b' hb'=>?_) rfl fun b' hb' hlt=>?_
  cases hb'; rw[Sr.next_kill]; exact Pd _
  rw[Sr.bh,Pb (by simp; omega),Sr.eo,Pb (fun e=>hb' (by rw[e]; rfl))]
def NU{elem ty2:Ry}{w k k2 n1 c0:Nat}{a a0:Rv}{es e0:Ru}{ars:SD Rz}{p0:Pc}(ht:SlT E.P ty elem w)(h0:∃e1,E.P.underlying ty2=some (.slice e1))(ha:gK E fs ars.toList=some [.slice a n n,.slice a0 n1 c0])(hp:pk ps k=some (.sl a w n es))(h1:pk ps k2=some p0)(hr:IsRd p0 a0 c0 w n1 e0)(h2:∀e∈e0,e.length=w)(ho:fw e0)(hl:lim (n+n1)=true) :
  Ox E m0 fs ps (.call ⟨.builtin .append,ars,#[ty,ty2]⟩) (fun a':Rv=>.slice a' (n+n1) (n+n1)) (fun a'=>cf ps k (.sl a' w (n+n1) (es++e0))) :=
 fun t m hf h=>⟨fun b hb=>(by simp[aQ] at hb),fun K hK=>by
  obtain⟨a',m',h3,h4⟩:=oT (n:=n) ht h0 h hp (h.rd h1 hr) h2 ho hl;have:bf E.P .append #[ty,ty2] [.slice a n n,.slice a0 n1 c0] m=some (.slice a' (n+n1) (n+n1),m'):=h3;rw[Go.Ab.dL (hf.gK ha) this];exact hK a' m' h4⟩
def bz{k cap:Nat}{a:Rv}{ars:SD Rz}{p:Pc}{elem:Ry}(hu:E.P.underlying ty=some (.slice elem))(ha:gK E fs ars.toList=some [.slice a n cap])(hp:pk ps k=some p)(hb:eL a=p.nK\/a=none) :
  Od E m0 fs ps (.call ⟨.builtin .len,ars,#[ty]⟩) (.int .i64 (n:Int)) ps :=
 fun t m hf h=>⟨fun b hb'=>by
  simp only[aQ,hf.gK ha] at hb';have hab:dW (.slice a n cap)=eL a:=by cases a<;>rfl
  rw[hab] at hb';exact hb.elim (fun hb=>Pc.F7 (h.get hp) (hb▸hb')) (fun hb=>by rw[hb] at hb'; exact nomatch hb'),fun K hK=>by
  have:bf E.P .len #[ty] [.slice a n cap] m=some (.int .i64 (n:Int),m):=by
   have ht:(#[ty]:SD Ry)[0]? = some ty:=rfl;simp only[bf,ht,PI,hu]
  rw[Go.Ab.dL (hf.gK ha) this]; exact hK m h⟩
def iW{n cap lo hi:Nat}(h1:lo<=hi)(h2:hi<=cap){l h:SA Rx}(hl:l=none/\lo=0\/∃k,l=some (.int k (lo:Int)))(hh:h=none/\hi=n\/∃k,h=some (.int k (hi:Int))):dN n cap l h none=some (lo,hi,cap):=by
 have hb:∀(k:IntKind) (x y:Nat),x<=y->jO (.int k (x:Int)) y=some x:=fun k x y hxy=>by
  simp only[jO]; rw[Ph ⟨by omega,by omega⟩,Pg]
 rcases hl with⟨rfl,rfl⟩|⟨k1,rfl⟩<;>rcases hh with⟨rfl,rfl⟩|⟨k2,rfl⟩<;>(unfold dN; simp only[hb _ _ _ h1,hb _ _ _ h2])
def pM.drop{b o w:Nat}{es:Ru}(h:pM m b o w es)(lo k:Nat):pM m b (o+lo*w) w ((es.drop lo).take k):=by
 obtain⟨h1,all,tg,h2,hs,h3⟩:=h;refine⟨h1,all,tg,h2,hs,fun i e he=>?_⟩;rw[Rh] at he
 split at he
 rw[QK] at he;have:=h3 (lo+i) e he;rwa[Qx,<-Re] at this
 cases he
def FM{P:RA}{elem:Ry}{cap w lo hi:Nat}{a:Rv}{es:Ru}{l h:SA Rx}(ht:SlT P ty elem w)(hr:Rd m a cap w n es)(h1:lo<=hi)(h2:hi<=n)(hl:l=none/\lo=0\/∃k,l=some (.int k (lo:Int)))(hh:h=none/\hi=n\/∃k,h=some (.int k (hi:Int))) :
  ∃a' cap',cj P ty (.slice a n cap) l h none m=some (.slice a' (hi-lo) cap')/\Rd m a' cap' w (hi-lo) ((es.drop lo).take (hi-lo))/\(eL a'=eL a):=by
 obtain⟨r1,r2,r4⟩:=hr;have hlen:((es.drop lo).take (hi-lo)).length=hi-lo:=by rw[Qj,List.length_drop,r1]; omega
 have hb:=iW (n:=n) (cap:=cap) h1 (PB h2 r2) hl hh;rcases r4 with⟨rfl,rfl⟩|⟨b,sp,rfl,rfl,rfl,hlt⟩|⟨b,o,rfl,hli⟩
 refine⟨none,cap-lo,?_,⟨hlen,by omega,.inl ⟨rfl,by omega⟩⟩,rfl⟩
 simp only[cj,ht.und,ht.known,if_true,hb]
 have e1:lo=0:=by omega
 have e2:hi=0:=by omega
 subst e1 e2;refine⟨some ⟨b,0,some sp⟩,0,?_,⟨hlen,Pd _,.inr (.inl ⟨b,sp,rfl,rfl,rfl,hlt⟩)⟩,rfl⟩;simp only[cj,ht.und,ht.known,if_true,hb,Qr]
 ·have hli':=hli.drop lo (hi-lo);obtain⟨hlt,all,tg,hg,hs,hall⟩:=hli;have plain:(∀sz,tg≠.more sz)->∃a' cap',cj P ty (.slice (some ⟨b,o,none⟩) n cap) l h none m=some (.slice a' (hi-lo) cap')/\Rd m a' cap' w (hi-lo) ((es.drop lo).take (hi-lo))/\(eL a'=eL (some ⟨b,o,none⟩)):=by
   intro hne;have:cj P ty (.slice (some ⟨b,o,none⟩) n cap) l h none m=some (.slice (some (if cap=lo then⟨b,o,none⟩ else⟨b,o+lo*w,none⟩)) (hi-lo) (cap-lo)):=by
    cases tg with
    | more sz=>exact Pz rfl (hne sz)
    | ro=>simp only[cj,ht.und,ht.known,if_true,hg,hb,ht.size]
    | own=>simp only[cj,ht.und,ht.known,if_true,hg,hb,ht.size]
   by_cases hc:cap=lo
   rw[Ph hc] at this;have e0:hi-lo=0:=by omega
   refine⟨_,_,this,⟨hlen,by omega,.inr (.inr ⟨b,o,rfl,hlt,all,tg,hg,hs,fun i e he=>?_⟩)⟩,rfl⟩
   rw[e0,List.take_zero] at he; simp at he
   rw[Pb hc] at this;exact⟨_,_,this,⟨hlen,by omega,.inr (.inr ⟨b,_,rfl,hli'⟩)⟩,rfl⟩
  cases tg with
  | ro=>exact plain fun sz e=>(by cases e)
  | own=>exact plain fun sz e=>(by cases e)
  | more sz =>
   have hsz:=hs sz rfl;subst hsz;have hb':=iW (n:=n) (cap:=cap) h1 (PB h2 r2) hl hh
   by_cases hc:cap=lo
   have e0:hi-lo=0:=by omega
   have e1:((es.drop lo).take (hi-lo))=[]:=by rw[e0]; rfl
   refine⟨some ⟨b,0,some 0⟩,0,?_,⟨hlen,by omega,.inr (.inl ⟨b,0,rfl,e0,rfl,hlt⟩)⟩,rfl⟩
   simp only[cj,ht.und,ht.known,if_true,hg,hb',ht.size,ne_eq,not_true_eq_false,if_false,e0,gJ];rw[Ph hc]
   refine⟨some ⟨b,o+lo*sz,none⟩,cap-lo,?_,⟨hlen,by omega,.inr (.inr ⟨b,_,rfl,hli'⟩)⟩,rfl⟩
   simp only[cj,ht.und,ht.known,if_true,hg,hb',ht.size,hc,ne_eq,not_true_eq_false,if_false]
def Oi{elem:Ry}{k cap w lo hi:Nat}{a:Rv}{es:Ru}{x:Rz}{lx hx:SA Rz}{l h:SA Rx}(ht:SlT E.P ty elem w)(hv:ev E fs x=some (.slice a n cap))(e1:xh E fs lx=some l)(e2:xh E fs hx=some h)(hp:pk ps k=some (.rd a cap w n es))(h1:lo<=hi)(h2:hi<=n)(hl:l=none/\lo=0\/∃k,l=some (.int k (lo:Int)))(hh:h=none/\hi=n\/∃k,h=some (.int k (hi:Int))) :
  Ox E m0 fs ps (.slice ty x lx hx none) (fun r:Rv×Nat=>.slice r.1 (hi-lo) r.2) (fun r=>.rd r.1 r.2 w (hi-lo) ((es.drop lo).take (hi-lo))::ps) :=
 fun t m hf hm=>by
  obtain⟨a',cap',s1,s2,s3⟩:=FM ht (hm.get hp) h1 h2 hl hh;refine⟨fun b hb=>?_,fun K hK=>?_⟩
  have hab:dW (.slice a n cap)=eL a:=by cases a<;>rfl
  simp only[aQ,hf.ev hv,PI,hab] at hb;exact Rd.lt (hm.get hp) hb
  rw[Go.Ab.pP (hf.ev hv) (hf.xh e1) (hf.xh e2) rfl s1];exact hK (a',cap') m (hm.more hp rfl s2 rfl fun b hb=>by
   have:eL a'=some b:=hb;rw[s3] at this; exact this)
def ux(ps:SB Pc):Bool:=ps.all Pc.own
def pB{α:Type}{V:α->Rx}{N:α->SB Pc}{f:Rz}{g:SJ}{first cap:SD Rx}{ars:SD Rz}{ts:SD Ry}{args:SB Rx}(hf:ev E fs f=some (.func (.func g) first cap))(ha:gK E fs ars.toList=some args)(hc:∀m,Hp m0 m ps->aK E g (first.toList++args++cap.toList) m (fun v m'=>∃x,v=V x/\Hp m0 m' (N x))):Ox E m0 fs ps (.call ⟨.value f,ars,ts⟩) V N :=
 fun t m hfr hm=>⟨fun b hb=>(by simp[aQ] at hb),fun K hK=>by
  have hev:aB E t f=some (.func (.func g) first cap):=by
   cases f with
   | tmp i=>exact hfr.ev hf
   | const c=>exact hfr.ev hf
   | global g=>exact hfr.ev hf
   | func g=>exact hfr.ev hf
  show jW E (aB E t f) (bA E t ars.toList) m _
  rw[hev,hfr.gK ha]
  show aK E g (first.toList++args++cap.toList) m K
  exact(hc m hm).mono fun v m' ⟨x,e,h⟩=>by rw[e]; exact hK x m' h⟩
def bM{α:Type}{V:α->Rx}{N:α->SB Pc}{f:Rz}{g:SJ}{ars:SD Rz}{ts:SD Ry}{args:SB Rx}(hf:ev E fs f=some (.func (.func g) #[] #[]))(ha:gK E fs ars.toList=some args)(hc:∀m,Hp m0 m ps->aK E g args m (fun v m'=>∃x,v=V x/\Hp m m' (N x)))(ho:∀x,ux (N x)=true):Ox E m0 fs ps (.call ⟨.value f,ars,ts⟩) V (fun x=>N x++ps) :=
 pB hf ha fun m hm=>by
  simp only[P7,PU];exact(hc m hm).mono fun v m' ⟨x,e,h⟩=>⟨x,e,hm.after h fun p hp=>Pr.1 (ho x) p hp⟩
end
def Ext.O3{m0 m:Sr}(h:Ext m0 m){w:Nat}(hw:min m0.wl m0.next<=w):Ext m0 (m.ww w):=⟨by rw[Sr.next_ww]; exact h.next,fun b hb=>by rw[Sr.get_ww]; exact h.same b hb,by rw[Sr.wl_ww]; exact hw⟩
def Hp.ww{m0 m:Sr}{ps:SB Pc}(h:Hp m0 m ps){w:Nat}(hw:min m0.wl m0.next<=w):Hp m0 (m.ww w) ps :=
 ⟨Ext.O3 h.ext hw,fun p hp=>Pc.iZ (h.ok p hp) (by rw[Sr.next_ww]; exact Pd _) (fun b _ _=>by rw[Sr.get_ww]),h.apart⟩
section
variable{E:Env}{n:Nat}{m0:Sr}{fs:Fs}{ps ps':SB Pc}{ops:SD Oper}{os:SB Oper}{K:Tm->Sr->Prop}{dr:Bool}
def Wo(dr:Bool)(E:Env)(n:Nat)(ops:SD Oper)(K:Tm->Sr->Prop)(os:SB Oper)(m0:Sr)(fs:Fs)(ps:SB Pc):Prop :=
 match dr with
 | false=>∀t m,Fr t fs->Hp m0 m ps->qx E n ops K os t m
 | true=>∀t m w,Fr t fs->Hp m0 m ps->min m0.wl m0.next<=w->iV E n ops K os t m w
variable{ty:Ry}{p:String}{af:SD Edge}{d:Nat}{o:Op}{g:SA (Nat×Bool)}{v:Rx}
def uc(ops:SD Oper)(fs:Fs)(g:SA (Nat×Bool))(b:Bool):Prop:=∀t d o ty p af,Fr t fs->bB ops ⟨d,o,ty,p,af,g⟩ t=b
def gn:uc ops fs none true:=fun _ _ _ _ _ _ _=>rfl
def gg{j d:Nat}{b c r:Bool}(hd:(ops[j]?).bind (·.dst)=some d)(h:lk fs d=some (.bool c))(hr:(c==b)=r):uc ops fs (some (j,b)) r:=fun t d' o ty p af hf=>by
 rw[<-hr]; exact NP hd (hf d _ h)
def Wo.x{α:Type}{V:α->Rx}{N:α->SB Pc}(h:Ox E m0 fs ps o V N)(hg:uc ops fs g true)(hd:Nat.blt d n=true)(k:∀x,Wo dr E n ops K os m0 ((d,V x)::fs) (N x)):Wo dr E n ops K (⟨some d,o,ty,p,af,g⟩::os) m0 fs ps:=by
 have hd':d<n:=by rwa[QB] at hd
 cases dr with
 | false =>
  intro t m hf hm;simp only[qx,hg t _ _ _ _ _ hf,if_true];refine(h t m hf hm).2 _ fun x m' hm'=>?_;rw[gY,Ph hd'];exact k x _ m' hf.set hm'
 | true =>
  intro t m w hf hm hw;simp only[iV,hg t _ _ _ _ _ hf,if_true];have hx:=hm.ext.next
  have hm':Hp m0 (m.ww m.next) ps:=hm.ww (by omega)
  refine⟨fun b hb=>?_,?_⟩
  have:=(h t _ hf hm').1 b hb;rwa[Sr.next_ww] at this
  refine(h t _ hf hm').2 _ fun x m' hm''=>?_;rw[gY,Ph hd'];have:=hm''.ext.wl;exact k x _ m' _ hf.set hm'' (by omega)
def Wo.x0{α:Type}{V:α->Rx}{N:α->SB Pc}(h:Ox E m0 fs ps o V N)(hg:uc ops fs g true)(k:∀x,Wo dr E n ops K os m0 fs (N x)):Wo dr E n ops K (⟨none,o,ty,p,af,g⟩::os) m0 fs ps:=by
 cases dr with
 | false =>
  intro t m hf hm;simp only[qx,hg t _ _ _ _ _ hf,if_true];refine(h t m hf hm).2 _ fun x m' hm'=>?_;exact k x _ m' hf hm'
 | true =>
  intro t m w hf hm hw;simp only[iV,hg t _ _ _ _ _ hf,if_true];have hx:=hm.ext.next
  have hm':Hp m0 (m.ww m.next) ps:=hm.ww (by omega)
  refine⟨fun b hb=>?_,?_⟩
  have:=(h t _ hf hm').1 b hb;rwa[Sr.next_ww] at this
  refine(h t _ hf hm').2 _ fun x m' hm''=>?_;have:=hm''.ext.wl;exact k x _ m' _ hf hm'' (by omega)
def Od.x(h:Od E m0 fs ps o v ps'):Ox E m0 fs ps o (fun _:SC=>v) (fun _=>ps'):=fun t m hf hm=>⟨(h t m hf hm).1,fun K hK=>(h t m hf hm).2 K fun m' hm'=>hK () m' hm'⟩
def Wo.od(h:Od E m0 fs ps o v ps')(hd:Nat.blt d n=true)(k:Wo dr E n ops K os m0 ((d,v)::fs) ps'):Wo dr E n ops K (⟨some d,o,ty,p,af,none⟩::os) m0 fs ps:=Wo.x h.x gn hd fun _=>k
def Wo.o0(h:Od E m0 fs ps o v ps')(k:Wo dr E n ops K os m0 fs ps'):Wo dr E n ops K (⟨none,o,ty,p,af,none⟩::os) m0 fs ps:=Wo.x0 h.x gn fun _=>k
def Wo.og(h:Od E m0 fs ps o v ps')(hg:uc ops fs g true)(hd:Nat.blt d n=true)(k:Wo dr E n ops K os m0 ((d,v)::fs) ps'):Wo dr E n ops K (⟨some d,o,ty,p,af,g⟩::os) m0 fs ps:=Wo.x h.x hg hd fun _=>k
def Wo.s(hg:uc ops fs g false)(hd:Nat.blt d n=true)(k:Wo dr E n ops K os m0 ((d,undef)::fs) ps):Wo dr E n ops K (⟨some d,o,ty,p,af,g⟩::os) m0 fs ps:=by
 have hd':d<n:=by rwa[QB] at hd
 cases dr with
 | false =>
  intro t m hf hm;simp only[qx,hg t _ _ _ _ _ hf,Pu,if_false];rw[gY,Ph hd'];exact k _ m hf.set hm
 | true =>
  intro t m w hf hm hw;simp only[iV,hg t _ _ _ _ _ hf,Pu,if_false];rw[gY,Ph hd'];exact k _ m w hf.set hm hw
def ae(m0:Sr)(ps:SB Pc)(qs:SB Pc):Prop:=∀m,Hp m0 m ps->Hp m0 m qs
def Wo.eO(h:ae m0 ps ps')(k:Wo dr E n ops K os m0 fs ps'):Wo dr E n ops K os m0 fs ps:=by
 cases dr with
 | false=>exact fun t m hf hm=>k t m hf (h m hm)
 | true=>exact fun t m w hf hm hw=>k t m w hf (h m hm) hw
def Wo.open{k w l:Nat}{a:Rv}{es:Ru}(hp:pk ps k=some (.sl a w l es))(hl:0<l)(h:∀b tg,a=some ⟨b,0,none⟩->BT tg=true->Wo dr E n ops K os m0 fs (cf ps k (.arr b w l es tg))):Wo dr E n ops K os m0 fs ps:=by
 have key:∀m,Hp m0 m ps->∃b tg,a=some ⟨b,0,none⟩/\BT tg=true/\Hp m0 m (cf ps k (.arr b w l es tg)):=by
  intro m hm;have h0:=hm.get hp;rcases h0 with⟨h1,_⟩|⟨b,tg,rfl,h1⟩
  omega
  refine⟨b,tg,rfl,by rcases h1.2.2.2.2.2.1 with rfl|rfl<;>rfl,hm.put hp rfl rfl rfl (Pd _) hm.ext h1 fun _ _ _=>rfl⟩
 cases dr with
 | false=>intro t m hf hm; obtain⟨b,tg,h1,h2,h3⟩:=key m hm; exact h b tg h1 h2 t m hf h3
 | true=>intro t m w' hf hm hw; obtain⟨b,tg,h1,h2,h3⟩:=key m hm; exact h b tg h1 h2 t m w' hf h3 hw
def Wo.bT{k w l cap:Nat}{a:Rv}{es:Ru}(hp:pk ps k=some (.rd a cap w l es))(hl:0<l)(h:∀b o,a=some ⟨b,o,none⟩->Wo dr E n ops K os m0 fs (.ro b o w l es::ps)):Wo dr E n ops K os m0 fs ps:=by
 have key:∀m,Hp m0 m ps->∃b o,a=some ⟨b,o,none⟩/\Hp m0 m (.ro b o w l es::ps):=by
  intro m hm;obtain⟨h1,h2,h3⟩:=hm.get hp;rcases h3 with⟨_,h3⟩|⟨_,_,_,h3,_⟩|⟨b,o,rfl,h3⟩
  omega
  omega
  exact⟨b,o,rfl,hm.more hp rfl ⟨h1,h3⟩ rfl fun b' hb=>hb⟩
 cases dr with
 | false=>intro t m hf hm; obtain⟨b,o,h1,h3⟩:=key m hm; exact h b o h1 t m hf h3
 | true=>intro t m w' hf hm hw; obtain⟨b,o,h1,h3⟩:=key m hm; exact h b o h1 t m w' hf h3 hw
def ae.trans{ps'':SB Pc}(h:ae m0 ps ps')(h':ae m0 ps' ps''):ae m0 ps ps'':=fun m hm=>h' m (h m hm)
def ae.ab(ks:SB Nat)(hnd:nS ks=true)(e:W.ab ps ks=some ps'):ae m0 ps ps':=fun _ h=>h.ab ks hnd e
def ae.close{k b w l:Nat}{es:Ru}{tg:Tag}(hp:pk ps k=some (.arr b w l es tg)):ae m0 ps (cf ps k (.sl (some ⟨b,0,none⟩) w l es)):=fun _ h =>
 h.put hp rfl rfl rfl (Pd _) h.ext (.inr ⟨b,tg,rfl,h.get hp⟩) fun _ _ _=>rfl
def ae.nil(w:Nat)(hw:Nat.blt 0 w=true):ae m0 ps (.sl none w 0 []::ps):=fun m h =>
 h.cons (Pd _) h.ext (fun _ _=>rfl) (.inl ⟨rfl,rfl,rfl,by rwa[QB] at hw⟩) fun b hb=>(by cases hb)
def sB{ps:SB Pc}{k:Nat}{p p':Pc}(hk:pk ps k=some p)(ho:p'.own=false)(hb:∀b,p'.nK=some b->p.nK=some b/\p.own=true)(h:ps.Pairwise Pc.apart)(hng:∀b,¬p'.CU b:=by exact fun _ h=>h):(cf ps k p').Pairwise Pc.apart :=
 ft hk (fun r _ ha=>⟨fun b a c=>a.elim (fun a=>by rw[ho] at a; cases a.1) fun a=>hng b (by cases p' with|gen g=>exact .inl a|_=>exact a),fun b a c=>ha.2 b a (c.elim (fun c=>.inl (hb b c).1) fun c=>Pz c (hng b))⟩) h
def ae.freeze{k w l:Nat}{a:Rv}{es:Ru}(hp:pk ps k=some (.sl a w l es)):ae m0 ps (cf ps k (.rd a l w l es)):=fun m h =>
 ⟨h.ext,fun q hq=>by
  rcases wO hp h.apart hq with rfl|⟨h1,_⟩
  exact Pc.MX (h.get hp) (.sl a w l es)
  exact h.ok q h1,sB hp rfl (fun b hb=>⟨hb,rfl⟩) h.apart⟩
variable{fn:SJ}{ro:SA Nat}{Q:Ss->Tm->Sr->Prop}
def Wk(E:Env)(n:Nat)(fn:SJ)(ro:SA Nat)(c:Code)(Q:Ss->Tm->Sr->Prop)(m0:Sr)(fs:Fs)(ps:SB Pc):Prop:=∀t m,Fr t fs->Hp m0 m ps->bN E n fn ro c Q t m
def At(Q:Ss->Tm->Sr->Prop)(e:Ss)(m0:Sr)(fs:Fs)(ps:SB Pc):Prop:=∀t m,Fr t fs->Hp m0 m ps->Q e t m
variable{a b c:Code}{id id':Nat}
def Wk.seq(h:Wk E n fn ro a (o9 (bN E n fn ro b Q) Q) m0 fs ps):Wk E n fn ro (.seq a b) Q m0 fs ps:=fun t m hf hm=>.seq (h t m hf hm)
def Wk.skip(h:At Q .normal m0 fs ps):Wk E n fn ro .skip Q m0 fs ps:=fun t m hf hm=>.skip (h t m hf hm)
def Wk.exit(h:At Q (.exit id) m0 fs ps):Wk E n fn ro (.exit id) Q m0 fs ps:=fun t m hf hm=>.exit (h t m hf hm)
def Wk.ret(h:At Q .ret m0 fs ps):Wk E n fn ro .ret Q m0 fs ps:=fun t m hf hm=>.ret (h t m hf hm)
def Wk.cond{x:Rz}{r:Bool}(hx:ev E fs x=some (.bool r))(ht:r=true->Wk E n fn ro a Q m0 fs ps)(hf:r=false->Wk E n fn ro b Q m0 fs ps):Wk E n fn ro (.cond x a b) Q m0 fs ps:=fun t m hfr hm=>.cond (hfr.ev hx) (fun h=>ht h t m hfr hm) (fun h=>hf h t m hfr hm)
def Wk.ax{x:Rz}{r:Bool}(hx:ev E fs x=some (.bool r))(hr:r=true)(ht:Wk E n fn ro a Q m0 fs ps):Wk E n fn ro (.cond x a b) Q m0 fs ps:=.cond hx (fun _=>ht) (fun h=>by rw[hr] at h; cases h)
def Wk.ay{x:Rz}{r:Bool}(hx:ev E fs x=some (.bool r))(hr:r=false)(ht:Wk E n fn ro b Q m0 fs ps):Wk E n fn ro (.cond x a b) Q m0 fs ps:=.cond hx (fun h=>by rw[hr] at h; cases h) (fun _=>ht)
def Wk.block(h:Wk E n fn ro a (fA id Q) m0 fs ps):Wk E n fn ro (.block id a) Q m0 fs ps:=fun t m hf hm=>.block (h t m hf hm)
def Wk.scope(h:Wk E n fn ro a Q m0 fs ps):Wk E n fn ro (.scope a) Q m0 fs ps:=fun t m hf hm=>.scope (h t m hf hm)
def Wk.region(h:Wo false E n ops (Q .normal) ops.toList m0 fs ps):Wk E n fn ro (.region id ops false) Q m0 fs ps:=fun t m hf hm=>.Hv (h t m hf hm)
def zQ{t:Tm}{m:Sr}{o:Op}{K K':Rx->Sr->Prop}(h:bH E t m o K)(hk:∀v m',K v m'->K' v m'):bH E t m o K':=by
 unfold bH at h ⊢;cases hc:lV o with
 | some p =>
  obtain⟨f,ars⟩:=p;rw[hc] at h;simp only at h ⊢;cases hf:aB E t f with
  | none=>rw[hf] at h; exact h.elim
  | some v =>
   cases ha:bA E t ars with
   | none=>rw[hf,ha] at h; unfold jW at h; split at h<;>first |(rename_i h1 h2; cases h2)|exact h.elim
   | some vs =>
    rw[hf,ha] at h;unfold jW at h ⊢
    split at h
    rename_i h1 h2;cases h1; cases h2;exact h.mono hk
    rename_i h1 h2;cases h1; cases h2;obtain⟨v,m',h5,hv⟩:=h;exact⟨v,m',h5,hk v m' hv⟩
    exact h.elim
 | none =>
  rw[hc] at h;simp only at h ⊢;cases he:cQ E t m o with
  | none=>rw[he] at h; exact h.elim
  | some r=>rw[he] at h; exact hk r.1 r.2 h
def Ai{K K':Tm->Sr->Prop}(hK:∀t m,K t m->K' t m):∀(os:SB Oper) (t:Tm) (m:Sr) (w:Nat),iV E n ops K os t m w->iV E n ops K' os t m w:=by
 intro os
 induction os with
 | nil=>intro t m w hk; exact hK _ _ hk
 | cons o os ih =>
  intro t m w hk;simp only[iV] at hk ⊢
  split at hk
  rename_i hw;rw[Ph hw];refine⟨hk.1,zQ hk.2 fun v m' hv=>?_⟩;obtain⟨t',e,h4⟩:=hv.A
  show Gq (hU n t o.dst v) fun t'=>iV E n ops K' os t' m' (min w m'.wl)
  rw[e]; exact ih _ _ _ h4
  rename_i hw;rw[Pb hw];obtain⟨t',e,h4⟩:=hk.A;rw[e]; exact ih _ _ _ h4
def Wk.draw(hp:du ops=some [])(h:Wo true E n ops (Q .normal) ops.toList m0 fs ps):Wk E n fn ro (.region id ops true) Q m0 fs ps:=fun t m hf hm=>.Me hp fun K hK=>by
 exact Ai hK _ _ _ _ (h t m m.wl hf hm hm.ext.wl)
def Wo.nil(h:At Q .normal m0 fs ps):Wo dr E n ops (Q .normal) [] m0 fs ps:=by
 cases dr with
 | false=>exact fun t m hf hm=>h t m hf hm
 | true=>exact fun t m w hf hm hw=>h t _ hf (hm.ww hw)
def At.tn(h:Wk E n fn ro b Q m0 fs ps):At (o9 (bN E n fn ro b Q) Q) .normal m0 fs ps:=h
def At.te{K:Tm->Sr->Prop}(h:At Q (.exit id) m0 fs ps):At (o9 K Q) (.exit id) m0 fs ps:=h
def At.tr{K:Tm->Sr->Prop}(h:At Q .ret m0 fs ps):At (o9 K Q) .ret m0 fs ps:=h
def At.bn(h:At Q .normal m0 fs ps):At (fA id Q) .normal m0 fs ps:=h
def At.be(h:At Q .normal m0 fs ps):At (fA id Q) (.exit id) m0 fs ps:=fun t m hf hm=>by rw[Bz,Ph rfl]; exact h t m hf hm
def At.bx(hne:Nat.beq id' id=false)(h:At Q (.exit id') m0 fs ps):At (fA id Q) (.exit id') m0 fs ps:=fun t m hf hm=>by rw[Bz,Pb (QA hne)]; exact h t m hf hm
def At.br(h:At Q .ret m0 fs ps):At (fA id Q) .ret m0 fs ps:=h
def Wk.cz{fs':Fs}(hs:sub fs fs')(h:ae m0 ps ps')(k:Wk E n fn ro c Q m0 fs' ps'):Wk E n fn ro c Q m0 fs ps:=fun t m hf hm=>k t m (hf.sub hs) (h m hm)
structure En where
 e:Ss
 fs:Fs
 ps:SB Pc
def qH(m0:Sr){γ:Type}(G:γ->En)(e:Ss)(t:Tm)(m:Sr):Prop:=∃g,e=(G g).e/\Fr t (G g).fs/\Hp m0 m (G g).ps
def At.en{γ:Type}{G:γ->En}{e:Ss}(g:γ)(he:e=(G g).e)(hs:sub fs (G g).fs)(ht:ae m0 ps (G g).ps):At (qH m0 G) e m0 fs ps:=fun _ m hf hm=>⟨g,he,hf.sub hs,ht m hm⟩
def Wk.cut{γ:Type}{G:γ->En}(h:Wk E n fn ro c (qH m0 G) m0 fs ps)(k:∀g,At Q (G g).e m0 (G g).fs (G g).ps):Wk E n fn ro c Q m0 fs ps:=fun t m hf hm =>
 (h t m hf hm).mono fun e t' m' ⟨g,h1,h2,h3⟩=>by rw[h1]; exact k g t' m' h2 h3
def bR{σ ρ:Type}(body:σ->SA (σ⊕ρ)):Nat->σ->SA ρ
 | 0,_=>none
 | k+1,s=>match body s with
  | some (.inl s')=>bR body k s'
  | some (.inr r)=>some r
  | none=>none
def Wk.loop{σ ρ γ:Type}{δ:ρ->Type}(body:σ->SA (σ⊕ρ))(I:σ->γ->En)(X:(r:ρ)->δ r->En)
  (hb:∀s g r,body s=some r->Wk E n fn ro c (match r with|.inl s'=>qH m0 (I s')|.inr r=>qH m0 (X r)) m0 (I s g).fs (I s g).ps)
  (hn:∀s g,(I s g).e=.normal) (hx:∀r g,(X r g).e≠.normal) :
  ∀(N:Nat) (s:σ) (r:ρ),bR body N s=some r->∀g,Wk E n fn ro (.loop c) (qH m0 (X r)) m0 (I s g).fs (I s g).ps:=by
 intro N
 induction N with
 | zero=>intro s r h; cases h
 | succ N ih =>
  intro s r h g t m hf hm;refine .loop (.round ?_);simp only[bR] at h
  split at h
  ·rename_i s' hs;refine(hb s g _ hs t m hf hm).mono fun e t' m' ⟨g',h1,h2,h3⟩=>?_;rw[h1,hn];have:=ih s' r h g' t' m' h2 h3;obtain⟨e2,t2,m2,⟨k2,hk2⟩,q2⟩:=this;cases k2 with
   | zero=>cases hk2
   | succ k2=>exact⟨e2,t2,m2,⟨k2,hk2⟩,q2⟩
  ·rename_i r' hs;simp only[Option.some.injEq] at h;subst h;refine(hb s g _ hs t m hf hm).mono fun e t' m' ⟨g',h1,h2,h3⟩=>?_;have hq:qH m0 (X r') e t' m':=⟨g',h1,h2,h3⟩;cases he:e with
   | normal=>rw[h1] at he; exact Pz he (hx _ _)
   | exit id=>rw[he] at hq; exact hq
   | ret=>rw[he] at hq; exact hq
  cases h
def tV:SB Rx->Nat->Fs->Fs
 | [],_,fs=>fs
 | v::vs,i,fs=>tV vs (i+1) ((i,v)::fs)
def Fr.args:∀(vs:SB Rx) (i:Nat) (fs:Fs) (t:Tm),Fr t fs->Fr (Trie.ofList vs i t) (tV vs i fs)
 | [],_,_,_,h=>h
 | _::vs,i,_,_,h=>Fr.args vs (i+1) _ _ h.set
def aC{f:SJ}{F:Func}{c:Code}{args:SB Rx}{rs:SB ResultVar}{N:Nat}{R:Rx->Sr->Prop}(hp:E.cM f=none)(hf:E.P.funcs[f]? = some F)(hb:F.body=some c)(hrs:F.results.toList=rs)(hN:max args.length F.ntmps=N)
  {m:Sr} (hm:Hp m0 m ps) (h:Wk E N f none c (rr E rs R) m0 (tV args 0 []) ps):aK E f args m R :=
 aK.Ka hp hf hb hrs hN (h _ m (Fr.args args 0 [] _ (Fr.nil _)) hm)
def Hp.start(m:Sr):Hp m m []:=⟨.refl m,fun p h=>(by cases h),.nil⟩
def Hp.in{m0 m:Sr}{ps:SB Pc}{a:Rv}{cap w l:Nat}{es:Ru}(h:Hp m0 m ps)(ho:∀p∈ps,∀b,¬p.ow b)(hr:Rd m a cap w l es):Hp m0 m (.rd a cap w l es::ps) :=
 ⟨h.ext,fun p hp=>by
  rcases Pp.1 hp with rfl|hp
  exact hr
  exact h.ok p hp,PC.2 ⟨fun q hq=>⟨fun b a=>a.elim (fun a=>by cases a.1) fun a=>a.elim,fun b a=>Pz a (ho q hq b)⟩,h.apart⟩⟩
def Pc.Kh:Pc->Bool
 | .gen _=>false
 | p=>!p.own
def Pc.Bg{p:Pc}(h:p.Kh=true)(b:Nat):¬p.ow b:=by
 cases p with
 | gen g=>cases h
 | obj b o=>cases h
 | arr b w n es tg=>cases h
 | sl a w n es=>cases h
 | rd a cap w n es=>exact fun a=>a.elim (fun a=>by cases a.1) fun a=>a.elim
 | ro b o w n es=>exact fun a=>a.elim (fun a=>by cases a.1) fun a=>a.elim
inductive Res1(E:Env)(fs:Fs)(ps:SB Pc):SB ResultVar->SB Rx->Prop
 | nil:Res1 E fs ps [] []
 | tmp {i:Nat} {v:Rx} {rs:SB ResultVar} {vs:SB Rx} (h:lk fs i=some v) (k:Res1 E fs ps rs vs):Res1 E fs ps (.tmp i::rs) (v::vs)
 | cell {i k b o sz:Nat} {ty:Ry} {v:Rx} {rs:SB ResultVar} {vs:SB Rx} {cs:SB Rx} {tg:Tag} {ag:Bool} (ht:TyI E.P ty ag sz) (h:lk fs i=some (ptr b o)) (hp:pk ps k=some (.obj b (.cells cs tg))) (hv:B1 ag sz cs o=some v) (k:Res1 E fs ps rs vs):Res1 E fs ps (.cell i ty::rs) (v::vs)
def Res1.ok{fs:Fs}{ps:SB Pc}{t:Tm}{m:Sr}(hf:Fr t fs)(hm:Hp m0 m ps):∀{rs:SB ResultVar} {vs:SB Rx},Res1 E fs ps rs vs->cd E t m rs=some vs:=by
 intro rs vs h
 induction h with
 | nil=>rfl
 | tmp h _ ih=>simp only[cd,ih,hf _ _ h,Pj]
 | cell ht h hp hv _ ih=>simp only[cd,hf _ _ h,vO ht (hm.get hp).2.2 hv,ih]
def At.ret{rs:SB ResultVar}{vs:SB Rx}{R:Rx->Sr->Prop}(h:Res1 E fs ps rs vs)(k:∀m,Hp m0 m ps->R (ie vs) m):At (rr E rs R) .ret m0 fs ps:=fun t m hf hm=>by
 rw[JY,h.ok hf hm]; exact k m hm
def At.fin{rs:SB ResultVar}{vs:SB Rx}{R:Rx->Sr->Prop}(h:Res1 E fs ps rs vs)(k:∀m,Hp m0 m ps->R (ie vs) m):At (rr E rs R) .normal m0 fs ps:=fun t m hf hm=>by
 rw[CI,h.ok hf hm]; exact k m hm
end
end Go.Ab.W
section
open Go Go.Ab Go.Ab.W
abbrev RS:=@Wo.x
abbrev RG:=@Wo.od
abbrev R4:=@Wo.o0
abbrev RL:=@Wo.og
abbrev RQ:=@Wo.s
abbrev Sg:=@Wo.eO
abbrev Sf:=@Wo.open
abbrev Sa:=@Wo.bT
abbrev RI:=@Wk.seq
abbrev RN:=@Wk.skip
abbrev R1:=@Wk.exit
abbrev RO:=@Wk.ret
abbrev RT:=@Wk.ax
abbrev RV:=@Wk.ay
abbrev RP:=@Wk.block
abbrev RH:=@Wk.region
abbrev R9:=@Wk.draw
abbrev RJ:=@Wo.nil
abbrev RK:=@At.tn
abbrev R6:=@At.te
abbrev R0:=@At.tr
abbrev R3:=@At.bn
abbrev R7:=@At.be
abbrev R5:=@At.br
abbrev R8:=@Wk.cz
abbrev RM:=@At.en
abbrev RY:=@Wk.cut
abbrev R2:=@Wk.loop
abbrev RZ:=@Hp.start
abbrev RR:=@At.ret
end
end
namespace Go.Ab.W
open Go Go.Ab
def ob{α β:Type}(o:SA α)(f:α->SA β):SA β :=
 match o with
 | some x=>f x
 | none=>none
def gd{β:Type}(b:Bool)(k:SA β):SA β :=
 match b with
 | true=>k
 | false=>none
def br{β:Type}(b:Bool)(k l:SA β):SA β :=
 match b with
 | true=>k
 | false=>l
section
variable{α β:Type}
def J{o:SA α}{f:α->SA β}{r:β}(h:ob o f=some r):∃x,o=some x/\f x=some r:=by
 cases o with
 | none=>cases h
 | some x=>exact⟨x,rfl,h⟩
def al{b:Bool}{k:SA β}{r:β}(h:gd b k=some r):b=true/\k=some r:=by
 cases b with
 | false=>cases h
 | true=>exact⟨rfl,h⟩
def ah{b:Bool}{k l:SA β}{r:β}(h:br b k l=some r):(b=true/\k=some r)\/(b=false/\l=some r):=by
 cases b with
 | false=>exact .inr ⟨rfl,h⟩
 | true=>exact .inl ⟨rfl,h⟩
def bO(i:Int)(n:Nat):Bool:=decide (0<=i/\i.toNat<n)
def au{i:Int}{n:Nat}(h:bO i n=true):0<=i/\i.toNat<n:=of_decide_eq_true h
def aL{f:α->β}{xs:SB α}{i:Nat}{x:α}(h:xs[i]? = some x):(xs.map f)[i]? = some (f x):=by
 rw[PY,h]; rfl
def aW{i:Int}{n:Nat}(h:0<=i/\i.toNat<n):0<n:=by omega
def okB(lo hi:Int)(n:Nat):Bool:=decide (0<=lo/\lo<=hi/\hi<=(n:Int))
def yA{lo hi:Int}{n:Nat}(h:okB lo hi n=true):0<=lo/\lo<=hi/\hi<=(n:Int):=of_decide_eq_true h
end
def eI(k:IntKind)(x:Int):SB Rx:=[.int k x]
def eN(k:IntKind)(x:Nat):SB Rx:=[.int k (x:Int)]
def eB(b:Bool):SB Rx:=[.bool b]
def eP{α β:Type}(f:α->SB Rx)(g:β->SB Rx)(p:α×β):SB Rx:=f p.1++g p.2
structure Enc{α:Type}(f:α->SB Rx)(w:Nat):Prop where
 len:∀x,(f x).length=w
 one:∀x,(f x).all k9=true
def jh(k:IntKind):Enc (eI k) 1:=⟨fun _=>rfl,fun _=>rfl⟩
def G3(k:IntKind):Enc (eN k) 1:=⟨fun _=>rfl,fun _=>rfl⟩
def Nx:Enc eB 1:=⟨fun _=>rfl,fun _=>rfl⟩
def yL{α β:Type}{f:α->SB Rx}{g:β->SB Rx}{w v:Nat}(h:Enc f w)(h':Enc g v):Enc (eP f g) (w+v) :=
 ⟨fun x=>by simp[eP,h.len,h'.len],fun x=>by simp only[eP,List.all_append,h.one,h'.one,Qc]⟩
def Enc.pV{α:Type}{f:α->SB Rx}{w:Nat}(h:Enc f w)(xs:SB α):∀e∈xs.map f,e.length=w:=fun e he=>by
 obtain⟨x,_,rfl⟩:=P6.1 he; exact h.len x
def Enc.fw{α:Type}{f:α->SB Rx}{w:Nat}(h:Enc f w)(xs:SB α):W.fw (xs.map f):=zh h.one xs
def I1{α:Type}{f:α->SB Rx}{xs:SB α}{i:Nat}{x:α}:(xs.map f).set i (f x)=(xs.set i x).map f:=(List.map_set).symm
def GM{α:Type}{f:α->SB Rx}{xs:SB α}{i k:Nat}:((xs.map f).drop i).take k=((xs.drop i).take k).map f:=by rw[<-List.map_drop,<-List.map_take]
def BG{α:Type}{f:α->SB Rx}{n:Nat}{x:α}:List.replicate n (f x)=(List.replicate n x).map f:=by simp
def uM(k:IntKind):Nat:=2 ^ k.bits
def uw(k:IntKind)(n:Nat):Nat:=n%uM k
def ui(k:IntKind)(i:Int):Nat:=(i%(uM k:Int)).toNat
def G5(k:IntKind)(a b:Nat):Nat:=uw k (a+(uM k-uw k b))
def DH(k:IntKind)(a:Nat):Nat:=uw k (uM k-uw k a)
def mN(k:IntKind)(a b:Nat):Nat:=a/2 ^ (min b k.bits)
def MI(k:IntKind)(a b:Nat):Nat:=uw k (uw k a ^^^ (uw k a &&& uw k b))
def lf(k:IntKind)(a:Int)(b:Nat):Int:=k.wrap (a*2 ^ (min b k.bits))
def mi{α:Type}[LT α][DecidableRel (α:=α) (· < ·)](a b:α):α:=if b<a then b else a
def ma{α:Type}[LT α][DecidableRel (α:=α) (· < ·)](a b:α):α:=if a<b then b else a
def FJ(k:IntKind):0<uM k:=Nat.two_pow_pos _
def No(k:IntKind)(n:Nat):uw k n<uM k:=P9 _ (FJ k)
def ra{k:IntKind}(h:k.signed=false)(n:Int):k.wrap n=((ui k n:Nat):Int):=by
 have h0:(0:Int)<=n%(uM k:Int):=Int.emod_nonneg _ (by have:=FJ k; omega)
 simp only[IntKind.wrap,h,Bool.false_and,Pu,if_false,ui];rw[Qn h0];simp[uM]
def EV(k:IntKind)(n:Nat):ui k (n:Int)=uw k n:=by
 unfold ui uw;rw[<-Int.natCast_emod,Pg]
def mY{k:IntKind}(h:k.signed=false)(n:Nat):k.wrap (n:Int)=((uw k n:Nat):Int):=by rw[ra h,EV]
section
variable{k kd:IntKind}{ty:Ry}{P:RA}
def jD(h:k.signed=false)(a b:Nat):bU .add ty P (.int k (a:Int)) (.int k (b:Int))=some (.int k ((uw k (a+b):Nat):Int)):=by
 rw[aA,<-Int.natCast_add,mY h]
def lM(h:k.signed=false)(a b:Nat):bU .mul ty P (.int k (a:Int)) (.int k (b:Int))=some (.int k ((uw k (a*b):Nat):Int)):=by
 rw[bE,<-P8,mY h]
def Ke(h:k.signed=false)(a b:Nat):bU .sub ty P (.int k (a:Int)) (.int k (b:Int))=some (.int k ((G5 k a b:Nat):Int)):=by
 rw[aP,ra h];have hlt:=No k b;have e:((a:Int)-(b:Int))%(uM k:Int)=(((a+(uM k-uw k b)):Nat):Int)%(uM k:Int):=by
  have h1:(b:Int)=(uM k:Int)*((b/uM k:Nat):Int)+((uw k b:Nat):Int):=by
   have:=Q6 b (uM k);unfold uw;rw[<-P8,<-Int.natCast_add]; exact Ps Int.ofNat this.symm
  have h2:(((a+(uM k-uw k b)):Nat):Int)=((a:Int)-(b:Int))+(uM k:Int)*(1+((b/uM k:Nat):Int)):=by
   rw[Int.natCast_add,Int.natCast_sub (Nat.le_of_lt hlt),Int.mul_add]; omega
  rw[h2,Int.add_mul_emod_self_left]
 have e2:ui k ((a:Int)-(b:Int))=G5 k a b:=by
  unfold ui;rw[e,<-Int.natCast_emod,Pg]; rfl
 rw[e2]
def Dj(h:k.signed=false)(a b:Nat)(hb:(0<b)):bU .quo ty P (.int k (a:Int)) (.int k (b:Int))=some (.int k ((uw k (a/b):Nat):Int)):=by
 rw[AT _ _ _ (by omega),Int.tdiv_eq_ediv_of_nonneg (Int.natCast_nonneg _),<-Int.natCast_ediv,mY h]
def vq(a b:Nat)(hb:0<b):bU .rem ty P (.int k (a:Int)) (.int k (b:Int))=some (.int k ((a%b:Nat):Int)):=by
 rw[AH _ _ _ (by omega),Int.tmod_eq_emod_of_nonneg (Int.natCast_nonneg _),<-Int.natCast_emod]
def xU(k:IntKind)(a:Nat):(BitVec.ofInt k.bits (a:Int)).toNat=uw k a:=by simp[uw,uM]
def zl(h:k.signed=false)(a b:Nat):bU .and ty P (.int k (a:Int)) (.int k (b:Int))=some (.int k ((uw k (uw k a &&& uw k b):Nat):Int)):=by
 simp only[bU,if_true]; rw[BitVec.toNat_and,xU,xU,mY h]
def Ew(a b:Nat):bU .lss ty P (.int k (a:Int)) (.int k (b:Int))=some (.bool (decide (a<b))):=by rw[aF]; congr 2; exact decide_eq_decide.2 Int.ofNat_lt
def J2(a b:Nat):bU .gtr ty P (.int k (a:Int)) (.int k (b:Int))=some (.bool (decide (b<a))):=by rw[aZ]; congr 2; exact decide_eq_decide.2 Int.ofNat_lt
def iO(a b:Nat):bU .eql ty P (.int k (a:Int)) (.int k (b:Int))=some (.bool (decide (a=b))):=by rw[bW]; congr 2; exact decide_eq_decide.2 Int.ofNat_inj
def KK(a b:Nat):bU .neq ty P (.int k (a:Int)) (.int k (b:Int))=some (.bool (!decide (a=b))):=by
 rw[AZ]; congr 2
 by_cases h:a=b
 simp[h]
 have:¬((a:Int)=(b:Int)):=by omega
 simp[h,this]
def cB(a b:Int):bU .neq ty P (.int k a) (.int k b)=some (.bool (!decide (a=b))):=by
 rw[AZ]; congr 2; by_cases h:a=b<;>simp[h]
def oo(a:Nat)(b:Int)(hb:decide (0<=b)=true):bU .shr ty P (.int k (a:Int)) (.int kd b)=some (.int k ((mN k a b.toNat:Nat):Int)):=by
 have h0:¬(b<0):=by have:=of_decide_eq_true hb; omega
 simp only[bU,Pb h0,mN]
 congr 2
 have h2:((2:Int) ^ (min b.toNat k.bits))=((2 ^ (min b.toNat k.bits):Nat):Int):=by simp
 rw[h2,Int.fdiv_eq_ediv_of_nonneg _ (Int.natCast_nonneg _)];exact(Int.natCast_ediv a _).symm
def C8(a:Int)(b:Int)(hb:decide (0<=b)=true):bU .shl ty P (.int k a) (.int kd b)=some (.int k (lf k a b.toNat)):=by
 have h0:¬(b<0):=by have:=of_decide_eq_true hb; omega
 simp only[bU,Pb h0,lf]
def iP(a b:Int)(h:decide (b≠0)=true):bU .quo ty P (.int k a) (.int k b)=some (.int k (k.wrap (a.tdiv b))):=AT k a b (of_decide_eq_true h)
def dc(a b:Int)(h:decide (b≠0)=true):bU .rem ty P (.int k a) (.int k b)=some (.int k (a.tmod b)):=AH k a b (of_decide_eq_true h)
def DN(h:k.signed=false)(a:Nat):yO .neg (.int k (a:Int))=some (.int k ((DH k a:Nat):Int)):=by
 have:=Ke (ty:=0) (P:=default) h 0 a;rw[aP] at this;simp only[yO];have e:G5 k 0 a=DH k a:=by unfold G5 DH; rw[PV]
 rw[e] at this; exact this
def Jx(a:Int):yO .neg (.int k a)=some (.int k (k.wrap (0-a))):=rfl
def mR{s d:Ry}{x:Int}(hs:(P.underlying s).isSome=true)(hd:P.underlying d=some (.int k)):fO P s d (.int kd x)=some (.int k (k.wrap x)):=by
 cases h:P.underlying s with
 | none=>rw[h] at hs; cases hs
 | some u=>simp only[fO,h,hd]
def CG{s d:Ry}{x:Int}(hs:(P.underlying s).isSome=true)(hd:P.underlying d=some (.int k))(hk:k.signed=false):fO P s d (.int kd x)=some (.int k ((ui k x:Nat):Int)):=by
 rw[mR hs hd,ra hk]
def kf(a b:Int){ts:SD Ry}(m:Sr):bf P .min ts [.int k a,.int k b] m=some (.int k (mi a b),m):=rfl
def po(a b:Int){ts:SD Ry}(m:Sr):bf P .max ts [.int k a,.int k b] m=some (.int k (ma a b),m):=rfl
def Je{a b:Bool}(hu:P.underlying ty=some .bool):bU .eql ty P (.bool a) (.bool b)=some (.bool (a==b)):=by
 simp only[bU,Op.maxDepth,iY,hu,Pj]
def I8{a b:Bool}(hu:P.underlying ty=some .bool):bU .neq ty P (.bool a) (.bool b)=some (.bool (!(a==b))):=by
 simp only[bU,Op.maxDepth,iY,hu,Pj]
end
def bY{c:Bool}(h:c=true):(c==true)=true:=by rw[h]; rfl
def cb{c:Bool}(h:c=false):(c==false)=true:=by rw[h]; rfl
def cq{c:Bool}(h:c=true):(c==false)=false:=by rw[h]; rfl
def bX{c:Bool}(h:c=false):(c==true)=false:=by rw[h]; rfl
section
variable{E:Env}{n:Nat}{m0:Sr}{fs:Fs}{ps:SB Pc}{x y:Rz}{v:Rx}{ty:Ry}
def cw{c:Rz}{b:Bool}(hc:ev E fs c=some (.bool b))(hb:b=true)(h:ev E fs x=some v):Od E m0 fs ps (.pick c x y) v ps:=ir (by rw[hc,hb]) h
def cp{c:Rz}{b:Bool}(hc:ev E fs c=some (.bool b))(hb:b=false)(h:ev E fs y=some v):Od E m0 fs ps (.pick c x y) v ps:=HO (by rw[hc,hb]) h
def gO{α:Type}{f:α->SB Rx}{elem ty2:Ry}{w k k2 c0 l l2:Nat}{a a0:Rv}{xs ys:SB α}{ars:SD Rz}{p0:Pc}(he:Enc f w)(ht:SlT E.P ty elem w)(h3:∃e0,E.P.underlying ty2=some (.slice e0))(ha:gK E fs ars.toList=some [.slice a l l,.slice a0 l2 c0])(hp:pk ps k=some (.sl a w l (xs.map f)))(h1:pk ps k2=some p0)(hr:IsRd p0 a0 c0 w l2 (ys.map f))(hl:lim (xs++ys).length=true) :
  Ox E m0 fs ps (.call ⟨.builtin .append,ars,#[ty,ty2]⟩) (fun a':Rv=>.slice a' (xs++ys).length (xs++ys).length) (fun a'=>cf ps k (.sl a' w (xs++ys).length ((xs++ys).map f))):=by
 intro t m hf hm;have h0:l=xs.length:=by
  have:=hm.get hp;rcases this with⟨h4,h0,_⟩|⟨b,tg,_,h0⟩
  rw[h4,List.map_eq_nil_iff.1 h0]; rfl
  have:=h0.2.2.2.1; rw[Pk] at this; exact this.symm
 have h2:l2=ys.length:=by
  have:=(hm.rd h1 hr).1; rw[Pk] at this; exact this.symm
 have:=NU (m0:=m0) ht h3 ha hp h1 hr (he.pV ys) (he.fw ys) (by rw[h0,h2,<-Pm]; exact hl) t m hf hm
 have e1:xs.map f++ys.map f=(xs++ys).map f:=Rl.symm;have e0:l+l2=(xs++ys).length:=by rw[h0,h2,Pm]
 rw[e1,e0] at this;exact this
def pc{α:Type}{f:α->SB Rx}{elem:Ry}{k cap w l:Nat}{lo hi:Int}{a:Rv}{xs:SB α}{lx hx:SA Rz}{lv hv:SA Rx}(ht:SlT E.P ty elem w)(hv':ev E fs x=some (.slice a l cap))(e1:xh E fs lx=some lv)(e2:xh E fs hx=some hv)(hp:pk ps k=some (.rd a cap w l (xs.map f)))(hb:okB lo hi l=true)(hl:lv=none/\lo=0\/∃k,lv=some (.int k lo))(hh:hv=none/\hi=(l:Int)\/∃k,hv=some (.int k hi)) :
  Ox E m0 fs ps (.slice ty x lx hx none) (fun r:Rv×Nat=>.slice r.1 ((xs.drop lo.toNat).take (hi.toNat-lo.toNat)).length r.2) (fun r=>.rd r.1 r.2 w ((xs.drop lo.toNat).take (hi.toNat-lo.toNat)).length (((xs.drop lo.toNat).take (hi.toNat-lo.toNat)).map f)::ps):=by
 intro t m hf hm;obtain⟨b1,b2,b3⟩:=yA hb;have h1:xs.length=l:=by have:=(hm.get hp).1; rw[Pk] at this; exact this
 have elo:((lo.toNat:Nat):Int)=lo:=Qn b1;have ehi:((hi.toNat:Nat):Int)=hi:=Qn (by omega)
 have hlen:((xs.drop lo.toNat).take (hi.toNat-lo.toNat)).length=hi.toNat-lo.toNat:=by rw[Qj,List.length_drop,h1]; omega
 have:=Oi (m0:=m0) (lo:=lo.toNat) (hi:=hi.toNat) ht hv' e1 e2 hp (by omega) (by omega) (by
  rcases hl with⟨h,h'⟩|⟨k,h⟩
  exact .inl ⟨h,by omega⟩
  exact .inr ⟨k,by rw[elo]; exact h⟩) (by
  rcases hh with⟨h,h'⟩|⟨k,h⟩
  exact .inl ⟨h,by omega⟩
  exact .inr ⟨k,by rw[ehi]; exact h⟩) t m hf hm
 rw[GM] at this;rw[hlen];exact this
def wC{α:Type}{f:α->SB Rx}{z0:α}{elem:Ry}{w:Nat}{i:Int}{z:Rx}(ht:SlT E.P ty elem w)(hx:ev E fs x=some (.int .i64 i))(hi:decide (0<=i)=true)(hl:lim i.toNat=true)(hz:bK E.P elem=some z)(hp:z.cells.toList.all aR=true)(hzf:z.cells.toList=f z0) :
  Ox E m0 fs ps (.makeSlice ty x x) (fun b=>.slice (some ⟨b,0,none⟩) i.toNat i.toNat) (fun b=>.arr b w i.toNat ((List.replicate i.toNat z0).map f) .own::ps):=by
 have:=Oh (m0:=m0) (ps:=ps) ht hx (Qn (of_decide_eq_true hi)).symm hl hz hp;rw[hzf,BG] at this;exact this
def fL{α:Type}{f:α->SB Rx}{ag:Bool}{sz b w l j c k:Nat}{xs:SB α}{x1 x2:α}{tg:Tag}(ht:TyI E.P ty ag sz)(hx:ev E fs x=some (ptr b (j*w+c)))(hy:ev E fs y=some v)(hp:pk ps k=some (.arr b w l (xs.map f) tg))(he:xs[j]? = some x1)(hv:Jt (f x1) c v sz=some (f x2)):Od E m0 fs ps (.store ty x y) undef (cf ps k (.arr b w l ((xs.set j x2).map f) tg)):=by
 have:=L7 (m0:=m0) ht hx hy hp (aL he) hv;rwa[I1] at this
end
def IV:Tag->Bool
 | .more _=>false
 | _=>true
def Kv:Tag->Bool
 | .own=>true
 | _=>false
def sn{fs:Fs}:sub fs []:=trivial
def sc{fs l:Fs}{i:Nat}{v:Rx}(h:lk fs i=some v)(k:sub fs l):sub fs ((i,v)::l):=⟨h,k⟩
def cI{k:IntKind}{e y:Int}(h:some e=some y):some (Value.int k e)=some (.int k y):=by rw[Pf h]
def cN{k:IntKind}{e y:Nat}(h:some e=some y):some (Value.int k (e:Int))=some (.int k (y:Int)):=by rw[Pf h]
def OL{k:IntKind}{e y:Int}{m:Sr}(h:some e=some y):some (Value.int k e,m)=some (.int k y,m):=by rw[Pf h]
section
variable{P:RA}{ty el:Ry}{w len:Nat}
def Ah(h:ArT P ty el len w){b o i:Nat}{kd:IntKind}(hi:i<len):bP P ty (ptr b o) (.int kd (i:Int))=some (ptr b (o+i*w)):=Kt h.und h.known h.size hi
def vu{cs:SD Rx}{off sz:Nat}{v:Rx}(h:TyI P ty true sz)(hv:(Value.agg (cs.extract off (off+sz)))=v):eQ P ty cs off=some v:=by
 simp only[eQ,h.known,h.agg,h.size,PE,Pu,if_false,if_true,hv]
def j6{cs:SD Rx}{off sz:Nat}{v:Rx}(h:TyI P ty false sz)(hv:cs[off]? = some v):eQ P ty cs off=some v:=by
 simp only[eQ,h.known,h.agg,PE,Pu,if_false,hv]
def pI(h:ArT P ty el len w){cs:SD Rx}{i:Nat}{kd:IntKind}{v:Rx}(hi:i<len)(hp:eQ P el cs (i*w)=some v):fD P ty (.agg cs) (.int kd (i:Int))=some v:=by
 simp only[fD,h.und,h.size,Pg];rw[Ph ⟨by omega,by omega⟩]; exact hp
structure BdT(P:RA)(ty:Ry)(z:Rx)(offs:SB (Nat×Nat)):Prop where
 bd:∀parts,(parts.all fun p=>Nat.blt p.1 offs.length)=true->jC P ty parts=(gI (fun i=>offs[i]?) z.cells.toList parts).map fun cs=>.agg cs.toArray
def OW(P:RA)(ty:Ry)(z:Rx)(offs:SB (Nat×Nat)):Prop :=
 bK P ty=some z/\match P.underlying ty with
  | some (.struct fields)=>fields.toList.all (fun f=>known P f.type)=true/\fields.toList.map (fun f=>(f.offset,aE P f.type))=offs
  | some (.array n elem)=>known P elem=true/\(List.range n).map (fun i=>(i*aE P elem,aE P elem))=offs
  | _=>False
def kK{p q:Nat->SA (Nat×Nat)}{n:Nat}(h:∀i,i<n->p i=q i):∀(parts:SB (Nat×Rx)) (cs:SB Rx),(parts.all fun p=>Nat.blt p.1 n)=true->gI p cs parts=gI q cs parts
 | [],_,_=>rfl
 |(i,v)::rest,cs,hp=>by
  rw[Qq,Pe] at hp;have hi:i<n:=by have:=hp.1; rwa[QB] at this
  simp only[gI,h i hi];cases q i with
  | none=>rfl
  | some r=>simp only[]; split; rfl; exact kK h rest _ hp.2
def BdT.of{z:Rx}{offs:SB (Nat×Nat)}(h:OW P ty z offs):BdT P ty z offs:=⟨fun parts hp=>by
 obtain⟨hz,h⟩:=h;unfold jC;rw[hz];cases hu:P.underlying ty with
 | none=>rw[hu] at h; exact h.elim
 | some u =>
  rw[hu] at h;cases u with
  | struct fields =>
   simp only at h ⊢;rw[Ph h.1]
   congr 1
   refine kK (n:=offs.length) (fun i hi=>?_) parts _ hp;rw[<-h.2,PY]; simp
  | array n elem =>
   simp only at h ⊢;rw[Ph h.1]
   congr 1
   refine kK (n:=offs.length) (fun i hi=>?_) parts _ hp;have hl:offs.length=n:=by rw[<-h.2]; simp
   rw[<-h.2,PY,List.getElem?_range (by omega)]; rfl
  | _=>exact h.elim⟩
def OJ(P:RA)(ty:Ry)(offs:SB (Nat×Nat)):Bool :=
 match P.underlying ty with
 | some (.struct fields)=>fields.toList.all (fun f=>known P f.type)&&decide (fields.toList.map (fun f=>(f.offset,aE P f.type))=offs)
 | some (.array n elem)=>known P elem&&decide ((List.range n).map (fun i=>(i*aE P elem,aE P elem))=offs)
 | _=>false
def BdT.mk'{z:Rx}{offs:SB (Nat×Nat)}(hz:bK P ty=some z)(h:OJ P ty offs=true):BdT P ty z offs:=by
 refine .of ⟨hz,?_⟩;unfold OJ at h;cases hu:P.underlying ty with
 | none=>rw[hu] at h; cases h
 | some u =>
  rw[hu] at h;cases u with
  | struct fields=>simp only[Pe,Pv] at h ⊢; exact h
  | array n elem=>simp only[Pe,Pv] at h ⊢; exact h
  | _=>cases h
def cV{z r:Rx}{offs:SB (Nat×Nat)}{parts:SB (Nat×Rx)}{cs:SB Rx}(h:BdT P ty z offs)(hp:(parts.all fun p=>Nat.blt p.1 offs.length)=true)(hr:gI (fun i=>offs[i]?) z.cells.toList parts=some cs)(e:Value.agg cs.toArray=r):jC P ty parts=some r:=by
 rw[h.bd parts hp,hr]; exact Ps some e
def gD{n:Nat}{vs:SB (Nat×Rx)}{z:Rx}{cs:SB Rx}(ht:SlT P ty el w)(hz:bK P el=some z)(h1:((ct z.cells.toList n).all aR&&Nat.ble (n*w) 16777216)=true)(hr:gI (fun i=>some (i*w,w)) (ct z.cells.toList n) vs=some cs):Nj P el w n vs=some cs:=by
 have hzs:z.cells.size=w:=by have:=ht.zero; rw[hz] at this; simp only[Rj,Pe,beq_iff_eq] at this; exact this.1
 have:eK P el n=some (ct z.cells.toList n):=by simp only[eK,hz,ht.size]; rw[Ph hzs]
 simp only[Nj,this,h1]; exact hr
def JA{xs ys:SD Rx}{b:Bool}(h:P.eqGuardType P.depth ty=false)(hb:iY P Op.maxDepth ty (.agg xs) (.agg ys)=some b):bU .eql ty P (.agg xs) (.agg ys)=some (.bool b):=by
 simp only[bU,h,Pu,if_false,hb,Pj]
def D3{xs ys:SD Rx}{b:Bool}(h:P.eqGuardType P.depth ty=false)(hb:iY P Op.maxDepth ty (.agg xs) (.agg ys)=some b):bU .neq ty P (.agg xs) (.agg ys)=some (.bool (!b)):=by
 simp only[bU,h,Pu,if_false,hb,Pj]
end
section
variable{E:Env}{n:Nat}{m0:Sr}{fs:Fs}{ps:SB Pc}{x y:Rz}{v:Rx}{ty:Ry}
def MG{el:Ry}{len w b o k:Nat}{cs:SB Rx}{tg:Tag}(ht:ArT E.P ty el len w)(hx:ev E fs x=some (ptr b o))(hp:pk ps k=some (.obj b (.cells cs tg)))(htg:IV tg=true)(hlen:Nat.blt 0 len=true):Od E m0 fs ps (.slice ty x none none none) (.slice (some ⟨b,o,none⟩) len len) ps :=
 fun t m hf h=>⟨fun b' hb=>by
  have:dW (ptr b o)=some b:=rfl;simp only[aQ,hf.ev hx,PI,this] at hb;cases hb; exact(h.get hp).2.1,fun K hK=>by
  have hg:=(h.get hp).2.2;have hb:dN len len none none none=some (0,len,len):=iW (Qf _) (Pd _) (.inl ⟨rfl,rfl⟩) (.inl ⟨rfl,rfl⟩);have hl:len≠0:=by rw[QB] at hlen; omega
  have:cj E.P ty (ptr b o) none none none m=some (.slice (some ⟨b,o,none⟩) len len):=by
   cases tg with
   | more s=>cases htg
   | ro=>simp only[cj,ptr,ht.und,ht.known,if_true,hg,hb,Qr,Pb hl,QO,Qh]
   | own=>simp only[cj,ptr,ht.und,ht.known,if_true,hg,hb,Qr,Pb hl,QO,Qh]
  rw[Go.Ab.pP (hf.ev hx) rfl rfl rfl this]; exact hK m h⟩
variable{ops:SD Oper}{os:SB Oper}{K:Tm->Sr->Prop}{dr:Bool}
def Wo.len{α:Type}{f:α->SB Rx}{k w l:Nat}{a:Rv}{xs:SB α}(hp:pk ps k=some (.sl a w l (xs.map f)))(h:l=xs.length->Wo dr E n ops K os m0 fs ps):Wo dr E n ops K os m0 fs ps:=by
 have key:∀m,Hp m0 m ps->l=xs.length:=fun m hm=>by
  rcases hm.get hp with⟨h0,h1,_⟩|⟨b,tg,_,h1⟩
  rw[h0,List.map_eq_nil_iff.1 h1]; rfl
  have:=h1.2.2.2.1; rw[Pk] at this; exact this.symm
 cases dr with
 | false=>exact fun t m hf hm=>h (key m hm) t m hf hm
 | true=>exact fun t m w hf hm hw=>h (key m hm) t m w hf hm hw
end
def ae.Ob{m0:Sr}{ps:SB Pc}(w:Nat):ae m0 ps (.rd none 0 w 0 []::ps):=fun m h =>
 h.cons (Pd _) h.ext (fun _ _=>rfl) (Rd.nil m w) fun b hb=>(by cases hb)
def Hp.oj{m0 m:Sr}{ps:SB Pc}{a:Rv}{cap w l:Nat}{es:Ru}(h:Hp m0 m ps)(ho:(ps.all Pc.Kh)=true)(hr:Rd m a cap w l es):Hp m0 m (.rd a cap w l es::ps) :=
 h.in (fun p hp b=>Pc.Bg (Pr.1 ho p hp) b) hr
def Hp.O7{m0 m:Sr}{ps:SB Pc}{α:Type}{xs:SB α}{f:α->SB Rx}{k b o w l:Nat}{cs:SB Rx}{tg:Tag}(h:Hp m0 m ps)(hp:pk ps k=some (.obj b (.cells cs tg)))(htg:Kv tg=true)(hl:Nat.beq xs.length l=true)(hc:(cs.drop o).take (l*w)=(xs.map f).flatten)(he:Enc f w):Rd m (some ⟨b,o,none⟩) l w l (xs.map f):=by
 have hl:=Py hl;have hnm:∀sz,tg=.more sz->sz=w:=fun sz e=>by rw[e] at htg; cases htg
 have hg:=(h.get hp).2.2;refine⟨by rw[Pk]; exact hl,Pd _,.inr (.inr ⟨b,o,rfl,(h.get hp).2.1,cs,tg,hg,hnm,fun i e hi=>?_⟩)⟩
 have hw:=he.pV xs;have h1:=vQ hw hi;have hlt:i<l:=by have:=(PN.1 hi).1; rw[Pk,hl] at this; exact this
 refine⟨?_,hw e (PO hi)⟩;rw[<-hc] at h1;rw[<-h1,List.drop_take,List.take_take,Ri];have:w<=l*w-i*w:=by
  have:(i+1)*w<=l*w:=Qd w hlt;rw[QI] at this; omega
 rw[Rk this]
def gu{ops:SD Oper}{fs:Fs}{j d:Nat}{b:Bool}(hd:(ops[j]?).bind (·.dst)=some d)(h:lk fs d=some undef):uc ops fs (some (j,b)) false:=fun t d' o ty p af hf=>by
 rw[DS];have hat:=hf d _ h;unfold cX;rw[hd];unfold Tm.at at hat;cases hg:Trie.get t d with
 | none=>simp only[hg]
 | some v=>rw[hg] at hat; have hv:v=undef:=hat; subst hv; simp only[hg]; rfl
section
variable{P:RA}{ty:Ry}{k:IntKind}
end
section
variable{E:Env}{n:Nat}{m0:Sr}{fs:Fs}{ps:SB Pc}{x y:Rz}{v:Rx}{ty:Ry}
def DA{α:Type}{V:α->Rx}{N:α->SB Pc}{a b:Rx}(hx:ev E fs x=some a)(hy:ev E fs y=some b)(h:∀m,Hp m0 m ps->∃z,fD E.P ty a b=some (V z)/\Hp m0 m (N z)):Ox E m0 fs ps (.index ty x y) V N :=
 fun t m hf hm=>⟨fun b hb=>(by simp[aQ] at hb),fun K hK=>by
  obtain⟨z,h1,h2⟩:=h m hm;rw[Go.Ab.Ix (hf.ev hx) (hf.ev hy) h1]; exact hK z m h2⟩
end
def Hp.dup{m0 m:Sr}{ps:SB Pc}{a:Rv}{k cap w l:Nat}{es:Ru}(h:Hp m0 m ps)(hp:pk ps k=some (.rd a cap w l es)):Hp m0 m (.rd a cap w l es::ps):=h.more hp rfl (h.get hp) rfl fun _ h=>h
end Go.Ab.W
namespace Go.Ab
section
open Go Go.Ab.W
def LW(j:aY)(u:Rx):∃v,VR j v u:=by
 match h:u with
 | .agg cs =>
  have:∀i (hi:i<cs.size),∃v,VR j v cs[i]:=fun i hi=>LW j cs[i];refine⟨.agg (Array.ofFn fun i:Fin cs.size=>Classical.choose (this i.1 i.2)),.agg (by simp) fun i a b=>?_⟩
  have hi:i<cs.size:=b;have:=QD (this i hi)
  simpa using this
 | .tuple cs =>
  have:∀i (hi:i<cs.size),∃v,VR j v cs[i]:=fun i hi=>LW j cs[i];refine⟨.tuple (Array.ofFn fun i:Fin cs.size=>Classical.choose (this i.1 i.2)),.tuple (by simp) fun i a b=>?_⟩
  have hi:i<cs.size:=b;have:=QD (this i hi)
  simpa using this
 | .bool b=>exact⟨_,.bool b⟩
 | .int k n=>exact⟨_,.int k n⟩
 | .float k b=>exact⟨_,.junk rfl⟩
 | .complex k a b=>exact⟨_,.junk rfl⟩
 | .string s=>exact⟨_,.string s⟩
 | .pointer none=>exact⟨_,.pnil⟩
 | .pointer (some a)=>exact⟨_,.junk rfl⟩
 | .slice none l c=>exact⟨_,.snil l c⟩
 | .slice (some a) l c=>exact⟨_,.junk rfl⟩
 | .map none=>exact⟨_,.mnil⟩
 | .map (some r)=>exact⟨_,.junk rfl⟩
 | .chan r=>exact⟨_,.junk rfl⟩
 | .func f a b=>exact⟨_,.junk rfl⟩
 | .nilFunc=>exact⟨_,.nilFunc⟩
 | .iface t v=>exact⟨_,.junk rfl⟩
 | .nilIface=>exact⟨_,.nilIface⟩
termination_by SizeOf.sizeOf u
decreasing_by
 all_goals
  subst h;have:=Array.sizeOf_getElem cs i hi;simp only[Value.agg.sizeOf_spec,Value.tuple.sizeOf_spec];omega
open Classical in
noncomputable def seen (j:aY) (v':Rx):Rx:=if aR v' then v' else match v' with
 | .slice (some _) 0 _=>.slice (some ⟨0,0,some 0⟩) 0 0
 | .slice (some a) (l+1) c=>if a.spot=none/\j a.block=some ⟨a.block,none⟩ then .slice (some a) (l+1) c else Classical.choose (LW j (.slice (some a) (l+1) c))
 | v'=>Classical.choose (LW j v')
def AE(j:aY)(v':Rx):VR j (seen j v') v':=by
 unfold seen
 split
 rename_i h; exact .aR h
 split
 exact .gJ
 rename_i a l c _
 split
 rename_i h;obtain⟨b,o,s⟩:=a;obtain⟨h1,h2⟩:=h;cases h1;exact .slice (k:=⟨b,none⟩) h2 rfl
 exact QD (LW j _)
 exact QD (LW j _)
def Hz{j:aY}{a:Addr}{l c:Nat}(h0:l≠0)(h1:a.spot=none)(h2:j a.block=some ⟨a.block,none⟩):seen j (.slice (some a) l c)=.slice (some a) l c:=by
 obtain⟨l,rfl⟩:∃k,l=k+1:=⟨l-1,by omega⟩
 unfold seen;rw[Pb (fun h=>by cases h)]
 dsimp only
 rw[Ph ⟨h1,h2⟩]
def Gi{j:aY}{a:Addr}{c:Nat}:seen j (.slice (some a) 0 c)=.slice (some ⟨0,0,some 0⟩) 0 0:=by
 unfold seen;rw[Pb (fun h=>by cases h)]
def qn{j:aY}{v':Rx}(h:aR v'=true):seen j v'=v':=by unfold seen; rw[Ph h]
def dP(W:RB):aY:=fun b=>if b<W.heap.size then some ⟨b,none⟩ else none
noncomputable def eF (W:RB):Sr:={ next:=W.heap.size,wl:=W.heap.size,objs:=.nil,base:=fun b=>match W.heap[b]? with
 | some (.cells c _ _)=>some (.cells (c.toList.map (seen (dP W))) .ro)
 | _=>none}
def sr(W:RB)(b:Nat):(eF W).get b=match W.heap[b]? with
 | some (.cells c _ _)=>some (.cells (c.toList.map (seen (dP W))) .ro)
 | _=>none:=by
 simp[Sr.get,eF,Heap.get_nil]
def vz{W:RB}{b:Nat}{c:SD Rx}{t:Ry}{fz:Nat×Nat}(h:W.heap[b]? = some (.cells c t fz)):(eF W).get b=some (.cells (c.toList.map (seen (dP W))) .ro):=by
 rw[sr,h]
def KC{E:Env}{W:RB}(hg:E.glob<=W.heap.size):MR E (dP W) (eF W) W:=by
 have hj:∀b k,dP W b=some k->b<W.heap.size/\k=⟨b,none⟩:=by
  intro b k h;unfold dP at h
  split at h
  rename_i hb; cases h; exact⟨hb,rfl⟩
  cases h
 refine⟨fun b k h=>?_,fun b o k ho h=>?_,fun b b' k k' h h' _ _ hc=>?_,fun g hgl=>?_⟩
 obtain⟨h1,rfl⟩:=hj b k h;exact⟨h1,h1⟩
 obtain⟨h1,rfl⟩:=hj b k h;rw[sr] at ho
 split at ho
 rename_i c t fz hc;cases ho;refine⟨_,hc,⟨rfl,by simp⟩,fun i v hi=>?_⟩
 rw[PY] at hi;obtain⟨x,hx,rfl⟩:=Option.map_eq_some_iff.1 hi;exact⟨x,by simpa using hx,AE _ _⟩
 cases ho
 obtain⟨_,rfl⟩:=hj b k h;obtain⟨_,rfl⟩:=hj b' k' h';exact hc
 unfold dP;rw[RF]
inductive Lf where
 | int (k:IntKind)
 | bool
 | sl (e:Ry)
 deriving DecidableEq
def BO(Co:Ry->SA (SB Lf))(P:RA):SB Field->Nat->SA (SB Lf)
 | [],_=>some []
 | f::fs,off=>match Co f.type,BO Co P fs (off+P.cellsOf f.type) with
  | some l,some r=>if f.offset=off/\l.length=P.cellsOf f.type then some (l++r) else none
  | _,_=>none
def Co(P:RA):Nat->Ry->SA (SB Lf)
 | 0,_=>none
 | d+1,t=>match P.underlying t with
  | some (.int k)=>some [.int k]
  | some .bool=>some [.bool]
  | some (.slice e)=>some [.sl e]
  | some (.array n e)=>match Co P d e with
   | some l=>if l.length=P.cellsOf e/\P.cellsOf t=n*P.cellsOf e then some (List.replicate n l).flatten else none
   | none=>none
  | some (.struct fs)=>match BO (Co P d) P fs.toList 0 with
   | some l=>if l.length=P.cellsOf t then some l else none
   | none=>none
  | _=>none
def mV{H:Type}(enc:Ry×Rx->H)(P:RA)(W:RB)(base:Nat)(sp:Nat->Bool)(held:Bool):Lf->Rx->Prop
 | .int k,v=>∃n,v=.int k n/\(Lit.int k n).wf=true
 | .bool,v=>∃b,v=.bool b
 | .sl e,v=>(v=.slice none 0 0)\/∃(a:Addr) (len cap:Nat) (n:Nat),v=.slice (some a) len cap/\len<=cap/\cap<=maxLen/\base<=a.block /\
   ∀i,i<len->∃cs x,W.cells? base (a.add (i*P.cellsOf e)) (P.cellsOf e)=some cs/\DataW.trod enc P W base sp held n e cs=some x
inductive All2{α β:Type}(R:α->β->Prop):SB α->SB β->Prop
 | nil:All2 R [] []
 | cons {a:α} {b:β} {l:SB α} {r:SB β} (h:R a b) (t:All2 R l r):All2 R (a::l) (b::r)
def All2.append{α β:Type}{R:α->β->Prop}{l l':SB α}{r r':SB β}(h:All2 R l r)(h':All2 R l' r'):All2 R (l++l') (r++r'):=by
 induction h with
 | nil=>exact h'
 | cons h _ ih=>exact .cons h ih
section
variable{H:Type}{enc:Ry×Rx->H}{P:RA}{W:RB}{base:Nat}{sp:Nat->Bool}{held:Bool}
theorem ub{R:Lf->Rx->Prop}{l:SB Lf}:∀(n w:Nat) (cs:SB Rx),cs.length=n*w->(∀i,i<n->All2 R l ((cs.drop (i*w)).take w))->All2 R (List.replicate n l).flatten cs
 | 0,w,cs,hl,_=>by
  have:cs=[]:=Qa.1 (by simpa using hl)
  subst this; exact .nil
 | n+1,w,cs,hl,h=>by
  rw[Q8,P1];have h0:=h 0 (by omega)
  simp only[QO,List.drop_zero] at h0;have hw:w<=cs.length:=by rw[hl,Qx]; omega
  rw[<-List.take_append_drop w cs];refine All2.append h0 (ub n w _ (by rw[List.length_drop,hl,Qx]; omega) fun i hi=>?_)
  have:=h (i+1) (by omega)
  rw[Ri];have e:w+i*w=(i+1)*w:=by rw[Qx]; omega
  rw[e]; exact this
theorem nv:∀(d:Nat) (t:Ry) (L:SB Lf),Co P d t=some L->∀(n:Nat) (cs:SB Rx) (x:DataW H×SB MemPlace),DataW.trod enc P W base sp held n t cs=some x->All2 (mV enc P W base sp held) L cs:=by
 intro d
 induction d with
 | zero=>intro t L h; cases h
 | succ d ih =>
  intro t L hL n cs x hx;unfold Co at hL
  split at hL
  rename_i k hu;cases hL;obtain⟨m,rfl,_,hwf⟩:=DataW.trod_int hu hx;exact .cons ⟨m,rfl,hwf⟩ .nil
  rename_i hu;cases hL;obtain⟨b,rfl,_⟩:=DataW.trod_bool hu hx;exact .cons ⟨b,rfl⟩ .nil
  rename_i e hu;cases hL;rcases DataW.trod_slice hu hx with⟨rfl,_⟩|⟨a,len,cap,elems,rest,m,rfl,rfl,_,hb,h1,h2,h3,h4,_⟩
  exact .cons (.inl rfl) .nil
  refine .cons (.inr ⟨a,len,cap,m,rfl,h1,h2,hb,fun i hi=>?_⟩) .nil;have:=h4 i hi;have hi':i<elems.length:=by omega
  rw[Pl hi'] at this;obtain⟨cs,h5,h6⟩:=Option.bind_eq_some_iff.1 this;exact⟨cs,_,h5,h6⟩
  rename_i m e hu
  split at hL
  rename_i l hl
  split at hL
  rename_i hc;cases hL;obtain⟨xs,m',rfl,_,hcl,hxl,hel⟩:=DataW.trod_array hu hx;refine ub m (P.cellsOf e) cs (hcl.trans hc.2) fun i hi=>?_;have:=hel i hi;rw[Pl (by omega)] at this
  exact ih e l hl m' _ _ this
  cases hL
  cases hL
  ·rename_i fs hu
   split at hL
   ·rename_i l hl
    split at hL
    ·rename_i hc;cases hL;obtain⟨xs,m',rfl,_,hcl,hxl,hel⟩:=DataW.trod_struct hu hx;have hfield:∀f∈fs.toList,∃y,DataW.trod enc P W base sp held m' f.type ((cs.drop f.offset).take (P.cellsOf f.type))=some y:=by
      intro f hf;obtain⟨i,hi,hif⟩:=List.getElem_of_mem hf;have hi':i<fs.size:=by simpa using hi
      have:=hel i f (by rw[<-hif]; simp[hi'])
      rw[Pl (by omega)] at this
      exact⟨_,this⟩
     have key:∀(l1:SB Field) (off:Nat) (r:SB Lf),BO (Co P d) P l1 off=some r->(∀f∈l1,∃y,DataW.trod enc P W base sp held m' f.type ((cs.drop f.offset).take (P.cellsOf f.type))=some y)->All2 (mV enc P W base sp held) r ((cs.drop off).take r.length):=by
      intro l1
      induction l1 with
      | nil=>intro off r hr _; cases hr; simp only[QU,List.take_zero]; exact .nil
      | cons f l1 ih1 =>
       intro off r hr hf;unfold BO at hr
       split at hr
       rename_i l2 r2 hl2 hr2
       split at hr
       rename_i ho;cases hr;obtain⟨y,hy⟩:=hf f (by simp)
       have h1:=ih f.type l2 hl2 m' _ _ hy;have h2:=ih1 _ _ hr2 fun g hg=>hf g (by simp[hg])
       rw[ho.1,<-ho.2] at h1;rw[<-ho.2] at h2;have:=All2.append h1 h2;rw[Pm,List.take_add,Ri];exact this
       cases hr
       cases hr
     have:=key fs.toList 0 _ hl hfield;rw[List.drop_zero,hc,<-hcl,List.take_length] at this;exact this
    cases hL
   cases hL
  cases hL
end
end
section
open Go Go.Ab.W Go.ChangeShapes Go.WideShapes Go.RowKit
section
variable{H:Type}{enc:Ry×Rx->H}{P:RA}{W:RB}{sp:Nat->Bool}{held:Bool}
theorem w5{a:Addr}(h:a.spot=none)(n:Nat):a.add n=⟨a.block,a.off+n,none⟩:=by
 unfold Addr.add
 split
 rename_i e; subst e; cases a; cases h; rfl
 rfl
theorem nX{W:RB}{a:Addr}{v:Rx}(h:W.cell? a=some v):a.spot=none/\∃c t fz,W.heap[a.block]? = some (.cells c t fz)/\c[a.off]? = some v:=by
 unfold World.cell? at h
 split at h
 rename_i c t fz hc
 split at h
 cases h
 rename_i hs;refine⟨by simpa using hs,c,t,fz,hc,h⟩
 cases h
theorem Iy{α:Type}{f:α->SB Rx}{R:α->Prop}{e w:Nat}(hw:P.cellsOf e=w)(hw0:0<w)(hsz:0<W.heap.size)
  (hdec:∀n cs x,DataW.trod enc P W 0 sp held n e cs=some x->∃p,cs.map (seen (dP W))=f p/\R p) {v:Rx} (h:mV enc P W 0 sp held (.sl e) v) :
  ∃(a:Rv) (cap:Nat) (l:SB α),seen (dP W) v=.slice a l.length cap/\(∀b,eL a=some b->b<W.heap.size)/\Rd (eF W) a cap w l.length (l.map f)/\(∀p∈l,R p)/\l.length<=maxLen:=by
 rcases h with rfl|⟨a,len,cap,n,rfl,h1,h2,_,h3⟩
 exact⟨none,0,[],qn rfl,fun b h=>(by cases h),Rd.nil _ _,fun p hp=>(by cases hp),Qf _⟩
 by_cases h0:len=0
 subst h0;exact⟨some ⟨0,0,some 0⟩,0,[],Gi,fun b h=>(by cases h; exact hsz),⟨rfl,Pd _,.inr (.inl ⟨0,0,rfl,rfl,rfl,hsz⟩)⟩,fun p hp=>(by cases hp),Qf _⟩
 rw[hw] at h3;have hg:∀i:Fin len,∃(p:α) (cs:SB Rx),W.cells? 0 (a.add (i.1*w)) w=some cs/\cs.map (seen (dP W))=f p/\R p:=by
  intro i;obtain⟨cs,x,h4,h5⟩:=h3 i.1 i.2;obtain⟨p,he,hR⟩:=hdec _ _ _ h5;exact⟨p,cs,h4,he,hR⟩
 obtain⟨g,q,hg⟩:∃(g:Fin len->α) (q:Fin len->SB Rx),∀i,W.cells? 0 (a.add (i.1*w)) w=some (q i)/\(q i).map (seen (dP W))=f (g i)/\R (g i):=⟨fun i=>Classical.choose (hg i),fun i=>Classical.choose (QD (hg i)),fun i=>QD (QD (hg i))⟩;have hat:∀(i:Fin len) (k:Nat),k<w->W.cell? ((a.add (i.1*w)).add k)=(q i)[k]?:=fun i k hk=>(World.cells?_some (hg i).1).2.2 k hk;have hql:∀i,(q i).length=w:=fun i=>(World.cells?_some (hg i).1).2.1;have hfl:∀i,(f (g i)).length=w:=fun i=>by rw[<-(hg i).2.1,Pk,hql]
 have hsm:∀(i:Fin len) (k:Nat),k<w->∃x,(q i)[k]? = some x:=fun i k hk=>⟨_,Pl (by rw[hql]; exact hk)⟩
 have hspot:a.spot=none:=by
  obtain⟨x,hx⟩:=hsm ⟨0,by omega⟩ 0 hw0
  have:=hat ⟨0,by omega⟩ 0 hw0
  rw[hx] at this;have:=(nX this).1
  simpa [Addr.add] using this
 obtain⟨c,t,fz,hc⟩:∃c t fz,W.heap[a.block]? = some (.cells c t fz):=by
  obtain⟨x,hx⟩:=hsm ⟨0,by omega⟩ 0 hw0
  have:=hat ⟨0,by omega⟩ 0 hw0
  rw[hx] at this;obtain⟨_,c,t,fz,hc,_⟩:=nX this;refine⟨c,t,fz,?_⟩
  simpa [Addr.add] using hc
 have hcell:∀(i:Fin len) (k:Nat),k<w->c[a.off+i.1*w+k]? =(q i)[k]?:=by
  intro i k hk;obtain⟨x,hx⟩:=hsm i k hk;have:=hat i k hk;rw[hx] at this;rw[hx];rw[w5 hspot,w5 rfl] at this;obtain⟨_,c',t',fz',hc',h6⟩:=nX this;rw[hc] at hc';cases hc';exact h6
 have hb:a.block<W.heap.size:=by
  rcases PW a.block W.heap.size with h|h
  exact h
  rw[Array.getElem?_eq_none h] at hc; cases hc
 have ha:a=⟨a.block,a.off,none⟩:=by cases a; cases hspot; rfl
 refine⟨some a,cap,List.ofFn g,?_,fun b h=>?_,?_,fun p hp=>?_,?_⟩
 rw[List.length_ofFn];exact Hz h0 hspot (by unfold dP; rw[Ph hb])
 cases h; exact hb
 refine⟨by simp,by simpa using h1,.inr (.inr ⟨a.block,a.off,by rw[<-ha],hb,_,_,vz hc,fun sz e=>(by cases e),fun i e he=>?_⟩)⟩
 rw[PY] at he;obtain⟨p,hp,rfl⟩:=Option.map_eq_some_iff.1 he;have hi:i<len:=by
  have:=(PN.1 hp).1
  simpa using this
 have hpg:p=g ⟨i,hi⟩:=by
  rw[List.getElem?_ofFn] at hp;simp[hi] at hp;exact hp.symm
 subst hpg;refine⟨?_,hfl _⟩;apply Q4;intro k
 by_cases hk:k<w
 rw[List.getElem?_take_of_lt hk,QK,PY];have h7:=hcell ⟨i,hi⟩ k hk;obtain⟨x,hx⟩:=hsm ⟨i,hi⟩ k hk;rw[hx] at h7;have h8:c.toList[a.off+i*w+k]? = some x:=by simpa using h7
 rw[h8,<-(hg ⟨i,hi⟩).2.1,PY,hx]
 rw[List.getElem?_eq_none (by rw[Qj]; omega),List.getElem?_eq_none (by rw[hfl]; omega)]
 obtain⟨i,hi,rfl⟩:=List.getElem_of_mem hp;simp only[List.getElem_ofFn];exact(hg _).2.2
 rw[List.length_ofFn]; omega
theorem Df{α:Type}{f:α->SB Rx}{R:α->Prop}{e w:Nat}(hw:P.cellsOf e=w)(hw0:0<w)(hsz:0<W.heap.size)(hf:∀p,(f p).all aR=true)
  (hdec:∀n cs x,DataW.trod enc P W 0 sp held n e cs=some x->∃p,cs=f p/\R p) {v:Rx} (h:mV enc P W 0 sp held (.sl e) v) :
  ∃(a:Rv) (cap:Nat) (l:SB α),VR (dP W) (.slice a l.length cap) v/\Rd (eF W) a cap w l.length (l.map f)/\(∀p∈l,R p)/\l.length<=maxLen:=by
 obtain⟨a,cap,l,h1,_,h2,h3,h4⟩:=Iy (f:=f) (R:=R) hw hw0 hsz (fun n cs x hx=>by
  obtain⟨p,rfl,hR⟩:=hdec n cs x hx;refine⟨p,?_,hR⟩;have:∀(l:SB Rx),l.all aR=true->l.map (seen (dP W))=l:=fun l hl=>by
   induction l with
   | nil=>rfl
   | cons x l ih =>
    rw[Qq,Pe] at hl;rw[PS,qn hl.1,ih hl.2]
  exact this _ (hf p)) h
 exact⟨a,cap,l,by rw[<-h1]; exact AE _ _,h2,h3,h4⟩
theorem kA{base:Nat}{v:Rx}(h:mV enc P W base sp held (.int .u8) v):∃n:Nat,v=.int .u8 (n:Int)/\n<256:=by
 obtain⟨n,rfl,hw⟩:=h;have:=bounds_u8 hw;exact⟨n.toNat,by rw[Qn this.1],by omega⟩
theorem kM{base:Nat}{v:Rx}(h:mV enc P W base sp held (.int .i64) v):∃n:Int,v=.int .i64 n/\-9223372036854775808<=n/\n<=9223372036854775807:=by
 obtain⟨n,rfl,hw⟩:=h;exact⟨n,rfl,bounds_i64 hw⟩
theorem bS{α β:Type}{R:α->β->Prop}{a:α}{l:SB α}{r:SB β}(h:All2 R (a::l) r):∃b r',r=b::r'/\R a b/\All2 R l r':=by
 cases h with
 | cons h t=>exact⟨_,_,rfl,h,t⟩
theorem nu{α β:Type}{R:α->β->Prop}{r:SB β}(h:All2 R [] r):r=[]:=by cases h; rfl
theorem uz{P:RA}{w:RB}{r:Reach}{base t n e:Nat}{v:Rx}(ht:P.underlying t=some (.array n e))(h:Value.okWide P w r base t v):∃cs,v=.agg cs/\cs.size=P.cellsOf t:=by
 simp only[Value.okWide,ht] at h;obtain⟨cs,h1,h2,_⟩:=h;exact⟨cs,h1,h2⟩
theorem qy{base d t n:Nat}{cs:SD Rx}{L:SB Lf}{x:DataW H×SB MemPlace}(hl:Co P d t=some L)(h:DataW.trod enc P W base sp held n t (Value.agg cs).cells.toList=some x):All2 (mV enc P W base sp held) L cs.toList:=nv d t L hl n _ x h
theorem Gh{j:aY}{l:SB Rx}{cs:SD Rx}(h:LR j l cs.toList):VR j (.agg l.toArray) (.agg cs):=.CE (by simpa using h)
theorem lK{T:Ry->Prop}(K:Kids P T)(hsz:∀{t e:Ry},T t->P.underlying t=some (.slice e)->0<P.cellsOf e){W':RB}{sp':Nat->Bool}:∀{ts:SB Ry} {vs:SB Rx} {ds:SB (DataW H)} {ps:SB MemPlace},
  (∀t∈ts,T t)->DataW.TrodAll enc P W 0 (fun _=>true) true ts vs ds ps->(∀p∈ps,W.sameAt W' p)->(∀p∈ps,sp' p.block=true)->DataW.TrodAll enc P W' 0 sp' true ts vs ds ps
 | [],[],[],_,_,h,_,_=>h
 | t::ts,v::vs,d::ds,_,hT,⟨p,q,⟨n,hn⟩,hs,e⟩,h1,h2=>by
  subst e;refine⟨p,q,⟨n,DataW.trod_stays K hsz (fun h=>(by cases h)) (hT t (by simp)) hn (fun x hx=>h1 x (by simp[hx])) fun x hx=>h2 x (by simp[hx])⟩,lK K hsz (fun t' ht'=>hT t' (by simp[ht'])) hs (fun x hx=>h1 x (by simp[hx])) (fun x hx=>h2 x (by simp[hx])),rfl⟩
theorem CM{w w':RB}{p:MemPlace}(h:w'.heap[p.block]? = w.heap[p.block]?):w.sameAt w' p:=by
 cases p with
 | cell b o=>simp only[World.sameAt,World.cell?]; rw[show w'.heap[b]? = w.heap[b]? from h]
 | map b=>simp only[World.sameAt]; rw[show w'.heap[b]? = w.heap[b]? from h]
def sizedB(P:RA):Bool:=(List.range P.types.size).all fun t=>match P.underlying t with
 | some (.slice e)=>decide (0<P.cellsOf e)
 | _=>true
theorem Cv(h:sizedB P=true){t e:Ry}(ht:t<P.types.size)(hu:P.underlying t=some (.slice e)):0<P.cellsOf e:=by
 have:=Pr.1 h t (by simpa using ht)
 rw[hu] at this
 simpa using this
theorem Db{f:Func}{s:ChangeSpec}{W':RB}{args:SD Rx}{ds:SB (DataW H)}{before:SB MemPlace}{tb:Ry}{fresh handsOn:Bool}(hlo:laidOutB P=true)(hm:mapsRowed P=true)(hsz:sizedB P=true)
  (hvars:s.vars=[]) (hres:f.resultTypes.toList=[tb]) (hrs:f.resultTypes.size=1) (htb:P.underlying tb=some .bool) (hpt:∀t∈f.params.toList,t<P.types.size) (hfn:s.fn H ds ={ results:=[.lit (.bool true)],args:=ds,vars:=[]})
  (hW:DataW.Whole enc P f.params.toList s.vars false W args.toList ds [] before) {E:Env} (hcalm:gL E W W') (hg:∀c,c<W.heap.size->W'.heap[c]? = W.heap[c]?) :
  s.post enc P f false fresh handsOn false W args (.bool true) W':=by
 have hW':=hW;obtain⟨p,q,hA,hV,rfl,_,_⟩:=hW;rw[hvars] at hV;obtain⟨_,rfl⟩:=trodVars_none hV;have hlt:=hW'.lt;refine⟨ds,[],_,[],p,[],hW',?_,?_,?_,pJ hcalm hg _,fun h=>by cases h⟩
 rw[PU,hfn,hres]
 show DataW.TrodAll enc P W' _ _ handsOn [tb] ((Value.bool true).resultList f.resultTypes.size) [.lit (.bool true)] []
 rw[hrs];exact trodAll_mk1 (shut_bool htb true)
 rw[PU,hfn];refine lK (kids_rows hlo hm) (fun ht hu=>Cv hsz ht hu) hpt hA (fun x hx=>CM (hg _ (hlt x (by simp[hx])))) fun x hx=>by
  have:=hlt x (by simp[hx])
  simpa using this
 rw[PU,hfn,hvars];exact rfl
end
end
section
open Go
def xZ(x y c:Nat):Rx:=.tuple #[.int .u64 (.ofNat ((x+y+c)%18446744073709551616)),.int .u64 (.ofNat ((x+y+c)/18446744073709551616))]
def uv(x y c:Nat):Rx:=.tuple #[.int .u64 (.ofNat ((x+18446744073709551616-y-c)%18446744073709551616)),.int .u64 (.ofNat (if x<y+c then 1 else 0))]
def er(V:Nat->Nat->Nat->Rx)(args:SB Rx)(m:Sr):SA (Rx×Sr) :=
 match args with
 | [.int .u64 (.ofNat x),.int .u64 (.ofNat y),.int .u64 (.ofNat c)]=>if Nat.ble c 1 then some (V x y c,m) else none
 | _=>none
def sA{V:Nat->Nat->Nat->Rx}{args:SB Rx}{m m':Sr}{v:Rx}(h:er V args m=some (v,m')) :
  ∃x y c:Nat,args=[.int .u64 x,.int .u64 y,.int .u64 c]/\c<=1/\v=V x y c/\m'=m:=by
 unfold er at h
 split at h
 rename_i x y c
 split at h
 rename_i hc;cases h;exact⟨x,y,c,rfl,Pt hc,rfl,rfl⟩
 cases h
 cases h
section
variable{E:Env}{j:aY}{m:Sr}{w:RB}
def LR.ID:∀{l l':SB Rx},l.all Ab.aR=true->LR j l l'->l'=l:=by
 intro l
 induction l with
 | nil=>intro l' _ h; exact h.da
 | cons v l ih =>
  intro l' hp h;obtain⟨v1,vs,rfl,h1,h2⟩:=h.cons_inv;rw[Qq,Pe] at hp;rw[eD hp.1 h1,ih hp.2 h2]
def ng{V:Nat->Nat->Nat->Rx}{f:SJ}(hV:∀x y c,bF (V x y c)=true)(hrun:∀(x y c:Nat) (w:RB),c<=1->(callFunc f #[.int .u64 x,.int .u64 y,.int .u64 c]).run E.P w=.ok (.value (V x y c)) w)(hpr:(E.cM f).isSome=true)
  {args args':SB Rx} {v:Rx} {m':Sr} (he:er V args m=some (v,m')) (h:MR E j m w) (hl:LR j args args') :
  ik E.P (E.cM f).isSome f args'.toArray w (jZ E j m w v m'):=by
 obtain⟨x,y,c,rfl,hc,rfl,rfl⟩:=sA he;rw[LR.ID rfl hl];exact .inr ⟨hpr,V x y c,w,hrun x y c w hc,j,.refl h,.bF (hV x y c)⟩
end
def zb(x y c:Nat):bF (xZ x y c)=true:=rfl
def As(x y c:Nat):bF (uv x y c)=true:=rfl
section
variable{P:RA}{f:SJ}{fn:Func}
def GK (hf : P.funcs[f]? = some fn) (hname : (fn.name == "runtime.NumGoroutine") = false) (hb : fn.body.isNone = true) (hn : Extern.findNext fn = none) (he : Extern.find fn = some add64Entry) (x y c : Nat) (w : RB) (hc : c <= 1) :
  (callFunc f #[.int .u64 x,.int .u64 y,.int .u64 c]).run P w=.ok (.value (xZ x y c)) w:=by
 rw[run_callFunc_extern hf hname hb hn he,run_add64 x y c (by omega) (by omega) (by omega) (by omega)]
 simp only[Result.andThen,xZ]
 congr 5
def GH (hf : P.funcs[f]? = some fn) (hname : (fn.name == "runtime.NumGoroutine") = false) (hb : fn.body.isNone = true) (hn : Extern.findNext fn = none) (he : Extern.find fn = some Go.Proofs.sub64Entry) (x y c : Nat) (w : RB) (hc : c <= 1) :
  (callFunc f #[.int .u64 x,.int .u64 y,.int .u64 c]).run P w=.ok (.value (uv x y c)) w:=by
 rw[run_callFunc_extern hf hname hb hn he,Go.Proofs.run_sub64 x y c hc]
 rfl
end
noncomputable def Ho (v:Rx) (k:Nat->Bool):Bool:=k8 v fun kd z=>dY (jj kd .u64) (Cy z k false) false
def ot{v:Rx}{k:Nat->Bool}(h:Ho v k=true):∃x:Nat,v=.int .u64 x/\k x=true:=by
 obtain⟨kd,z,rfl,h⟩:=cJ h;obtain⟨h1,h⟩:=bD h;cases eu h1;rcases hY h with⟨x,rfl,h⟩|h
 exact⟨x,rfl,h⟩
 cases h
noncomputable def uW (W:Nat->Nat->Nat->(Rx->Bool)->Bool) (args:SB Rx) (m:Sr) (K:Rx->Sr->Bool):Bool :=
 dY (El args 3) (xm 0 args fun a=>xm 1 args fun b=>xm 2 args fun d=>Ho a fun x=>Ho b fun y=>Ho d fun c=>dY (Nat.ble c 1) (W x y c fun v=>K v m) false) false
noncomputable def Kw (x y c:Nat) (k:Rx->Bool):Bool:=fN ((x+y+c)%18446744073709551616) fun s=>fN ((x+y+c)/18446744073709551616) fun d=>k (.tuple #[.int .u64 (.ofNat s),.int .u64 (.ofNat d)])
noncomputable def La (x y c:Nat) (k:Rx->Bool):Bool:=fN ((x+18446744073709551616-y-c)%18446744073709551616) fun s=>dY (Nat.blt x (y+c)) (k (.tuple #[.int .u64 (.ofNat s),.int .u64 (.ofNat 1)])) (k (.tuple #[.int .u64 (.ofNat s),.int .u64 (.ofNat 0)]))
def Ia(x y c:Nat)(k:Rx->Bool):Kw x y c k=k (xZ x y c):=by unfold Kw xZ; rw[dm,dm]
def IY(x y c:Nat)(k:Rx->Bool):La x y c k=k (uv x y c):=by
 unfold La uv;rw[dm]
 by_cases h:x<y+c
 have:Nat.blt x (y+c)=true:=by rw[QB]; exact h
 rw[this,Ph h]; rfl
 ·have:Nat.blt x (y+c)=false:=by
   cases hb:Nat.blt x (y+c) with
   | false=>rfl
   | true=>rw[QB] at hb; exact Pz hb h
  rw[this,Pb h]; rfl
def uf{V:Nat->Nat->Nat->Rx}{W:Nat->Nat->Nat->(Rx->Bool)->Bool}(hW:∀x y c k,W x y c k=k (V x y c)){args:SB Rx}{m:Sr}{K:Rx->Sr->Bool}(h:uW W args m K=true):∃v m',er V args m=some (v,m')/\K v m'=true:=by
 unfold uW at h;obtain⟨hl,h⟩:=bD h;obtain⟨a,ha,h⟩:=fP h;obtain⟨b,hb,h⟩:=fP h;obtain⟨d,hd,h⟩:=fP h;obtain⟨x,ea,h⟩:=ot h;obtain⟨y,eb,h⟩:=ot h;obtain⟨c,ed,h⟩:=ot h;rw[ea] at ha; rw[eb] at hb; rw[ed] at hd;obtain⟨hc,h⟩:=bD h;rw[hW] at h;have hargs:args=[.int .u64 x,.int .u64 y,.int .u64 c]:=by
  have:=kN hl
  match args,this,ha,hb,hd with
  | [p,q,r],_,ha,hb,hd=>cases ha; cases hb; cases hd; rfl
 refine⟨_,_,?_,h⟩;rw[hargs]
 show(if Nat.ble c 1 then some (V x y c,m) else none)=_
 rw[hc]; rfl
end
end Go.Ab
section
section
open Go Go.Ab Go.Ab.W
def Sj:Nat->Nat->SB Nat
 | _,0=>[]
 | a,n+1=>a::Sj (a+1) n
abbrev Sk{α:Type}(l:SB α)(k:Int):SB α:=(l.drop RD).take ((mi (l.length:Int) k).toNat-RD)
end
namespace Go.Proofs.YthmekkhpddehjaaGreat
open Go Go.Ab
def qg:SB (Rx×Rx)->SA (SB Int)
 | []=>some []
 |(.int .i64 k,_)::r=>(qg r).map (k::·)
 | _=>none
def wu(a:Int):SB Int->SB Int
 | []=>[a]
 | b::l=>if a<=b then a::b::l else b::wu a l
def fo:SB Int->SB Int
 | []=>[]
 | a::l=>wu a (fo l)
def Ck:SB Int->Bool
 | []=>true
 | a::l=>!l.contains a&&Ck l
def LL(ks:SB Int):Bool:=ks.all (fun k=>decide (-9223372036854775808<=k)&&decide (k<9223372036854775808))&&Ck ks&&Nat.ble ks.length 1073741824
def ez(args:SB Rx)(m:Sr):SA (Rx×Sr) :=
 match args with
 | [.map (some b)]=>match m.get b with
  | some (.map es)=>match qg es with
   | some ks=>if LL ks then(match ks with
    | []=>some (.slice none 0 0,m)
    | k::ks=>some (.slice (some ⟨m.next,0,none⟩) (ks.length+1) (ks.length+1),m.alloc (.cells ((fo (k::ks)).map (.int .i64)) (.more 1)))) else none
   | none=>none
  | _=>none
 | _=>none
def G0(f:SJ):SA Prim:=if f=111 then some ⟨ez⟩ else if f=144 then some ⟨er xZ⟩ else if f=145 then some ⟨er uv⟩ else none
noncomputable def sP:Env:={ P:=Tryz.prog,glob:=0,cM:=G0,mono:=False}
def mE(args:SB Rx)(m:Sr):SA (Rx×Sr) :=
 match args with
 | []=>some (.bool true,m)
 | _=>none
def Mb:ownKnob Tryz.prog.godebug=none:=by kernel_rfl
def wI:zY Tryz.prog=true:=by kernel_rfl
end Go.Proofs.YthmekkhpddehjaaGreat
end
namespace Go.Ab
open Go
section
variable{E:Env}{j j1:aY}{m m1:Sr}{w w1:RB}
def Sim.oJ(h:MR E j m w)(hold:∀c,c<w.heap.size->w1.heap[c]? = w.heap[c]?)(hsize:w.heap.size<=w1.heap.size)(hcalm:gL E w w1){k1:Blk}(hfresh:w.heap.size<=k1.c)(hlt:k1.c<w1.heap.size){cs:SB Rx}{tag:Tag}{o':Obj}(ho:w1.heap[k1.c]? = some o')(hor:OR j1 k1 (.cells cs tag) o')(hp:cs.all aR=true) :
  Sim E j m w (j.set m.next k1) (m.alloc (.cells cs tag)) w1:=by
 have hn:j m.next=none:=h.oR
 have ha:MR E j m w1:=⟨fun b k hb=>⟨(h.lt b k hb).1,Pn (h.lt b k hb).2 hsize⟩,fun b o k ho hb=>by
  obtain⟨o',h1,h2⟩:=h.obj b o k ho hb;exact⟨o',(hold k.c (h.lt b k hb).2).trans h1,h2⟩,h.inj,h.glob⟩
 refine⟨.alloc m _,aY.q8 k1 hn,?_,?_,hsize,?_,?_,?_,fun c hc _=>hold c hc,hcalm⟩
 intro b k e e'
 by_cases hbm:b=m.next
 omega
 rw[aY.cD _ _ hbm,e'] at e; cases e
 ·refine⟨fun b k e=>?_,fun b o k ho' e=>?_,fun b b' k k' e e' hl hl' hc=>?_,fun gl hgl=>?_⟩
  by_cases hbm:b=m.next
  subst hbm; rw[aY.cG] at e; cases e;exact⟨QL _,hlt⟩
  rw[aY.cD _ _ hbm] at e;exact⟨Nat.lt_succ_of_lt (h.lt b k e).1,(ha.lt b k e).2⟩
  ·rw[Sr.bh] at ho'
   by_cases hbm:b=m.next
   ·subst hbm; rw[aY.cG] at e; cases e;rw[Ph rfl] at ho'; cases ho';refine⟨o',ho,?_⟩;cases o' with
    | cells c ty fz =>
     refine⟨hor.1,fun i v hi=>?_⟩;obtain⟨v',h3,h4⟩:=hor.2 i v hi;have hpv:=Pr.1 hp v (PO hi);have:=eD hpv h4;subst this;exact⟨_,h3,.aR hpv⟩
    | _=>exact hor.elim
   rw[Pb hbm] at ho';rw[aY.cD _ _ hbm] at e;obtain⟨o',h1,h2⟩:=ha.obj b o k ho' e;exact⟨o',h1,h2.mono (aY.q8 k1 hn)⟩
  have old:∀{b k},j b=some k->k.c≠k1.c:=fun{b k} e hc=>by
   have:=(h.lt b k e).2;omega
  by_cases hbm:b=m.next
  by_cases hbm':b'=m.next
  rw[hbm,hbm']
  subst hbm; rw[aY.cG] at e; cases e;rw[aY.cD _ _ hbm'] at e';exact Pz hc.symm (old e')
  by_cases hbm':b'=m.next
  subst hbm'; rw[aY.cG] at e'; cases e';rw[aY.cD _ _ hbm] at e;exact Pz hc (old e)
  rw[aY.cD _ _ hbm] at e;rw[aY.cD _ _ hbm'] at e';rw[Sr.bh,Pb hbm] at hl;rw[Sr.bh,Pb hbm'] at hl';exact h.inj b b' k k' e e' hl hl' hc
  have:=h.glob gl hgl;have hlt:=(h.lt gl _ this).1;rw[aY.cD _ _ (by omega)]; exact this
 intro b hb1 hb2 _;have:b=m.next:=by simp at hb2; omega
 subst this; exact⟨k1,aY.cG _ _ _⟩
 intro b hb _;rw[Sr.bh,RE]
 intro b k e e'
 by_cases hbm:b=m.next
 subst hbm; rw[aY.cG] at e; cases e;exact .inl hfresh
 rw[aY.cD _ _ hbm,e'] at e; cases e
def Sim.same(h:MR E j m w)(hold:∀c,c<w.heap.size->w1.heap[c]? = w.heap[c]?)(hsize:w.heap.size<=w1.heap.size)(hcalm:gL E w w1):Sim E j m w j m w1 where
 ext:=.refl m
 le:=.refl j
 new:=fun b k h h'=>by simp[h'] at h
 mr:=⟨fun b k hb=>⟨(h.lt b k hb).1,Pn (h.lt b k hb).2 hsize⟩,fun b o k ho hb=>by
  obtain⟨o',h1,h2⟩:=h.obj b o k ho hb;exact⟨o',(hold k.c (h.lt b k hb).2).trans h1,h2⟩,h.inj,h.glob⟩
 size:=hsize
 full:=fun b h h' _=>Pz h (by omega)
 away:=fun _ _ _=>rfl
 fresh:=fun b k h h'=>by simp[h'] at h
 frame:=fun c hc _=>hold c hc
 calm:=hcalm
def zz(hE:EnvOk E){pr:SJ->SA Prim}(h:∀f p,pr f=some p->E.cM f=some p\/∀args m v m',p.run args m=some (v,m')->∀(j:aY) (w:RB) (args':SB Rx),MR E j m w->LR j args args'->ik E.P (E.cM f).isSome f args'.toArray w (jZ E j m w v m')):EnvOk { E with cM:=pr}:=by
 refine⟨hE.call,hE.mixed,fun f p hp args m v m' hrun j w args' hm hl=>?_⟩;have hp':({ E with cM:=pr}:Env).cM f=some p:=hp;have hm0:MR E j m w:=MR.env (E:={ E with cM:=pr}) (E':=E) rfl hm;have key:∀v' w',jZ E j m w v m' v' w'->jZ { E with cM:=pr} j m w v m' v' w':=fun v' w' ⟨j',s,hv⟩=>⟨j',Sim.env (E:=E) rfl (fun e=>e) s,hv⟩;rcases h f p hp with h1|h1
 exact j8 (fun _=>by rw[hp']; rfl) (hE.cM f p h1 args m v m' hrun j w args' hm0 hl) key
 exact j8 (fun _=>by rw[hp']; rfl) (h1 args m v m' hrun j w args' hm0 hl) key
end
section
variable{E:Env}{j:aY}{m:Sr}{w:RB}
def kC(j:aY)(g:Nat):aY:=fun x=>if x<g then j x else none
def xR(n:Nat)(gs:Nat->SA (SB Rx))(b:Nat):(pE n gs).get b=(gs b).map fun cs=>.cells cs .ro:=by
 simp[Sr.get,pE,Heap.get_nil]
def MR.Nl{gs:Nat->SA (SB Rx)}(h:MR E j m w)(hgs:∀x c,x<E.glob->gs x=some c->m.get x=some (.cells c .ro))(hgp:∀x c,gs x=some c->c.all aR=true):MR E (kC j E.glob) (pE E.glob gs) w:=by
 have cases1:∀x k,kC j E.glob x=some k->x<E.glob/\j x=some k:=by
  intro x k hx;unfold kC at hx
  split at hx
  rename_i hlt; exact⟨hlt,hx⟩
  cases hx
 refine⟨fun x k hx=>?_,fun x o k ho hx=>?_,fun x x' k k' hx hx' hl hl' hc=>?_,fun gl hgl=>?_⟩
 obtain⟨hlt,hj⟩:=cases1 x k hx;exact⟨hlt,(h.lt x k hj).2⟩
 ·rw[xR] at ho;obtain⟨hlt,hj⟩:=cases1 x k hx;cases hg:gs x with
  | none=>rw[hg] at ho; cases ho
  | some c =>
   rw[hg] at ho; cases ho;have hgx:=hgs x c hlt hg;obtain⟨o',h1,h2⟩:=h.obj x _ k hgx hj;refine⟨o',h1,?_⟩;cases o' with
   | cells c' ty fz =>
    refine⟨h2.1,fun i v hi=>?_⟩;obtain⟨v',h3,h4⟩:=h2.2 i v hi;have hpv:=Pr.1 (hgp x c hg) v (PO hi);have:=eD hpv h4;subst this;exact⟨_,h3,.aR hpv⟩
   | _=>exact h2.elim
 ·have live:∀y,y<E.glob->((pE E.glob gs).get y).isSome=true->(m.get y).isSome=true:=by
   intro y hy hl;rw[xR] at hl;cases hg:gs y with
   | none=>rw[hg] at hl; cases hl
   | some c=>rw[hgs y c hy hg]; rfl
  obtain⟨hlt,hj⟩:=cases1 x k hx;obtain⟨hlt',hj'⟩:=cases1 x' k' hx';exact h.inj x x' k k' hj hj' (live x hlt hl) (live x' hlt' hl') hc
 unfold kC;rw[Ph hgl];exact h.glob gl hgl
def vR(hE:EnvOk E){f:SJ}{gs:Nat->SA (SB Rx)}(hgp:∀x c,gs x=some c->c.all aR=true){fuel:Nat}{v:Rx}{m0:Sr}
  (hrun:run E fuel (.call f [] (pE E.glob gs))=some (.val v m0)) (hwl:E.glob<=m0.wl) (hpv:bF v=true) {args':SB Rx} (h:MR E j m w) (hgs:∀x c,x<E.glob->gs x=some c->m.get x=some (.cells c .ro)) (hl:LR j [] args') :
  ik E.P (E.cM f).isSome f args'.toArray w (jZ E j m w v m):=by
 have hm0:=h.Nl hgs hgp;have hl0:LR (kC j E.glob) [] args':=by
  rw[LR.da hl]; exact .nil _
 obtain⟨_,_,e,hs⟩:=vT hE fuel _ _ hrun;cases e;refine j8 (fun x=>x) (hs _ w args' hm0 hl0) ?_;intro v' w' ⟨j',s,hv'⟩;have hold:∀c,c<w.heap.size->w'.heap[c]? = w.heap[c]?:=fun c hc=>s.frame c hc fun x k hx _ _=>by
  have:x<E.glob:=(hm0.lt x k hx).1;omega
 exact⟨j,.same h hold s.size s.calm,VR.CW hpv hv'⟩
end
end Go.Ab
namespace Go.Proofs.YthmekkhpddehjaaGreat
open Go Go.Ab
noncomputable def uO (f:SJ):SA PSem:=if f=144 then some ⟨uW Kw⟩ else if f=145 then some ⟨uW La⟩ else none
def Ch:MZ sP uO:=by
  intro f S hS;unfold uO at hS
  split at hS
  rename_i e; cases hS; subst e;exact⟨⟨er xZ⟩,rfl,fun h=>uf Ia h⟩
  split at hS
  rename_i e; cases hS; subst e;exact⟨⟨er uv⟩,rfl,fun h=>uf IY h⟩
  cases hS
def m14:Sr:=pE 0 fun _=>none
set_option maxRecDepth 100000
set_option maxHeartbeats 0 in
def zL:(hand sP uO 1000).call 18 [] m14 (NC 0)=true:=by decide +kernel
end Go.Proofs.YthmekkhpddehjaaGreat
namespace Go.Proofs
section
open Go.Shelf
def Tryz.sZ:Go.Shelf.Ren:=⟨fun|7=>136|10=>150|n=>n,fun|23=>140|26=>3|3=>144|28=>178|0=>0|27=>177|33=>137|4=>4|n=>n,fun|n=>n⟩
def Tryz.JC:Go.Proofs.SlLaysZI.n7 Tryz.prog Tryz.sZ:={
 mixed:=by kernel_rfl
 f7:=⟨Tryz.f136.name,by decide,Tryz.func136.trans (Ps some (by kernel_rfl))⟩
 f10:=⟨Tryz.f150.name,by decide,Tryz.func150.trans (Ps some (by kernel_rfl))⟩
 t0:=Tryz.underlying0
 a0:=Tryz.isAgg0
 z0:=Tryz.sizeOf0
 v0:=Tryz.zeroValue0
 t4:=Tryz.underlying4
 a4:=Tryz.isAgg4
 z4:=Tryz.sizeOf4
 v4:=Tryz.zeroValue4
 t23:=Tryz.underlying140
 a23:=Tryz.isAgg140
 z23:=Tryz.sizeOf140
 v23:=Tryz.zeroValue140
 t26:=Tryz.underlying3
 a26:=Tryz.isAgg3
 z26:=Tryz.sizeOf3
 v26:=Tryz.zeroValue3
 t27:=Tryz.underlying177
 a27:=Tryz.isAgg177
 z27:=Tryz.sizeOf177
 v27:=Tryz.zeroValue177
 t28:=Tryz.underlying178
 a28:=Tryz.isAgg178
 z28:=Tryz.sizeOf178
 v28:=Tryz.zeroValue178
 t33:=Tryz.underlying137
 a33:=Tryz.isAgg137
 z33:=Tryz.sizeOf137
 v33:=Tryz.zeroValue137}
def Tryz.px:Go.Shelf.Ren:=⟨fun|6=>135|8=>148|9=>149|11=>158|13=>81|12=>159|23=>101|24=>102|14=>161|15=>162|16=>163|17=>164|18=>165|19=>166|20=>167|21=>168|22=>169|25=>170|26=>122|27=>123|28=>171|29=>172|30=>103|31=>173|n=>n,fun|26=>3|28=>178|24=>102|0=>0|3=>3|37=>117|48=>134|50=>136|4=>4|40=>127|39=>126|45=>131|5=>5|9=>9|51=>164|55=>168|57=>187|58=>81|33=>137|n=>n,fun|n=>n⟩
def Tryz.Ht:Go.Proofs.SlLaysZI.n6 Tryz.prog Tryz.px:={
 mixed:=by kernel_rfl
 f6:=⟨Tryz.f135.name,by decide,Tryz.func135.trans (Ps some (by kernel_rfl))⟩
 f8:=⟨Tryz.f148.name,by decide,Tryz.func148.trans (Ps some (by kernel_rfl))⟩
 f11:=⟨Tryz.f158.name,by decide,Tryz.func158.trans (Ps some (by kernel_rfl))⟩
 t0:=Tryz.underlying0
 a0:=Tryz.isAgg0
 z0:=Tryz.sizeOf0
 v0:=Tryz.zeroValue0
 t24:=Tryz.underlying102
 a24:=Tryz.isAgg102
 z24:=Tryz.sizeOf102
 v24:=Tryz.zeroValue102
 t26:=Tryz.underlying3
 a26:=Tryz.isAgg3
 z26:=Tryz.sizeOf3
 v26:=Tryz.zeroValue3
 t28:=Tryz.underlying178
 a28:=Tryz.isAgg178
 z28:=Tryz.sizeOf178
 v28:=Tryz.zeroValue178
 i26:=by kernel_rfl}
def Tryz.CD:Go.Shelf.Ren:=⟨fun|5=>149|8=>81|7=>159|19=>101|20=>102|10=>161|11=>162|12=>163|13=>164|14=>165|15=>166|16=>167|17=>168|18=>169|30=>170|31=>122|32=>123|33=>171|34=>172|35=>103|40=>173|n=>n,fun|23=>102|25=>3|3=>3|32=>117|22=>102|0=>0|44=>134|46=>136|4=>4|36=>127|35=>126|41=>131|5=>5|9=>9|53=>164|57=>168|63=>187|64=>81|n=>n,fun|n=>n⟩
def Tryz.Jh:Go.Proofs.SlLaysM.n5 Tryz.prog Tryz.CD:={
 mixed:=by kernel_rfl
 f5:=⟨Tryz.f149.name,by decide,Tryz.func149.trans (Ps some (by kernel_rfl))⟩
 f7:=⟨Tryz.f159.name,by decide,Tryz.func159.trans (Ps some (by kernel_rfl))⟩
 f8:=Tryz.func81.trans (Ps some (by kernel_rfl))
 f10:=⟨Tryz.f161.name,by decide,Tryz.func161.trans (Ps some (by kernel_rfl))⟩
 f11:=⟨Tryz.f162.name,by decide,Tryz.func162.trans (Ps some (by kernel_rfl))⟩
 f12:=⟨Tryz.f163.name,by decide,Tryz.func163.trans (Ps some (by kernel_rfl))⟩
 f13:=⟨Tryz.f164.name,by decide,Tryz.func164.trans (Ps some (by kernel_rfl))⟩
 f14:=⟨Tryz.f165.name,by decide,Tryz.func165.trans (Ps some (by kernel_rfl))⟩
 f15:=⟨Tryz.f166.name,by decide,Tryz.func166.trans (Ps some (by kernel_rfl))⟩
 f16:=⟨Tryz.f167.name,by decide,Tryz.func167.trans (Ps some (by kernel_rfl))⟩
 f17:=⟨Tryz.f168.name,by decide,Tryz.func168.trans (Ps some (by kernel_rfl))⟩
 f18:=⟨Tryz.f169.name,by decide,Tryz.func169.trans (Ps some (by kernel_rfl))⟩
 f19:=Tryz.func101.trans (Ps some (by kernel_rfl))
 f20:=Tryz.func102.trans (Ps some (by kernel_rfl))
 f30:=⟨Tryz.f170.name,by decide,Tryz.func170.trans (Ps some (by kernel_rfl))⟩
 f31:=Tryz.func122.trans (Ps some (by kernel_rfl))
 f32:=Tryz.func123.trans (Ps some (by kernel_rfl))
 f33:=⟨Tryz.f171.name,by decide,Tryz.func171.trans (Ps some (by kernel_rfl))⟩
 f34:=⟨Tryz.f172.name,by decide,Tryz.func172.trans (Ps some (by kernel_rfl))⟩
 f35:=⟨Tryz.f103.name,by decide,Tryz.func103.trans (Ps some (by kernel_rfl))⟩
 f40:=⟨Tryz.f173.name,by decide,Tryz.func173.trans (Ps some (by kernel_rfl))⟩
 t0:=Tryz.underlying0
 a0:=Tryz.isAgg0
 z0:=Tryz.sizeOf0
 v0:=Tryz.zeroValue0
 t3:=Tryz.underlying3
 a3:=Tryz.isAgg3
 z3:=Tryz.sizeOf3
 v3:=Tryz.zeroValue3
 t4:=Tryz.underlying4
 a4:=Tryz.isAgg4
 z4:=Tryz.sizeOf4
 v4:=Tryz.zeroValue4
 t5:=Tryz.underlying5
 a5:=Tryz.isAgg5
 z5:=Tryz.sizeOf5
 v5:=Tryz.zeroValue5
 t9:=Tryz.underlying9
 a9:=Tryz.isAgg9
 z9:=Tryz.sizeOf9
 v9:=Tryz.zeroValue9
 t22:=Tryz.underlying102
 a22:=Tryz.isAgg102
 z22:=Tryz.sizeOf102
 v22:=Tryz.zeroValue102
 t23:=Tryz.underlying102
 a23:=Tryz.isAgg102
 z23:=Tryz.sizeOf102
 v23:=Tryz.zeroValue102
 t25:=Tryz.underlying3
 a25:=Tryz.isAgg3
 z25:=Tryz.sizeOf3
 v25:=Tryz.zeroValue3
 t32:=Tryz.underlying117
 a32:=Tryz.isAgg117
 z32:=Tryz.sizeOf117
 v32:=Tryz.zeroValue117
 t35:=Tryz.underlying126
 a35:=Tryz.isAgg126
 z35:=Tryz.sizeOf126
 v35:=Tryz.zeroValue126
 t36:=Tryz.underlying127
 a36:=Tryz.isAgg127
 z36:=Tryz.sizeOf127
 v36:=Tryz.zeroValue127
 t41:=Tryz.underlying131
 a41:=Tryz.isAgg131
 z41:=Tryz.sizeOf131
 v41:=Tryz.zeroValue131
 t44:=Tryz.underlying134
 a44:=Tryz.isAgg134
 z44:=Tryz.sizeOf134
 v44:=Tryz.zeroValue134
 t46:=Tryz.underlying136
 a46:=Tryz.isAgg136
 z46:=Tryz.sizeOf136
 v46:=Tryz.zeroValue136
 t53:=Tryz.underlying164
 a53:=Tryz.isAgg164
 z53:=Tryz.sizeOf164
 v53:=Tryz.zeroValue164
 t57:=Tryz.underlying168
 a57:=Tryz.isAgg168
 z57:=Tryz.sizeOf168
 v57:=Tryz.zeroValue168
 t63:=Tryz.underlying187
 a63:=Tryz.isAgg187
 z63:=Tryz.sizeOf187
 v63:=Tryz.zeroValue187
 t64:=Tryz.underlying81
 a64:=Tryz.isAgg81
 z64:=Tryz.sizeOf81
 v64:=Tryz.zeroValue81}
end
section
open Go.RowKit Go.Maps Go.Sort Go.Shelf
def Tryz.Ks(m:Nat):AnyZI.SortsIn Tryz.prog Tryz.px Fence.wide m :=
 ⟨fun nK off cap ss W hH hblk hsz=>callsIn_wide.2 (AnyM.slices_Sort_int Tryz.Jh nK off cap ss W hH hblk hsz),
  fun p cap W=>callsIn_wide.2 (AnyM.slices_Sort_int_none Tryz.Jh p cap W)⟩
set_option maxHeartbeats 1000000 in
def Tryz.Keys{H:Type}(b nn:Nat)(D0:DataW H)(R:Rx->SA (DataW H×SB MemPlace))(w:RB)(hown:w.ownsMap Tryz.prog 3 R b nn D0)(hmax:Maps.size D0<=maxLen)(hbytes:Maps.size D0*8<=140737488355328) :
  Calls Tryz.prog 111 #[.map (some b)] w fun e w'=>∃(v:Rx) (ss:SB Int),e=.returned v/\ss.Perm (intKeys D0) /\
   w'.ownsRow w.heap.size 3 1 v ss.length ((ss.mergeSort (fun x y=>decide (x<=y))).map encZ)/\(v=.slice none 0 0↔ss=[])/\Below w.heap.size w w':=by
 refine(callsIn_wide (n:=6)).1 ?_;have hbl:=hown.lt;have hseq:SeqGives Fence.wide 2 Tryz.prog 150 #[.pointer (some ⟨w.heap.size,0,none⟩)] encZ (fun ss=>ss.Perm (intKeys D0)) (Maps.size D0) (w.alloc (.cells #[.map (some b)] 140)) :=
  AnyZI.keys_gives (ρ:=Tryz.sZ) { Tryz.JC with} Fence.wide _ trivial rfl (by omega) w.heap.size b nn D0 _ (by simp) (by simp) (by
   obtain⟨es,clock,hb,Ft,hs,hD⟩:=hown;exact⟨es,clock,(Below.heap_alloc _ _ b hbl).trans hb,Ft,hs,hD⟩)
 have cK:∀mb W,CallsIn Fence.wide 5 Tryz.prog 136 #[.map mb] W fun e w'=>e=.returned (.func (.func 150) #[] #[.pointer (some ⟨W.heap.size,0,none⟩)])/\w'=W.alloc (.cells #[.map mb] 140):=fun mb W=>AnyZI.keys_in Tryz.JC Fence.wide 5 trivial rfl mb W;have cS:=AnyZI.sorted_in Tryz.Ht Fence.wide 5 trivial trivial trivial trivial rfl (by omega) (Tryz.Ks _) (enters_of Tryz.func149 (by kernel_rfl) rfl) 150 #[.pointer (some ⟨w.heap.size,0,none⟩)] trivial (enters_of Tryz.func150 (by kernel_rfl) rfl) _ _ hmax hbytes _ hseq
 change CallsIn _ _ Tryz.prog 135 _ _ _ at cS
 have hfK:Fence.wide.fn 136:=trivial;have hfS:Fence.wide.fn 135:=trivial;refine callsIn_of_wp Tryz.func111 rfl trivial ?_ rfl;simp only[Tryz.ntmps111,List.size_toArray,PD,QU,Nat.reduceAdd,Nat.reduceSub,Array.replicate_succ,Array.replicate_zero,List.push_toArray,List.append_toArray,P7,Qb]
 gi_wp2_with (first
  |(gi_at_call 136; refine(cK _ _).mono ?_; rintro e w' ⟨rfl,rfl⟩)
  |(gi_at_call 135; refine cS.mono ?_; rintro e w' ⟨v,ss,rfl,hS,hrow,hnil,hb⟩))
 go_ret
 exact⟨v,ss,rfl,hS,ownsRow_base_a hrow (by simp),hnil,((Below.refl _ w).alloc (Pd _) _).trans (hb.mono (by simp))⟩
end
end Go.Proofs
namespace Go.Proofs.YthmekkhpddehjaaGreat
section
open Go Go.Ab Go.Maps
def rU:∀{l:SB Int},Ck l=true->l.Nodup
 | [],_=>List.nodup_nil
 | a::l,h=>by
  unfold Ck at h;rw[Pe] at h;exact Qz.2 ⟨by simpa using h.1,rU h.2⟩
def oG(a:Int):∀l,(wu a l).Perm (a::l)
 | []=>List.Perm.refl _
 | b::l=>by
  unfold wu
  split
  exact List.Perm.refl _
  exact((oG a l).cons b).trans (List.Perm.swap a b l)
def e7:∀l,(fo l).Perm l
 | []=>List.Perm.refl _
 | a::l=>(oG a (fo l)).trans ((e7 l).cons a)
def oX(a:Int):∀{l:SB Int},l.Pairwise (·<=·)->(wu a l).Pairwise (·<=·)
 | [],_=>List.pairwise_singleton _ _
 | b::l,h=>by
  obtain⟨h1,h2⟩:=PC.1 h;unfold wu
  split
  rename_i hab;exact PC.2 ⟨fun x hx=>by
   rcases Pp.1 hx with rfl|hx
   exact hab
   exact Int.le_trans hab (h1 x hx),h⟩
  rename_i hab;refine PC.2 ⟨fun x hx=>?_,oX a h2⟩;rcases Pp.1 ((oG a l).subset hx) with rfl|hx
  omega
  exact h1 x hx
def ju:∀l,(fo l).Pairwise (·<=·)
 | []=>List.Pairwise.nil
 | a::l=>oX a (ju l)
def EN{ss ks:SB Int}(h:ss.Perm ks):ss.mergeSort (fun x y=>decide (x<=y))=fo ks:=by
 refine List.Perm.eq_of_pairwise (le:=fun a b=>a<=b) (fun a b _ _ h1 h2=>Int.le_antisymm h1 h2) ?_ (ju ks) (((List.mergeSort_perm ss _).trans h).trans (e7 ks).symm);exact(List.pairwise_mergeSort (fun a b c h1 h2=>by simp only[Pv] at *; omega) (fun a b=>by simp only[Qo,Pv]; omega) ss).imp fun h=>by simpa using h
def BS{j:aY}:∀{es:SB (Rx×Rx)} {fs:SB MapEntry} {ks:SB Int},ER j es fs->qg es=some ks->fs.map (·.key)=ks.map (.int .i64)
 | [],[],ks,_,h=>by cases h; rfl
 | (a,b)::es,f::fs,ks,hr,h=>by
  unfold qg at h
  split at h
  rename_i e; cases e
  ·rename_i k v r e;cases e;cases hk:qg es with
   | none=>rw[hk] at h; cases h
   | some ks' =>
    rw[hk] at h;cases h;have h1:f.key=.int .i64 k:=by
     have:=hr.1;generalize f.key=fk at this;cases this; rfl
    rw[PS,PS,h1,BS hr.2.2 hk]
  cases h
 | [],_::_,_,h,_=>h.elim
 | _::_,[],_,h,_=>h.elim
abbrev RU:Rx->SA (DataW SC×SB MemPlace):=fun _=>some (.lit (.bool true),[])
def MW:Tryz.prog.underlying 3=some (.int .i64):=by kernel_rfl
def wf_i64{k:Int}(h1 : -9223372036854775808<=k)(h2:k<9223372036854775808):(Lit.int .i64 k).wf=true:=by
 show(decide ((-9223372036854775808:Int)<=k)&&decide (k<=9223372036854775807))=true
 rw[Po h1,Po (show k<=9223372036854775807 by omega)]; rfl
def JO{x:MapEntry}{k:Int}(hk:x.key=.int .i64 k)(h1 : -9223372036854775808<=k)(h2:k<9223372036854775808):Go.WideElems.rd Tryz.prog 3 RU x=some (.int .i64 k,.lit (.bool true)):=by
 have hm:mapKey Tryz.prog 3 (.int .i64 k)=some (.int .i64 k):=by
  unfold mapKey;rw[MW];simp only[wf_i64 h1 h2,and_self,if_true]
 have hk':keyOf Tryz.prog 3 (.int .i64 k)=some (.int .i64 k):=by
  unfold keyOf;simp only[MW,hm]
 unfold Go.WideElems.rd;rw[hk,hk']; rfl
def sN{args:SB Rx}{m m':Sr}{v:Rx}(h:ez args m=some (v,m')){j:aY}{w:RB}{args':SB Rx}(hm:MR sP j m w)(hl:LR j args args') :
  ik sP.P (sP.cM 111).isSome 111 args'.toArray w (jZ sP j m w v m'):=by
 unfold ez at h
 split at h
 case h_2=>cases h
 rename_i b
 split at h
 case h_2=>cases h
 rename_i es hg
 split at h
 case h_2=>cases h
 rename_i ks hks
 split at h
 case isFalse=>cases h
 rename_i hok;obtain⟨v1,vs,rfl,hv1,hvs⟩:=hl.cons_inv;obtain rfl:=hvs.da;cases hv1 with
 | map hj =>
 rename_i k;obtain⟨es',clock,h1,h2⟩:=hm.xT hj hg;have hinc:=hm.vX hj hg h1;have hkeys:=BS h2 hks;unfold LL at hok;rw[Pe,Pe] at hok;obtain⟨⟨ho1,ho2⟩,ho3⟩:=hok;have hnd:=rU ho2;have hlen:=Pt ho3;have hrange:∀x∈ks,-9223372036854775808<=x/\x<9223372036854775808:=fun x hx=>by
  have:=Pr.1 ho1 x hx
  simpa using this
 have hsz:es'.size=ks.length:=by
  have:=Ps List.length hkeys
  simpa using this
 have hread:∀x∈es'.toList,∃q:Int,x.key=.int .i64 q/\q∈ks/\Go.WideElems.rd Tryz.prog 3 RU x=some (.int .i64 q,.lit (.bool true)):=fun x hx=>by
  have:x.key∈ks.map (.int .i64):=hkeys▸P6.2 ⟨x,hx,rfl⟩;obtain⟨q,hq,e⟩:=P6.1 this;have hr:=hrange q hq;exact⟨q,e.symm,hq,JO e.symm hr.1 hr.2⟩
 have hknd:(es'.toList.map (·.key)).Nodup:=by
  rw[hkeys];refine List.pairwise_map.2 (hnd.imp fun hne e=>hne ?_);cases e; rfl
 have hmaxlen:(1073741824:Nat)<=maxLen:=by decide
 have hfit:Go.WideElems.Fit Tryz.prog 3 RU es' clock:=⟨by rw[hsz]; omega,⟨hinc.1,hinc.2,hknd⟩,fun x hx=>by
  obtain⟨q,_,_,e⟩:=hread x hx;exact⟨_,e⟩⟩
 have hown:w.ownsMap Tryz.prog 3 RU k.c es'.size (.map ((es'.toList.map (Go.WideElems.rg Tryz.prog 3 RU)).foldr DataW.insert [])):=⟨es',clock,h1,hfit,Pd _,rfl⟩;have hrg:es'.toList.map (Go.WideElems.rg Tryz.prog 3 RU)=ks.map fun q=>(Lit.int .i64 q,(.lit (.bool true):DataW SC)):=by
  have e1:es'.toList.map (Go.WideElems.rg Tryz.prog 3 RU)=(es'.toList.map (·.key)).map fun kv=>match kv with
    | .int .i64 q=>(Lit.int .i64 q,(.lit (.bool true):DataW SC))
    | _=>(.bool false,.nil):=by
   rw[List.map_map];refine List.map_congr_left fun x hx=>?_;obtain⟨q,e,_,hr⟩:=hread x hx
   show(Go.WideElems.rd Tryz.prog 3 RU x).getD _=_
   rw[hr]
   show _=(match x.key with|.int .i64 q=>(Lit.int .i64 q,(.lit (.bool true):DataW SC))|_=>(.bool false,.nil))
   rw[e]; rfl
  rw[e1,hkeys,List.map_map]; rfl
 have hperm:(intKeys (.map ((es'.toList.map (Go.WideElems.rg Tryz.prog 3 RU)).foldr DataW.insert []):DataW SC)).Perm ks:=by
  show((es'.toList.map (Go.WideElems.rg Tryz.prog 3 RU)).foldr DataW.insert []).map (fun p=>Go.intOf p.1) |>.Perm ks
  refine((Go.WideShapes.sorted_perm _).map _).trans ?_;rw[hrg,List.map_map];have:∀l:SB Int,l.map ((fun p:Lit×DataW SC=>Go.intOf p.1) ∘ fun q=>(Lit.int .i64 q,.lit (.bool true)))=l:=fun l=>by
   induction l with
   | nil=>rfl
   | cons a l ih=>rw[PS,ih]; rfl
  rw[this]
 have hsize:Maps.size (.map ((es'.toList.map (Go.WideElems.rg Tryz.prog 3 RU)).foldr DataW.insert []):DataW SC)=ks.length:=by
  show((es'.toList.map (Go.WideElems.rg Tryz.prog 3 RU)).foldr DataW.insert []).length=ks.length
  rw[(Go.WideShapes.sorted_perm _).length_eq,Pk,QT,hsz]
 have hcon:=Tryz.Keys k.c es'.size _ RU w hown (by rw[hsize]; omega) (by rw[hsize]; omega)
 have hcall:(callFunc 111 #[.map (some k.c)]).run Tryz.prog w=.ok (.enter 111 #[.map (some k.c)]) w:=enters_of Tryz.func111 (by kernel_rfl) rfl _ _
 refine .inl ⟨hcall,callsIn_wide.2 (hcon.mono ?_)⟩;rintro e w' ⟨v2,ss,rfl,hp,hrow,hnil,hb⟩;have hps:=hp.trans hperm;have hsl:=hps.length_eq;have hold:∀c,c<w.heap.size->w'.heap[c]? = w.heap[c]?:=fun c hc=>hb.block c hc;have hcalm:gL sP w w':=⟨hb.os,hb.output,hb.tape,fun f=>f.elim⟩;refine⟨v2,rfl,?_⟩
 match ks,h with
 | [],h =>
  cases h;have:ss=[]:=Qa.1 hsl;rw[hnil.2 this];exact⟨j,.same hm hold hb.size hcalm,.snil 0 0⟩
 | q::ks,h =>
  cases h;rw[EN hps] at hrow;obtain⟨hxl,hor⟩:=hrow;rcases hor with⟨_,h0⟩|⟨g,cap,cur,rfl,hg1,hg2,hn1,hn2,hn3,htake⟩
  rw[hsl] at h0; simp at h0
  have hlen2:(fo (q::ks)).length=ks.length+1:=(e7 _).length_eq;have hcl:((fo (q::ks)).map (Value.int .i64)).length=ks.length+1:=by rw[Pk,hlen2]
  have hssl:ss.length=ks.length+1:=hsl;rw[hssl] at hn1 htake hxl ⊢;rw[Nat.mul_one] at htake hn3;have hlt:g<w'.heap.size:=(Px.1 hg2).1;refine⟨_,.oJ (k1:=⟨g,some (1,ks.length+1,cap)⟩) hm hold hb.size hcalm hg1 hlt (j1:=j) hg2 ⟨⟨by rw[hcl,hn3],by rw[hcl,hn3]; exact hn1,rfl,by decide,by unfold mh; simp only[maxLen] at hn2; omega⟩,fun i vv hi=>?_⟩ (by
   rw[List.all_map]; exact Pr.2 fun _ _=>rfl),?_⟩
  refine⟨vv,?_,?_⟩
  rw[<-htake] at hi;rw[Rh] at hi
  split at hi
  simpa using hi
  cases hi
  have:=PO hi;obtain⟨z,_,rfl⟩:=P6.1 this;exact .int _ _
  exact .sliceM (k:=⟨g,some (1,ks.length+1,cap)⟩) (aY.cG _ _ _) rfl (by omega) (by omega) (Pd _) hn1
end
section
open Go Go.Ab Go.Ab.W
abbrev sC:Int×Int->SB Rx:=eP (eI .i64) (eI .i64)
def du:SB Rx->SA Rs
 | []=>some []
 | .int .i64 a::.int .i64 b::r=>(du r).map ((a,b)::·)
 | _=>none
def Br(x y:Int×Int):Bool:=decide (x.1<y.1\/x.1=y.1/\x.2<=y.2)
def zM(m:Sr)(b n n':Nat):SA (SB Rx×Tag) :=
 match m.get b with
 | some (.cells cs .own)=>if n=n'/\cs.length=n*2/\cs.all aR=true then some (cs,.own) else none
 | some (.cells cs (.more 2))=>if n=n'/\cs.length=n*2/\cs.all aR=true then some (cs,.more 2) else none
 | _=>none
def ve(args:SB Rx)(m:Sr):SA (Rx×Sr) :=
 match args with
 | [.slice none 0 _,.func (.func 51) xs ys]=>if xs.size=0/\ys.size=0 then some (.tuple #[],m) else none
 | [.slice (some ⟨b,0,none⟩) n n',.func (.func 51) xs ys] =>
  match zM m b n n' with
  | some (cs,tg) =>
   match du cs with
   | some l=>if(xs.size=0/\ys.size=0)/\lim n=true then some (.tuple #[],m.set b (.cells ((l.mergeSort Br).map sC).flatten tg)) else none
   | none=>none
  | none=>none
 | _=>none
def FO(f:SJ):SA Prim:=if f=18 then some ⟨mE⟩ else if f=50 then some ⟨ve⟩ else G0 f
noncomputable def aG:Env:={ P:=Tryz.prog,glob:=0,cM:=FO,mono:=False}
noncomputable def nH:Env:={ P:=Tryz.prog,glob:=0,cM:=fun _=>none,mono:=True}
def uj:EnvOk nH:=ym wI fun f p hp=>by cases hp
end
end Go.Proofs.YthmekkhpddehjaaGreat
section
namespace Go.Ab.W
open Go Go.Ab
attribute [local irreducible] Tm.at Trie.set Trie.get Sr.get Sr.set Sr.alloc Sr.ww Sr.kill
section
variable{E:Env}{n:Nat}{m0:Sr}{fs:Fs}{ps ps':SB Pc}{ops:SD Oper}{os:SB Oper}{K:Tm->Sr->Prop}{prs:SB (Nat×Nat)}
variable{ty:Ry}{p:String}{af:SD Edge}{d:Nat}{o:Op}{g:SA (Nat×Bool)}{v:Rx}
inductive Nk
 | any
 | call
 | rd (b:Nat)
 | wr (b:Nat)
 | low (b:Nat)
 | kp (l:SB Nat)
 | rn (o:SA Nat)
 | ka (l:SB (SA Nat))
def Nk.of:Nk->Note->Prop
 | .any,_=>True
 | .call,x=>x.next<=x.wl
 | .rd b,x=>x.read=some b
 | .wr b,x=>x.wrote=some b
 | .low b,x=>b<x.wl
 | .kp l,x=>∀b∈l,x.kept b=true
 | .rn o,x=>x.read=o
 | .ka l,x=>∀b,some b∈l->x.kept b=true
def NR:SB Nk->SB Note->Prop
 | [],[]=>True
 | b::bs,x::xs=>df x=true/\b.of x/\NR bs xs
 | _,_=>False
def NR.at:∀{bs:SB Nk} {ns:SB Note} {i:Nat} {b:Nk},NR bs ns->bs[i]? = some b->∃x,ns[i]? = some x/\b.of x
 | b::bs,x::xs,0,c,h,e=>by simp only[PF,Option.some.injEq] at e; subst e; exact⟨x,rfl,h.2.1⟩
 | b::bs,x::xs,i+1,c,h,e=>by rw[PT] at e ⊢; exact NR.at h.2.2 e
 | [],[],i,c,h,e=>by simp at e
 | [],_::_,_,_,h,_=>h.elim
 | _::_,[],_,_,h,_=>h.elim
def NR.all:∀{bs:SB Nk} {ns:SB Note},NR bs ns->ns.all df=true
 | [],[],_=>rfl
 | _::_,_::_,h=>by rw[Qq,h.1,NR.all h.2.2]; rfl
 | [],_::_,h=>h.elim
 | _::_,[],h=>h.elim
def NR.snoc:∀{bs:SB Nk} {ns:SB Note} {b:Nk} {x:Note},NR bs ns->df x=true->b.of x->NR (bs++[b]) (ns++[x])
 | [],[],_,_,_,h1,h2=>⟨h1,h2,trivial⟩
 | _::_,_::_,_,_,h,h1,h2=>⟨h.1,h.2.1,NR.snoc h.2.2 h1 h2⟩
 | [],_::_,_,_,h,_,_=>h.elim
 | _::_,[],_,_,h,_,_=>h.elim
def Nk.L8:Nk->Bool
 | .call=>true
 | _=>false
def zj(ops:SD Oper)(ss:SB Nk)(p:Nat×Nat):Prop :=
 match ss[p.1]?,ss[p.2]? with
  | some (.rd b),some (.wr b')=>b≠b'/\aI (ops.getD p.1 default).op=false
  | some (.wr b),some (.rd b')=>b'≠b/\aI (ops.getD p.2 default).op=false
  | some (.rd b),some (.low b')=>b<=b'/\aI (ops.getD p.1 default).op=false
  | some (.low b),some (.rd b')=>b'<=b/\aI (ops.getD p.2 default).op=false
  | some (.rd b),some (.kp l)=>b∈l/\aI (ops.getD p.1 default).op=false
  | some (.kp l),some (.rd b)=>b∈l/\aI (ops.getD p.2 default).op=false
  | some (.rd b),some (.ka l)=>some b∈l/\aI (ops.getD p.1 default).op=false
  | some (.ka l),some (.rd b)=>some b∈l/\aI (ops.getD p.2 default).op=false
  | some (.rn o),some (.ka l)=>o∈l/\aI (ops.getD p.1 default).op=false
  | some (.ka l),some (.rn o)=>o∈l/\aI (ops.getD p.2 default).op=false
  | some a,some b=>((a.L8 || !(aI (ops.getD p.1 default).op)) &&(b.L8 || !(aI (ops.getD p.2 default).op)))=true
  | _,_=>False
def eJ(ops:SD Oper)(ss:SB Nk):SB (Nat×Nat)->Prop
 | []=>True
 | p::ps=>zj ops ss p/\eJ ops ss ps
def HS(ops:SD Oper)(ss:SB Nk):SB (Nat×Nat)->Bool
 | []=>true
 | p::ps=>(match ss[p.1]?,ss[p.2]? with
  | some (.rd _),some (.wr _)=>false
  | some (.wr _),some (.rd _)=>false
  | some (.rd _),some (.low _)=>false
  | some (.low _),some (.rd _)=>false
  | some (.rd _),some (.kp _)=>false
  | some (.kp _),some (.rd _)=>false
  | some (.rd _),some (.ka _)=>false
  | some (.ka _),some (.rd _)=>false
  | some (.rn _),some (.ka _)=>false
  | some (.ka _),some (.rn _)=>false
  | some a,some b=>((a.L8 || !(aI (ops.getD p.1 default).op)) &&(b.L8 || !(aI (ops.getD p.2 default).op)))
  | _,_=>false)&&HS ops ss ps
def eJ.all{ops:SD Oper}{ss:SB Nk}:∀{ps:SB (Nat×Nat)},HS ops ss ps=true->eJ ops ss ps
 | [],_=>trivial
 | p::ps,h=>by
  simp only[HS,Pe] at h;refine⟨?_,eJ.all h.2⟩;have h1:=h.1;unfold zj
  split at h1
  cases h1
  cases h1
  cases h1
  cases h1
  cases h1
  cases h1
  cases h1
  cases h1
  cases h1
  cases h1
  rename_i a b ha hb hn1 hn2;exact h1
  cases h1
def eJ.nil{ops:SD Oper}{ss:SB Nk}:eJ ops ss []:=trivial
section
variable{ops:SD Oper}{ss:SB Nk}{ps:SB (Nat×Nat)}{i j b b':Nat}{l:SB Nat}{o:SA Nat}{la:SB (SA Nat)}
def eJ.step(h:HS ops ss [(i,j)]=true)(k:eJ ops ss ps):eJ ops ss ((i,j)::ps):=⟨(eJ.all h).1,k⟩
def eJ.rw(h1:ss[i]? = some (.rd b))(h2:ss[j]? = some (.wr b'))(he:aI (ops.getD i default).op=false)(hne:b≠b')(k:eJ ops ss ps):eJ ops ss ((i,j)::ps):=by
 refine⟨?_,k⟩;simp only[zj,h1,h2]; exact⟨hne,he⟩
def eJ.rk(h1:ss[i]? = some (.rd b))(h2:ss[j]? = some (.kp l))(he:aI (ops.getD i default).op=false)(hm:b∈l)(k:eJ ops ss ps):eJ ops ss ((i,j)::ps):=by
 refine⟨?_,k⟩;simp only[zj,h1,h2]; exact⟨hm,he⟩
def eJ.ar(h1:ss[i]? = some (.ka la))(h2:ss[j]? = some (.rd b))(he:aI (ops.getD j default).op=false)(hm:some b∈la)(k:eJ ops ss ps):eJ ops ss ((i,j)::ps):=by
 refine⟨?_,k⟩;simp only[zj,h1,h2]; exact⟨hm,he⟩
def eJ.an(h1:ss[i]? = some (.ka la))(h2:ss[j]? = some (.rn o))(he:aI (ops.getD j default).op=false)(hm:o∈la)(k:eJ ops ss ps):eJ ops ss ((i,j)::ps):=by
 refine⟨?_,k⟩;simp only[zj,h1,h2]; exact⟨hm,he⟩
end
def HU{r e:Note}(h:e.next<=e.wl):Note.ok r e=true:=by
 unfold Note.ok
 split
 rfl
 rename_i b _
 by_cases hb:b<e.wl
 simp[hb]
 have:e.next<=b:=by omega
 simp[this]
def A9{r e:Note}{b b':Nat}(h1:r.read=some b)(h2:e.wrote=some b')(hne:b≠b'):Note.ok r e=true:=by
 unfold Note.ok;rw[h1,h2];simp[hne]
def wG{r e:Note}{b b':Nat}(h1:r.read=some b)(h2:b'<e.wl)(hne:b<=b'):Note.ok r e=true:=by
 unfold Note.ok;rw[h1];simp[show b<e.wl by omega]
def Bj{r e:Note}{b:Nat}{l:SB Nat}(h1:r.read=some b)(h2:∀b∈l,e.kept b=true)(hm:b∈l):Note.ok r e=true:=by
 unfold Note.ok;rw[h1];simp[h2 b hm]
def vd{r e:Note}{b:Nat}{l:SB (SA Nat)}(h1:r.read=some b)(h2:∀b,some b∈l->e.kept b=true)(hm:some b∈l):Note.ok r e=true:=by
 unfold Note.ok;rw[h1];simp[h2 b hm]
def Bi{r e:Note}{o:SA Nat}{l:SB (SA Nat)}(h1:r.read=o)(h2:∀b,some b∈l->e.kept b=true)(hm:o∈l):Note.ok r e=true:=by
 cases o with
 | none=>unfold Note.ok; rw[h1]
 | some b=>exact vd h1 h2 hm
def Nk.ok{a b:Nk}{x y:Note}(_:a.of x)(hy:b.of y)(h:b.L8=true):Note.ok x y=true:=by
 cases b with
 | call=>exact HU hy
 | _=>cases h
def yd{ops:SD Oper}{ss:SB Nk}{ns:SB Note}(h:NR ss ns):∀{prs:SB (Nat×Nat)},eJ ops ss prs->prs.all (dx ns ops)=true
 | [],_=>rfl
 | p::prs,hk=>by
  rw[Qq,yd h hk.2,Bool.and_true];have h1:=hk.1;unfold zj at h1
  split at h1
  rename_i b b' ha hb;obtain⟨x,hx1,hx2⟩:=h.at ha;obtain⟨y,hy1,hy2⟩:=h.at hb;simp only[dx,hx1,hy1,A9 hx2 hy2 h1.1,h1.2,Rc,PQ,Rb,Qc]
  rename_i b b' ha hb;obtain⟨x,hx1,hx2⟩:=h.at ha;obtain⟨y,hy1,hy2⟩:=h.at hb;simp only[dx,hx1,hy1,A9 hy2 hx2 h1.1,h1.2,Rc,PQ,Rb,Qc]
  rename_i b b' ha hb;obtain⟨x,hx1,hx2⟩:=h.at ha;obtain⟨y,hy1,hy2⟩:=h.at hb;simp only[dx,hx1,hy1,wG hx2 hy2 h1.1,h1.2,Rc,PQ,Rb,Qc]
  rename_i b b' ha hb;obtain⟨x,hx1,hx2⟩:=h.at ha;obtain⟨y,hy1,hy2⟩:=h.at hb;simp only[dx,hx1,hy1,wG hy2 hx2 h1.1,h1.2,Rc,PQ,Rb,Qc]
  rename_i b b' ha hb;obtain⟨x,hx1,hx2⟩:=h.at ha;obtain⟨y,hy1,hy2⟩:=h.at hb;simp only[dx,hx1,hy1,Bj hx2 hy2 h1.1,h1.2,Rc,PQ,Rb,Qc]
  rename_i b b' ha hb;obtain⟨x,hx1,hx2⟩:=h.at ha;obtain⟨y,hy1,hy2⟩:=h.at hb;simp only[dx,hx1,hy1,Bj hy2 hx2 h1.1,h1.2,Rc,PQ,Rb,Qc]
  rename_i b l ha hb;obtain⟨x,hx1,hx2⟩:=h.at ha;obtain⟨y,hy1,hy2⟩:=h.at hb;simp only[dx,hx1,hy1,vd hx2 hy2 h1.1,h1.2,Rc,PQ,Rb,Qc]
  rename_i b l ha hb;obtain⟨x,hx1,hx2⟩:=h.at ha;obtain⟨y,hy1,hy2⟩:=h.at hb;simp only[dx,hx1,hy1,vd hy2 hx2 h1.1,h1.2,Rc,PQ,Rb,Qc]
  rename_i b l ha hb;obtain⟨x,hx1,hx2⟩:=h.at ha;obtain⟨y,hy1,hy2⟩:=h.at hb;simp only[dx,hx1,hy1,Bi hx2 hy2 h1.1,h1.2,Rc,PQ,Rb,Qc]
  rename_i b l ha hb;obtain⟨x,hx1,hx2⟩:=h.at ha;obtain⟨y,hy1,hy2⟩:=h.at hb;simp only[dx,hx1,hy1,Bi hy2 hx2 h1.1,h1.2,Rc,PQ,Rb,Qc]
  rename_i a b _ _ _ _ _ _ _ _ _ _ ha hb;obtain⟨x,hx1,hx2⟩:=h.at ha;obtain⟨y,hy1,hy2⟩:=h.at hb;simp only[Pe,Qo,Qe] at h1;simp only[dx,hx1,hy1,Pe,Qo,Qe];refine⟨?_,?_⟩
  rcases h1.2 with h2|h2
  exact .inr (Nk.ok hx2 hy2 h2)
  exact .inl h2
  rcases h1.1 with h2|h2
  exact .inr (Nk.ok hy2 hx2 h2)
  exact .inl h2
  exact h1.elim
def NR.rev:∀{bs:SB Nk} {ns:SB Note},NR bs ns->NR bs.reverse ns.reverse
 | [],[],_=>trivial
 | b::bs,x::xs,h=>by
  rw[List.reverse_cons,List.reverse_cons];exact(NR.rev h.2.2).snoc h.1 h.2.1
 | [],_::_,h=>h.elim
 | _::_,[],h=>h.elim
variable{ss:SB Nk}
def Wn(E:Env)(n:Nat)(ops:SD Oper)(prs:SB (Nat×Nat))(K:Tm->Sr->Prop)(os:SB Oper)(ss:SB Nk)(m0:Sr)(fs:Fs)(ps:SB Pc):Prop :=
 ∀t m ns,Fr t fs->Hp m0 m ps->NR ss ns->dQ E n ops (fun t m ns=>(prs.all (dx ns ops)&&ns.all df)=true/\K t m) os t m ns
def Wn.nil{Q:Ss->Tm->Sr->Prop}(hk:∀m,Hp m0 m ps->eJ ops ss.reverse prs)(h:At Q .normal m0 fs ps):Wn E n ops prs (Q .normal) [] ss m0 fs ps:=fun t m ns hf hm hn=>by
 refine⟨?_,h t m hf hm⟩;rw[yd hn.rev (hk m hm),hn.rev.all]; rfl
def Wn.xg{α:Type}{V:α->Rx}{N:α->SB Pc}{c:Nk}(h:∀t m,Fr t fs->Hp m0 m ps->m.wl=m.next->(∀b,aQ E t o=some b->b<m.next)/\∀K:Rx->Sr->Prop,(∀x m',Hp m0 m' (N x)->c.of { read:=aQ E t o,wl:=m'.wl,next:=m.next,wrote:=dS E t o,kept:=gQ m m'}->K (V x) m')->bH E t m o K)
  (hg:uc ops fs g true) (dst:SA Nat) (hd:∀d,dst=some d->Nat.blt d n=true) (k:∀x,Wn E n ops prs K os (c::ss) m0 (match dst with|some d=>(d,V x)::fs|none=>fs) (N x)):Wn E n ops prs K (⟨dst,o,ty,p,af,g⟩::os) ss m0 fs ps:=by
 intro t m ns hf hm hn;simp only[dQ,hg t _ _ _ _ _ hf,if_true];have hx:=hm.ext.next
 have hm':Hp m0 (m.ww m.next) ps:=hm.ww (by omega)
 have hwl:(m.ww m.next).wl=(m.ww m.next).next:=by rw[Sr.wl_ww,Sr.next_ww]
 have e0:({ next:=m.next,wl:=m.next,objs:=m.objs,base:=m.base}:Sr)=m.ww m.next:=by unfold Sr.ww; rfl
 rw[e0];obtain⟨h1,h2⟩:=h t _ hf hm' hwl;rw[Sr.next_ww] at h1;refine bH.A (h2 _ fun x m' hm'' hc=>?_);rw[Sr.next_ww] at hc;have hw:=hm''.ext.wl;have e1:({ next:=m'.next,wl:=min m.wl m'.wl,objs:=m'.objs,base:=m'.base}:Sr)=m'.ww (min m.wl m'.wl):=by unfold Sr.ww; rfl
 have hw0:=hm.ext.wl;have hfin:Hp m0 (m'.ww (min m.wl m'.wl)) (N x):=hm''.ww (by omega)
 have hkp:gQ (m.ww m.next) m'=gQ m m':=by
  funext b
  unfold gQ;rw[Sr.get_ww]
 rw[hkp] at hc;have hnr:NR (c::ss) ({ read:=aQ E t o,wl:=m'.wl,next:=m.next,wrote:=dS E t o,kept:=gQ m m'}::ns):=⟨sU h1,hc,hn⟩
 cases dst with
 | none=>exact⟨t,rfl,by rw[e1]; exact k x t _ _ hf hfin hnr⟩
 | some d =>
  have hd':d<n:=by have:=hd d rfl; rwa[QB] at this
  exact⟨t.set d (V x),by rw[gY,Ph hd'],by rw[e1]; exact k x _ _ _ hf.set hfin hnr⟩
def Wn.x{α:Type}{V:α->Rx}{N:α->SB Pc}(h:Ox E m0 fs ps o V N)(hg:uc ops fs g true)(hd:Nat.blt d n=true)(k:∀x,Wn E n ops prs K os (.any::ss) m0 ((d,V x)::fs) (N x)):Wn E n ops prs K (⟨some d,o,ty,p,af,g⟩::os) ss m0 fs ps :=
 Wn.xg (c:=.any) (fun t m hf hm _=>⟨(h t m hf hm).1,fun K hK=>(h t m hf hm).2 K fun x m' h1=>hK x m' h1 trivial⟩) hg (some d) (fun d' e=>by cases e; exact hd) k
def Wn.x0{α:Type}{V:α->Rx}{N:α->SB Pc}(h:Ox E m0 fs ps o V N)(hg:uc ops fs g true)(k:∀x,Wn E n ops prs K os (.any::ss) m0 fs (N x)):Wn E n ops prs K (⟨none,o,ty,p,af,g⟩::os) ss m0 fs ps :=
 Wn.xg (c:=.any) (fun t m hf hm _=>⟨(h t m hf hm).1,fun K hK=>(h t m hf hm).2 K fun x m' h1=>hK x m' h1 trivial⟩) hg none (fun d' e=>by cases e) k
def Am:Rx->Bool
 | .int _ _|.bool _|.slice _ _ _|.map _|.pointer _=>true
 | _=>false
def MA:Rx->Bool
 | .func (.func _) a c=>a.toList.all Am&&c.toList.all Am
 | v=>Am v
def Ct{α:Type}(ps:SB Pc)(N:α->SB Pc):SB Nat->Prop
 | []=>True
 | b::l=>(∃cs k,pk ps k=some (.obj b (.cells cs .own))/\cs.all MA=true/\∀x,∃k',pk (N x) k'=some (.obj b (.cells cs .own)))/\Ct ps N l
def wX{m m':Sr}{b:Nat}(h:m.get b=m'.get b):gQ m m' b=true:=by
 unfold gQ;rw[Qo];exact .inr (@decide_eq_true _ (Classical.propDecidable _) h)
def Ct.kept{α:Type}{N:α->SB Pc}{m m':Sr}{x:α}(hm:Hp m0 m ps)(hm':Hp m0 m' (N x)):∀{l:SB Nat},Ct ps N l->∀b∈l,gQ m m' b=true
 | [],_,b,hb=>by cases hb
 | c::l,h,b,hb=>by
  rcases Pp.1 hb with rfl|hb
  obtain⟨cs,k,h1,h2,h3⟩:=h.1;obtain⟨k',h4⟩:=h3 x;exact wX (by rw[(hm.get h1).2.2,(hm'.get h4).2.2])
  exact Ct.kept hm hm' h.2 b hb
def Wn.xk{α:Type}{V:α->Rx}{N:α->SB Pc}{l:SB Nat}(h:Ox E m0 fs ps o V N)(hl:Ct ps N l)(hg:uc ops fs g true)(hd:Nat.blt d n=true)(k:∀x,Wn E n ops prs K os (.kp l::ss) m0 ((d,V x)::fs) (N x)):Wn E n ops prs K (⟨some d,o,ty,p,af,g⟩::os) ss m0 fs ps :=
 Wn.xg (c:=.kp l) (fun t m hf hm _=>⟨(h t m hf hm).1,fun K hK=>(h t m hf hm).2 K fun x m' h1=>hK x m' h1 (Ct.kept hm h1 hl)⟩) hg (some d) (fun d' e=>by cases e; exact hd) k
def F5(ps:SB Pc)(a:Rv):SB (SA Nat)->Prop
 | []=>True
 | o::l=>(∃k j p q,pk ps k=some p/\pk ps j=some q/\p.own=true/\(eL a=p.nK\/a=none)/\q.nK=o/\k≠j)/\F5 ps a l
def Hp.ne{m:Sr}{i j b b':Nat}{x y:Pc}(h:Hp m0 m ps)(hx:pk ps i=some x)(hy:pk ps j=some y)(hb:x.nK=some b)(hb':y.nK=some b')(hne:i≠j)(ho:x.own=true):b≠b':=fun e=>(dZ h.apart hx hy hne).1 b (Pc.Mo ho hb) (.inl (by rw[e]; exact hb'))
def F5.ne{a:Rv}{m:Sr}(hm:Hp m0 m ps):∀{l:SB (SA Nat)},F5 ps a l->∀b,some b∈l->b<m.next/\eL a≠some b
 | [],_,b,hb=>by cases hb
 | o::l,h,b,hb=>by
  rcases Pp.1 hb with rfl|hb
  obtain⟨k,j,p,q,h1,h2,h3,h4,h5,h6⟩:=h.1;refine⟨Pc.F7 (hm.get h2) h5,fun e=>?_⟩;rcases h4 with h4|rfl
  exact hm.ne (i:=k) (j:=j) h1 h2 (h4▸e) h5 h6 h3 rfl
  cases e
  exact F5.ne hm h.2 b hb
def wB{m m':Sr}{b o:Nat}{vs:SB Rx}(h:m.cE b o vs=some m'){x:Nat}(hx:x≠b):m'.get x=m.get x:=by
 unfold Sr.cE at h
 split at h
 cases h; rfl
 split at h
 cases h
 split at h
 cases h; rw[Sr.bL,Pb hx]
 cases h
 cases h
def sG{P:RA}{t1:Ry}{t2:SA Ry}{a:Rv}{l c:Nat}{x v:Rx}{m m':Sr}(h:bV P t1 t2 (.slice a l c) x m=some (v,m')):∀b,b<m.next->eL a≠some b->m.get b=m'.get b:=by
 intro b hb hne;unfold bV at h
 split at h
 rename_i elem base len cap n new h1 h2 h3;cases h2;simp only at h
 split at h
 cases h
 split at h
 split at h
 cases h
 split at h
 cases h; rfl
 cases h; rw[Sr.bh,RE]
 rename_i b' o;have hbb:b≠b':=fun e=>hne (by rw[e]; rfl)
 split at h
 split at h
 rw[Option.map_eq_some_iff] at h;obtain⟨m2,h4,h5⟩:=h;cases h5;exact(wB h4 hbb).symm
 split at h
 split at h
 split at h
 cases h; rw[Sr.bh,Pb (by rw[Sr.next_kill]; omega),Sr.eo,Pb hbb]
 cases h
 cases h
 split at h
 cases h; rw[Sr.bh,RE]
 cases h
 cases h
 split at h
 cases h
 split at h
 cases h; rfl
 cases h; rw[Sr.bh,RE]
 split at h
 cases h; rfl
 cases h
 cases h
def Wn.OI{α:Type}{V:α->Rx}{N:α->SB Pc}{ars:SD Rz}{t1 t2:Ry}{a:Rv}{l0 c0:Nat}{x0:Rx}(l:SB (SA Nat))(h:Ox E m0 fs ps (.call ⟨.builtin .append,ars,#[t1,t2]⟩) V N)(ha:gK E fs ars.toList=some [.slice a l0 c0,x0])(hl:F5 ps a l)(hg:uc ops fs g true)(hd:Nat.blt d n=true)(k:∀x,Wn E n ops prs K os (.ka l::ss) m0 ((d,V x)::fs) (N x)):Wn E n ops prs K (⟨some d,.call ⟨.builtin .append,ars,#[t1,t2]⟩,ty,p,af,g⟩::os) ss m0 fs ps :=
 Wn.xg (c:=.ka l) (fun t m hf hm _=>⟨(h t m hf hm).1,fun K hK=>by
  have h1:=(h t m hf hm).2 (fun v m'=>∃x,v=V x/\Hp m0 m' (N x)) fun x m' hx=>⟨x,rfl,hx⟩;have hev:=hf.gK ha;rw[rO,hev] at h1 ⊢;rw[dE] at h1 ⊢;cases hb:bf E.P .append #[t1,t2] [.slice a l0 c0,x0] m with
  | none=>rw[hb] at h1; exact h1.elim
  | some r =>
   rw[hb] at h1;obtain⟨x,hx1,hx2⟩:=h1;have hfr:=sG (P:=E.P) (t1:=t1) (t2:=some t2) (a:=a) (l:=l0) (c:=c0) (x:=x0) (v:=r.1) (m:=m) (m':=r.2) hb
   show K r.1 r.2
   rw[hx1];exact hK x r.2 hx2 fun b hb'=>by
    obtain⟨h2,h3⟩:=hl.ne hm b hb';exact wX (hfr b h2 h3)⟩) hg (some d) (fun d' e=>by cases e; exact hd) k
def Wn.xr{α:Type}{V:α->Rx}{N:α->SB Pc}{x:Rz}{lo hi mx:SA Rz}{t1:Ry}{a:Rv}{l0 c0:Nat}(hx:ev E fs x=some (.slice a l0 c0))(h:Ox E m0 fs ps (.slice t1 x lo hi mx) V N)(hg:uc ops fs g true)(hd:Nat.blt d n=true)(k:∀y,Wn E n ops prs K os (.rn (eL a)::ss) m0 ((d,V y)::fs) (N y)):Wn E n ops prs K (⟨some d,.slice t1 x lo hi mx,ty,p,af,g⟩::os) ss m0 fs ps :=
 Wn.xg (c:=.rn (eL a)) (fun t m hf hm _=>⟨(h t m hf hm).1,fun K hK=>(h t m hf hm).2 K fun y m' h1=>hK y m' h1 (by show aQ E t (.slice t1 x lo hi mx)=eL a; simp only[aQ,hf.ev hx]; cases a<;>rfl)⟩) hg (some d) (fun d' e=>by cases e; exact hd) k
def Oc(E:Env)(m0:Sr)(fs:Fs)(ps:SB Pc)(o:Op){α:Type}(V:α->Rx)(N:α->SB Pc):Prop :=
 ∀t m,Fr t fs->Hp m0 m ps->m.wl=m.next->(∀b,aQ E t o=some b->b<m.next)/\∀K:Rx->Sr->Prop,(∀x m',Hp m0 m' (N x)->m.next<=m'.wl->K (V x) m')->bH E t m o K
def eC{α:Type}{V:α->Rx}{N:α->SB Pc}{f:Rz}{g:SJ}{ars:SD Rz}{ts:SD Ry}{args:SB Rx}(hf:ev E fs f=some (.func (.func g) #[] #[]))(ha:gK E fs ars.toList=some args)(hc:∀m,Hp m0 m ps->aK E g args m (fun v m'=>∃x,v=V x/\Hp m m' (N x)))(ho:∀x,ux (N x)=true):Oc E m0 fs ps (.call ⟨.value f,ars,ts⟩) V (fun x=>N x++ps) :=
 fun t m hfr hm hwl=>⟨fun b hb=>(by simp[aQ] at hb),fun K hK=>by
  show jW E (aB E t f) (bA E t ars.toList) m _
  rw[hfr.ev hf,hfr.gK ha,rR];refine(hc m hm).mono fun v m' ⟨x,e,h⟩=>?_;rw[e];refine hK x m' (hm.after h fun p hp=>Pr.1 (ho x) p hp) ?_;have:=h.ext.wl;omega⟩
def Wn.c{α:Type}{V:α->Rx}{N:α->SB Pc}(h:Oc E m0 fs ps o V N)(hg:uc ops fs g true)(hd:Nat.blt d n=true)(k:∀x,Wn E n ops prs K os (.call::ss) m0 ((d,V x)::fs) (N x)):Wn E n ops prs K (⟨some d,o,ty,p,af,g⟩::os) ss m0 fs ps :=
 Wn.xg (c:=.call) (fun t m hf hm hw=>⟨(h t m hf hm hw).1,fun K hK=>(h t m hf hm hw).2 K fun x m' h1 h2=>hK x m' h1 h2⟩) hg (some d) (fun d' e=>by cases e; exact hd) k
def Wn.od(h:Od E m0 fs ps o v ps')(hd:Nat.blt d n=true)(k:Wn E n ops prs K os (.any::ss) m0 ((d,v)::fs) ps'):Wn E n ops prs K (⟨some d,o,ty,p,af,none⟩::os) ss m0 fs ps:=Wn.x h.x gn hd fun _=>k
def Wn.o0(h:Od E m0 fs ps o v ps')(k:Wn E n ops prs K os (.any::ss) m0 fs ps'):Wn E n ops prs K (⟨none,o,ty,p,af,none⟩::os) ss m0 fs ps:=Wn.x0 h.x gn fun _=>k
def Wn.og(h:Od E m0 fs ps o v ps')(hg:uc ops fs g true)(hd:Nat.blt d n=true)(k:Wn E n ops prs K os (.any::ss) m0 ((d,v)::fs) ps'):Wn E n ops prs K (⟨some d,o,ty,p,af,g⟩::os) ss m0 fs ps:=Wn.x h.x hg hd fun _=>k
def Wn.OX{x:Rz}{b off:Nat}{ty':Ry}(hx:ev E fs x=some (ptr b off))(h:Od E m0 fs ps (.load ty' x) v ps')(hg:uc ops fs g true)(hd:Nat.blt d n=true)(k:Wn E n ops prs K os (.rd b::ss) m0 ((d,v)::fs) ps'):Wn E n ops prs K (⟨some d,.load ty' x,ty,p,af,g⟩::os) ss m0 fs ps :=
 Wn.xg (V:=fun _:SC=>v) (N:=fun _=>ps') (c:=.rd b) (fun t m hf hm _=>⟨(h t m hf hm).1,fun K hK=>(h t m hf hm).2 K fun m' h1=>hK () m' h1 (by show aQ E t (.load ty' x)=some b; simp only[aQ,hf.ev hx]; rfl)⟩) hg (some d) (fun d' e=>by cases e; exact hd) fun _=>k
def Wn.JH{x:Rz}{b off:Nat}{ty':Ry}(hx:ev E fs x=some (ptr b off))(h:Od E m0 fs ps (.load ty' x) v ps')(hd:Nat.blt d n=true)(k:Wn E n ops prs K os (.rd b::ss) m0 ((d,v)::fs) ps'):Wn E n ops prs K (⟨some d,.load ty' x,ty,p,af,none⟩::os) ss m0 fs ps:=Wn.OX hx h gn hd k
def Wn.N0{x y:Rz}{b off:Nat}{ty':Ry}(hx:ev E fs x=some (ptr b off))(h:Od E m0 fs ps (.store ty' x y) v ps')(hg:uc ops fs g true)(k:Wn E n ops prs K os (.wr b::ss) m0 fs ps'):Wn E n ops prs K (⟨none,.store ty' x y,ty,p,af,g⟩::os) ss m0 fs ps :=
 Wn.xg (V:=fun _:SC=>v) (N:=fun _=>ps') (c:=.wr b) (fun t m hf hm _=>⟨(h t m hf hm).1,fun K hK=>(h t m hf hm).2 K fun m' h1=>hK () m' h1 (by show dS E t (.store ty' x y)=some b; simp only[dS,hf.ev hx]; rfl)⟩) hg none (fun d' e=>by cases e) fun _=>k
def Wn.LU{x y:Rz}{b off:Nat}{ty':Ry}(hx:ev E fs x=some (ptr b off))(h:Od E m0 fs ps (.store ty' x y) v ps')(k:Wn E n ops prs K os (.wr b::ss) m0 fs ps'):Wn E n ops prs K (⟨none,.store ty' x y,ty,p,af,none⟩::os) ss m0 fs ps:=Wn.N0 hx h gn k
def Wn.s(hg:uc ops fs g false)(hd:Nat.blt d n=true)(k:Wn E n ops prs K os (.call::ss) m0 ((d,undef)::fs) ps):Wn E n ops prs K (⟨some d,o,ty,p,af,g⟩::os) ss m0 fs ps:=by
 have hd':d<n:=by rwa[QB] at hd
 intro t m ns hf hm hn;simp only[dQ,hg t _ _ _ _ _ hf,Pu,if_false];exact⟨t.set d undef,by rw[gY,Ph hd'],k _ _ _ hf.set hm ⟨rfl,Pd _,hn⟩⟩
def Wn.eO(h:ae m0 ps ps')(k:Wn E n ops prs K os ss m0 fs ps'):Wn E n ops prs K os ss m0 fs ps:=fun t m ns hf hm hn=>k t m ns hf (h m hm) hn
def Wn.open{k w l:Nat}{a:Rv}{es:Ru}(hp:pk ps k=some (.sl a w l es))(hl:0<l)(h:∀b tg,a=some ⟨b,0,none⟩->BT tg=true->Wn E n ops prs K os ss m0 fs (cf ps k (.arr b w l es tg))):Wn E n ops prs K os ss m0 fs ps:=by
 intro t m ns hf hm hn;rcases hm.get hp with⟨h1,_⟩|⟨b,tg,rfl,h1⟩
 omega
 exact h b tg rfl (by rcases h1.2.2.2.2.2.1 with rfl|rfl<;>rfl) t m ns hf (hm.put hp rfl rfl rfl (Pd _) hm.ext h1 fun _ _ _=>rfl) hn
def Wn.bT{k w l cap:Nat}{a:Rv}{es:Ru}(hp:pk ps k=some (.rd a cap w l es))(hl:0<l)(h:∀b o,a=some ⟨b,o,none⟩->Wn E n ops prs K os ss m0 fs (.ro b o w l es::ps)):Wn E n ops prs K os ss m0 fs ps:=by
 intro t m ns hf hm hn;obtain⟨h1,h2,h3⟩:=hm.get hp;rcases h3 with⟨_,h3⟩|⟨_,_,_,h3,_⟩|⟨b,o,rfl,h3⟩
 omega
 omega
 exact h b o rfl t m ns hf (hm.more hp rfl ⟨h1,h3⟩ rfl fun b' hb=>hb) hn
def Wn.len{α:Type}{f:α->SB Rx}{k w l:Nat}{a:Rv}{xs:SB α}(hp:pk ps k=some (.sl a w l (xs.map f)))(h:l=xs.length->Wn E n ops prs K os ss m0 fs ps):Wn E n ops prs K os ss m0 fs ps:=fun t m ns hf hm hn=>by
 refine h ?_ t m ns hf hm hn;rcases hm.get hp with⟨h0,h1,_⟩|⟨b,tg,_,h1⟩
 rw[h0,List.map_eq_nil_iff.1 h1]; rfl
 have:=h1.2.2.2.1; rw[Pk] at this; exact this.symm
def Wk.dv{fn:SJ}{ro:SA Nat}{Q:Ss->Tm->Sr->Prop}{id:Nat}(hp:du ops=some prs)(h:Wn E n ops prs (Q .normal) ops.toList [] m0 fs ps):Wk E n fn ro (.region id ops true) Q m0 fs ps:=fun t m hf hm=>.draw hp (h t m [] hf hm trivial)
end
section
variable{E:Env}{n:Nat}{fn:SJ}{m0:Sr}{fs:Fs}{ps:SB Pc}{Q:Ss->Tm->Sr->Prop}
def jJ(fn:SJ)(t:Tm)(n:Nat)(params:SD Tmp)(assign body:Code)(s:LoopState)(p:SA Code):St:=.loop { state:=s,pending:=p,fn:=fn,tmps:=t,n:=n,params:=params,assign:=assign,body:=body}
structure Rn where
 st:LoopState
 pe:SA Code
 ps:SB Pc
def Wk.EO{ro:SA Nat}{f:Rz}{params:SD Tmp}{assign body:Code}{g:SJ}{first cap:SD Rx}{F:Func}{c:Code}{rs:SB ResultVar}{N:Nat}{γ:Type}{X:γ->Rn}
  (hf:ev E fs f=some (.func (.func g) first cap)) (hp:E.cM g=none) (hfn:E.P.funcs[g]? = some F) (hb:F.body=some c) (hrs:F.results.toList=rs) (hN:max (first.toList.length+1+cap.toList.length) F.ntmps=N)
  (hro:∀m,Hp m0 m ps->match ro with|none=>True|some l=>∃r,m.get l=some (.loop r))
  (h:∀t l rc,Fr t fs->rc=jJ fn t n params assign body->Wk E N g none c (rr E rs (fun _ m'=>∃y,Hp m0 m' (.obj l (rc (X y).st (X y).pe)::(X y).ps))) m0 (tV (first.toList++[.func (.yield l) #[] #[]]++cap.toList) 0 []) (.obj l (rc .ready none)::ps))
  (hst:∀y,(X y).st≠.busy) (k:∀y,(match(X y).pe with|none=>At Q .normal m0 fs (X y).ps|some c=>Wk E n fn ro c Q m0 fs (X y).ps)):Wk E n fn ro (.rangeFunc f params assign body) Q m0 fs ps:=by
 intro t m hfr hm;have hl:Hp m0 (m.alloc (jJ fn t n params assign body .ready none)) (.obj m.next (jJ fn t n params assign body .ready none)::ps) :=
  hm.cons (by rw[Sr.next_alloc]; omega) (hm.ext.alloc _) (fun b hb=>by rw[Sr.bh,RE]) ⟨hm.ext.next,by rw[Sr.next_alloc]; omega,by rw[Sr.bh,Ph rfl]⟩ fun b hb=>by cases hb; exact Pd _
 have hlen:(first.toList++[Value.func (.yield m.next) #[] #[]]++cap.toList).length=first.toList.length+1+cap.toList.length:=by simp; omega
 obtain⟨v,m2,⟨k1,hk1⟩,y,h2⟩:=aC (N:=N) hp hfn hb hrs (by rw[hlen]; exact hN) hl (h t m.next _ hfr rfl)
 have hg0:=h2.get (k:=0) rfl;have hg:m2.get m.next=some (jJ fn t n params assign body (X y).st (X y).pe):=hg0.2.2
 have hlo:m0.next<=m.next:=hm.ext.next
 have h3:Hp m0 (m2.set m.next (jJ fn t n params assign body .exhausted (X y).pe)) (X y).ps:=by
  have:=h2.write (k:=0) (o':=jJ fn t n params assign body .exhausted (X y).pe) (p':=.obj m.next (jJ fn t n params assign body .exhausted (X y).pe)) rfl rfl rfl rfl rfl ⟨hlo,by rw[Sr.next_set]; exact hg0.2.1,by rw[Sr.bL,Ph rfl]⟩
  refine⟨this.ext,fun p hp=>this.ok p (by simp[cf,hp]),?_⟩
  have hpw:=this.apart;rw[hI,PC] at hpw;exact hpw.2
 have hev:aB E t f=some (.func (.func g) first cap):=by
  cases f with
  | tmp i=>exact hfr.ev hf
  | const c=>exact hfr.ev hf
  | global g=>exact hfr.ev hf
  | func g=>exact hfr.ev hf
 have hao:fF E ⟨t,n,fn,ro⟩ m f=true:=by
  have:=hro m hm;cases ro with
  | none=>simp only[fF,hev,hp]; rfl
  | some l0 =>
   obtain⟨r0,hr0⟩:=this;simp only[fF,hev,hp,hr0]; rfl
 have hk:=k y;cases hpe:(X y).pe with
 | none =>
  rw[hpe] at hk hg h3;refine⟨.normal,t,_,bl (k:=k1) ?_,hk t _ hfr h3⟩;have hst':=hst y;simp only[step,hev,hao];have hk1':run E k1 (.call g (first.toList++[Value.func (.yield m.next) #[] #[]]++cap.toList) (m.alloc (.loop { state:=.ready,pending:=none,fn:=fn,tmps:=t,n:=n,params:=params,assign:=assign,body:=body})))=some (.val v m2):=hk1
  rw[hk1'];have hg':m2.get m.next=some (.loop { state:=(X y).st,pending:=none,fn:=fn,tmps:=t,n:=n,params:=params,assign:=assign,body:=body}):=hg
  simp only[hg'];cases hs:(X y).st with
  | busy=>exact Pz hs hst'
  | _=>rfl
 | some c' =>
  rw[hpe] at hk hg h3;obtain⟨e2,t2,m3,⟨k2,hk2⟩,q⟩:=hk t _ hfr h3;refine⟨e2,t2,m3,bl (k:=max k1 k2) ?_,q⟩;have hst':=hst y;simp only[step,hev,hao];have hk1':run E (max k1 k2) (.call g (first.toList++[Value.func (.yield m.next) #[] #[]]++cap.toList) (m.alloc (.loop { state:=.ready,pending:=none,fn:=fn,tmps:=t,n:=n,params:=params,assign:=assign,body:=body})))=some (.val v m2):=fQ (Q5 k1 k2) hk1
  rw[hk1'];have hg':m2.get m.next=some (.loop { state:=(X y).st,pending:=some c',fn:=fn,tmps:=t,n:=n,params:=params,assign:=assign,body:=body}):=hg
  simp only[hg'];have hk2':run E (max k1 k2) (.code c' ⟨t,n,fn,ro⟩ (m2.set m.next (.loop { state:=.exhausted,pending:=some c',fn:=fn,tmps:=t,n:=n,params:=params,assign:=assign,body:=body})))=some (.code e2 t2 m3):=fQ (QV k1 k2) hk2
  cases hs:(X y).st with
  | busy=>exact Pz hs hst'
  | _=>simp only[hk2']
def Wk.range{f:Rz}{params:SD Tmp}{assign body:Code}{g:SJ}{first cap:SD Rx}{F:Func}{c:Code}{rs:SB ResultVar}{N:Nat}{γ:Type}{X:γ->Rn}
  (hf:ev E fs f=some (.func (.func g) first cap)) (hp:E.cM g=none) (hfn:E.P.funcs[g]? = some F) (hb:F.body=some c) (hrs:F.results.toList=rs) (hN:max (first.toList.length+1+cap.toList.length) F.ntmps=N)
  (h:∀t l rc,Fr t fs->rc=jJ fn t n params assign body->Wk E N g none c (rr E rs (fun _ m'=>∃y,Hp m0 m' (.obj l (rc (X y).st (X y).pe)::(X y).ps))) m0 (tV (first.toList++[.func (.yield l) #[] #[]]++cap.toList) 0 []) (.obj l (rc .ready none)::ps))
  (hst:∀y,(X y).st≠.busy) (k:∀y,(match(X y).pe with|none=>At Q .normal m0 fs (X y).ps|some c=>Wk E n fn none c Q m0 fs (X y).ps)):Wk E n fn none (.rangeFunc f params assign body) Q m0 fs ps :=
 Wk.EO hf hp hfn hb hrs hN (fun _ _=>trivial) h hst k
def Wk.Kb{l0 k0 f0 n0:Nat}{t0:Tm}{params0:SD Tmp}{assign0 body0:Code}{r0:LoopState->SA Code->St}{s0:LoopState}{p0:SA Code}{f:Rz}{params:SD Tmp}{assign body:Code}{g:SJ}{first cap:SD Rx}{F:Func}{c:Code}{rs:SB ResultVar}{N:Nat}{γ:Type}{X:γ->Rn}
  (hf:ev E fs f=some (.func (.func g) first cap)) (hp:E.cM g=none) (hfn:E.P.funcs[g]? = some F) (hb:F.body=some c) (hrs:F.results.toList=rs) (hN:max (first.toList.length+1+cap.toList.length) F.ntmps=N)
  (h0:r0=jJ f0 t0 n0 params0 assign0 body0) (h1:pk ps k0=some (.obj l0 (r0 s0 p0)))
  (h:∀t l rc,Fr t fs->rc=jJ fn t n params assign body->Wk E N g none c (rr E rs (fun _ m'=>∃y,Hp m0 m' (.obj l (rc (X y).st (X y).pe)::(X y).ps))) m0 (tV (first.toList++[.func (.yield l) #[] #[]]++cap.toList) 0 []) (.obj l (rc .ready none)::ps))
  (hst:∀y,(X y).st≠.busy) (k:∀y,(match(X y).pe with|none=>At Q .normal m0 fs (X y).ps|some c=>Wk E n fn (some l0) c Q m0 fs (X y).ps)):Wk E n fn (some l0) (.rangeFunc f params assign body) Q m0 fs ps :=
 Wk.EO hf hp hfn hb hrs hN (fun m hm=>by subst h0; exact⟨_,(hm.get h1).2.2⟩) h hst k
def EZ:SB Tmp->SB Rx->Fs->Fs
 | p::ps,v::vs,fs=>EZ ps vs ((p,v)::fs)
 | _,_,fs=>fs
def AX(n:Nat):SB Tmp->SB Rx->Bool
 | p::ps,_::vs=>Nat.blt p n&&AX n ps vs
 | [],[]=>true
 | _,_=>false
def AR{n:Nat}:∀{ps:SB Tmp} {vs:SB Rx} {t:Tm} {fs:Fs},AX n ps vs=true->Fr t fs->∃t',dU n t ps vs=some t'/\Fr t' (EZ ps vs fs)/\ps.length=vs.length
 | p::ps,v::vs,t,fs,h,hf=>by
  simp only[AX,Pe] at h;obtain⟨t',h1,h2,h3⟩:=AR (ps:=ps) (vs:=vs) (t:=t.set p v) (fs:=(p,v)::fs) h.2 hf.set;exact⟨t',by simp only[dU,h.1]; exact h1,h2,by simp[h3]⟩
 | [],[],t,fs,_,hf=>⟨t,rfl,hf,rfl⟩
 | [],_::_,_,_,h,_=>by cases h
 | _::_,[],_,_,h,_=>by cases h
def DJ{f:Rz}{l:Nat}{first cap:SD Rx}{ars:SD Rz}{ts:SD Ry}{args:SB Rx}{k k1 fn' n':Nat}{rc:LoopState->SA Code->St}{t0:Tm}{params:SD Tmp}{assign body:Code}{f0:Fs}{γA γ:Type}{GA:γA->En}{G:γ->En}
  (hf:ev E fs f=some (.func (.yield l) first cap)) (ha:gK E fs ars.toList=some args) (hp:pk ps k=some (.obj l (rc .ready none))) (hrc:rc=jJ fn' t0 n' params assign body) (h3:Fr t0 f0) (hpar:AX n' params.toList (first.toList++args)=true)
  (hA:Wk E n' fn' (some l) assign (qH m0 GA) m0 (EZ params.toList (first.toList++args) f0) ps) (hAe:∀y,(GA y).e=.normal) (h0:∀y,pk (GA y).ps k1=some (.obj l (rc .ready none)))
  (hB:∀y,Wk E n' fn' (some l) body (qH m0 G) m0 (GA y).fs (cf (GA y).ps k1 (.obj l (rc .busy none)))) (hG:∀y,pk (G y).ps 0=some (.obj l (rc .busy none))) :
  Ox E m0 fs ps (.call ⟨.value f,ars,ts⟩) (fun y:γ=>.bool (fx (G y).e).isNone) (fun y=>cf (G y).ps 0 (.obj l (rc (if(fx (G y).e).isNone then .ready else .done) (fx (G y).e)))):=by
 subst hrc;intro t m hfr hm;refine⟨fun b hb=>(by simp[aQ] at hb),fun K hK=>?_⟩
 have hev:aB E t f=some (.func (.yield l) first cap):=by
  cases f with
  | tmp i=>exact hfr.ev hf
  | const c=>exact hfr.ev hf
  | global g=>exact hfr.ev hf
  | func g=>exact hfr.ev hf
 show jW E (aB E t f) (bA E t ars.toList) m K
 rw[hev,hfr.gK ha]
 show qB E l (first.toList++args) m K
 obtain⟨t1,hset,h4,hlen⟩:=AR (t:=t0) hpar h3;obtain⟨e1,t2,m1,⟨ka,hka⟩,ya,h2,h5,h3'⟩:=hA t1 m h4 hm;rw[hAe] at h2;subst h2;have h6:m.get l=some (jJ fn' t0 n' params assign body .ready none):=(hm.get hp).2.2;have h7:m1.get l=some (jJ fn' t0 n' params assign body .ready none):=(h3'.get (h0 ya)).2.2;have hbusy:Hp m0 (m1.set l (jJ fn' t0 n' params assign body .busy none)) (cf (GA ya).ps k1 (.obj l (jJ fn' t0 n' params assign body .busy none))) :=
  h3'.write (h0 ya) rfl rfl rfl rfl ⟨(h3'.get (h0 ya)).1,by rw[Sr.next_set]; exact(h3'.get (h0 ya)).2.1,by rw[Sr.bL,Ph rfl]⟩
 obtain⟨e0,t3,m2,⟨kb,hkb⟩,y,h8,h10,h1⟩:=hB ya t2 _ h5 hbusy;have h9:m2.get l=some (jJ fn' t0 n' params assign body .busy none):=(h1.get (hG y)).2.2;have hfin:Hp m0 (m2.set l (jJ fn' t0 n' params assign body (if(fx e0).isNone then .ready else .done) (fx e0))) (cf (G y).ps 0 (.obj l (jJ fn' t0 n' params assign body (if(fx e0).isNone then .ready else .done) (fx e0)))) :=
  h1.write (hG y) rfl rfl rfl rfl ⟨(h1.get (hG y)).1,by rw[Sr.next_set]; exact(h1.get (hG y)).2.1,by rw[Sr.bL,Ph rfl]⟩
 refine⟨.bool (fx e0).isNone,m2.set l (jJ fn' t0 n' params assign body (if(fx e0).isNone then .ready else .done) (fx e0)),bl (k:=max ka kb) ?_,?_⟩
 have hka':run E (max ka kb) (.code assign ⟨t1,n',fn',some l⟩ m)=some (.code .normal t2 m1):=fQ (Q5 ka kb) hka;have hkb':run E (max ka kb) (.code body ⟨t2,n',fn',some l⟩ (m1.set l (.loop { state:=.busy,pending:=none,fn:=fn',tmps:=t0,n:=n',params:=params,assign:=assign,body:=body})))=some (.code e0 t3 m2):=fQ (QV ka kb) hkb;have hg0':m.get l=some (.loop { state:=.ready,pending:=none,fn:=fn',tmps:=t0,n:=n',params:=params,assign:=assign,body:=body}):=h6;have hg1':m1.get l=some (.loop { state:=.ready,pending:=none,fn:=fn',tmps:=t0,n:=n',params:=params,assign:=assign,body:=body}):=h7;have hg2':m2.get l=some (.loop { state:=.busy,pending:=none,fn:=fn',tmps:=t0,n:=n',params:=params,assign:=assign,body:=body}):=h9;have hsz:¬((first.toList++args).length≠params.size):=by rw[<-hlen]; simp
 simp only[step,hg0',Pb hsz,hset,hka',hg1',hkb',hg2']
 rfl
 subst h8;exact hK y _ hfin
end
section
variable{E:Env}{n:Nat}{m0 m1 m m':Sr}{fs:Fs}{ps:SB Pc}{ops:SD Oper}{os:SB Oper}{K:Tm->Sr->Prop}{x y:Rz}{ty:Ry}
end
section
variable{α β:Type}[DecidableEq α]
def dI(k:α):SB (α×β)->Nat->SA (Nat×β)
 | [],_=>none
 | e::es,i=>if k=e.1 then some (i,e.2) else dI k es (i+1)
def iS(xs:SB (α×β))(k:α):SA β:=(dI k xs 0).map (·.2)
def iy(xs:SB (α×β))(k:α)(v:β):SB (α×β) :=
 match dI k xs 0 with
 | some p=>xs.set p.1 (k,v)
 | none=>xs++[(k,v)]
def eM(kE:α->Rx)(vE:β->Rx)(p:α×β):Rx×Rx:=(kE p.1,vE p.2)
structure KeyE(P:RA)(kt:Ry)(kE:α->Rx):Prop where
 eq:∀a b,iY P Op.maxDepth kt (kE a) (kE b)=some (decide (a=b))
 ok:∀a,gP P kt (kE a)=true
 plain:∀a,bF (kE a)=true
 same:∀a,Instr.sameBits 10000 (kE a) (kE a)=true
def kW{P:RA}{kt:Ry}{kE:α->Rx}{vE:β->Rx}(hk:KeyE P kt kE)(k:α):∀(xs:SB (α×β)) (i:Nat),gN P kt (kE k) (xs.map (eM kE vE)) i=some ((dI k xs i).map fun p=>(p.1,vE p.2))
 | [],_=>rfl
 | e::es,i=>by
  simp only[PS,gN,eM,hk.eq,dI]
  by_cases h:k=e.1
  rw[Po h,Ph h]; rfl
  rw[PL h,Pb h];exact kW hk k es (i+1)
omit [DecidableEq α] in
def lT{kE:α->Rx}{vE:β->Rx}(k:α)(v:β):∀(xs:SB (α×β)) (i:Nat),i<xs.length->jK (xs.map (eM kE vE)) i (kE k) (vE v)=(xs.set i (k,v)).map (eM kE vE)
 | [],i,h=>by cases h
 | e::es,0,_=>rfl
 | e::es,i+1,h=>by
  simp only[PS,jK,List.set_cons_succ];rw[lT k v es i (by simpa using h)]
def gw(k:α):∀(xs:SB (α×β)) (i:Nat) (p:Nat×β),dI k xs i=some p->i<=p.1/\p.1<i+xs.length/\xs[p.1-i]? = some (k,p.2)
 | [],_,_,h=>by cases h
 | e::es,i,p,h=>by
  unfold dI at h
  split at h
  rename_i hk; cases h; subst hk; simp
  obtain⟨h1,h2,h3⟩:=gw k es (i+1) p h;refine⟨by omega,by simp; omega,?_⟩
  obtain⟨d,hd⟩:∃d,p.1-i=d+1:=⟨p.1-i-1,by omega⟩
  rw[hd,PT,<-h3]
  congr 1; omega
end
section
variable{E:Env}{n:Nat}{m0 m:Sr}{fs:Fs}{ps:SB Pc}{x y z:Rz}{ty:Ry}
variable{α β:Type}[DecidableEq α]
def E5{P:RA}{kt et b:Nat}{kE:α->Rx}{vE:β->Rx}{z0:β}{xs:SB (α×β)}{k:α}{c:Bool}(hu:P.underlying ty=some (.map kt et))(hk:KeyE P kt kE)(hz:bK P et=some (vE z0))(hzp:bF (vE z0)=true)(hg:m.get b=some (.map (xs.map (eM kE vE)))) :
  dj P ty (.map (some b)) (kE k) c m=some (if c then .tuple #[vE ((iS xs k).getD z0),.bool (iS xs k).isSome] else vE ((iS xs k).getD z0)):=by
 simp only[dj,hu,mapOf,hg,hz,hk.ok,if_true,kW hk,iS];cases dI k xs 0 with
 | none=>simp only[Option.map_none,hzp,if_true,Option.getD_none,Option.isSome_none]
 | some p=>simp only[Pj,Option.getD_some,Option.isSome_some]
def NS{kt et b q:Nat}{kE:α->Rx}{vE:β->Rx}{xs:SB (α×β)}{k:α}{v:β}(hu:E.P.underlying ty=some (.map kt et))(hk:KeyE E.P kt kE)(hx:ev E fs x=some (.map (some b)))(hy:ev E fs y=some (kE k))(hz:ev E fs z=some (vE v))(hp:pk ps q=some (.obj b (.map (xs.map (eM kE vE))))) :
  Od E m0 fs ps (.mapUpdate ty x y z) undef (cf ps q (.obj b (.map ((iy xs k v).map (eM kE vE))))) :=
 fun t m hf h=>⟨fun b' hb'=>by simp[aQ] at hb',fun K hK=>by
  have hg:=(h.get hp).2.2;have hup:cL E.P ty (.map (some b)) (kE k) (vE v) m=some (m.set b (.map ((iy xs k v).map (eM kE vE)))):=by
   simp only[cL,hu,hg,hk.ok,if_true,kW hk,iy];cases hfd:dI k xs 0 with
   | none=>simp only[Option.map_none,Rl,PS,List.map_nil]; rfl
   | some p =>
    obtain⟨h1,h2,h3⟩:=gw k xs 0 p hfd;simp only[Qr] at h3;have hst:gU (xs.map (eM kE vE)) p.1 (kE k)=true:=by
     simp only[gU,PY,h3,Pj,eM,hk.plain,hk.same,Qc]
    simp only[Pj,hst,if_true];rw[lT k v xs p.1 (by omega)]
  unfold bH;simp only[lV,cQ,hf.ev hx,hf.ev hy,hf.ev hz,hup,Pj];exact hK _ (h.write hp rfl rfl rfl rfl ⟨(h.get hp).1,by rw[Sr.next_set]; exact(h.get hp).2.1,by rw[Sr.bL,Ph rfl]⟩)⟩
def Wk.label{fn:SJ}{ro:SA Nat}{Q:Ss->Tm->Sr->Prop}{l:Nat}(h:At Q .normal m0 fs ps):Wk E n fn ro (.label l) Q m0 fs ps:=fun t m hf hm=>.label (h t m hf hm)
def DC{γ:Type}{f:γ->SB Rx}{xs:SB γ}{k cap w l:Nat}{a:Rv}(h:Hp m0 m ps)(hp:pk ps k=some (.rd a cap w l (xs.map f))):l=xs.length:=by
 have:=(h.get hp).1;rw[Pk] at this;exact this.symm
def LB{P:RA}{kt:Ry}{k:IntKind}(hu:P.underlying kt=some (.int k)):KeyE P kt (fun n:Int=>.int k n) where
 eq:=fun a b=>by
  simp only[Op.maxDepth,iY,hu,if_true]
  by_cases h:a=b
  subst h; simp
  simp[h]
 ok:=fun a=>by simp only[gP,hu]
 plain:=fun a=>rfl
 same:=fun a=>by simp[Instr.sameBits]
end
section
variable{E:Env}{n:Nat}{m0 m:Sr}{fs:Fs}{ps ps':SB Pc}{x y z:Rz}{ty:Ry}
def NB{b q:Nat}{kt et:Ry}{es:SB (Rx×Rx)}{ars:SD Rz}(hu:E.P.underlying ty=some (.map kt et))(ha:gK E fs ars.toList=some [.map (some b)])(hp:pk ps q=some (.obj b (.map es))) :
  Od E m0 fs ps (.call ⟨.builtin .len,ars,#[ty]⟩) (.int .i64 (es.length:Int)) ps :=
 fun t m hf h=>⟨fun b' hb'=>by
  simp only[aQ,hf.gK ha] at hb';cases hb'; exact(h.get hp).2.1,fun K hK=>by
  have:bf E.P .len #[ty] [.map (some b)] m=some (.int .i64 (es.length:Int),m):=by
   have ht:(#[ty]:SD Ry)[0]? = some ty:=rfl;simp only[bf,ht,PI,hu,mapOf,(h.get hp).2.2,Pj]
  rw[Go.Ab.dL (hf.gK ha) this]; exact hK m h⟩
def DW{α:Type}{b q l:Nat}{kt et:Ry}{xs:SB α}{f:α->Rx×Rx}{ars:SD Rz}(hu:E.P.underlying ty=some (.map kt et))(ha:gK E fs ars.toList=some [.map (some b)])(hp:pk ps q=some (.obj b (.map (xs.map f))))(hl:xs.length=l) :
  Od E m0 fs ps (.call ⟨.builtin .len,ars,#[ty]⟩) (.int .i64 (l:Int)) ps:=by
 have:=NB (m0:=m0) hu ha hp;rw[Pk,hl] at this;exact this
end
end Go.Ab.W
section
open Go Go.Ab Go.Ab.W
abbrev Sb:=@Wn.nil
abbrev Sc:=@Wn.c
abbrev RX:=@Wn.od
abbrev Sd:=@Wk.dv
end
end
namespace Go.Ab.W
section
open Go Go.Ab
set_option maxRecDepth 10000
attribute [local irreducible] Tm.at Trie.set Trie.get Sr.get Sr.set Sr.alloc Sr.ww
section
variable{E:Env}{n:Nat}{m0:Sr}{fs:Fs}{ps:SB Pc}{x y z:Rz}{v:Rx}{ty ty2:Ry}
end
end
section
open Go Go.Ab
attribute [local irreducible] Tm.at Trie.set Trie.get Sr.get Sr.set Sr.alloc Sr.ww Sr.kill
section
variable{α:Type}
def M4:SB α->SA (α×α×α×α×α×α×α×α)
 | [a,b,c,d,e,f,g,h]=>some (a,b,c,d,e,f,g,h)
 | _=>none
def rL{xs:SB α}{a b c d e f g h:α}(hx:M4 xs=some (a,b,c,d,e,f,g,h)):xs=[a,b,c,d,e,f,g,h]:=by
 unfold M4 at hx
 split at hx
 cases hx; rfl
 cases hx
end
section
variable{E:Env}{n:Nat}{m0 m:Sr}{fs:Fs}{ps:SB Pc}{x y z:Rz}{ty:Ry}
def ae.q9{α:Type}{xs:SB α}{f:α->SB Rx}{k b w l:Nat}{cs:SB Rx}(hp:pk ps k=some (.obj b (.cells cs .own)))(hx:cs=(xs.map f).flatten)(hl:xs.length=l)(he:Enc f w)(h0:Nat.blt 0 w=true):ae m0 ps (cf ps k (.arr b w l (xs.map f) .own)):=fun m h=>by
 subst hx;exact h.put hp rfl rfl rfl (Pd _) h.ext ⟨(h.get hp).1,(h.get hp).2.1,(h.get hp).2.2,by rw[Pk]; exact hl,fun e hm=>by obtain⟨x,_,rfl⟩:=P6.1 hm; exact he.1 x,.inl rfl,by rwa[QB] at h0⟩ fun _ _ _=>rfl
def ae.A2{α:Type}{xs ys:SB α}{f:α->SB Rx}{k b w l:Nat}{cs:SB Rx}{tg:Tag}(hp:pk ps k=some (.arr b w l (xs.map f) tg))(hx:xs=ys)(hc:(ys.map f).flatten=cs):ae m0 ps (cf ps k (.obj b (.cells cs tg))):=fun m h=>by
 subst hx hc;exact h.put hp rfl rfl rfl (Pd _) h.ext ⟨(h.get hp).1,(h.get hp).2.1,(h.get hp).2.2.1⟩ fun _ _ _=>rfl
def lD{el:Ry}{b len w:Nat}{i:Int}{kd:IntKind}(h:ArT E.P ty el len w)(hx:ev E fs x=some (ptr b 0))(hy:ev E fs y=some (.int kd i))(hi:0<=i/\i.toNat<len):Od E m0 fs ps (.indexAddr ty x y) (ptr b (i.toNat*w+0)) ps:=by
 obtain⟨j,rfl⟩:=Int.eq_ofNat_of_zero_le hi.1;have hj:j<len:=by simpa using hi.2
 refine wP hx hy ?_;rw[Ah h (b:=b) (o:=0) hj];simp
end
end
end Go.Ab.W
