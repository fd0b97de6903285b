/- A part of the proof. -/
import Derived.Test.YtpkadoocdgdcfaaGreatDoorKs2
import Derived.ChangeStays
import Derived.ChangeShapes
import Derived.OpenShut
import Derived.RowKit
import Derived.Shelf.Spec.BitsCarry
import Derived.Test.YtpkadoocdgdcfaaGreatDoorRows
import Derived.Test.YtpkadoocdgdcfaaGreatDoorTie
import Derived.Test.YtpkadoocdgdcfaaGreatDoorCards
import Derived.ProofKit
import Derived.LaidMore
import Derived.Stop.Joined
import Derived.SevenTiedAt
set_option linter.all false
section
namespace Go.Ab
open Go
structure Sem where
 run:Hand->PE Nat->Tm->PJ->(PK->Tm->PJ->Bool)->Bool
noncomputable def fe (e:PK) (a:Bool) (b:Nat->Bool) (c:Bool):Bool:=PK.rec (motive:=fun _=>Bool) a b c e
noncomputable def Ek (S:Sem):Nat->Hand->PE Nat->Tm->PJ->(PK->Tm->PJ->Bool)->Bool :=
 Nat.rec (fun _ _ _ _ _=>false) fun _ ih H ro t m K=>S.run H ro t m fun e t m=>fe e (ih H ro t m K) (fun id=>K (.exit id) t m) (K .ret t m)
noncomputable def pN (s:LoopState) (ready busy other:Bool):Bool:=LoopState.rec (motive:=fun _=>Bool) ready busy other other s
noncomputable def qh (ro:PE Nat) (m:PJ) (x:Bool):Bool:=Option.rec (motive:=fun _=>Bool) x (fun l=>pT m l fun _=>x) ro
noncomputable def F5 {α:Type} (o:PE α):Bool:=Option.rec (motive:=fun _=>Bool) true (fun _=>false) o
noncomputable def JK (E:Env) (H:Hand) (f:Fn) (first captured:PO ON) (l:Nat) (m:PJ) (K:ON->PJ->Bool):Bool :=
 Fn.rec (motive:=fun _=>Bool) (fun g=>dE (F5 (E.cR g)) (kP first.toList [.func (.yield l) #[] #[]] fun ars=>kP ars captured.toList fun ars=>H.call g ars m K) false) (fun _=>false) (fun _ _=>false) (fun _ _ _ _=>false) (fun _=>false) f
noncomputable def il (E:Env) (n:Nat) (fn:PU):Code->Sem
 | .skip=>⟨fun _ _ t m K=>K .normal t m⟩
 | .label _=>⟨fun _ _ t m K=>K .normal t m⟩
 | .exit id=>⟨fun _ _ t m K=>K (.exit id) t m⟩
 | .ret=>⟨fun _ _ t m K=>K .ret t m⟩
 | .seq a b=>⟨fun H ro t m K=>(il E n fn a).run H ro t m fun e t m=>fe e ((il E n fn b).run H ro t m K) (fun id=>K (.exit id) t m) (K .ret t m)⟩
 | .cond x a b=>⟨fun H ro t m K=>(cS E x).run t fun v=>o9 v (fun c=>dE c ((il E n fn a).run H ro t m K) ((il E n fn b).run H ro t m K)) false⟩
 | .block id a=>⟨fun H ro t m K=>(il E n fn a).run H ro t m fun e t m=>fe e (K .normal t m) (fun id'=>dE (Nat.beq id' id) (K .normal t m) (K (.exit id') t m)) (K .ret t m)⟩
 | .scope a=>⟨fun H ro t m K=>(il E n fn a).run H ro t m K⟩
 | .loop a=>⟨fun H ro t m K=>Ek (il E n fn a) 1000000 H ro t m K⟩
 | .region _ ops draw=>⟨fun H _ t m K=>(Hs E n ops draw).run H t m fun t m=>K .normal t m⟩
 | .rangeFunc f params assign body=>⟨fun H ro t m K=>qh ro m ((cS E f).run t fun fv=>Ch fv fun g first captured =>
   cW m (.loop { state:=.ready,pending:=none,fn:=fn,tmps:=t,n:=n,params:=params,assign:=assign,body:=body}) fun l m1=>JK E H g first captured l m1 fun _ m2 =>
    pT m2 l fun r=>ALoop.rec (motive:=fun _=>Bool) (fun state pending fn' tmps' n' params' assign' body'=>pN state
     (cQ m2 l (.loop ⟨.exhausted,pending,fn',tmps',n',params',assign',body'⟩) fun m3=>Option.rec (motive:=fun _=>Bool) (K .normal t m3) (fun c=>Code.rec (motive:=fun _=>Bool) false (fun _ _ _=>false) (fun _ _ _ _=>false) (fun _ _ _ _ _=>false) (fun _ _ _=>false) (fun _ _=>false) (fun _ _ _ _ _ _=>false) (fun id=>K (.exit id) t m3) (fun _ _=>false) (fun _=>false) (fun _=>false) (K .ret t m3) (fun _=>false) c) pending)
     false
     (cQ m2 l (.loop ⟨.exhausted,pending,fn',tmps',n',params',assign',body'⟩) fun m3=>Option.rec (motive:=fun _=>Bool) (K .normal t m3) (fun c=>Code.rec (motive:=fun _=>Bool) false (fun _ _ _=>false) (fun _ _ _ _=>false) (fun _ _ _ _ _=>false) (fun _ _ _=>false) (fun _ _=>false) (fun _ _ _ _ _ _=>false) (fun id=>K (.exit id) t m3) (fun _ _=>false) (fun _=>false) (fun _=>false) (K .ret t m3) (fun _=>false) c) pending)) r)⟩
 | .goto _=>⟨fun _ _ _ _ _=>false⟩
 | .refuse _=>⟨fun _ _ _ _ _=>false⟩
section
variable{E:Env}{n:Nat}{fn:PU}{ro:PE Nat}{Q:PK->Tm->PJ->Prop}{t:Tm}{m:PJ}
def H7(E:Env)(n:Nat)(fn:PU)(ro:PE Nat)(t:Tm)(l:Nat)(Q:PK->Tm->PJ->Prop)(m2:PJ):Prop :=
 ∃r,m2.get l=some (.loop r)/\r.state≠.busy/\((r.pending=none/\Q .normal t (m2.set l (.loop { r with state:=.exhausted})))\/(∃c,r.pending=some c/\bp E n fn ro c Q t (m2.set l (.loop { r with state:=.exhausted}))))
def bp.rangeFunc{f:OP}{params:PO Tmp}{assign body:Code}{g:PU}{first captured:PO ON}(hf:au E t f=some (.func (.func g) first captured))(ha:jd E ⟨t,n,fn,ro⟩ m f=true)
  (h:aD E g (first.toList++[.func (.yield m.next) #[] #[]]++captured.toList) (m.alloc (.loop { state:=.ready,pending:=none,fn:=fn,tmps:=t,n:=n,params:=params,assign:=assign,body:=body})) (fun _ m2=>H7 E n fn ro t m.next Q m2)) :
  bp E n fn ro (.rangeFunc f params assign body) Q t m:=by
 obtain⟨v,m2,⟨k1,h1⟩,r,hr,hb,hq⟩:=h;rcases hq with⟨hp,hq⟩|⟨c,hp,e,t',m',⟨k2,h2⟩,hq⟩
 ·refine⟨_,_,_,aZ (k:=k1) ?_,hq⟩;cases hs:r.state with
  | busy=>exact MX hs hb
  | _=>simp only[step,hf,ha,h1,hr,hs,hp]
 ·refine⟨_,_,_,aZ (k:=max k1 k2) ?_,hq⟩;obtain⟨state,pending,fn',tmps',n',params',assign',body'⟩:=r;have hp':pending=some c:=hp;subst hp';have h2':=jo (Nat.le_max_right k1 k2) h2;cases state with
  | busy=>exact MX rfl hb
  | _=>simp only[step,hf,ha,jo (Nat.le_max_left k1 k2) h1,hr,h2']
def Mj(ro:PE Nat)(m:PJ):Bool :=
 match ro with
 | none=>true
 | some l=>match m.get l with
  | some (.loop _)=>true
  | _=>false
def pb{x:Bool}(h:qh ro m x=true):x=true/\Mj ro m=true:=by
 cases ro with
 | none=>exact⟨h,rfl⟩
 | some l =>
  obtain⟨r,h1,h2⟩:=hB h;exact⟨h2,by simp only[Mj,h1]⟩
def cF{e:PK}{a:Bool}{b:Nat->Bool}{c:Bool}(h:fe e a b c=true):(e=.normal/\a=true)\/(∃id,e=.exit id/\b id=true)\/(e=.ret/\c=true):=by
 cases e with
 | normal=>exact .inl ⟨rfl,h⟩
 | exit id=>exact .inr (.inl ⟨id,rfl,h⟩)
 | ret=>exact .inr (.inr ⟨rfl,h⟩)
def wV{H:Hand}{a:Code}{S:Sem}(hS:∀{t:Tm} {m:PJ} {K:PK->Tm->PJ->Bool},S.run H ro t m K=true->bp E n fn ro a (fun e t m=>K e t m=true) t m){K:PK->Tm->PJ->Bool} :
  ∀(k:Nat) {t:Tm} {m:PJ},Ek S k H ro t m K=true->sG E n fn ro a (fun e t m=>K e t m=true) t m
 | 0,t,m,h=>by cases h
 | k+1,t,m,h=>by
  have h':(S.run H ro t m fun e t m=>fe e (Ek S k H ro t m K) (fun id=>K (.exit id) t m) (K .ret t m))=true:=h;refine .round ((hS h').mono fun e t m h=>?_);rcases cF h with⟨rfl,h⟩|⟨id,rfl,h⟩|⟨rfl,h⟩
  exact wV hS k h
  exact h
  exact h
def yG{c:Code}{a:Nat->Bool}{b:Bool}(h:Code.rec (motive:=fun _=>Bool) false (fun _ _ _=>false) (fun _ _ _ _=>false) (fun _ _ _ _ _=>false) (fun _ _ _=>false) (fun _ _=>false) (fun _ _ _ _ _ _=>false) a (fun _ _=>false) (fun _=>false) (fun _=>false) b (fun _=>false) c=true) :
  (∃id,c=.exit id/\a id=true)\/(c=.ret/\b=true):=by
 cases c<;>first|exact .inl ⟨_,rfl,h⟩|exact .inr ⟨rfl,h⟩|cases h
def kf{H:Hand}(hH:zJ E H):∀(c:Code) {ro:PE Nat} {t:Tm} {m:PJ} {K:PK->Tm->PJ->Bool},(il E n fn c).run H ro t m K=true->bp E n fn ro c (fun e t m=>K e t m=true) t m:=by
 intro c
 induction c with
 | skip=>intro ro t m K h; exact .skip h
 | label l=>intro ro t m K h; exact .label h
 | exit id=>intro ro t m K h; exact .exit h
 | ret=>intro ro t m K h; exact .ret h
 | seq a b iha ihb =>
  intro ro t m K h;refine .seq ((iha (K:=fun e t m=>fe e ((il E n fn b).run H ro t m K) (fun id=>K (.exit id) t m) (K .ret t m)) h).mono fun e t m h=>?_);rcases cF h with⟨rfl,h⟩|⟨id,rfl,h⟩|⟨rfl,h⟩
  exact ihb h
  exact h
  exact h
 | cond x a b iha ihb =>
  intro ro t m K h;obtain⟨v,h1,h⟩:=aS (x:=x) h;obtain⟨c,rfl,h⟩:=ik h;refine .cond h1 (fun hc=>?_) (fun hc=>?_)
  subst hc; exact iha h
  subst hc; exact ihb h
 | block id a ih =>
  intro ro t m K h;refine .block ((ih (K:=fun e t m=>fe e (K .normal t m) (fun id'=>dE (Nat.beq id' id) (K .normal t m) (K (.exit id') t m)) (K .ret t m)) h).mono fun e t m h=>?_);rcases cF h with⟨rfl,h⟩|⟨id',rfl,h⟩|⟨rfl,h⟩
  exact h
  simp only[dR];rcases cx h with⟨h1,h⟩|⟨h1,h⟩
  rw[MG (Mz h1)]; exact h
  rw[ME (NZ h1)]; exact h
  exact h
 | scope a ih=>intro ro t m K h; exact .scope (ih h)
 | loop a ih=>intro ro t m K h; exact .loop (wV (fun h=>ih h) 1000000 h)
 | region id ops draw=>intro ro t m K h; exact zT hH (fun t m h=>h) h
 | rangeFunc f params assign body iha ihb =>
  intro ro t m K h;obtain⟨h,hro⟩:=pb h;obtain⟨fv,h1,h⟩:=aS (x:=f) h;have g:=qf h; clear h; obtain⟨g,first,captured,rfl,h⟩:=g
  rw[cp] at h;cases g with
  | func g =>
   have g':=aW h; clear h; obtain⟨hp,h⟩:=g';rw[fy,fy] at h;have hp':(E.cR g).isNone=true:=by cases hg:E.cR g with
    | none=>rfl
    | some p=>rw[hg] at hp; cases hp
   have hro':jd E ⟨t,n,fn,ro⟩ m f=true:=by
    unfold jd;simp only[h1,hp',Bool.true_and];exact hro
   refine .rangeFunc h1 hro' ((hH.1 h).mono fun v m2 h=>?_);obtain⟨r,hr,h⟩:=hB h;refine⟨r,hr,?_⟩;obtain⟨state,pending,fn',tmps',n',params',assign',body'⟩:=r;have key:∀{x:Bool},(x=cQ m2 m.next (.loop ⟨.exhausted,pending,fn',tmps',n',params',assign',body'⟩) fun m3=>Option.rec (motive:=fun _=>Bool) (K .normal t m3) (fun c=>Code.rec (motive:=fun _=>Bool) false (fun _ _ _=>false) (fun _ _ _ _=>false) (fun _ _ _ _ _=>false) (fun _ _ _=>false) (fun _ _=>false) (fun _ _ _ _ _ _=>false) (fun id=>K (.exit id) t m3) (fun _ _=>false) (fun _=>false) (fun _=>false) (K .ret t m3) (fun _=>false) c) pending)->x=true ->
     ((pending=none/\K .normal t (m2.set m.next (.loop ⟨.exhausted,pending,fn',tmps',n',params',assign',body'⟩))=true)\/(∃c,pending=some c/\bp E n fn ro c (fun e t m=>K e t m=true) t (m2.set m.next (.loop ⟨.exhausted,pending,fn',tmps',n',params',assign',body'⟩)))):=by
    intro x hx hx';rw[hx,cL] at hx';cases pending with
    | none=>exact .inl ⟨rfl,hx'⟩
    | some c =>
     rcases yG hx' with⟨id,rfl,h⟩|⟨rfl,h⟩
     exact .inr ⟨_,rfl,.exit h⟩
     exact .inr ⟨_,rfl,.ret h⟩
   cases state with
   | busy=>cases h
   | ready=>exact⟨(by intro e; cases e),key rfl h⟩
   | done=>exact⟨(by intro e; cases e),key rfl h⟩
   | exhausted=>exact⟨(by intro e; cases e),key rfl h⟩
  | _=>cases h
 | goto l=>intro ro t m K h; cases h
 | refuse w=>intro ro t m K h; cases h
end
structure ResSem where
 run:Tm->PJ->(PM ON->Bool)->Bool
noncomputable def yS (E:Env):PM ResultVar->ResSem
 | []=>⟨fun _ _ k=>k []⟩
 | .tmp i::rs=>⟨fun t m k=>(xf i).run t fun v=>(yS E rs).run t m fun vs=>k (v::vs)⟩
 | .cell a ty::rs=>⟨fun t m k=>(xf a).run t fun p=>(xj E.P ty).run p m fun v=>(yS E rs).run t m fun vs=>k (v::vs)⟩
def k9{E:Env}{t:Tm}{m:PJ}:∀{rs:PM ResultVar} {k:PM ON->Bool},(yS E rs).run t m k=true->∃vs,bX E t m rs=some vs/\k vs=true
 | [],k,h=>⟨[],rfl,h⟩
 | .tmp i::rs,k,h=>by
  have h':=p9 (d:=i) h;obtain⟨vs,h1,h2⟩:=k9 h';exact⟨_,by simp only[bX,h1,MB],h2⟩
 | .cell a ty::rs,k,h=>by
  have h':=p9 (d:=a) h;obtain⟨v,h1,h'⟩:=qI h';obtain⟨vs,h2,h3⟩:=k9 h';exact⟨_,by simp only[bX,h1,h2],h3⟩
noncomputable def Dn (vs:PM ON) (k:ON->Bool):Bool :=
 List.rec (motive:=fun _=>Bool) (k (.tuple #[])) (fun v rest _=>List.rec (motive:=fun _=>Bool) (k v) (fun w rest' _=>k (.tuple ⟨v::w::rest'⟩)) rest) vs
def pq(vs:PM ON)(k:ON->Bool):Dn vs k=k (fR vs):=by
 match vs with
 | []=>rfl
 | [v]=>rfl
 | v::w::rest=>rfl
noncomputable def ua (args:PM ON):Nat->Tm->(Tm->Bool)->Bool :=
 List.rec (motive:=fun _=>Nat->Tm->(Tm->Bool)->Bool) (fun _ t k=>k t) (fun v _ ih i t k=>(gK i).run t v fun t=>fN (Nat.succ i) fun i=>ih i t k) args
def nI:∀(args:PM ON) (i:Nat) (t:Tm) (k:Tm->Bool),i+args.length<=512->ua args i t k=k (Trie.ofList args i t)
 | [],i,t,k,_=>rfl
 | v::vs,i,t,k,h=>by
  have hi:i<512:=by simp at h; omega
  show(gK i).run t v (fun t=>fN (Nat.succ i) fun i=>ua vs i t k)=_
  rw[fx i hi,cU,nI vs (i+1) _ k (by simp at h; omega)]
  rfl
structure FunSem where
 run:Hand->PM ON->PJ->(ON->PJ->Bool)->Bool
structure PSem where
 run:PM ON->PJ->(ON->PJ->Bool)->Bool
def IM(E:Env)(F:PU->PE PSem):Prop:=∀{f:PU} {S:PSem},F f=some S->∃p,E.cR f=some p/\∀{args:PM ON} {m:PJ} {K:ON->PJ->Bool},S.run args m K=true->∃v m',p.run args m=some (v,m')/\K v m'=true
noncomputable def AL (E:Env) (f:PU):FunSem :=
 match E.P.funcs[f]? with
 | some fn=>match fn.body,Nat.ble fn.ntmps 512 with
  | some c,true=>⟨fun H args m K=>dE (Nat.ble args.length fn.ntmps) (ua args 0 .nil fun t=>(il E fn.ntmps f c).run H none t m fun e t m=>fe e ((yS E fn.results.toList).run t m fun vs=>Dn vs fun v=>K v m) (fun _=>false) ((yS E fn.results.toList).run t m fun vs=>Dn vs fun v=>K v m)) false⟩
  | _,_=>⟨fun _ _ _ _=>false⟩
 | none=>⟨fun _ _ _ _=>false⟩
noncomputable def IH (E:Env) (F:PU->PE PSem) (f:PU):FunSem :=
 match F f with
 | some S=>⟨fun _ args m K=>S.run args m K⟩
 | none=>match E.cR f with
  | some p=>⟨fun H args m K=>Option.rec (motive:=fun _=>Bool) ((AL E f).run H args m K) (fun r=>Prod.rec (motive:=fun _=>Bool) (fun v m'=>fV v fun v=>fM m' fun m'=>K v m') r) (p.run args m)⟩
  | none=>AL E f
def aD.cR{E:Env}{f:PU}{p:Prim}{args:PM ON}{m m':PJ}{v:ON}{R:ON->PJ->Prop}(hp:E.cR f=some p)(h:p.run args m=some (v,m'))(hR:R v m'):aD E f args m R:=by
 have hpa:lQ E f args m=some (v,m'):=by
  unfold lQ;rw[hp];exact h
 exact⟨v,m',aZ (k:=0) (by simp only[step,hpa]),hR⟩
def xz{E:Env}{H:Hand}(hH:zJ E H){f:PU}{args:PM ON}{m:PJ}(hpa:lQ E f args m=none){K:ON->PJ->Bool}(h:(AL E f).run H args m K=true):aD E f args m fun v m'=>K v m'=true:=by
 unfold AL at h
 split at h
 rename_i F hf
 split at h
 rename_i c hb hn;have g:=aW h; clear h; obtain⟨h1,h⟩:=g;have hle:=MD h1;have hn':=MD hn;rw[nI args 0 _ _ (by omega)] at h
 have hmax:max args.length F.ntmps=F.ntmps:=Nat.max_eq_right hle;refine .Jd hpa hf hb ?_;rw[hmax];refine(kf hH c h).mono fun e t m h=>?_;rcases cF h with⟨rfl,h⟩|⟨id,rfl,h⟩|⟨rfl,h⟩
 obtain⟨vs,h2,h⟩:=k9 h;rw[pq] at h;exact⟨fun id e=>(by cases e),vs,h2,h⟩
 cases h
 obtain⟨vs,h2,h⟩:=k9 h;rw[pq] at h;exact⟨fun id e=>(by cases e),vs,h2,h⟩
 cases h
 cases h
def Hb{E:Env}{F:PU->PE PSem}(hF:IM E F){H:Hand}(hH:zJ E H){f:PU}{args:PM ON}{m:PJ}{K:ON->PJ->Bool}(h:(IH E F f).run H args m K=true):aD E f args m fun v m'=>K v m'=true:=by
 unfold IH at h
 split at h
 rename_i S hS;obtain⟨p,hp,hS'⟩:=hF hS;obtain⟨v,m',h1,h2⟩:=hS' h;exact .cR hp h1 h2
 split at h
 ·rename_i p hp;simp only at h;cases he:p.run args m with
  | none =>
   rw[he] at h;exact xz hH (by unfold lQ; rw[hp]; exact he) h
  | some r =>
   obtain⟨v,m'⟩:=r;rw[he] at h;simp only[zM,xE] at h;exact .cR hp he h
 rename_i hp;exact xz hH (by unfold lQ; rw[hp]; rfl) h
noncomputable def jF (n:Nat):PM Tmp->PM ON->Tm->(Tm->Bool)->Bool
 | p::ps,v::vs,t,k=>(jr n (some p)).run t v fun t=>jF n ps vs t k
 | _,_,t,k=>k t
def nb{n:Nat}:∀{ps:PM Tmp} {vs:PM ON} {t:Tm} {k:Tm->Bool},jF n ps vs t k=true->∃t',fm n t ps vs=some t'/\k t'=true
 | p::ps,v::vs,t,k,h=>by
  have h':((jr n (some p)).run t v fun t=>jF n ps vs t k)=true:=by rw[jF] at h; exact h
  obtain⟨t',hp,h2⟩:=eX h';obtain⟨t'',h3,h4⟩:=nb h2;refine⟨t'',?_,h4⟩;unfold fm;unfold fQ at hp;simp only at hp
  split at hp
  rename_i hb; cases hp; exact h3
  cases hp
 | [],vs,t,k,h=>⟨t,by unfold fm; rfl,by rw[jF] at h; exact h; intros; simp_all⟩
 | p::ps,[],t,k,h=>⟨t,by unfold fm; rfl,by rw[jF] at h; exact h; intros; simp_all⟩
noncomputable def EX (E:Env) (H:Hand) (l:Nat) (args:PM ON) (m:PJ) (K:ON->PJ->Bool):Bool :=
 pT m l fun r=>ALoop.rec (motive:=fun _=>Bool) (fun state _ fn tmps n params assign body=>pN state
  (dE (Nat.beq args.length params.size) (jF n params.toList args tmps fun t0=>(il E n fn assign).run H (some l) t0 m fun e t1 m1=>fe e
   (pT m1 l fun r1=>ALoop.rec (motive:=fun _=>Bool) (fun state1 pending1 fn1 tmps1 n1 params1 assign1 body1=>pN state1
    (cQ m1 l (.loop ⟨.busy,pending1,fn1,tmps1,n1,params1,assign1,body1⟩) fun m1'=>(il E n fn body).run H (some l) t1 m1' fun e _ m2=>pT m2 l fun r2=>ALoop.rec (motive:=fun _=>Bool) (fun _ _ fn2 tmps2 n2 params2 assign2 body2 =>
     fe e (cQ m2 l (.loop ⟨.ready,none,fn2,tmps2,n2,params2,assign2,body2⟩) fun m3=>K (.bool true) m3)
      (fun id=>cQ m2 l (.loop ⟨.done,some (.exit id),fn2,tmps2,n2,params2,assign2,body2⟩) fun m3=>K (.bool false) m3)
      (cQ m2 l (.loop ⟨.done,some .ret,fn2,tmps2,n2,params2,assign2,body2⟩) fun m3=>K (.bool false) m3)) r2)
    false false) r1)
   (fun _=>false) false) false)
  false false) r
def lM{s:LoopState}{a:Bool}(h:pN s a false false=true):s=.ready/\a=true:=by
 cases s<;>first|exact⟨rfl,h⟩|cases h
def A9{E:Env}{H:Hand}(hH:zJ E H){l:Nat}{args:PM ON}{m:PJ}{K:ON->PJ->Bool}(h:EX E H l args m K=true):uF E l args m fun v m'=>K v m'=true:=by
 obtain⟨r,hr,h⟩:=hB h;obtain⟨state,pending,fn,tmps,n,params,assign,body⟩:=r;have g:=lM h; clear h; obtain⟨rfl,h⟩:=g;obtain⟨h1,h⟩:=aW h;obtain⟨t0,h2,h⟩:=nb h;obtain⟨e,t1,m1,⟨k1,h3⟩,h⟩:=kf hH assign h;rcases cF h with⟨rfl,h⟩|⟨id,rfl,h⟩|⟨rfl,h⟩
 obtain⟨r1,hr1,h⟩:=hB h;obtain⟨state1,pending1,fn1,tmps1,n1,params1,assign1,body1⟩:=r1;have g:=lM h; clear h; obtain⟨rfl,h⟩:=g;rw[cL] at h;obtain⟨e,t2,m2,⟨k2,h4⟩,h⟩:=kf hH body h;obtain⟨r2,hr2,h⟩:=hB h;obtain⟨state2,pending2,fn2,tmps2,n2,params2,assign2,body2⟩:=r2;have hlen:¬args.length≠params.size:=by have:=Mz h1; omega
 have hb:step E (run E (max k1 k2)) (.round l args m)=some (.val (.bool (vd e).isNone) (m2.set l (.loop ⟨if(vd e).isNone then .ready else .done,vd e,fn2,tmps2,n2,params2,assign2,body2⟩))):=by
  simp only[step,hr,ME hlen,h2,jo (Nat.le_max_left k1 k2) h3,hr1,jo (Nat.le_max_right k1 k2) h4,hr2]
 rcases cF h with⟨rfl,hz⟩|⟨id,rfl,hz⟩|⟨rfl,hz⟩
 rw[cL] at hz;exact⟨_,_,aZ (k:=max k1 k2) hb,hz⟩
 rw[cL] at hz;exact⟨_,_,aZ (k:=max k1 k2) hb,hz⟩
 rw[cL] at hz;exact⟨_,_,aZ (k:=max k1 k2) hb,hz⟩
 cases h
 cases h
noncomputable def hand (E:Env) (F:PU->PE PSem):Nat->Hand :=
 Nat.rec ⟨fun _ _ _ _=>false,fun _ _ _ _=>false⟩ fun _ ih=>⟨fun f args m K=>(IH E F f).run ih args m K,fun l args m K=>EX E ih l args m K⟩
def mO{E:Env}{F:PU->PE PSem}(hF:IM E F):∀n,zJ E (hand E F n)
 | 0=>⟨fun h=>(by cases h),fun h=>(by cases h)⟩
 | n+1=>⟨fun h=>Hb hF (mO hF n) h,fun h=>A9 (mO hF n) h⟩
def tQ{E:Env}{F:PU->PE PSem}(hF:IM E F){n:Nat}{f:PU}{args:PM ON}{m:PJ}{K:ON->PJ->Bool}(h:(hand E F n).call f args m K=true):∃fuel v m',run E fuel (.call f args m)=some (.val v m')/\K v m'=true:=by
 obtain⟨v,m',⟨k,h1⟩,h2⟩:=(mO hF n).1 h;exact⟨k,v,m',h1,h2⟩
noncomputable def KA (n:Nat) (v:ON) (m:PJ):Bool:=o9 v (fun b=>dE b (Nat.ble n m.wl) false) false
def xq{E:Env}{F:PU->PE PSem}(hF:IM E F){n g:Nat}{f:PU}{args:PM ON}{m:PJ}(h:(hand E F n).call f args m (KA g)=true):∃fuel m',run E fuel (.call f args m)=some (.val (.bool true) m')/\g<=m'.wl:=by
 obtain⟨k,v,m',h1,h2⟩:=tQ hF h;obtain⟨b,rfl,h2⟩:=ik h2;obtain⟨rfl,h2⟩:=aW h2;exact⟨k,m',h1,MD h2⟩
section
variable{E:Env}{n:Nat}{t:Tm}{m:PJ}{K:Tm->PJ->Prop}{ops:PO Oper}{os:PM Oper}{ty:OO}{p:String}{af:PO Edge}{d:Nat}
variable{L:Tm->PJ->PM Note->Prop}{ns:PM Note}
variable{a b r v:ON}{x y:OP}{e e':OO}
def JC(h:au E t x=some v)(K':ON->PJ->Prop):bw E t m (.move x) K'=K' v m:=by rw[FM,h]; rfl
def Dg(h:au E t x=some v)(K':ON->PJ->Prop):bw E t m (.assign x) K'=K' v m:=by rw[Bc,h]; rfl
def G0{c:OP}(hc:au E t c=some (.bool true))(h:au E t x=some v)(K':ON->PJ->Prop):bw E t m (.pick c x y) K'=K' v m:=by rw[zX,hc,zw,h]; rfl
def Gg{c:OP}(hc:au E t c=some (.bool false))(h:au E t y=some v)(K':ON->PJ->Prop):bw E t m (.pick c x y) K'=K' v m:=by rw[zX,hc,wF,h]; rfl
def KZ(h:au E t x=some v)(K':ON->PJ->Prop):bw E t m (.box e x) K'=K' (ptr m.next 0) (m.alloc (.cells v.cells.toList .own)):=by rw[Il,h]; rfl
def K4{op:BinOp}(h:au E t x=some a)(h':au E t y=some b)(hr:bz op e E.P a b=some r)(K':ON->PJ->Prop):bw E t m (.binOp op e x y e') K'=K' r m:=by rw[DE,h,dX,h',dX,hr]; rfl
def ly{op:UnOp}(h:au E t x=some a)(hr:yr op a=some r)(K':ON->PJ->Prop):bw E t m (.unOp op e x) K'=K' r m:=by rw[FB,h,dX,hr]; rfl
def Jl(h:au E t x=some a)(hr:fw E.P e e' a=some r)(K':ON->PJ->Prop):bw E t m (.convert e e' x) K'=K' r m:=by rw[za,h,dX,hr]; rfl
def CY(h:au E t x=some a)(hr:dz E.P e a m=some r)(K':ON->PJ->Prop):bw E t m (.load e x) K'=K' r m:=by rw[Hv,h,dX,hr]; rfl
def Gn{m':PJ}(h:au E t x=some a)(h':au E t y=some b)(hr:fa E.P e a b m=some m')(K':ON->PJ->Prop):bw E t m (.store e x y) K'=K' undef m':=by rw[Em,h,dX,h',dX,hr]; rfl
def wS{f:Nat}(h:au E t x=some a)(hr:aR E.P e a f=some r)(K':ON->PJ->Prop):bw E t m (.fieldAddr e x f) K'=K' r m:=by rw[uO,h,dX,hr]; rfl
def G6{f:Nat}(h:au E t x=some a)(hr:eH E.P e a f=some r)(K':ON->PJ->Prop):bw E t m (.field e x f) K'=K' r m:=by rw[Dz,h,dX,hr]; rfl
def xm(h:au E t x=some a)(h':au E t y=some b)(hr:bM E.P e a b=some r)(K':ON->PJ->Prop):bw E t m (.indexAddr e x y) K'=K' r m:=by rw[tV,h,dX,h',dX,hr]; rfl
def Gh(h:au E t x=some a)(h':au E t y=some b)(hr:gh E.P e a b=some r)(K':ON->PJ->Prop):bw E t m (.index e x y) K'=K' r m:=by rw[CQ,h,dX,h',dX,hr]; rfl
def B4{i:Nat}{vs:PO ON}(h:au E t x=some (.tuple vs))(hr:vs[i]? = some r)(K':ON->PJ->Prop):bw E t m (.extract x i) K'=K' r m:=by rw[yu h,hr]; rfl
def AJ{l h k:PE OP}{l' h' k':PE ON}(h1:au E t x=some a)(h2:dk E t l=some l')(h3:dk E t h=some h')(h4:dk E t k=some k')(hr:cB E.P e a l' h' k' m=some r)(K':ON->PJ->Prop):bw E t m (.slice e x l h k) K'=K' r m:=by rw[Db h1 h2 h3 h4,hr]; rfl
def Fx{z:ON}(hz:bU E.P e=some z)(hp:bu z=true)(K':ON->PJ->Prop):bw E t m (.alloc e) K'=K' (ptr m.next 0) (m.alloc (.cells z.cells.toList .own)):=by
 rw[Ep]; simp only[cD,hz,hp,if_true]; rfl
def gO{bi:Builtin}{ars:PO OP}{ts:PO OO}{vs:PM ON}{m':PJ}(h:bI E t ars.toList=some vs)(hr:bD E.P bi ts vs m=some (r,m'))(K':ON->PJ->Prop):bw E t m (.call ⟨.builtin bi,ars,ts⟩) K'=K' r m':=by rw[yZ,h,dX,hr]; rfl
def Du{op:Op}{m':PJ}(hc:vC op=none)(hr:cD E t m op=some (r,m'))(K':ON->PJ->Prop):bw E t m op K'=K' r m':=by
 unfold bw; rw[hc]; simp only[hr]; rfl
def LO{ops:PO Oper}{t:Tm}{dst:PE Tmp}{o:Op}{ty:OO}{p:String}{a:PO Edge}{j d:Nat}{b c:Bool}(hd:(ops[j]?).bind (·.dst)=some d)(h:t.at d=.bool c):aT ops ⟨dst,o,ty,p,a,some (j,b)⟩ t=(c==b):=by
 rw[DA]; unfold cJ; rw[hd]; simp only[Ad h]
end
section
variable{E:Env}{n:Nat}{fn:PU}{ro:PE Nat}{Q:PK->Tm->PJ->Prop}{t:Tm}{m:PJ}{w:Nat}
def jm(E:Env)(n:Nat)(ops:PO Oper)(K:Tm->PJ->Prop):PM Oper->Tm->PJ->Nat->Prop
 | [],t,m,w=>K t (m.ww w)
 | o::os,t,m,w =>
  if aT ops o t then(∀b,aQ E t o.op=some b->b<m.next)/\bw E t (m.ww m.next) o.op fun v m'=>CV (fQ n t o.dst v) fun t'=>jm E n ops K os t' m' (min w m'.wl)
  else CV (fQ n t o.dst undef) fun t'=>jm E n ops K os t' m w
def tA{r:PE Nat}{x y:Nat}{z:PE Nat}{u:Nat->Bool}(h:∀b,r=some b->b<y):cV { read:=r,wl:=x,next:=y,wrote:=z,kept:=u}=true:=by
 cases r with
 | none=>rfl
 | some b =>
  have:=h b rfl
  show Nat.blt b y=true
  rw[N1]; exact this
def mC{ops:PO Oper}{K:Tm->PJ->Prop}:∀{os:PM Oper} {t:Tm} {m:PJ} {w:Nat} {ns:PM Note},jm E n ops K os t m w->ns.all cV=true->dO E n ops (fun t m ns=>ns.all cV=true/\K t m) os t (m.ww w) ns
 | [],t,m,w,ns,h,hn=>⟨by simpa using hn,h⟩
 | o::os,t,m,w,ns,h,hn=>by
  simp only[jm] at h;simp only[dO]
  split at h
  ·rename_i hw;rw[MG hw];obtain⟨h1,h2⟩:=h;refine h2.A.mono fun v m' hv=>?_;obtain⟨t',hp,h3⟩:=hv.A;refine⟨t',hp,?_⟩;have:=mC (ns:={ read:=aQ E t o.op,wl:=m'.wl,next:=m.next,wrote:=dT E t o.op,kept:=gJ m m'}::ns) h3 (by rw[NF,hn,Bool.and_true]; exact tA h1)
   exact this
  rename_i hw;rw[ME hw];obtain⟨t',hp,h2⟩:=h.A;exact⟨t',hp,mC h2 (by rw[NF,hn]; rfl)⟩
def bp.Le{id:Nat}{ops:PO Oper}(hp:iz ops=some [])(h:∀K:Tm->PJ->Prop,(∀t m,Q .normal t m->K t m)->jm E n ops K ops.toList t m m.wl):bp E n fn ro (.region id ops true) Q t m:=by
 refine .draw hp ?_;have h1:=mC (ns:=[]) (h (fun t m=>Q .normal t m) fun _ _ h=>h) rfl;have mono:∀{os:PM Oper} {t:Tm} {m:PJ} {ns:PM Note},dO E n ops (fun t m ns=>ns.all cV=true/\Q .normal t m) os t m ns->dO E n ops (fun t m ns=>(([]:PM (Nat×Nat)).all (dj ns ops)&&ns.all cV)=true/\Q .normal t m) os t m ns:=by
  intro os t m ns h
  simpa using h
 exact mono h1
variable{K:Tm->PJ->Prop}{ops:PO Oper}{os:PM Oper}{ty:OO}{p:String}{af:PO Edge}{d:Nat}{g:PE (Nat×Bool)}{v a b r:ON}{x y:OP}{e:OO}
def Hj{xs:PM OP}{vs:PM ON}(h:au E t x=some v)(hs:bI E t xs=some vs):bI E t (x::xs)=some (v::vs):=by simp only[bI,h,hs]
end
end Go.Ab
end
section
namespace Go.Ab.W
open Go Go.Ab
abbrev Fs:=PM (Nat×ON)
def lk:Fs->Nat->PE ON
 | [],_=>none
 | p::l,i=>match Nat.beq p.1 i with
  | true=>some p.2
  | false=>lk l i
def Fr(t:Tm)(fs:Fs):Prop:=∀i v,lk fs i=some v->t.at i=v
def Fr.nil(t:Tm):Fr t []:=fun i v h=>by cases h
def Fr.set{t:Tm}{fs:Fs}{d:Nat}{v:ON}(h:Fr t fs):Fr (Trie.set t d v) ((d,v)::fs):=by
 intro i x hx;unfold lk at hx;rw[at_set]
 split at hx
 rename_i e;have:d=i:=Mz e;rw[MG this.symm]; exact MH hx
 rename_i e;have:d≠i:=NZ e;rw[ME (Ne.symm this)]; exact h i x hx
def sub(fs:Fs):Fs->Prop
 | []=>True
 | p::l=>lk fs p.1=some p.2/\sub fs l
def Fr.sub{t:Tm}{fs:Fs}:∀{fs':Fs},Fr t fs->sub fs fs'->Fr t fs'
 | [],_,_=>Fr.nil t
 | p::l,h,hs=>by
  intro i v hv;unfold lk at hv
  split at hv
  rename_i e;have:p.1=i:=Mz e;subst this;cases hv;exact h _ _ hs.1
  exact Fr.sub h hs.2 i v hv
def ev(E:Env)(fs:Fs):OP->PE ON
 | .tmp i=>lk fs i
 | .const v=>match bu v with
  | true=>some v
  | false=>none
 | .global g=>match Nat.blt g E.glob with
  | true=>some (ptr g 0)
  | false=>none
 | .func f=>some (.func (.func f) #[] #[])
def nv(E:Env)(fs:Fs):PM OP->PE (PM ON)
 | []=>some []
 | x::xs=>match ev E fs x with
  | some v=>match nv E fs xs with
   | some vs=>some (v::vs)
   | none=>none
  | none=>none
def E8(E:Env)(fs:Fs):PE OP->PE (PE ON)
 | none=>some none
 | some x=>match ev E fs x with
  | some v=>some (some v)
  | none=>none
def E9(E:Env)(fs:Fs):PM (Nat×OP)->PE (PM (Nat×ON))
 | []=>some []
 | x::xs=>match ev E fs x.2 with
  | some v=>match E9 E fs xs with
   | some vs=>some ((x.1,v)::vs)
   | none=>none
  | none=>none
section
variable{E:Env}{t:Tm}{fs:Fs}
def Fr.ev(h:Fr t fs):∀{x:OP} {v:ON},ev E fs x=some v->au E t x=some v
 | .tmp i,v,e=>by show some (t.at i)=some v; rw[h i v e]
 | .const c,v,e=>by
  simp only[Go.Ab.W.ev] at e
  split at e
  rename_i hp; cases e; simp only[au]; rw[MG hp]
  cases e
 | .global g,v,e=>by
  simp only[Go.Ab.W.ev] at e
  split at e
  rename_i hp; cases e; simp only[au]; rw[MG (by rwa[N1] at hp)]
  cases e
 | .func f,v,e=>by simp only[Go.Ab.W.ev] at e; exact e
def Fr.nv(h:Fr t fs):∀{xs:PM OP} {vs:PM ON},nv E fs xs=some vs->bI E t xs=some vs
 | [],vs,e=>by simp only[Go.Ab.W.nv] at e; exact e
 | x::xs,vs,e=>by
  simp only[Go.Ab.W.nv] at e
  split at e
  rename_i v hv
  split at e
  rename_i ws hw;cases e;exact Hj (h.ev hv) (Fr.nv h hw)
  cases e
  cases e
def Fr.E8(h:Fr t fs):∀{x:PE OP} {v:PE ON},E8 E fs x=some v->dk E t x=some v
 | none,v,e=>by simp only[Go.Ab.W.E8] at e; exact e
 | some x,v,e=>by
  simp only[Go.Ab.W.E8] at e
  split at e
  rename_i w hw; cases e; simp only[dk]; rw[h.ev hw]; rfl
  cases e
def Fr.E9(h:Fr t fs):∀{xs:PM (Nat×OP)} {vs:PM (Nat×ON)},E9 E fs xs=some vs->cX E t xs=some vs
 | [],vs,e=>by simp only[Go.Ab.W.E9] at e; exact e
 | x::xs,vs,e=>by
  simp only[Go.Ab.W.E9] at e
  split at e
  rename_i v hv
  split at e
  rename_i ws hw;cases e;obtain⟨i,y⟩:=x;unfold cX;rw[h.ev hv,Fr.E9 h hw]
  cases e
  cases e
end
def oi(m:PJ)(b o w:Nat)(es:OK):Prop :=
 b<m.next/\∃all tg,m.get b=some (.cells all tg)/\(∀sz,tg=.more sz->sz=w)/\∀i e,es[i]? = some e->(all.drop (o+i*w)).take w=e/\e.length=w
def eY:OL->PE Nat
 | some a=>some a.block
 | none=>none
def Rd(m:PJ)(a:OL)(cap w n:Nat)(es:OK):Prop :=
 es.length=n/\n<=cap/\((a=none/\n=0)\/(∃b sp,a=some ⟨b,0,some sp⟩/\n=0/\cap=0/\b<m.next)\/∃b o,a=some ⟨b,o,none⟩/\oi m b o w es)
def Rd.lt{m:PJ}{a:OL}{cap w n:Nat}{es:OK}(h:Rd m a cap w n es){b:Nat}(hb:eY a=some b):b<m.next:=by
 rcases h.2.2 with⟨rfl,_⟩|⟨b',sp,rfl,_,_,h4⟩|⟨b',o,rfl,h4⟩
 cases hb
 cases hb; exact h4
 cases hb; exact h4.1
def yj(lo:Nat)(m:PJ)(b w n:Nat)(es:OK)(tg:Tag):Prop :=
 lo<=b/\b<m.next/\m.get b=some (.cells es.flatten tg)/\es.length=n/\(∀e∈es,e.length=w)/\(tg=.own\/tg=.more w)/\0<w
structure GPc where
 ow:Nat->Prop
 rd:Nat->Prop
 P:PJ->Prop
 st:∀m m':PJ,P m->m.next<=m'.next->(∀b,ow b\/rd b->b<m.next->m'.get b=m.get b)->P m'
 lt:∀(m:PJ) b,P m->ow b\/rd b->b<m.next
 fr:Bool:=false
inductive Pc
 | obj (b:Nat) (o:PL)
 | arr (b w n:Nat) (es:OK) (tg:Tag)
 | sl (a:OL) (w n:Nat) (es:OK)
 | rd (a:OL) (cap w n:Nat) (es:OK)
 | ro (b o w n:Nat) (es:OK)
 | gen (g:GPc)
def Pc.rC:Pc->PE Nat
 | .obj b _=>some b
 | .arr b _ _ _ _=>some b
 | .sl a _ _ _=>eY a
 | .rd a _ _ _ _=>eY a
 | .ro b _ _ _ _=>some b
 | .gen _=>none
def Pc.own:Pc->Bool
 | .obj _ _|.arr _ _ _ _ _|.sl _ _ _ _=>true
 | _=>false
def Pc.Mh:Pc->Nat->Prop
 | .gen g=>g.ow
 | _=>fun _=>False
def Pc.Ba:Pc->Nat->Prop
 | .gen g=>fun b=>g.ow b\/g.rd b
 | _=>fun _=>False
def Pc.ow(p:Pc)(b:Nat):Prop:=(p.own=true/\p.rC=some b)\/p.Mh b
def Pc.any(p:Pc)(b:Nat):Prop:=p.rC=some b\/p.Ba b
def Pc.mB{p:Pc}{b:Nat}(h:p.ow b):p.any b:=by
 rcases h with h|h
 exact .inl h.2
 ·cases p with
  | gen g=>exact .inr (.inl h)
  | _=>exact h.elim
def Pc.Ke{p:Pc}{b:Nat}(ho:p.own=true)(hb:p.rC=some b):p.ow b:=.inl ⟨ho,hb⟩
def Pc.zn{p:Pc}{b:Nat}(ho:p.own=true)(h:p.any b):p.rC=some b:=by
 rcases h with h|h
 exact h
 ·cases p with
  | gen g=>cases ho
  | _=>exact h.elim
def Pc.ok(lo:Nat)(m:PJ):Pc->Prop
 | .obj b o=>lo<=b/\b<m.next/\m.get b=some o
 | .arr b w n es tg=>yj lo m b w n es tg
 | .sl a w n es=>(n=0/\es=[]/\a=none/\0<w)\/∃b tg,a=some ⟨b,0,none⟩/\yj lo m b w n es tg
 | .rd a cap w n es=>Rd m a cap w n es
 | .ro b o w n es=>es.length=n/\oi m b o w es
 | .gen g=>g.P m/\(g.fr=false->∀b,g.ow b->lo<=b)
def Pc.bound:Pc->Bool
 | .gen g=>!g.fr
 | _=>true
def Pc.apart(p q:Pc):Prop:=(∀b,p.ow b->q.any b->False)/\∀b,q.ow b->p.any b->False
structure Hp(m0 m:PJ)(ps:PM Pc):Prop where
 ext:Ext m0 m
 ok:∀p∈ps,p.ok m0.next m
 apart:ps.Pairwise Pc.apart
def pk:PM Pc->Nat->PE Pc
 | [],_=>none
 | p::_,0=>some p
 | _::l,k+1=>pk l k
def du:PM Pc->Nat->Pc->PM Pc
 | [],_,_=>[]
 | _::l,0,p=>p::l
 | q::l,k+1,p=>q::du l k p
def jS(p:Pc)(l:PM Pc):pk (p::l) 0=some p:=rfl
def fF(p:Pc)(l:PM Pc)(k:Nat):pk (p::l) (k+1)=pk l k:=rfl
def kl:∀{ps:PM Pc} {k:Nat} {p:Pc},pk ps k=some p->p∈ps:=by
 intro ps
 induction ps with
 | nil=>intro k p h; simp[pk] at h
 | cons q l ih =>
  intro k p h;cases k with
  | zero=>rw[jS] at h; have:=MH h; simp[this]
  | succ k=>rw[fF] at h; have:=ih h; simp[this]
def jl(q:Pc)(l:PM Pc)(p:Pc):du (q::l) 0 p=p::l:=rfl
def gR(q:Pc)(l:PM Pc)(k:Nat)(p:Pc):du (q::l) (k+1) p=q::du l k p:=rfl
def sR:∀{l:PM Pc} {k:Nat} {p r:Pc},r∈du l k p->r∈l\/r=p:=by
 intro l
 induction l with
 | nil=>intro k p r h; simp[du] at h
 | cons a l ih =>
  intro k p r h;cases k with
  | zero =>
   rw[jl,M0] at h;rcases h with h|h
   exact .inr h
   exact .inl (by simp[h])
  | succ k =>
   rw[gR,M0] at h;rcases h with h|h
   exact .inl (by simp[h])
   rcases ih h with h1|h1
   exact .inl (by simp[h1])
   exact .inr h1
def oi.j7{m m':PJ}{b o w:Nat}{es:OK}(h:oi m b o w es)(hn:m.next<=m'.next)(hg:m'.get b=m.get b):oi m' b o w es:=by
 obtain⟨h1,all,tg,h2,h3⟩:=h;exact⟨by omega,all,tg,by rw[hg]; exact h2,h3⟩
def yj.j7{lo:Nat}{m m':PJ}{b w n:Nat}{es:OK}{tg:Tag}(h:yj lo m b w n es tg)(hn:m.next<=m'.next)(hg:m'.get b=m.get b):yj lo m' b w n es tg:=by
 obtain⟨h1,h2,h3,h4⟩:=h;exact⟨h1,by omega,by rw[hg]; exact h3,h4⟩
def Rd.j7{m m':PJ}{a:OL}{cap w n:Nat}{es:OK}(h:Rd m a cap w n es)(hn:m.next<=m'.next)(hg:∀b,eY a=some b->b<m.next->m'.get b=m.get b):Rd m' a cap w n es:=by
 obtain⟨h1,h2,h4⟩:=h;refine⟨h1,h2,?_⟩;rcases h4 with h4|⟨b,sp,rfl,a1,a2,a3⟩|⟨b,o,rfl,h⟩
 exact .inl h4
 exact .inr (.inl ⟨b,sp,rfl,a1,a2,MC a3 hn⟩)
 exact .inr (.inr ⟨b,o,rfl,h.j7 hn (hg b rfl h.1)⟩)
def Pc.iX{lo:Nat}{m m':PJ}{p:Pc}(h:p.ok lo m)(hn:m.next<=m'.next)(hg:∀b,p.any b->b<m.next->m'.get b=m.get b):p.ok lo m':=by
 cases p with
 | obj b o=>exact⟨h.1,by have:=h.2.1; omega,by rw[hg b (.inl rfl) h.2.1]; exact h.2.2⟩
 | arr b w n es tg=>exact yj.j7 h hn (hg b (.inl rfl) h.2.1)
 | sl a w n es =>
  rcases h with h|⟨b,tg,rfl,h⟩
  exact .inl h
  exact .inr ⟨b,tg,rfl,h.j7 hn (hg b (.inl rfl) h.2.1)⟩
 | rd a cap w n es=>exact Rd.j7 h hn fun b hb=>hg b (.inl hb)
 | ro b o w n es=>exact⟨h.1,h.2.j7 hn (hg b (.inl rfl) h.2.1)⟩
 | gen g=>exact⟨g.st m m' h.1 hn fun b hb=>hg b (.inr hb),h.2⟩
def Pc.gT{lo:Nat}{m:PJ}{p:Pc}(h:p.ok lo m){b:Nat}(hb:p.any b):b<m.next:=by
 cases p with
 | obj b' o=>rcases hb with hb|hb; cases hb; exact h.2.1; exact hb.elim
 | arr b' w n es tg=>rcases hb with hb|hb; cases hb; exact h.2.1; exact hb.elim
 | sl a w n es =>
  rcases hb with hb|hb
  rcases h with⟨_,_,rfl,_⟩|⟨b',tg,rfl,h⟩
  cases hb
  cases hb; exact h.2.1
  exact hb.elim
 | rd a cap w n es=>rcases hb with hb|hb; exact Rd.lt h hb; exact hb.elim
 | ro b' o w n es=>rcases hb with hb|hb; cases hb; exact h.2.1; exact hb.elim
 | gen g=>rcases hb with hb|hb; cases hb; exact g.lt m b h.1 hb
def Pc.IK{lo:Nat}{m:PJ}{p:Pc}(h:p.ok lo m){b:Nat}(hb:p.rC=some b):b<m.next:=Pc.gT h (.inl hb)
def Pc.Co{lo:Nat}{m:PJ}{p:Pc}(h:p.ok lo m)(hf:p.bound=true){b:Nat}(hb:p.ow b):lo<=b:=by
 rcases hb with⟨ho,hb⟩|hb
 ·cases p with
  | obj b' o=>cases hb; exact h.1
  | arr b' w n es tg=>cases hb; exact h.1
  | sl a w n es =>
   rcases h with⟨_,_,rfl,_⟩|⟨b',tg,rfl,h⟩
   cases hb
   cases hb; exact h.1
  | rd a cap w n es=>cases ho
  | ro b' o w n es=>cases ho
  | gen g=>cases ho
 ·cases p with
  | gen g=>exact h.2 (by simpa [Pc.bound] using hf) b hb
  | _=>exact hb.elim
def Pc.DG{lo:Nat}{m:PJ}{p:Pc}(h:p.ok lo m)(ho:p.own=true){b:Nat}(hb:p.rC=some b):lo<=b:=Pc.Co h (by cases p<;>first|rfl|cases ho) (.inl ⟨ho,hb⟩)
section
variable{m0 m m':PJ}{ps:PM Pc}
def Hp.get(h:Hp m0 m ps){k:Nat}{p:Pc}(hp:pk ps k=some p):p.ok m0.next m:=h.ok p (kl hp)
def Pc.jy{p r:Pc}(h:Pc.apart p r):Pc.apart r p:=⟨h.2,h.1⟩
def ij:∀{ps:PM Pc} {k:Nat} {p p':Pc},pk ps k=some p->(∀r∈ps,Pc.apart p r->Pc.apart p' r)->ps.Pairwise Pc.apart->(du ps k p').Pairwise Pc.apart:=by
 intro ps
 induction ps with
 | nil=>intro k p p' hk; simp[pk] at hk
 | cons q l ih =>
  intro k p p' hk hr h;rw[Ny] at h;cases k with
  | zero =>
   rw[jS] at hk;have hk:=MH hk;subst hk;rw[jl];exact Ny.2 ⟨fun r hm=>hr r (by simp[hm]) (h.1 r hm),h.2⟩
  | succ k =>
   rw[fF] at hk;rw[gR];refine Ny.2 ⟨fun r hm=>?_,ih hk (fun r hm=>hr r (by simp[hm])) h.2⟩
   rcases sR hm with hm|hm
   exact h.1 r hm
   rw[hm]; exact Pc.jy (hr q (by simp) (Pc.jy (h.1 p (kl hk))))
def xh:∀{ps:PM Pc} {k:Nat} {p p' r:Pc},pk ps k=some p->ps.Pairwise Pc.apart->r∈du ps k p'->r=p'\/(r∈ps/\Pc.apart r p):=by
 intro ps
 induction ps with
 | nil=>intro k p p' r hk; simp[pk] at hk
 | cons q l ih =>
  intro k p p' r hk h hr;rw[Ny] at h;cases k with
  | zero =>
   rw[jS] at hk;have hk:=MH hk;subst hk;rw[jl,M0] at hr;rcases hr with hr|hr
   exact .inl hr
   exact .inr ⟨by simp[hr],Pc.jy (h.1 r hr)⟩
  | succ k =>
   rw[fF] at hk;rw[gR,M0] at hr;rcases hr with hr|hr
   rw[hr]; exact .inr ⟨by simp,h.1 p (kl hk)⟩
   rcases ih hk h.2 hr with h1|⟨h1,h2⟩
   exact .inl h1
   exact .inr ⟨by simp[h1],h2⟩
def Hp.Mk(h:Hp m0 m ps){k:Nat}{p p':Pc}(hp:pk ps k=some p)(how:∀b,p'.ow b->p.ow b\/m.next<=b)(hany:∀b,p'.any b->p.any b\/m.next<=b)(hn:m.next<=m'.next)(hext:Ext m0 m')
  (hok:p'.ok m0.next m') (hg:∀b,¬p.ow b->b<m.next->m'.get b=m.get b):Hp m0 m' (du ps k p') where
 ext:=hext
 apart:=ij hp (fun r hr ha=>⟨fun b a c=>(how b a).elim (fun a=>ha.1 b a c) fun a=>by have:=Pc.gT (h.ok r hr) c; omega,fun b a c=>(hany b c).elim (fun c=>ha.2 b a c) fun c=>by have:=Pc.gT (h.ok r hr) (Pc.mB a); omega⟩) h.apart
 ok:=fun r hr=>by
  rcases xh hp h.apart hr with rfl|⟨h1,h2⟩
  exact hok
  exact Pc.iX (h.ok r h1) hn fun b hb' hlt=>hg b (fun e=>h2.2 b e hb') hlt
def Hp.put(h:Hp m0 m ps){k:Nat}{p p':Pc}(hp:pk ps k=some p)(ho:p.own=true)(hb:p'.rC=p.rC)(ho':p'.own=true)(hn:m.next<=m'.next)(hext:Ext m0 m')
  (hok:p'.ok m0.next m') (hg:∀b,p.rC≠some b->b<m.next->m'.get b=m.get b):Hp m0 m' (du ps k p') :=
 h.Mk hp (fun b a=>.inl (.inl ⟨ho,by rw[<-hb]; exact Pc.zn ho' (Pc.mB a)⟩)) (fun b a=>.inl (.inl (by rw[<-hb]; exact Pc.zn ho' a))) hn hext hok fun b hb' hlt=>hg b (fun e=>hb' (.inl ⟨ho,e⟩)) hlt
def Hp.J7(h:Hp m0 m ps){p:Pc}(hn:m.next<=m'.next)(hext:Ext m0 m')(hsame:∀b,b<m.next->m'.get b=m.get b)(hp:p.ok m0.next m')(hb:∀b,p.any b->m.next<=b):Hp m0 m' (p::ps) where
 ext:=hext
 ok:=fun q hq=>by
  rcases M0.1 hq with rfl|hq
  exact hp
  exact Pc.iX (h.ok q hq) hn fun b hb' hlt=>hsame b hlt
 apart:=Ny.2 ⟨fun q hq=>⟨fun b h1 h2=>by
  have:=Pc.gT (h.ok q hq) h2;have:=hb b (Pc.mB h1);omega,fun b h1 h2=>by
  have:=Pc.gT (h.ok q hq) (Pc.mB h1);have:=hb b h2;omega⟩,h.apart⟩
def Hp.cons(h:Hp m0 m ps){p:Pc}(hn:m.next<=m'.next)(hext:Ext m0 m')(hsame:∀b,b<m.next->m'.get b=m.get b)(hp:p.ok m0.next m')(hb:∀b,p.rC=some b->m.next<=b)(hng:∀b,¬p.Ba b:=by exact fun _ h=>h):Hp m0 m' (p::ps) :=
 h.J7 hn hext hsame hp fun b hb'=>hb'.elim (hb b) fun h=>MX h (hng b)
def ae(ps:PM Pc):PM Nat->PE (PM Pc)
 | []=>some []
 | k::ks=>match pk ps k with
  | some p=>match ae ps ks with
   | some qs=>some (p::qs)
   | none=>none
  | none=>none
def nQ:PM Nat->Bool
 | []=>true
 | k::ks=>!(ks.any (Nat.beq k))&&nQ ks
def sU:∀{ks:PM Nat} {qs:PM Pc},ae ps ks=some qs->∀q∈qs,∃k∈ks,pk ps k=some q:=by
 intro ks
 induction ks with
 | nil=>intro qs h q hq; simp only[ae,Option.some.injEq] at h; subst h; cases hq
 | cons k ks ih =>
  intro qs h q hq;simp only[ae] at h
  split at h
  rename_i p hp
  split at h
  rename_i qs' hqs;simp only[Option.some.injEq] at h;subst h;rcases M0.1 hq with rfl|hq
  exact⟨k,by simp,hp⟩
  obtain⟨k',h1,h2⟩:=ih hqs q hq;exact⟨k',by simp[h1],h2⟩
  cases h
  cases h
def gS:∀{ps:PM Pc} {i j:Nat} {p q:Pc},ps.Pairwise Pc.apart->pk ps i=some p->pk ps j=some q->i≠j->Pc.apart p q:=by
 intro ps
 induction ps with
 | nil=>intro i j p q _ h; simp[pk] at h
 | cons r l ih =>
  intro i j p q h hi hj hne;rw[Ny] at h;cases i with
  | zero =>
   cases j with
   | zero=>exact MX rfl hne
   | succ j =>
    rw[jS] at hi;rw[fF] at hj;rw[<-MH hi];exact h.1 q (kl hj)
  | succ i =>
   cases j with
   | zero =>
    rw[jS] at hj;rw[fF] at hi;rw[<-MH hj];exact Pc.jy (h.1 p (kl hi))
   | succ j=>rw[fF] at hi hj; exact ih h.2 hi hj (fun e=>hne (by rw[e]))
def j6:∀{ps:PM Pc} {r:Pc},r∈ps->∃k,pk ps k=some r:=by
 intro ps
 induction ps with
 | nil=>intro r h; cases h
 | cons p l ih =>
  intro r h;rcases M0.1 h with rfl|h
  exact⟨0,rfl⟩
  obtain⟨k,hk⟩:=ih h; exact⟨k+1,hk⟩
def Hp.HG(h:Hp m0 m ps){k:Nat}{p q:Pc}(hp:pk ps k=some p)(hpo:∀b,¬p.ow b)(hq:q.ok m0.next m)(hqo:∀b,¬q.ow b)(hb:∀b,q.any b->p.any b):Hp m0 m (q::ps) where
 ext:=h.ext
 ok:=fun r hr=>by
  rcases M0.1 hr with rfl|hr
  exact hq
  exact h.ok r hr
 apart:=Ny.2 ⟨fun r hr=>⟨fun b h1 _=>hqo b h1,fun b h1 h2=>by
  obtain⟨k',hk'⟩:=j6 hr;have hne:k≠k':=fun e=>by
   rw[<-e,hp] at hk';exact hpo b (by rw[MH hk']; exact h1)
  exact(gS h.apart hp hk' hne).2 b h1 (hb b h2)⟩,h.apart⟩
def Hp.more(h:Hp m0 m ps){k:Nat}{p q:Pc}(hp:pk ps k=some p)(hpo:p.own=false)(hq:q.ok m0.next m)(hqo:q.own=false)(hb:∀b,q.rC=some b->p.rC=some b)(hpg:∀b,¬p.Mh b:=by exact fun _ h=>h)(hqg:∀b,¬q.Ba b:=by exact fun _ h=>h):Hp m0 m (q::ps) :=
 h.HG hp (fun b h=>h.elim (fun h=>by rw[hpo] at h; cases h.1) (hpg b)) hq (fun b h=>h.elim (fun h=>by rw[hqo] at h; cases h.1) fun h=>hqg b (by cases q with|gen g=>exact .inl h|_=>exact h)) fun b h=>h.elim (fun h=>.inl (hb b h)) fun h=>MX h (hqg b)
def wG(h:ps.Pairwise Pc.apart):∀{ks:PM Nat} {qs:PM Pc},nQ ks=true->ae ps ks=some qs->qs.Pairwise Pc.apart:=by
 intro ks
 induction ks with
 | nil=>intro qs _ e; simp only[ae,Option.some.injEq] at e; subst e; exact .nil
 | cons k ks ih =>
  intro qs hnd e;simp only[nQ,My,Ng,List.any_eq_false] at hnd;simp only[ae] at e
  split at e
  rename_i p hp
  split at e
  rename_i qs' hqs;simp only[Option.some.injEq] at e;subst e;refine Ny.2 ⟨fun q hq=>?_,ih hnd.2 hqs⟩;obtain⟨k',h1,h2⟩:=sU hqs q hq;exact gS h hp h2 fun e=>hnd.1 k' h1 (by rw[e]; exact Nat.beq_refl _)
  cases e
  cases e
def Hp.ae(h:Hp m0 m ps)(ks:PM Nat){qs:PM Pc}(hnd:nQ ks=true)(e:W.ae ps ks=some qs):Hp m0 m qs where
 ext:=h.ext
 ok:=fun q hq=>by
  obtain⟨k,_,hk⟩:=sU e q hq;exact h.ok q (kl hk)
 apart:=wG h.apart hnd e
def Pc.HX{lo lo':Nat}{m:PJ}{p:Pc}(h:p.ok lo m)(hle:lo'<=lo):p.ok lo' m:=by
 have up:∀{b w n es tg},yj lo m b w n es tg->yj lo' m b w n es tg:=fun ho=>⟨MU hle ho.1,ho.2⟩;cases p with
 | obj b o=>exact⟨MU hle h.1,h.2⟩
 | arr b w n es tg=>exact up h
 | sl a w n es =>
  rcases h with h1|⟨b,tg,e,h1⟩
  exact .inl h1
  exact .inr ⟨b,tg,e,up h1⟩
 | rd a cap w n es=>exact h
 | ro b o w n es=>exact h
 | gen g=>exact⟨h.1,fun hf b hb=>MU hle (h.2 hf b hb)⟩
def Hp.Jp(h:Hp m0 m ps){new:PM Pc}(h':Hp m m' new)(hbd:∀p∈new,p.bound=true)(hro:∀p∈new,∀b,p.any b->m.next<=b\/(¬p.ow b/\∃q∈ps,(∀b,¬q.ow b)/\q.any b)):Hp m0 m' (new++ps) where
 ext:=h.ext.trans h'.ext
 ok:=fun q hq=>by
  rcases NW.1 hq with hq|hq
  exact Pc.HX (h'.ok q hq) h.ext.next
  exact Pc.iX (h.ok q hq) h'.ext.next fun b _ hlt=>h'.ext.same b hlt
 apart:=List.pairwise_append.2 ⟨h'.apart,h.apart,fun p hp q hq=>⟨fun b h1 h2=>by
  have:=Pc.Co (h'.ok p hp) (hbd p hp) h1;have:=Pc.gT (h.ok q hq) h2;omega,fun b h1 h2=>by
  rcases hro p hp b h2 with h3|⟨_,r,hr,hr1,hr2⟩
  have:=Pc.gT (h.ok q hq) (Pc.mB h1);omega
  obtain⟨i,hi⟩:=j6 hq;obtain⟨j,hj⟩:=j6 hr;have hne:i≠j:=fun e=>by
   rw[e,hj] at hi;exact hr1 b (by rw[MH hi]; exact h1)
  exact(gS h.apart hi hj hne).1 b h1 hr2⟩⟩
def Hp.after(h:Hp m0 m ps){new:PM Pc}(h':Hp m m' new)(hro:∀p∈new,p.own=true):Hp m0 m' (new++ps) :=
 h.Jp h' (fun p hp=>by have:=hro p hp; cases p<;>first|rfl|cases this) fun p hp b hb=>.inl (Pc.DG (h'.ok p hp) (hro p hp) (Pc.zn (hro p hp) hb))
def CU(ps:PM Pc)(b:Nat):Prop:=∃p∈ps,p.ow b
def Hp.ar(h:Hp m0 m ps):∀b,CU ps b->b<m.next:=fun _ ⟨p,hp,hb⟩=>Pc.gT (h.ok p hp) (Pc.mB hb)
def aJ(H:OM):GPc:={ ow:=H,rd:=fun _=>False,P:=fun m=>∀b,H b->b<m.next,fr:=true,st:=fun _ _ h hn _ b hb=>MC (h b hb) hn,lt:=fun _ b h hb=>hb.elim (h b) fun h=>h.elim}
def Hp.bY(m:PJ){H:OM}(hH:∀b,H b->b<m.next):Hp m m [.gen (aJ H)]:=⟨.refl m,fun p h=>by rw[NH.1 h]; exact⟨hH,fun h=>by cases h⟩,List.pairwise_singleton ..⟩
def Hp.DD(h:Hp m0 m ps){new:PM Pc}(h':Hp m m' (new++[.gen (aJ (CU ps))]))(hbd:∀p∈new,p.bound=true):Hp m0 m' (new++ps) where
 ext:=h.ext.trans h'.ext
 ok:=fun q hq=>by
  rcases NW.1 hq with hq|hq
  exact Pc.HX (h'.ok q (List.mem_append_left _ hq)) h.ext.next
  exact Pc.iX (h.ok q hq) h'.ext.next fun b _ hlt=>h'.ext.same b hlt
 apart:=List.pairwise_append.2 ⟨(List.pairwise_append.1 h'.apart).1,h.apart,fun p hp q hq=>⟨fun b h1 h2=>by
  have:=Pc.Co (h'.ok p (List.mem_append_left _ hp)) (hbd p hp) h1;have:=Pc.gT (h.ok q hq) h2;omega,fun b h1 h2=>((List.pairwise_append.1 h'.apart).2.2 p hp _ (NH.2 rfl)).2 b (.inr ⟨q,hq,h1⟩) h2⟩⟩
def Hp.az(h:Hp m0 m ps){k cap w n:Nat}{a:OL}{es:OK}(hp:pk ps k=some (.rd a cap w n es)):∀b,eY a=some b->¬CU ps b:=fun b hb ⟨q,hq,h1⟩=>by
 obtain⟨i,hi⟩:=j6 hq;have hne:i≠k:=fun e=>by
  rw[e,hp] at hi;cases hi;exact h1.elim (fun h=>by cases h.1) fun h=>h.elim
 exact(gS h.apart hi hp hne).1 b h1 (.inl hb)
end
structure TyI(P:OQ)(ty:OO)(ag:Bool)(sz:Nat):Prop where
 known:known P ty=true
 agg:dK P ty=ag
 size:ax P ty=sz
structure SlT(P:OQ)(ty elem:OO)(w:Nat):Prop where
 und:P.underlying ty=some (.slice elem)
 known:known P elem=true
 size:ax P elem=w
 pos:0<w
 zero:(bU P elem).any (fun z=>z.cells.size==w&&z.cells.toList.all aM)=true
 bytes:∃i,P.info? elem=some i/\i.bytes≠0/\i.bytes<=1024
structure ArT(P:OQ)(ty elem:OO)(len w:Nat):Prop where
 und:P.underlying ty=some (.array len elem)
 known:known P elem=true
 size:ax P elem=w
def K9(P:OQ)(ty elem:OO)(w:Nat):Bool :=
 (match P.underlying ty with|some (.slice e)=>Nat.beq e elem|_=>false)&&known P elem&&Nat.beq (ax P elem) w&&Nat.blt 0 w &&(bU P elem).any (fun z=>z.cells.size==w&&z.cells.toList.all aM) &&(match P.info? elem with|some i=>!(Nat.beq i.bytes 0)&&Nat.ble i.bytes 1024|none=>false)
def SlT.of{P:OQ}{ty elem:OO}{w:Nat}(h:K9 P ty elem w=true):SlT P ty elem w:=by
 simp only[K9,My] at h;obtain⟨⟨⟨⟨⟨h1,h2⟩,h3⟩,h4⟩,h5⟩,h6⟩:=h;refine⟨?_,h2,Mz h3,by rwa[N1] at h4,h5,?_⟩
 split at h1
 rename_i e he; rw[he,Mz h1]
 cases h1
 split at h6
 rename_i i hi;simp only[My,Ng] at h6;exact⟨i,hi,NZ h6.1,MD h6.2⟩
 cases h6
section
variable{E:Env}{n:Nat}{m0:PJ}{fs:Fs}{ps:PM Pc}
def Od(E:Env)(m0:PJ)(fs:Fs)(ps:PM Pc)(o:Op)(v:ON)(ps':PM Pc):Prop :=
 ∀t m,Fr t fs->Hp m0 m ps->(∀b,aQ E t o=some b->b<m.next)/\∀K:ON->PJ->Prop,(∀m',Hp m0 m' ps'->K v m')->bw E t m o K
def Ox(E:Env)(m0:PJ)(fs:Fs)(ps:PM Pc)(o:Op){α:Type}(V:α->ON)(N:α->PM Pc):Prop :=
 ∀t m,Fr t fs->Hp m0 m ps->(∀b,aQ E t o=some b->b<m.next)/\∀K:ON->PJ->Prop,(∀x m',Hp m0 m' (N x)->K (V x) m')->bw E t m o K
def Od.pure{o:Op}{v:ON}(hr:∀t,aQ E t o=none)(h:∀t m,Fr t fs->∀K,bw E t m o K=K v m):Od E m0 fs ps o v ps :=
 fun t m hf hp=>⟨fun b hb=>(by rw[hr] at hb; cases hb),fun K hK=>by rw[h t m hf]; exact hK m hp⟩
variable{x y z:OP}{a b r v:ON}{ty ty':OO}
def ab(h:ev E fs x=some v):Od E m0 fs ps (.move x) v ps:=.pure (fun _=>rfl) fun _ _ hf=>Go.Ab.JC (hf.ev h)
def ai(h:ev E fs x=some v):Od E m0 fs ps (.assign x) v ps:=.pure (fun _=>rfl) fun _ _ hf=>Go.Ab.Dg (hf.ev h)
def qW{c:OP}(hc:ev E fs c=some (.bool true))(h:ev E fs x=some v):Od E m0 fs ps (.pick c x y) v ps:=.pure (fun _=>rfl) fun _ _ hf=>Go.Ab.G0 (hf.ev hc) (hf.ev h)
def L5{c:OP}(hc:ev E fs c=some (.bool false))(h:ev E fs y=some v):Od E m0 fs ps (.pick c x y) v ps:=.pure (fun _=>rfl) fun _ _ hf=>Go.Ab.Gg (hf.ev hc) (hf.ev h)
def al{op:BinOp}(h:ev E fs x=some a)(h':ev E fs y=some b)(hr:bz op ty E.P a b=some r):Od E m0 fs ps (.binOp op ty x y ty') r ps:=.pure (fun _=>rfl) fun _ _ hf=>Go.Ab.K4 (hf.ev h) (hf.ev h') hr
def ly{op:UnOp}(h:ev E fs x=some a)(hr:yr op a=some r):Od E m0 fs ps (.unOp op ty x) r ps:=.pure (fun _=>rfl) fun _ _ hf=>Go.Ab.ly (hf.ev h) hr
def oG(h:ev E fs x=some a)(hr:fw E.P ty ty' a=some r):Od E m0 fs ps (.convert ty ty' x) r ps:=.pure (fun _=>rfl) fun _ _ hf=>Go.Ab.Jl (hf.ev h) hr
def aY{f:Nat}(h:ev E fs x=some a)(hr:aR E.P ty a f=some r):Od E m0 fs ps (.fieldAddr ty x f) r ps:=.pure (fun _=>rfl) fun _ _ hf=>Go.Ab.wS (hf.ev h) hr
def Fu{f:Nat}(h:ev E fs x=some a)(hr:eH E.P ty a f=some r):Od E m0 fs ps (.field ty x f) r ps:=.pure (fun _=>rfl) fun _ _ hf=>Go.Ab.G6 (hf.ev h) hr
def II(h:ev E fs x=some a)(h':ev E fs y=some b)(hr:bM E.P ty a b=some r):Od E m0 fs ps (.indexAddr ty x y) r ps:=.pure (fun _=>rfl) fun _ _ hf=>Go.Ab.xm (hf.ev h) (hf.ev h') hr
def LV(h:ev E fs x=some a)(h':ev E fs y=some b)(hr:gh E.P ty a b=some r):Od E m0 fs ps (.index ty x y) r ps:=.pure (fun _=>rfl) fun _ _ hf=>Go.Ab.Gh (hf.ev h) (hf.ev h') hr
def bA{i:Nat}{vs:PO ON}(h:ev E fs x=some (.tuple vs))(hr:vs[i]? = some r):Od E m0 fs ps (.extract x i) r ps:=.pure (fun _=>rfl) fun _ _ hf=>Go.Ab.B4 (hf.ev h) hr
def eR{parts:PO (Nat×OP)}{vs:PM (Nat×ON)}{z:ON}(h:E9 E fs parts.toList=some vs)(hz:bU E.P ty=some z)(hpz:bu z=true)(hr:jB E.P ty vs=some r):Od E m0 fs ps (.build ty parts) r ps :=
 .pure (fun _=>rfl) fun t m hf K=>by
  have:cD E t m (.build ty parts)=some (r,m):=by simp only[cD,hf.E9 h,hz,hpz,if_true,hr,MB]
  exact Go.Ab.Du rfl this K
def B8(ag:Bool)(sz:Nat)(cs:PM ON)(o:Nat):PE ON :=
 match ag with
 | true=>match Nat.beq ((cs.drop o).take sz).length sz with
  | true=>some (.agg ((cs.drop o).take sz).toArray)
  | false=>none
 | false=>cs[o]?
def uo{P:OQ}{m:PJ}{ag:Bool}{sz b o:Nat}{cs:PM ON}{tg:Tag}(ht:TyI P ty ag sz)(hg:m.get b=some (.cells cs tg))(h:B8 ag sz cs o=some v):dz P ty (ptr b o) m=some v:=by
 cases ag with
 | false=>exact GO ht.known ht.agg hg h
 | true =>
  simp only[B8] at h
  split at h
  rename_i e;cases h;exact Hw ht.known ht.agg ht.size hg rfl (Mz e)
  cases h
def ED(ag:Bool)(sz c w:Nat):Bool:=(match ag with|true=>true|false=>Nat.beq sz 1)&&Nat.ble (c+sz) w
def vD{ag:Bool}{sz c w:Nat}(h:ED ag sz c w=true):(ag=false->sz=1)/\c+sz<=w:=by
 simp only[ED,My] at h;exact⟨fun e=>by subst e; exact Mz h.1,MD h.2⟩
def Od.load{b o:Nat}(hx:ev E fs x=some (ptr b o))(h:∀m,Hp m0 m ps->b<m.next/\dz E.P ty (ptr b o) m=some v):Od E m0 fs ps (.load ty x) v ps :=
 fun t m hf hp=>⟨fun b' hb=>by
  simp only[aQ,hf.ev hx] at hb;cases hb; exact(h m hp).1,fun K hK=>by
  rw[Go.Ab.CY (hf.ev hx) (h m hp).2]; exact hK m hp⟩
def ay{ag:Bool}{sz b o k:Nat}{cs:PM ON}{tg:Tag}(ht:TyI E.P ty ag sz)(hx:ev E fs x=some (ptr b o))(hp:pk ps k=some (.obj b (.cells cs tg)))(hv:B8 ag sz cs o=some v):Od E m0 fs ps (.load ty x) v ps :=
 .load hx fun m h=>⟨(h.get hp).2.1,uo ht (h.get hp).2.2 hv⟩
def FX{ag:Bool}{sz o w c:Nat}{all e:PM ON}(he:(all.drop o).take w=e)(hsz:ag=false->sz=1)(hc:c+sz<=w)(h:B8 ag sz e c=some v):B8 ag sz all (o+c)=some v:=by
 subst he;have key:((List.take w (List.drop o all)).drop c).take sz=(all.drop (o+c)).take sz:=by
  rw[List.drop_take,List.take_take,On,Nw (by omega)]
 cases ag with
 | true=>simp only[B8,key] at h ⊢; exact h
 | false =>
  simp only[B8,Oj,NO] at h ⊢
  split at h
  exact h
  cases h
def oh{P:OQ}{m:PJ}{ag:Bool}{sz b o w j c:Nat}{es:OK}{e:PM ON}(ht:TyI P ty ag sz)(hl:oi m b o w es)(he:es[j]? = some e)(hv:B8 ag sz e c=some v)(hsz:ag=false->sz=1)(hc:c+sz<=w):dz P ty (ptr b (o+j*w+c)) m=some v:=by
 obtain⟨_,all,tg,hg,_,h⟩:=hl;exact uo ht hg (FX (h j e he).1 hsz hc hv)
def zP{w:Nat}:∀{es:OK} {j:Nat} {e:PM ON},(∀e∈es,e.length=w)->es[j]? = some e->(es.flatten.drop (j*w)).take w=e:=by
 intro es
 induction es with
 | nil=>intro j e _ h; simp at h
 | cons x es ih =>
  intro j e hw h;have hx:=hw x (by simp)
  cases j with
  | zero =>
   simp only[MM,Option.some.injEq] at h;subst h;rw[No,Om,List.drop_zero,List.take_left' hx]
  | succ j =>
   rw[Nl] at h;rw[No,N9,Nat.add_comm,<-On,List.drop_left' hx];exact ih (fun e he=>hw e (by simp[he])) h
def yj.JQ{lo:Nat}{m:PJ}{b w n:Nat}{es:OK}{tg:Tag}(h:yj lo m b w n es tg):oi m b 0 w es :=
 ⟨h.2.1,_,tg,h.2.2.1,fun sz e=>(by rcases h.2.2.2.2.2.1 with h1|h1<;>rw[h1] at e<;>cases e; rfl),fun i e he=>⟨by rw[Nu]; exact zP h.2.2.2.2.1 he,h.2.2.2.2.1 e (M5 he)⟩⟩
def iB{ag:Bool}{sz b w n j c k:Nat}{es:OK}{tg:Tag}{e:PM ON}(ht:TyI E.P ty ag sz)(hx:ev E fs x=some (ptr b (j*w+c)))(hp:pk ps k=some (.arr b w n es tg))(he:es[j]? = some e)(hv:B8 ag sz e c=some v)(hs:ED ag sz c w=true):Od E m0 fs ps (.load ty x) v ps:=by
 have hs:=vD hs;refine .load hx fun m h=>⟨(h.get hp).2.1,?_⟩;have:=oh (P:=E.P) ht (yj.JQ (h.get hp)) he hv hs.1 hs.2;rwa[Nu] at this
def cg{ag:Bool}{sz b o w n j c k:Nat}{es:OK}{e:PM ON}(ht:TyI E.P ty ag sz)(hx:ev E fs x=some (ptr b (o+j*w+c)))(hp:pk ps k=some (.ro b o w n es))(he:es[j]? = some e)(hv:B8 ag sz e c=some v)(hs:ED ag sz c w=true):Od E m0 fs ps (.load ty x) v ps:=by
 have hs:=vD hs;exact .load hx fun m h=>⟨(h.get hp).2.1,oh (P:=E.P) ht (h.get hp).2 he hv hs.1 hs.2⟩
def bV{elem:OO}{b o w n cap:Nat}{i:Int}{kd:IntKind}(ht:SlT E.P ty elem w)(hx:ev E fs x=some (.slice (some ⟨b,o,none⟩) n cap))(hy:ev E fs y=some (.int kd i))(hi:0<=i/\i.toNat<n):Od E m0 fs ps (.indexAddr ty x y) (ptr b (o+i.toNat*w+0)) ps:=by
 refine II hx hy ?_;have hd:decide ((0:Int)<=i/\i<(n:Nat))=true:=by simp; omega
 simp only[bM,ht.und,ht.known,hd,Ns,if_true,ht.size,NA]
def cZ{elem:OO}{b w n cap:Nat}{i:Int}{kd:IntKind}(ht:SlT E.P ty elem w)(hx:ev E fs x=some (.slice (some ⟨b,0,none⟩) n cap))(hy:ev E fs y=some (.int kd i))(hi:0<=i/\i.toNat<n):Od E m0 fs ps (.indexAddr ty x y) (ptr b (i.toNat*w+0)) ps:=by
 have:=bV (m0:=m0) (ps:=ps) ht hx hy hi;rwa[Nu] at this
def Hp.write{m:PJ}(h:Hp m0 m ps){k b:Nat}{p p':Pc}{o':PL}(hp:pk ps k=some p)(ho:p.own=true)(hb:p.rC=some b)(hb':p'.rC=some b)(ho':p'.own=true)(hok:p'.ok m0.next (m.set b o')):Hp m0 (m.set b o') (du ps k p') :=
 h.put hp ho (hb'.trans hb.symm) ho' (MA _) (h.ext.set (Pc.DG (h.get hp) ho hb) _) hok fun x hx _=>by
  rw[PJ.cb,ME (fun e=>hx (by rw[e]; exact hb))]
def HM(cs:PM ON)(o:Nat)(v:ON)(sz:Nat):PE (PM ON) :=
 match Nat.beq v.cells.toList.length sz&&Nat.blt 0 sz&&bh v.cells.toList&&Nat.ble (o+sz) cs.length with
 | true=>some (aH cs o v.cells.toList)
 | false=>none
def gV:∀(cs:PM ON) (o:Nat) (vs:PM ON),o+vs.length<=cs.length->(aH cs o vs).length=cs.length
 | cs,0,[],_=>by cases cs<;>rfl
 | [],0,v::vs,h=>by simp at h
 | c::cs,0,v::vs,h=>by simp only[aH,Ni]; rw[gV cs 0 vs (by simpa using h)]
 | [],o+1,vs,h=>by simp at h
 | c::cs,o+1,vs,h=>by simp only[aH,Ni]; rw[gV cs o vs (by simp at h; omega)]
def xl{P:OQ}{m:PJ}{ag:Bool}{sz b o:Nat}{cs cs':PM ON}{tg:Tag}(ht:TyI P ty ag sz)(hg:m.get b=some (.cells cs tg))(htg:tg≠.ro)(h:HM cs o v sz=some cs'):fa P ty (ptr b o) v m=some (m.set b (.cells cs' tg)):=by
 simp only[HM] at h
 split at h
 ·rename_i e;cases h;simp only[My] at e;obtain⟨⟨⟨h1,h2⟩,h3⟩,h4⟩:=e;have h1:=Mz h1;have h2:0<sz:=by rwa[N1] at h2
  have h4:=MD h4;have hs:(v.cells.size==ax P ty)=true:=by rw[ht.size,<-h1]; simp
  simp only[fa,ptr,ht.known,hs,h3,Ns,if_true,PJ.dn];cases hc:v.cells.toList with
  | nil=>rw[hc] at h1; simp at h1; omega
  | cons x xs =>
   rw[hc] at h1;simp only[hg];cases tg with
   | ro=>exact MX rfl htg
   | own=>rw[MG (by rw[h1]; exact h4)]
   | more s=>rw[MG (by rw[h1]; exact h4)]
 cases h
def Od.store{bk o:Nat}{p':PM Pc}(hx:ev E fs x=some (ptr bk o))(hy:ev E fs y=some v)(h:∀m,Hp m0 m ps->∃m',fa E.P ty (ptr bk o) v m=some m'/\Hp m0 m' p'):Od E m0 fs ps (.store ty x y) undef p' :=
 fun t m hf hp=>⟨fun b hb=>by simp[aQ] at hb,fun K hK=>by
  obtain⟨m',h1,h2⟩:=h m hp;rw[Go.Ab.Gn (hf.ev hx) (hf.ev hy) h1]; exact hK m' h2⟩
def DB:Tag->Bool
 | .ro=>false
 | _=>true
def aP{ag:Bool}{sz b o k:Nat}{cs cs':PM ON}{tg:Tag}(ht:TyI E.P ty ag sz)(hx:ev E fs x=some (ptr b o))(hy:ev E fs y=some v)(hp:pk ps k=some (.obj b (.cells cs tg)))(htg:DB tg=true)(hv:HM cs o v sz=some cs'):Od E m0 fs ps (.store ty x y) undef (du ps k (.obj b (.cells cs' tg))) :=
 .store hx hy fun m h=>⟨_,xl ht (h.get hp).2.2 (fun e=>by rw[e] at htg; cases htg) hv,h.write hp rfl rfl rfl rfl ⟨(h.get hp).1,(h.get hp).2.1,by rw[PJ.cb,MG rfl]⟩⟩
def yy:∀(l r vs:PM ON) (c:Nat),c+vs.length<=l.length->aH (l++r) c vs=aH l c vs++r:=by
 intro l r
 induction l with
 | nil =>
  intro vs c h;have h0:c+vs.length<=0:=h;have h1:c=0:=by omega
  have h2:vs=[]:=NL.1 (by omega)
  subst h1 h2;cases r<;>rfl
 | cons a l ihl =>
  intro vs c h;cases c with
  | zero=>cases vs with
   | nil=>rfl
   | cons v vs=>simp only[List.cons_append,aH]; rw[ihl vs 0 (by simpa using h)]
  | succ c=>simp only[List.cons_append,aH]; rw[ihl vs c (by simp at h; omega)]
def xJ:∀(l r vs:PM ON) (o:Nat),aH (l++r) (l.length+o) vs=l++aH r o vs:=by
 intro l r vs
 induction l with
 | nil=>intro o; simp
 | cons a l ihl=>intro o; rw[List.cons_append,Ni,show l.length+1+o=(l.length+o)+1 by omega,aH,ihl o]; rfl
def we{w c:Nat}{vs:PM ON}:∀{es:OK} {j:Nat} {e:PM ON},(∀e∈es,e.length=w)->es[j]? = some e->c+vs.length<=w->aH es.flatten (j*w+c) vs=(es.set j (aH e c vs)).flatten:=by
 intro es
 induction es with
 | nil=>intro j e _ h; simp at h
 | cons x es ih =>
  intro j e hw h hc;have hx:=hw x (by simp)
  cases j with
  | zero =>
   simp only[MM,Option.some.injEq] at h;subst h;rw[No,Om,Nu,yy _ _ _ _ (by omega)]
   simp[No]
  | succ j =>
   rw[Nl] at h;rw[No,N9,show j*w+w+c=x.length+(j*w+c) by omega,xJ,ih (fun e he=>hw e (by simp[he])) h hc]
   simp[No]
def Dk{ag:Bool}{sz b w n j c k:Nat}{es:OK}{e e':PM ON}{tg:Tag}(ht:TyI E.P ty ag sz)(hx:ev E fs x=some (ptr b (j*w+c)))(hy:ev E fs y=some v)(hp:pk ps k=some (.arr b w n es tg))(he:es[j]? = some e)(hv:HM e c v sz=some e'):Od E m0 fs ps (.store ty x y) undef (du ps k (.arr b w n (es.set j e') tg)):=by
 refine .store hx hy fun m h=>?_;obtain⟨g1,g2,g3,g4,g5,g6,g7⟩:=h.get hp;have hew:=g5 e (M5 he);simp only[HM] at hv
 split at hv
 ·rename_i e1;cases hv;simp only[My] at e1;obtain⟨⟨⟨h1,h2⟩,h3⟩,h4⟩:=e1;have h1:=Mz h1;have h2':0<sz:=by rwa[N1] at h2
  have h4:=MD h4;have hj:j<es.length:=(ML.1 he).1;have hfl:∀(l:OK),(∀e∈l,e.length=w)->l.flatten.length=l.length*w:=by
   intro l
   induction l with
   | nil=>intro _; simp
   | cons x l ih=>intro hl; rw[No,MV,ih (fun e he=>hl e (by simp[he])),hl x (by simp),Ni,N9]; omega
  have hmul:(j+1)*w<=es.length*w:=Nj w hj;rw[N9] at hmul;have hst:HM es.flatten (j*w+c) v sz=some (aH es.flatten (j*w+c) v.cells.toList):=by
   have:(Nat.beq v.cells.toList.length sz&&Nat.blt 0 sz&&bh v.cells.toList&&Nat.ble (j*w+c+sz) es.flatten.length)=true:=by
    simp only[My];exact⟨⟨⟨by rw[h1]; exact Nat.beq_refl _,h2⟩,h3⟩,M6 (by rw[hfl es g5]; omega)⟩
   simp only[HM,this]
  refine⟨_,xl ht g3 (by rcases g6 with rfl|rfl<;>simp) hst,h.write hp rfl rfl rfl rfl ?_⟩
  refine⟨g1,g2,?_,by simpa using g4,fun e'' he''=>?_,g6,g7⟩
  rw[PJ.cb,MG rfl,we g5 he (by omega)]
  rcases List.mem_or_eq_of_mem_set he'' with h5|h5
  exact g5 _ h5
  rw[h5,gV _ _ _ (by omega)]; exact hew
 cases hv
def Ox.made{o:Op}{ob:Nat->PL}{p:Nat->Pc}{V:Nat->ON}(hr:∀t,aQ E t o=none)(h:∀t m,Fr t fs->∀K,bw E t m o K=K (V m.next) (m.alloc (ob m.next)))
  (hb:∀b,(p b).rC=some b) (hp:∀lo m b,lo<=b->b<m.next->m.get b=some (ob b)->(p b).ok lo m) (hpg:∀b x,¬(p b).Ba x:=by exact fun _ _ h=>h):Ox E m0 fs ps o V (fun b=>p b::ps) :=
 fun t m hf hm=>⟨fun b hb=>(by rw[hr] at hb; cases hb),fun K hK=>by
  rw[h t m hf];refine hK m.next _ (hm.cons (Nat.le_succ _) (hm.ext.alloc _) (fun b hlt=>by rw[PJ.bg,OV]) (hp _ _ _ hm.ext.next (Nq _) (by rw[PJ.bg,MG rfl])) (fun b' h'=>?_) (hpg _))
  rw[hb] at h'; cases h'; exact MA _⟩
def bo{z:ON}(hz:bU E.P ty=some z)(hp:bu z=true):Ox E m0 fs ps (.alloc ty) (fun b=>ptr b 0) (fun b=>.obj b (.cells z.cells.toList .own)::ps) :=
 .made (ob:=fun _=>.cells z.cells.toList .own) (p:=fun b=>.obj b (.cells z.cells.toList .own)) (fun _=>rfl) (fun _ _ _ K=>Go.Ab.Fx hz hp K) (fun _=>rfl) fun _ _ _ h1 h2 h3=>⟨h1,h2,h3⟩
def bZ(h:ev E fs x=some v):Ox E m0 fs ps (.box ty x) (fun b=>ptr b 0) (fun b=>.obj b (.cells v.cells.toList .own)::ps) :=
 .made (ob:=fun _=>.cells v.cells.toList .own) (p:=fun b=>.obj b (.cells v.cells.toList .own)) (fun _=>rfl) (fun _ _ hf K=>Go.Ab.KZ (hf.ev h) K) (fun _=>rfl) fun _ _ _ h1 h2 h3=>⟨h1,h2,h3⟩
def Lx(P:OQ)(elem:OO)(w len:Nat)(vs:PM (Nat×ON)):PE (PM ON) :=
 match fD P elem len with
 | some zs=>match zs.all aM&&Nat.ble (len*w) 16777216 with
  | true=>gH (fun i=>some (i*w,w)) zs vs
  | false=>none
 | none=>none
def KM(w:Nat)(es:OK):Bool:=es.all fun e=>Nat.beq e.length w
def Fm{w:Nat}{es:OK}(h:KM w es=true):∀e∈es,e.length=w:=fun e he=>Mz (MK.1 h e he)
def jZ{elem:OO}{w len:Nat}{parts:PO (Nat×OP)}{vs:PM (Nat×ON)}{es:OK}(ht:SlT E.P ty elem w)(h:E9 E fs parts.toList=some vs)(hf:Lx E.P elem w len vs=some es.flatten)(hl:Nat.beq es.length len=true)(hw:KM w es=true) :
  Ox E m0 fs ps (.buildSlice ty len parts) (fun b=>.slice (some ⟨b,0,none⟩) len len) (fun b=>.arr b w len es .own::ps):=by
 refine .made (ob:=fun _=>.cells es.flatten .own) (p:=fun b=>.arr b w len es .own) (fun _=>rfl) (fun t m hfr K=>?_) (fun _=>rfl) fun _ _ _ h1 h2 h3=>⟨h1,h2,h3,Mz hl,Fm hw,.inl rfl,ht.pos⟩;simp only[Lx] at hf
 split at hf
 rename_i zs hz
 split at hf
 rename_i hc;simp only[My] at hc;have:cD E t m (.buildSlice ty len parts)=some (.slice (some ⟨m.next,0,none⟩) len len,m.alloc (.cells es.flatten .own)):=by
  have h2:¬(len*w>2 ^ 24):=by have:=MD hc.2; omega
  simp only[cD,ht.und,hfr.E9 h,ht.known,ht.size,hz,hc.1,hf,MO,Bool.false_or,Nv h2,if_true,MB]
  rfl
 exact Go.Ab.Du rfl this K
 cases hf
 cases hf
def lim(n:Nat):Bool:=Nat.ble n 1073741824
def oH{z:PM ON}:∀n,cm z n=(List.replicate n z).flatten
 | 0=>rfl
 | n+1=>by rw[cm,oH n,NQ,No]
def KG{elem:OO}{w n:Nat}{i:Int}{z:ON}(ht:SlT E.P ty elem w)(hx:ev E fs x=some (.int .i64 i))(hi:i=(n:Int))(hl:lim n=true)(hz:bU E.P elem=some z)(hp:z.cells.toList.all aM=true) :
  Ox E m0 fs ps (.makeSlice ty x x) (fun b=>.slice (some ⟨b,0,none⟩) n n) (fun b=>.arr b w n (List.replicate n z.cells.toList) .own::ps):=by
 subst hi;have hzs:z.cells.size=w:=by have:=ht.zero; rw[hz] at this; simp only[Option.any_some,My,beq_iff_eq] at this; exact this.1
 refine .made (ob:=fun _=>.cells (List.replicate n z.cells.toList).flatten .own) (p:=fun b=>.arr b w n (List.replicate n z.cells.toList) .own) (fun _=>rfl) (fun t m hfr K=>?_) (fun _=>rfl) fun _ _ _ h1 h2 h3=>⟨h1,h2,h3,by simp,fun e he=>by rw[List.eq_of_mem_replicate he]; simpa using hzs,.inl rfl,ht.pos⟩
 have hln:n<=1073741824:=MD hl;obtain⟨inf,hi1,hi2,hi3⟩:=ht.bytes;have hzz:fD E.P elem n=some (List.replicate n z.cells.toList).flatten:=by
  simp only[fD,hz,ht.size];rw[MG hzs,oH]
 have ha:(List.replicate n z.cells.toList).flatten.all aM=true:=by
  rw[MK];intro v hv;obtain⟨l,h1,h2⟩:=List.mem_flatten.1 hv;rw[List.eq_of_mem_replicate h1] at h2;exact MK.1 hp v h2
 have hmul:inf.bytes*n<=1024*1073741824:=Nb hi3 hln;have:cD E t m (.makeSlice ty x x)=some (.slice (some ⟨m.next,0,none⟩) n n,m.alloc (.cells (List.replicate n z.cells.toList).flatten .own)):=by
  have hc:(0:Int)<=(n:Int)/\(n:Int)<=(n:Int)/\(E.P.info? elem).any (fun i=>i.bytes*(n:Int)<=2 ^ 40&&i.bytes != 0)=true/\known E.P elem=true:=by
   refine⟨by omega,by omega,?_,ht.known⟩
   rw[hi1];have h5:((inf.bytes*n:Nat):Int)<=(1024*1073741824:Nat):=Int.ofNat_le.2 hmul;have h6:((inf.bytes*n:Nat):Int)=(inf.bytes:Int)*(n:Int):=N6 _ _;simp only[Option.any_some,My,MW,bne_iff_ne,ne_eq];exact⟨by rw[<-h6]; omega,hi2⟩
  simp only[cD,ht.und,hfr.ev hx,Mx,hzz];rw[MG hc,MG ha]
 exact Go.Ab.Du rfl this K
end
end Go.Ab.W
section
open Go Go.Ab Go.Ab.W
abbrev Px:=@Hp.bY
end
end
section
namespace Go.Ab.W
open Go Go.Ab
attribute [local irreducible] Tm.at Trie.set Trie.get PJ.get PJ.set PJ.alloc PJ.ww PJ.kill
section
variable{E:Env}{n:Nat}{m0 m m':PJ}{fs:Fs}{ps:PM Pc}{x y:OP}{v:ON}{ty:OO}
def yj.rd{lo b w n:Nat}{es:OK}{tg:Tag}(h:yj lo m b w n es tg):Rd m (some ⟨b,0,none⟩) n w n es :=
 ⟨h.2.2.2.1,MA _,.inr (.inr ⟨b,0,rfl,h.JQ⟩)⟩
inductive IsRd:Pc->OL->Nat->Nat->Nat->OK->Prop
 | arr (b w n:Nat) (es:OK) (tg:Tag):IsRd (.arr b w n es tg) (some ⟨b,0,none⟩) n w n es
 | sl (a:OL) (w n:Nat) (es:OK):IsRd (.sl a w n es) a n w n es
 | rd (a:OL) (cap w n:Nat) (es:OK):IsRd (.rd a cap w n es) a cap w n es
 | nil {p:Pc} (w:Nat):IsRd p none 0 w 0 []
def Pc.Kh{p:Pc}{a:OL}{lo cap w n:Nat}{es:OK}(h:p.ok lo m)(hi:IsRd p a cap w n es):Rd m a cap w n es:=by
 cases hi with
 | arr b w n es tg=>exact yj.rd h
 | sl a w n es =>
  rcases h with⟨rfl,rfl,rfl,_⟩|⟨b,tg,rfl,h⟩
  exact⟨rfl,MA _,.inl ⟨rfl,rfl⟩⟩
  exact h.rd
 | rd a cap w n es=>exact h
 | nil w=>exact⟨rfl,MA _,.inl ⟨rfl,rfl⟩⟩
def Hp.rd(h:Hp m0 m ps){k:Nat}{p:Pc}{a:OL}{cap w n:Nat}{es:OK}(hp:pk ps k=some p)(hi:IsRd p a cap w n es):Rd m a cap w n es:=Pc.Kh (h.get hp) hi
def Rd.nil(m:PJ)(w:Nat):Rd m none 0 w 0 []:=⟨rfl,MA _,.inl ⟨rfl,rfl⟩⟩
def Rd.cells{a:OL}{cap w n:Nat}{es:OK}(h:Rd m a cap w n es):cd w (.slice a n cap) n m=some es.flatten:=by
 obtain⟨h1,h2,h4⟩:=h
 by_cases hn:n=0
 ·subst hn;have:es=[]:=NL.1 h1;subst this;cases a with
  | none=>rfl
  | some a=>obtain⟨b,o,sp⟩:=a; cases sp<;>rfl
 ·rcases h4 with h4|⟨b,sp,rfl,h4,_⟩|⟨b,o,rfl,_,all,tg,hg,_,hl⟩
  exact MX h4.2 hn
  exact MX h4 hn
  ·simp only[cd,ME hn,PJ.dB,hg];have key:∀(es:OK) (k:Nat),(∀i e,es[i]? = some e->(all.drop (o+(k+i)*w)).take w=e/\e.length=w)->(all.drop (o+k*w)).take (es.length*w)=es.flatten/\es.flatten.length=es.length*w:=by
    intro es
    induction es with
    | nil=>intro k _; simp
    | cons e es ih =>
     intro k hk;obtain⟨a1,a2⟩:=hk 0 e rfl;obtain⟨b1,b2⟩:=ih (k+1) fun i e' he'=>by
      have:=hk (i+1) e' (by simpa using he')
      rwa[show k+(i+1)=k+1+i by omega] at this
     rw[NA] at a1;refine⟨?_,by rw[No,MV,a2,b2,Ni,N9]; omega⟩
     rw[Ni,N9,Nat.add_comm,List.take_add,a1,On,No,<-b1,N9,OB]
   have:=key es 0 (fun i e he=>by rw[Nu]; exact hl i e he)
   rw[Om,NA,h1] at this;rw[this.1,MG this.2]
def Hp.renew(h:Hp m0 m ps){k:Nat}{p p':Pc}(hp:pk ps k=some p)(hn:m.next<=m'.next)(hext:Ext m0 m')(hok:p'.ok m0.next m')(hb:∀b,p'.rC=some b->m.next<=b)(hpo:p.own=true)(hg:∀b,p.rC≠some b->b<m.next->m'.get b=m.get b)(hng:∀b,¬p'.Ba b:=by exact fun _ h=>h):Hp m0 m' (du ps k p') :=
 h.Mk hp (fun b a=>.inr ((Pc.mB a).elim (hb b) fun h=>MX h (hng b))) (fun b a=>.inr (a.elim (hb b) fun h=>MX h (hng b))) hn hext hok fun b hb' hlt=>hg b (fun e=>hb' (.inl ⟨hpo,e⟩)) hlt
def fE(es:OK):Prop:=∀e∈es,e.all lD=true
def yf{α:Type}{f:α->PM ON}(h:∀x,(f x).all lD=true)(xs:PM α):fE (xs.map f):=fun e he=>by
 obtain⟨x,_,rfl⟩:=Ov.1 he; exact h x
def wD{es:OK}(h:fE es):bh es.flatten=true:=by
 unfold bh;rw[MK];intro v hv;obtain⟨l,h1,h2⟩:=List.mem_flatten.1 hv;exact MK.1 (h l h1) v h2
def xS{w:Nat}:∀{l:OK},(∀e∈l,e.length=w)->l.flatten.length=l.length*w:=by
 intro l
 induction l with
 | nil=>intro _; simp
 | cons x l ih=>intro hl; rw[No,MV,ih (fun e he=>hl e (by simp[he])),hl x (by simp),Ni,N9]; omega
def nB {P:OQ} {elem ty2:OO} {w k n2 c0:Nat} {a a0:OL} {es es2:OK} (ht:SlT P ty elem w) (h5:∃e2,P.underlying ty2=some (.slice e2)) (h:Hp m0 m ps) (hp:pk ps k=some (.sl a w n es)) (hr:Rd m a0 c0 w n2 es2) (h4:∀e ∈ es2,e.length=w) (ho:fE es2) (hl:lim (n+n2)=true) :
  ∃a' m',dy P ty (some ty2) (.slice a n n) (.slice a0 n2 c0) m=some (.slice a' (n+n2) (n+n2),m')/\Hp m0 m' (du ps k (.sl a' w (n+n2) (es++es2))):=by
 obtain⟨e2,h6⟩:=h5;obtain⟨inf,h7,h8,h9⟩:=ht.bytes;have hln:n+n2<=1073741824:=MD hl;have hc:=hr.cells;have hlen2:es2.flatten.length=n2*w:=by rw[xS h4,hr.1]
 have hnew:hJ P elem (some ty2) (.slice a0 n2 c0) m=some (n2,es2.flatten):=by
  simp only[hJ,M3,h6,ht.size];have:cd w (.slice a0 n2 c0) n2 m=some es2.flatten:=hc;rw[this]; rfl
 have hfit:(P.info? elem).any (fun i=>gp i.bytes (n+n2)&&i.bytes != 0)=true:=by
  rw[h7];have hmul:(2*(n+n2)+2000)*inf.bytes<=(2*1073741824+2000)*1024:=Nb (by omega) h9
  simp only[Option.any_some,gp,My,MW,bne_iff_ne,ne_eq];exact⟨by omega,h8⟩
 have hzero:(bU P elem).any (fun z=>z.cells.size==w&&z.cells.toList.all aM)=true:=ht.zero;have hpos:=ht.pos;have h10:(w==0)=false:=by simp; omega
 have hguard:(!(known P elem)||ax P elem==0 || !bh es2.flatten || !(P.info? elem).any (fun i=>gp i.bytes (n+n2)&&i.bytes != 0)||es2.flatten.length != n2*ax P elem || !(bU P elem).any (fun z=>z.cells.size==ax P elem&&z.cells.toList.all aM))=false:=by
  rw[ht.size,ht.known,hfit,hzero,wD ho,h10,hlen2]; simp
 have hres:∀a',(∃m',(.slice a' (n+n2) (n+n2),m')=((.slice a' (n+n2) (n+n2),m'):ON×PJ)):=fun a'=>⟨m,rfl⟩;have hpc:=h.get hp;have hext:=h.ext;rcases hpc with⟨rfl,rfl,rfl,_⟩|⟨b,tg,rfl,hb⟩
 ·
  by_cases h0:n2=0
  ·subst h0;have hes:es2=[]:=NL.1 hr.1;subst hes;refine⟨none,m,?_,?_⟩
   unfold dy;simp only[ht.und,hnew];rw[ME (by rw[hguard]; exact NI)]
   rfl
   ·have:du ps k (.sl none w (0+0) ([]++[]))=ps:=by
     have:∀(l:PM Pc) (k:Nat) (p:Pc),pk l k=some p->du l k p=l:=by
      intro l
      induction l with
      | nil=>intro k p h; simp[pk] at h
      | cons q l ih =>
       intro k p h;cases k with
       | zero=>rw[jS] at h; rw[jl,MH h]
       | succ k=>rw[fF] at h; rw[gR,ih k p h]
     exact this ps k _ hp
    rw[this]; exact h
  refine⟨some ⟨m.next,0,none⟩,m.alloc (.cells es2.flatten (.more w)),?_,?_⟩
  unfold dy;simp only[ht.und,hnew];rw[ME (by rw[hguard]; exact NI)]
  simp only[ht.size];rw[ME (by simp),ME h0,Nu]
  refine h.renew hp (by simp only[PJ.next_alloc]; omega) (hext.alloc _) (.inr ⟨m.next,.more w,rfl,hext.next,(by rw[PJ.next_alloc]; omega),?_,?_,?_,.inr rfl,hpos⟩) (fun b' hb'=>?_) rfl fun b' _ hlt=>?_
  rw[PJ.bg,MG rfl,N5]
  rw[N5,hr.1,Nu]
  rw[N5]; exact h4
  cases hb'; exact MA _
  rw[PJ.bg,OV]
 ·obtain⟨g4,g5,g0,g1,g2,g3,g6⟩:=hb;have hlen:es.flatten.length=n*w:=by rw[xS g2,g1]
  by_cases h0:n2=0
  ·subst h0;have hes:es2=[]:=NL.1 hr.1;subst hes;refine⟨some ⟨b,0,none⟩,m,?_,?_⟩
   unfold dy;simp only[ht.und,hnew];rw[ME (by rw[hguard]; exact NI)]
   simp only[g0];rw[MG (Nat.le_of_eq (NA n))];simp[PJ.dn]
   ·rw[NX,NA];have:du ps k (.sl (some ⟨b,0,none⟩) w n es)=ps:=by
     have:∀(l:PM Pc) (k:Nat) (p:Pc),pk l k=some p->du l k p=l:=by
      intro l
      induction l with
      | nil=>intro k p h; simp[pk] at h
      | cons q l ih =>
       intro k p h;cases k with
       | zero=>rw[jS] at h; rw[jl,MH h]
       | succ k=>rw[fF] at h; rw[gR,ih k p h]
     exact this ps k _ hp
    rw[this]; exact h
  have hcap:¬(n+n2<=n):=by omega
  have htake:es.flatten.take (n*w)=es.flatten:=List.take_of_length_le (by omega)
  have hok:∀(mm:PJ),m.next<=mm.next->Pc.ok m0.next (mm.alloc (.cells (es.flatten++es2.flatten) (.more w))) (.sl (some ⟨mm.next,0,none⟩) w (n+n2) (es++es2)):=fun mm hmm =>
   .inr ⟨mm.next,.more w,rfl,MU hext.next hmm,(by rw[PJ.next_alloc]; omega),by rw[PJ.bg,MG rfl,List.flatten_append],by rw[MV,g1,hr.1],fun e he=>by
    rcases NW.1 he with he|he
    exact g2 e he
    exact h4 e he,.inr rfl,hpos⟩
  rcases g3 with rfl|rfl
  refine⟨some ⟨m.next,0,none⟩,m.alloc (.cells (es.flatten++es2.flatten) (.more w)),?_,?_⟩
  unfold dy;simp only[ht.und,hnew];rw[ME (by rw[hguard]; exact NI)]
  simp only[ht.size,g0];rw[ME hcap];have hld:m.dB b 0 (n*w)=some es.flatten:=by
   simp only[PJ.dB,g0,List.drop_zero,htake];rw[MG hlen]
  simp only[hld]
  refine h.renew hp (by simp only[PJ.next_alloc]; omega) (hext.alloc _) (hok m (MA _)) (fun b' hb'=>?_) rfl fun b' _ hlt=>?_
  cases hb'; exact MA _
  rw[PJ.bg,OV]
  refine⟨some ⟨(m.kill b).next,0,none⟩,(m.kill b).alloc (.cells (es.flatten++es2.flatten) (.more w)),?_,?_⟩
  unfold dy;simp only[ht.und,hnew];rw[ME (by rw[hguard]; exact NI)]
  simp only[ht.size,g0];rw[ME hcap];simp only[and_self,if_true,htake,hlen,PJ.next_kill]
  have hk:Ext m0 (m.kill b):=⟨by rw[PJ.next_kill]; exact hext.next,fun x hx=>by rw[PJ.fC,OV]; exact hext.same x hx,by
   rw[PJ.wl_kill];have:=hext.wl; omega⟩
  refine h.renew hp (by simp only[PJ.next_alloc,PJ.next_kill]; omega) (hk.alloc _) (hok (m.kill b) (by rw[PJ.next_kill]; exact MA _)) (fun b' hb'=>?_) rfl fun b' hb' hlt=>?_
  cases hb'; rw[PJ.next_kill]; exact MA _
  rw[PJ.bg,ME (by simp; omega),PJ.fC,ME (fun e=>hb' (by rw[e]; rfl))]
def Lj{elem ty2:OO}{w k k2 n2 c0:Nat}{a a0:OL}{es es2:OK}{ars:PO OP}{p0:Pc}(ht:SlT E.P ty elem w)(h0:∃e2,E.P.underlying ty2=some (.slice e2))(ha:nv E fs ars.toList=some [.slice a n n,.slice a0 n2 c0])(hp:pk ps k=some (.sl a w n es))(h4:pk ps k2=some p0)(hr:IsRd p0 a0 c0 w n2 es2)(h5:∀e∈es2,e.length=w)(ho:fE es2)(hl:lim (n+n2)=true) :
  Ox E m0 fs ps (.call ⟨.builtin .append,ars,#[ty,ty2]⟩) (fun a':OL=>.slice a' (n+n2) (n+n2)) (fun a'=>du ps k (.sl a' w (n+n2) (es++es2))) :=
 fun t m hf h=>⟨fun b hb=>(by simp[aQ] at hb),fun K hK=>by
  obtain⟨a',m',h1,h2⟩:=nB (n:=n) ht h0 h hp (h.rd h4 hr) h5 ho hl;have:bD E.P .append #[ty,ty2] [.slice a n n,.slice a0 n2 c0] m=some (.slice a' (n+n2) (n+n2),m'):=h1;rw[Go.Ab.gO (hf.nv ha) this];exact hK a' m' h2⟩
def bB{k cap:Nat}{a:OL}{ars:PO OP}{p:Pc}{elem:OO}(hu:E.P.underlying ty=some (.slice elem))(ha:nv E fs ars.toList=some [.slice a n cap])(hp:pk ps k=some p)(hb:eY a=p.rC\/a=none) :
  Od E m0 fs ps (.call ⟨.builtin .len,ars,#[ty]⟩) (.int .i64 (n:Int)) ps :=
 fun t m hf h=>⟨fun b hb'=>by
  simp only[aQ,hf.nv ha] at hb';have hab:fO (.slice a n cap)=eY a:=by cases a<;>rfl
  rw[hab] at hb';exact hb.elim (fun hb=>Pc.IK (h.get hp) (hb▸hb')) (fun hb=>by rw[hb] at hb'; exact nomatch hb'),fun K hK=>by
  have:bD E.P .len #[ty] [.slice a n cap] m=some (.int .i64 (n:Int),m):=by
   have ht:(#[ty]:PO OO)[0]? = some ty:=rfl;simp only[bD,ht,M3,hu]
  rw[Go.Ab.gO (hf.nv ha) this]; exact hK m h⟩
def nZ{n cap lo hi:Nat}(h1:lo<=hi)(h2:hi<=cap){l h:PE ON}(hl:l=none/\lo=0\/∃k,l=some (.int k (lo:Int)))(hh:h=none/\hi=n\/∃k,h=some (.int k (hi:Int))):ew n cap l h none=some (lo,hi,cap):=by
 have hb:∀(k:IntKind) (x y:Nat),x<=y->jq (.int k (x:Int)) y=some x:=fun k x y hxy=>by
  simp only[jq]; rw[MG ⟨by omega,by omega⟩,Mx]
 rcases hl with⟨rfl,rfl⟩|⟨k1,rfl⟩<;>rcases hh with⟨rfl,rfl⟩|⟨k2,rfl⟩<;>(unfold ew; simp only[hb _ _ _ h1,hb _ _ _ h2])
def oi.drop{b o w:Nat}{es:OK}(h:oi m b o w es)(lo k:Nat):oi m b (o+lo*w) w ((es.drop lo).take k):=by
 obtain⟨h1,all,tg,h2,hs,h3⟩:=h;refine⟨h1,all,tg,h2,hs,fun i e he=>?_⟩;rw[Oj] at he
 split at he
 rw[NO] at he;have:=h3 (lo+i) e he;rwa[Nc,<-OB] at this
 cases he
def D6{P:OQ}{elem:OO}{cap w lo hi:Nat}{a:OL}{es:OK}{l h:PE ON}(ht:SlT P ty elem w)(hr:Rd m a cap w n es)(h1:lo<=hi)(h2:hi<=n)(hl:l=none/\lo=0\/∃k,l=some (.int k (lo:Int)))(hh:h=none/\hi=n\/∃k,h=some (.int k (hi:Int))) :
  ∃a' cap',cB P ty (.slice a n cap) l h none m=some (.slice a' (hi-lo) cap')/\Rd m a' cap' w (hi-lo) ((es.drop lo).take (hi-lo))/\(eY a'=eY a):=by
 obtain⟨r1,r2,r4⟩:=hr;have hlen:((es.drop lo).take (hi-lo)).length=hi-lo:=by rw[NK,List.length_drop,r1]; omega
 have hb:=nZ (n:=n) (cap:=cap) h1 (MU h2 r2) hl hh;rcases r4 with⟨rfl,rfl⟩|⟨b,sp,rfl,rfl,rfl,hlt⟩|⟨b,o,rfl,hli⟩
 refine⟨none,cap-lo,?_,⟨hlen,by omega,.inl ⟨rfl,by omega⟩⟩,rfl⟩
 simp only[cB,ht.und,ht.known,if_true,hb]
 have e1:lo=0:=by omega
 have e2:hi=0:=by omega
 subst e1 e2;refine⟨some ⟨b,0,some sp⟩,0,?_,⟨hlen,MA _,.inr (.inl ⟨b,sp,rfl,rfl,rfl,hlt⟩)⟩,rfl⟩;simp only[cB,ht.und,ht.known,if_true,hb,Nat.sub_zero]
 ·have hli':=hli.drop lo (hi-lo);obtain⟨hlt,all,tg,hg,hs,hall⟩:=hli;have plain:(∀sz,tg≠.more sz)->∃a' cap',cB P ty (.slice (some ⟨b,o,none⟩) n cap) l h none m=some (.slice a' (hi-lo) cap')/\Rd m a' cap' w (hi-lo) ((es.drop lo).take (hi-lo))/\(eY a'=eY (some ⟨b,o,none⟩)):=by
   intro hne;have:cB P ty (.slice (some ⟨b,o,none⟩) n cap) l h none m=some (.slice (some (if cap=lo then⟨b,o,none⟩ else⟨b,o+lo*w,none⟩)) (hi-lo) (cap-lo)):=by
    cases tg with
    | more sz=>exact MX rfl (hne sz)
    | ro=>simp only[cB,ht.und,ht.known,if_true,hg,hb,ht.size]
    | own=>simp only[cB,ht.und,ht.known,if_true,hg,hb,ht.size]
   by_cases hc:cap=lo
   rw[MG hc] at this;have e0:hi-lo=0:=by omega
   refine⟨_,_,this,⟨hlen,by omega,.inr (.inr ⟨b,o,rfl,hlt,all,tg,hg,hs,fun i e he=>?_⟩)⟩,rfl⟩
   rw[e0,List.take_zero] at he; simp at he
   rw[ME hc] at this;exact⟨_,_,this,⟨hlen,by omega,.inr (.inr ⟨b,_,rfl,hli'⟩)⟩,rfl⟩
  cases tg with
  | ro=>exact plain fun sz e=>(by cases e)
  | own=>exact plain fun sz e=>(by cases e)
  | more sz =>
   have hsz:=hs sz rfl;subst hsz;have hb':=nZ (n:=n) (cap:=cap) h1 (MU h2 r2) hl hh
   by_cases hc:cap=lo
   have e0:hi-lo=0:=by omega
   have e1:((es.drop lo).take (hi-lo))=[]:=by rw[e0]; rfl
   refine⟨some ⟨b,0,some 0⟩,0,?_,⟨hlen,by omega,.inr (.inl ⟨b,0,rfl,e0,rfl,hlt⟩)⟩,rfl⟩
   simp only[cB,ht.und,ht.known,if_true,hg,hb',ht.size,ne_eq,not_true_eq_false,if_false,e0,gA];rw[MG hc]
   refine⟨some ⟨b,o+lo*sz,none⟩,cap-lo,?_,⟨hlen,by omega,.inr (.inr ⟨b,_,rfl,hli'⟩)⟩,rfl⟩
   simp only[cB,ht.und,ht.known,if_true,hg,hb',ht.size,hc,ne_eq,not_true_eq_false,if_false]
def LQ{elem:OO}{k cap w lo hi:Nat}{a:OL}{es:OK}{x:OP}{lx hx:PE OP}{l h:PE ON}(ht:SlT E.P ty elem w)(hv:ev E fs x=some (.slice a n cap))(e1:E8 E fs lx=some l)(e2:E8 E fs hx=some h)(hp:pk ps k=some (.rd a cap w n es))(h1:lo<=hi)(h2:hi<=n)(hl:l=none/\lo=0\/∃k,l=some (.int k (lo:Int)))(hh:h=none/\hi=n\/∃k,h=some (.int k (hi:Int))) :
  Ox E m0 fs ps (.slice ty x lx hx none) (fun r:OL×Nat=>.slice r.1 (hi-lo) r.2) (fun r=>.rd r.1 r.2 w (hi-lo) ((es.drop lo).take (hi-lo))::ps) :=
 fun t m hf hm=>by
  obtain⟨a',cap',s1,s2,s3⟩:=D6 ht (hm.get hp) h1 h2 hl hh;refine⟨fun b hb=>?_,fun K hK=>?_⟩
  have hab:fO (.slice a n cap)=eY a:=by cases a<;>rfl
  simp only[aQ,hf.ev hv,M3,hab] at hb;exact Rd.lt (hm.get hp) hb
  rw[Go.Ab.AJ (hf.ev hv) (hf.E8 e1) (hf.E8 e2) rfl s1];exact hK (a',cap') m (hm.more hp rfl s2 rfl fun b hb=>by
   have:eY a'=some b:=hb;rw[s3] at this; exact this)
def vi(ps:PM Pc):Bool:=ps.all Pc.own
def rM{α:Type}{V:α->ON}{N:α->PM Pc}{f:OP}{g:PU}{first cap:PO ON}{ars:PO OP}{ts:PO OO}{args:PM ON}(hf:ev E fs f=some (.func (.func g) first cap))(ha:nv E fs ars.toList=some args)(hc:∀m,Hp m0 m ps->aD E g (first.toList++args++cap.toList) m (fun v m'=>∃x,v=V x/\Hp m0 m' (N x))):Ox E m0 fs ps (.call ⟨.value f,ars,ts⟩) V N :=
 fun t m hfr hm=>⟨fun b hb=>(by simp[aQ] at hb),fun K hK=>by
  have hev:au E t f=some (.func (.func g) first cap):=by
   cases f with
   | tmp i=>exact hfr.ev hf
   | const c=>exact hfr.ev hf
   | global g=>exact hfr.ev hf
   | func g=>exact hfr.ev hf
  show ko E (au E t f) (bI E t ars.toList) m _
  rw[hev,hfr.nv ha]
  show aD E g (first.toList++args++cap.toList) m K
  exact(hc m hm).mono fun v m' ⟨x,e,h⟩=>by rw[e]; exact hK x m' h⟩
def bO{α:Type}{V:α->ON}{N:α->PM Pc}{f:OP}{g:PU}{ars:PO OP}{ts:PO OO}{args:PM ON}(hf:ev E fs f=some (.func (.func g) #[] #[]))(ha:nv E fs ars.toList=some args)(hc:∀m,Hp m0 m ps->aD E g args m (fun v m'=>∃x,v=V x/\Hp m m' (N x)))(ho:∀x,vi (N x)=true):Ox E m0 fs ps (.call ⟨.value f,ars,ts⟩) V (fun x=>N x++ps) :=
 rM hf ha fun m hm=>by
  simp only[N5,NX];exact(hc m hm).mono fun v m' ⟨x,e,h⟩=>⟨x,e,hm.after h fun p hp=>MK.1 (ho x) p hp⟩
end
def Ext.KD{m0 m:PJ}(h:Ext m0 m){w:Nat}(hw:min m0.wl m0.next<=w):Ext m0 (m.ww w):=⟨by rw[PJ.next_ww]; exact h.next,fun b hb=>by rw[PJ.get_ww]; exact h.same b hb,by rw[PJ.wl_ww]; exact hw⟩
def Hp.ww{m0 m:PJ}{ps:PM Pc}(h:Hp m0 m ps){w:Nat}(hw:min m0.wl m0.next<=w):Hp m0 (m.ww w) ps :=
 ⟨Ext.KD h.ext hw,fun p hp=>Pc.iX (h.ok p hp) (by rw[PJ.next_ww]; exact MA _) (fun b _ _=>by rw[PJ.get_ww]),h.apart⟩
section
variable{E:Env}{n:Nat}{m0:PJ}{fs:Fs}{ps ps':PM Pc}{ops:PO Oper}{os:PM Oper}{K:Tm->PJ->Prop}{dr:Bool}
def Wo(dr:Bool)(E:Env)(n:Nat)(ops:PO Oper)(K:Tm->PJ->Prop)(os:PM Oper)(m0:PJ)(fs:Fs)(ps:PM Pc):Prop :=
 match dr with
 | false=>∀t m,Fr t fs->Hp m0 m ps->pV E n ops K os t m
 | true=>∀t m w,Fr t fs->Hp m0 m ps->min m0.wl m0.next<=w->jm E n ops K os t m w
variable{ty:OO}{p:String}{af:PO Edge}{d:Nat}{o:Op}{g:PE (Nat×Bool)}{v:ON}
def vQ(ops:PO Oper)(fs:Fs)(g:PE (Nat×Bool))(b:Bool):Prop:=∀t d o ty p af,Fr t fs->aT ops ⟨d,o,ty,p,af,g⟩ t=b
def gn:vQ ops fs none true:=fun _ _ _ _ _ _ _=>rfl
def gg{j d:Nat}{b c r:Bool}(hd:(ops[j]?).bind (·.dst)=some d)(h:lk fs d=some (.bool c))(hr:(c==b)=r):vQ ops fs (some (j,b)) r:=fun t d' o ty p af hf=>by
 rw[<-hr]; exact LO hd (hf d _ h)
def Wo.x{α:Type}{V:α->ON}{N:α->PM Pc}(h:Ox E m0 fs ps o V N)(hg:vQ ops fs g true)(hd:Nat.blt d n=true)(k:∀x,Wo dr E n ops K os m0 ((d,V x)::fs) (N x)):Wo dr E n ops K (⟨some d,o,ty,p,af,g⟩::os) m0 fs ps:=by
 have hd':d<n:=by rwa[N1] at hd
 cases dr with
 | false =>
  intro t m hf hm;simp only[pV,hg t _ _ _ _ _ hf,if_true];refine(h t m hf hm).2 _ fun x m' hm'=>?_;rw[cy,MG hd'];exact k x _ m' hf.set hm'
 | true =>
  intro t m w hf hm hw;simp only[jm,hg t _ _ _ _ _ hf,if_true];have hx:=hm.ext.next
  have hm':Hp m0 (m.ww m.next) ps:=hm.ww (by omega)
  refine⟨fun b hb=>?_,?_⟩
  have:=(h t _ hf hm').1 b hb;rwa[PJ.next_ww] at this
  refine(h t _ hf hm').2 _ fun x m' hm''=>?_;rw[cy,MG hd'];have:=hm''.ext.wl;exact k x _ m' _ hf.set hm'' (by omega)
def Wo.x0{α:Type}{V:α->ON}{N:α->PM Pc}(h:Ox E m0 fs ps o V N)(hg:vQ ops fs g true)(k:∀x,Wo dr E n ops K os m0 fs (N x)):Wo dr E n ops K (⟨none,o,ty,p,af,g⟩::os) m0 fs ps:=by
 cases dr with
 | false =>
  intro t m hf hm;simp only[pV,hg t _ _ _ _ _ hf,if_true];refine(h t m hf hm).2 _ fun x m' hm'=>?_;exact k x _ m' hf hm'
 | true =>
  intro t m w hf hm hw;simp only[jm,hg t _ _ _ _ _ hf,if_true];have hx:=hm.ext.next
  have hm':Hp m0 (m.ww m.next) ps:=hm.ww (by omega)
  refine⟨fun b hb=>?_,?_⟩
  have:=(h t _ hf hm').1 b hb;rwa[PJ.next_ww] at this
  refine(h t _ hf hm').2 _ fun x m' hm''=>?_;have:=hm''.ext.wl;exact k x _ m' _ hf hm'' (by omega)
def Od.x(h:Od E m0 fs ps o v ps'):Ox E m0 fs ps o (fun _:PN=>v) (fun _=>ps'):=fun t m hf hm=>⟨(h t m hf hm).1,fun K hK=>(h t m hf hm).2 K fun m' hm'=>hK () m' hm'⟩
def Wo.od(h:Od E m0 fs ps o v ps')(hd:Nat.blt d n=true)(k:Wo dr E n ops K os m0 ((d,v)::fs) ps'):Wo dr E n ops K (⟨some d,o,ty,p,af,none⟩::os) m0 fs ps:=Wo.x h.x gn hd fun _=>k
def Wo.o0(h:Od E m0 fs ps o v ps')(k:Wo dr E n ops K os m0 fs ps'):Wo dr E n ops K (⟨none,o,ty,p,af,none⟩::os) m0 fs ps:=Wo.x0 h.x gn fun _=>k
def Wo.og(h:Od E m0 fs ps o v ps')(hg:vQ ops fs g true)(hd:Nat.blt d n=true)(k:Wo dr E n ops K os m0 ((d,v)::fs) ps'):Wo dr E n ops K (⟨some d,o,ty,p,af,g⟩::os) m0 fs ps:=Wo.x h.x hg hd fun _=>k
def Wo.s(hg:vQ ops fs g false)(hd:Nat.blt d n=true)(k:Wo dr E n ops K os m0 ((d,undef)::fs) ps):Wo dr E n ops K (⟨some d,o,ty,p,af,g⟩::os) m0 fs ps:=by
 have hd':d<n:=by rwa[N1] at hd
 cases dr with
 | false =>
  intro t m hf hm;simp only[pV,hg t _ _ _ _ _ hf,MJ,if_false];rw[cy,MG hd'];exact k _ m hf.set hm
 | true =>
  intro t m w hf hm hw;simp only[jm,hg t _ _ _ _ _ hf,MJ,if_false];rw[cy,MG hd'];exact k _ m w hf.set hm hw
def ah(m0:PJ)(ps:PM Pc)(qs:PM Pc):Prop:=∀m,Hp m0 m ps->Hp m0 m qs
def Wo.eQ(h:ah m0 ps ps')(k:Wo dr E n ops K os m0 fs ps'):Wo dr E n ops K os m0 fs ps:=by
 cases dr with
 | false=>exact fun t m hf hm=>k t m hf (h m hm)
 | true=>exact fun t m w hf hm hw=>k t m w hf (h m hm) hw
def Wo.open{k w l:Nat}{a:OL}{es:OK}(hp:pk ps k=some (.sl a w l es))(hl:0<l)(h:∀b tg,a=some ⟨b,0,none⟩->DB tg=true->Wo dr E n ops K os m0 fs (du ps k (.arr b w l es tg))):Wo dr E n ops K os m0 fs ps:=by
 have key:∀m,Hp m0 m ps->∃b tg,a=some ⟨b,0,none⟩/\DB tg=true/\Hp m0 m (du ps k (.arr b w l es tg)):=by
  intro m hm;have h0:=hm.get hp;rcases h0 with⟨h1,_⟩|⟨b,tg,rfl,h1⟩
  omega
  refine⟨b,tg,rfl,by rcases h1.2.2.2.2.2.1 with rfl|rfl<;>rfl,hm.put hp rfl rfl rfl (MA _) hm.ext h1 fun _ _ _=>rfl⟩
 cases dr with
 | false=>intro t m hf hm; obtain⟨b,tg,h1,h2,h3⟩:=key m hm; exact h b tg h1 h2 t m hf h3
 | true=>intro t m w' hf hm hw; obtain⟨b,tg,h1,h2,h3⟩:=key m hm; exact h b tg h1 h2 t m w' hf h3 hw
def Wo.cl{k w l cap:Nat}{a:OL}{es:OK}(hp:pk ps k=some (.rd a cap w l es))(hl:0<l)(h:∀b o,a=some ⟨b,o,none⟩->Wo dr E n ops K os m0 fs (.ro b o w l es::ps)):Wo dr E n ops K os m0 fs ps:=by
 have key:∀m,Hp m0 m ps->∃b o,a=some ⟨b,o,none⟩/\Hp m0 m (.ro b o w l es::ps):=by
  intro m hm;obtain⟨h1,h2,h3⟩:=hm.get hp;rcases h3 with⟨_,h3⟩|⟨_,_,_,h3,_⟩|⟨b,o,rfl,h3⟩
  omega
  omega
  exact⟨b,o,rfl,hm.more hp rfl ⟨h1,h3⟩ rfl fun b' hb=>hb⟩
 cases dr with
 | false=>intro t m hf hm; obtain⟨b,o,h1,h3⟩:=key m hm; exact h b o h1 t m hf h3
 | true=>intro t m w' hf hm hw; obtain⟨b,o,h1,h3⟩:=key m hm; exact h b o h1 t m w' hf h3 hw
def ah.trans{ps'':PM Pc}(h:ah m0 ps ps')(h':ah m0 ps' ps''):ah m0 ps ps'':=fun m hm=>h' m (h m hm)
def ah.ae(ks:PM Nat)(hnd:nQ ks=true)(e:W.ae ps ks=some ps'):ah m0 ps ps':=fun _ h=>h.ae ks hnd e
def ah.close{k b w l:Nat}{es:OK}{tg:Tag}(hp:pk ps k=some (.arr b w l es tg)):ah m0 ps (du ps k (.sl (some ⟨b,0,none⟩) w l es)):=fun _ h =>
 h.put hp rfl rfl rfl (MA _) h.ext (.inr ⟨b,tg,rfl,h.get hp⟩) fun _ _ _=>rfl
def ah.nil(w:Nat)(hw:Nat.blt 0 w=true):ah m0 ps (.sl none w 0 []::ps):=fun m h =>
 h.cons (MA _) h.ext (fun _ _=>rfl) (.inl ⟨rfl,rfl,rfl,by rwa[N1] at hw⟩) fun b hb=>(by cases hb)
def rN{ps:PM Pc}{k:Nat}{p p':Pc}(hk:pk ps k=some p)(ho:p'.own=false)(hb:∀b,p'.rC=some b->p.rC=some b/\p.own=true)(h:ps.Pairwise Pc.apart)(hng:∀b,¬p'.Ba b:=by exact fun _ h=>h):(du ps k p').Pairwise Pc.apart :=
 ij hk (fun r _ ha=>⟨fun b a c=>a.elim (fun a=>by rw[ho] at a; cases a.1) fun a=>hng b (by cases p' with|gen g=>exact .inl a|_=>exact a),fun b a c=>ha.2 b a (c.elim (fun c=>.inl (hb b c).1) fun c=>MX c (hng b))⟩) h
def ah.freeze{k w l:Nat}{a:OL}{es:OK}(hp:pk ps k=some (.sl a w l es)):ah m0 ps (du ps k (.rd a l w l es)):=fun m h =>
 ⟨h.ext,fun q hq=>by
  rcases xh hp h.apart hq with rfl|⟨h1,_⟩
  exact Pc.Kh (h.get hp) (.sl a w l es)
  exact h.ok q h1,rN hp rfl (fun b hb=>⟨hb,rfl⟩) h.apart⟩
variable{fn:PU}{ro:PE Nat}{Q:PK->Tm->PJ->Prop}
def Wk(E:Env)(n:Nat)(fn:PU)(ro:PE Nat)(c:Code)(Q:PK->Tm->PJ->Prop)(m0:PJ)(fs:Fs)(ps:PM Pc):Prop:=∀t m,Fr t fs->Hp m0 m ps->bp E n fn ro c Q t m
def At(Q:PK->Tm->PJ->Prop)(e:PK)(m0:PJ)(fs:Fs)(ps:PM Pc):Prop:=∀t m,Fr t fs->Hp m0 m ps->Q e t m
variable{a b c:Code}{id id':Nat}
def Wk.seq(h:Wk E n fn ro a (j9 (bp E n fn ro b Q) Q) m0 fs ps):Wk E n fn ro (.seq a b) Q m0 fs ps:=fun t m hf hm=>.seq (h t m hf hm)
def Wk.skip(h:At Q .normal m0 fs ps):Wk E n fn ro .skip Q m0 fs ps:=fun t m hf hm=>.skip (h t m hf hm)
def Wk.exit(h:At Q (.exit id) m0 fs ps):Wk E n fn ro (.exit id) Q m0 fs ps:=fun t m hf hm=>.exit (h t m hf hm)
def Wk.ret(h:At Q .ret m0 fs ps):Wk E n fn ro .ret Q m0 fs ps:=fun t m hf hm=>.ret (h t m hf hm)
def Wk.cond{x:OP}{r:Bool}(hx:ev E fs x=some (.bool r))(ht:r=true->Wk E n fn ro a Q m0 fs ps)(hf:r=false->Wk E n fn ro b Q m0 fs ps):Wk E n fn ro (.cond x a b) Q m0 fs ps:=fun t m hfr hm=>.cond (hfr.ev hx) (fun h=>ht h t m hfr hm) (fun h=>hf h t m hfr hm)
def Wk.aC{x:OP}{r:Bool}(hx:ev E fs x=some (.bool r))(hr:r=true)(ht:Wk E n fn ro a Q m0 fs ps):Wk E n fn ro (.cond x a b) Q m0 fs ps:=.cond hx (fun _=>ht) (fun h=>by rw[hr] at h; cases h)
def Wk.aB{x:OP}{r:Bool}(hx:ev E fs x=some (.bool r))(hr:r=false)(ht:Wk E n fn ro b Q m0 fs ps):Wk E n fn ro (.cond x a b) Q m0 fs ps:=.cond hx (fun h=>by rw[hr] at h; cases h) (fun _=>ht)
def Wk.block(h:Wk E n fn ro a (dR id Q) m0 fs ps):Wk E n fn ro (.block id a) Q m0 fs ps:=fun t m hf hm=>.block (h t m hf hm)
def Wk.region(h:Wo false E n ops (Q .normal) ops.toList m0 fs ps):Wk E n fn ro (.region id ops false) Q m0 fs ps:=fun t m hf hm=>.FQ (h t m hf hm)
def yH{t:Tm}{m:PJ}{o:Op}{K K':ON->PJ->Prop}(h:bw E t m o K)(hk:∀v m',K v m'->K' v m'):bw E t m o K':=by
 unfold bw at h ⊢;cases hc:vC o with
 | some p =>
  obtain⟨f,ars⟩:=p;rw[hc] at h;simp only at h ⊢;cases hf:au E t f with
  | none=>rw[hf] at h; exact h.elim
  | some v =>
   cases ha:bI E t ars with
   | none=>rw[hf,ha] at h; unfold ko at h; split at h<;>first |(rename_i h1 h2; cases h2)|exact h.elim
   | some vs =>
    rw[hf,ha] at h;unfold ko at h ⊢
    split at h
    rename_i h1 h2;cases h1; cases h2;exact h.mono hk
    rename_i h1 h2;cases h1; cases h2;obtain⟨v,m',h5,hv⟩:=h;exact⟨v,m',h5,hk v m' hv⟩
    exact h.elim
 | none =>
  rw[hc] at h;simp only at h ⊢;cases he:cD E t m o with
  | none=>rw[he] at h; exact h.elim
  | some r=>rw[he] at h; exact hk r.1 r.2 h
def zd{K K':Tm->PJ->Prop}(hK:∀t m,K t m->K' t m):∀(os:PM Oper) (t:Tm) (m:PJ) (w:Nat),jm E n ops K os t m w->jm E n ops K' os t m w:=by
 intro os
 induction os with
 | nil=>intro t m w hk; exact hK _ _ hk
 | cons o os ih =>
  intro t m w hk;simp only[jm] at hk ⊢
  split at hk
  rename_i hw;rw[MG hw];refine⟨hk.1,yH hk.2 fun v m' hv=>?_⟩;obtain⟨t',e,h4⟩:=hv.A
  show CV (fQ n t o.dst v) fun t'=>jm E n ops K' os t' m' (min w m'.wl)
  rw[e]; exact ih _ _ _ h4
  rename_i hw;rw[ME hw];obtain⟨t',e,h4⟩:=hk.A;rw[e]; exact ih _ _ _ h4
def Wk.draw(hp:iz ops=some [])(h:Wo true E n ops (Q .normal) ops.toList m0 fs ps):Wk E n fn ro (.region id ops true) Q m0 fs ps:=fun t m hf hm=>.Le hp fun K hK=>by
 exact zd hK _ _ _ _ (h t m m.wl hf hm hm.ext.wl)
def Wo.nil(h:At Q .normal m0 fs ps):Wo dr E n ops (Q .normal) [] m0 fs ps:=by
 cases dr with
 | false=>exact fun t m hf hm=>h t m hf hm
 | true=>exact fun t m w hf hm hw=>h t _ hf (hm.ww hw)
def At.tn(h:Wk E n fn ro b Q m0 fs ps):At (j9 (bp E n fn ro b Q) Q) .normal m0 fs ps:=h
def At.te{K:Tm->PJ->Prop}(h:At Q (.exit id) m0 fs ps):At (j9 K Q) (.exit id) m0 fs ps:=h
def At.tr{K:Tm->PJ->Prop}(h:At Q .ret m0 fs ps):At (j9 K Q) .ret m0 fs ps:=h
def At.bn(h:At Q .normal m0 fs ps):At (dR id Q) .normal m0 fs ps:=h
def At.be(h:At Q .normal m0 fs ps):At (dR id Q) (.exit id) m0 fs ps:=fun t m hf hm=>by rw[AX,MG rfl]; exact h t m hf hm
def At.bx(hne:Nat.beq id' id=false)(h:At Q (.exit id') m0 fs ps):At (dR id Q) (.exit id') m0 fs ps:=fun t m hf hm=>by rw[AX,ME (NZ hne)]; exact h t m hf hm
def At.br(h:At Q .ret m0 fs ps):At (dR id Q) .ret m0 fs ps:=h
def Wk.cG{fs':Fs}(hs:sub fs fs')(h:ah m0 ps ps')(k:Wk E n fn ro c Q m0 fs' ps'):Wk E n fn ro c Q m0 fs ps:=fun t m hf hm=>k t m (hf.sub hs) (h m hm)
structure En where
 e:PK
 fs:Fs
 ps:PM Pc
def uh(m0:PJ){γ:Type}(G:γ->En)(e:PK)(t:Tm)(m:PJ):Prop:=∃g,e=(G g).e/\Fr t (G g).fs/\Hp m0 m (G g).ps
def At.en{γ:Type}{G:γ->En}{e:PK}(g:γ)(he:e=(G g).e)(hs:sub fs (G g).fs)(ht:ah m0 ps (G g).ps):At (uh m0 G) e m0 fs ps:=fun _ m hf hm=>⟨g,he,hf.sub hs,ht m hm⟩
def Wk.cut{γ:Type}{G:γ->En}(h:Wk E n fn ro c (uh m0 G) m0 fs ps)(k:∀g,At Q (G g).e m0 (G g).fs (G g).ps):Wk E n fn ro c Q m0 fs ps:=fun t m hf hm =>
 (h t m hf hm).mono fun e t' m' ⟨g,h1,h2,h3⟩=>by rw[h1]; exact k g t' m' h2 h3
def cT{σ ρ:Type}(body:σ->PE (σ⊕ρ)):Nat->σ->PE ρ
 | 0,_=>none
 | k+1,s=>match body s with
  | some (.inl s')=>cT body k s'
  | some (.inr r)=>some r
  | none=>none
def Wk.loop{σ ρ γ:Type}{δ:ρ->Type}(body:σ->PE (σ⊕ρ))(I:σ->γ->En)(X:(r:ρ)->δ r->En)
  (hb:∀s g r,body s=some r->Wk E n fn ro c (match r with|.inl s'=>uh m0 (I s')|.inr r=>uh m0 (X r)) m0 (I s g).fs (I s g).ps)
  (hn:∀s g,(I s g).e=.normal) (hx:∀r g,(X r g).e≠.normal) :
  ∀(N:Nat) (s:σ) (r:ρ),cT body N s=some r->∀g,Wk E n fn ro (.loop c) (uh m0 (X r)) m0 (I s g).fs (I s g).ps:=by
 intro N
 induction N with
 | zero=>intro s r h; cases h
 | succ N ih =>
  intro s r h g t m hf hm;refine .loop (.round ?_);simp only[cT] at h
  split at h
  ·rename_i s' hs;refine(hb s g _ hs t m hf hm).mono fun e t' m' ⟨g',h1,h2,h3⟩=>?_;rw[h1,hn];have:=ih s' r h g' t' m' h2 h3;obtain⟨e2,t2,m2,⟨k2,hk2⟩,q2⟩:=this;cases k2 with
   | zero=>cases hk2
   | succ k2=>exact⟨e2,t2,m2,⟨k2,hk2⟩,q2⟩
  ·rename_i r' hs;simp only[Option.some.injEq] at h;subst h;refine(hb s g _ hs t m hf hm).mono fun e t' m' ⟨g',h1,h2,h3⟩=>?_;have hq:uh m0 (X r') e t' m':=⟨g',h1,h2,h3⟩;cases he:e with
   | normal=>rw[h1] at he; exact MX he (hx _ _)
   | exit id=>rw[he] at hq; exact hq
   | ret=>rw[he] at hq; exact hq
  cases h
def wT:PM ON->Nat->Fs->Fs
 | [],_,fs=>fs
 | v::vs,i,fs=>wT vs (i+1) ((i,v)::fs)
def Fr.args:∀(vs:PM ON) (i:Nat) (fs:Fs) (t:Tm),Fr t fs->Fr (Trie.ofList vs i t) (wT vs i fs)
 | [],_,_,_,h=>h
 | _::vs,i,_,_,h=>Fr.args vs (i+1) _ _ h.set
def aw{f:PU}{F:Func}{c:Code}{args:PM ON}{rs:PM ResultVar}{N:Nat}{R:ON->PJ->Prop}(hp:E.cR f=none)(hf:E.P.funcs[f]? = some F)(hb:F.body=some c)(hrs:F.results.toList=rs)(hN:max args.length F.ntmps=N)
  {m:PJ} (hm:Hp m0 m ps) (h:Wk E N f none c (mM E rs R) m0 (wT args 0 []) ps):aD E f args m R :=
 aD.Ic hp hf hb hrs hN (h _ m (Fr.args args 0 [] _ (Fr.nil _)) hm)
def Hp.start(m:PJ):Hp m m []:=⟨.refl m,fun p h=>(by cases h),.nil⟩
inductive Res1(E:Env)(fs:Fs)(ps:PM Pc):PM ResultVar->PM ON->Prop
 | nil:Res1 E fs ps [] []
 | tmp {i:Nat} {v:ON} {rs:PM ResultVar} {vs:PM ON} (h:lk fs i=some v) (k:Res1 E fs ps rs vs):Res1 E fs ps (.tmp i::rs) (v::vs)
 | cell {i k b o sz:Nat} {ty:OO} {v:ON} {rs:PM ResultVar} {vs:PM ON} {cs:PM ON} {tg:Tag} {ag:Bool} (ht:TyI E.P ty ag sz) (h:lk fs i=some (ptr b o)) (hp:pk ps k=some (.obj b (.cells cs tg))) (hv:B8 ag sz cs o=some v) (k:Res1 E fs ps rs vs):Res1 E fs ps (.cell i ty::rs) (v::vs)
def Res1.ok{fs:Fs}{ps:PM Pc}{t:Tm}{m:PJ}(hf:Fr t fs)(hm:Hp m0 m ps):∀{rs:PM ResultVar} {vs:PM ON},Res1 E fs ps rs vs->bX E t m rs=some vs:=by
 intro rs vs h
 induction h with
 | nil=>rfl
 | tmp h _ ih=>simp only[bX,ih,hf _ _ h,MB]
 | cell ht h hp hv _ ih=>simp only[bX,hf _ _ h,uo ht (hm.get hp).2.2 hv,ih]
def At.ret{rs:PM ResultVar}{vs:PM ON}{R:ON->PJ->Prop}(h:Res1 E fs ps rs vs)(k:∀m,Hp m0 m ps->R (fR vs) m):At (mM E rs R) .ret m0 fs ps:=fun t m hf hm=>by
 rw[CX,h.ok hf hm]; exact k m hm
end
end Go.Ab.W
section
open Go Go.Ab Go.Ab.W
abbrev O2:=@Wo.x
abbrev OX:=@Wo.od
abbrev Pe:=@Wo.o0
abbrev O8:=@Wo.og
abbrev Pk:=@Wo.s
abbrev PC:=@Wo.eQ
abbrev Pu:=@Wo.cl
abbrev OZ:=@Wk.seq
abbrev O4:=@Wk.skip
abbrev Pg:=@Wk.exit
abbrev O6:=@Wk.ret
abbrev Pa:=@Wk.aC
abbrev Pb:=@Wk.aB
abbrev O5:=@Wk.block
abbrev OY:=@Wk.region
abbrev Pw:=@Wk.draw
abbrev O0:=@Wo.nil
abbrev O1:=@At.tn
abbrev Pq:=@At.te
abbrev Pm:=@At.tr
abbrev Pn:=@At.bn
abbrev Pr:=@At.be
abbrev Py:=@At.br
abbrev Ps:=@Wk.cG
abbrev O3:=@At.en
abbrev Pd:=@Wk.cut
abbrev Ph:=@Wk.loop
abbrev Pf:=@Hp.start
abbrev O7:=@At.ret
end
end
section
namespace Go.Ab.W
open Go Go.Ab
def ob{α β:Type}(o:PE α)(f:α->PE β):PE β :=
 match o with
 | some x=>f x
 | none=>none
def gd{β:Type}(b:Bool)(k:PE β):PE β :=
 match b with
 | true=>k
 | false=>none
def br{β:Type}(b:Bool)(k l:PE β):PE β :=
 match b with
 | true=>k
 | false=>l
section
variable{α β:Type}
def aa{o:PE α}{f:α->PE β}{r:β}(h:ob o f=some r):∃x,o=some x/\f x=some r:=by
 cases o with
 | none=>cases h
 | some x=>exact⟨x,rfl,h⟩
def ak{b:Bool}{k:PE β}{r:β}(h:gd b k=some r):b=true/\k=some r:=by
 cases b with
 | false=>cases h
 | true=>exact⟨rfl,h⟩
def aj{b:Bool}{k l:PE β}{r:β}(h:br b k l=some r):(b=true/\k=some r)\/(b=false/\l=some r):=by
 cases b with
 | false=>exact .inr ⟨rfl,h⟩
 | true=>exact .inl ⟨rfl,h⟩
def cP(i:Int)(n:Nat):Bool:=decide (0<=i/\i.toNat<n)
def aq{i:Int}{n:Nat}(h:cP i n=true):0<=i/\i.toNat<n:=of_decide_eq_true h
def aU{f:α->β}{xs:PM α}{i:Nat}{x:α}(h:xs[i]? = some x):(xs.map f)[i]? = some (f x):=by
 rw[MP,h]; rfl
def aX{i:Int}{n:Nat}(h:0<=i/\i.toNat<n):0<n:=by omega
def okB(lo hi:Int)(n:Nat):Bool:=decide (0<=lo/\lo<=hi/\hi<=(n:Int))
def Cw{lo hi:Int}{n:Nat}(h:okB lo hi n=true):0<=lo/\lo<=hi/\hi<=(n:Int):=of_decide_eq_true h
end
def eI(k:IntKind)(x:Int):PM ON:=[.int k x]
def eN(k:IntKind)(x:Nat):PM ON:=[.int k (x:Int)]
def eB(b:Bool):PM ON:=[.bool b]
def eP{α β:Type}(f:α->PM ON)(g:β->PM ON)(p:α×β):PM ON:=f p.1++g p.2
structure Enc{α:Type}(f:α->PM ON)(w:Nat):Prop where
 len:∀x,(f x).length=w
 one:∀x,(f x).all lD=true
def IB(k:IntKind):Enc (eI k) 1:=⟨fun _=>rfl,fun _=>rfl⟩
def dZ(k:IntKind):Enc (eN k) 1:=⟨fun _=>rfl,fun _=>rfl⟩
def E6:Enc eB 1:=⟨fun _=>rfl,fun _=>rfl⟩
def fq{α β:Type}{f:α->PM ON}{g:β->PM ON}{w v:Nat}(h:Enc f w)(h':Enc g v):Enc (eP f g) (w+v) :=
 ⟨fun x=>by simp[eP,h.len,h'.len],fun x=>by simp only[eP,List.all_append,h.one,h'.one,Ns]⟩
def Enc.px{α:Type}{f:α->PM ON}{w:Nat}(h:Enc f w)(xs:PM α):∀e∈xs.map f,e.length=w:=fun e he=>by
 obtain⟨x,_,rfl⟩:=Ov.1 he; exact h.len x
def Enc.fE{α:Type}{f:α->PM ON}{w:Nat}(h:Enc f w)(xs:PM α):W.fE (xs.map f):=yf h.one xs
def FT{α:Type}{f:α->PM ON}{xs:PM α}{i:Nat}{x:α}:(xs.map f).set i (f x)=(xs.set i x).map f:=(List.map_set).symm
def Hd{α:Type}{f:α->PM ON}{xs:PM α}{i k:Nat}:((xs.map f).drop i).take k=((xs.drop i).take k).map f:=by rw[<-List.map_drop,<-List.map_take]
def GW{α:Type}{f:α->PM ON}{n:Nat}{x:α}:List.replicate n (f x)=(List.replicate n x).map f:=by simp
def uM(k:IntKind):Nat:=2 ^ k.bits
def uw(k:IntKind)(n:Nat):Nat:=n%uM k
def ui(k:IntKind)(i:Int):Nat:=(i%(uM k:Int)).toNat
def gN(k:IntKind)(a b:Nat):Nat:=uw k (a+(uM k-uw k b))
def Gb(k:IntKind)(a:Nat):Nat:=uw k (uM k-uw k a)
def eF(k:IntKind)(a b:Nat):Nat:=uw k (a*2 ^ (min b k.bits))
def di(k:IntKind)(a b:Nat):Nat:=a/2 ^ (min b k.bits)
def Fz(k:IntKind)(a:Int)(b:Nat):Int:=k.wrap (a*2 ^ (min b k.bits))
def GC(k:IntKind)(a:Int)(b:Nat):Int:=a.fdiv (2 ^ (min b k.bits))
def E4(k:IntKind):0<uM k:=Nat.two_pow_pos _
def KP(k:IntKind)(n:Nat):uw k n<uM k:=Nx _ (E4 k)
def rv{k:IntKind}(h:k.signed=false)(n:Int):k.wrap n=((ui k n:Nat):Int):=by
 have h0:(0:Int)<=n%(uM k:Int):=Int.emod_nonneg _ (by have:=E4 k; omega)
 simp only[IntKind.wrap,h,Bool.false_and,MJ,if_false,ui];rw[Of h0];simp[uM]
def D4(k:IntKind)(n:Nat):ui k (n:Int)=uw k n:=by
 unfold ui uw;rw[<-Int.natCast_emod,Mx]
def je{k:IntKind}(h:k.signed=false)(n:Nat):k.wrap (n:Int)=((uw k n:Nat):Int):=by rw[rv h,D4]
section
variable{k kd:IntKind}{ty:OO}{P:OQ}
def fJ(h:k.signed=false)(a b:Nat):bz .add ty P (.int k (a:Int)) (.int k (b:Int))=some (.int k ((uw k (a+b):Nat):Int)):=by
 rw[aG,<-Int.natCast_add,je h]
def eJ(h:k.signed=false)(a b:Nat):bz .mul ty P (.int k (a:Int)) (.int k (b:Int))=some (.int k ((uw k (a*b):Nat):Int)):=by
 rw[lu,<-N6,je h]
def kT(h:k.signed=false)(a b:Nat):bz .sub ty P (.int k (a:Int)) (.int k (b:Int))=some (.int k ((gN k a b:Nat):Int)):=by
 rw[bE,rv h];have hlt:=KP k b;have e:((a:Int)-(b:Int))%(uM k:Int)=(((a+(uM k-uw k b)):Nat):Int)%(uM k:Int):=by
  have h1:(b:Int)=(uM k:Int)*((b/uM k:Nat):Int)+((uw k b:Nat):Int):=by
   have:=N4 b (uM k);unfold uw;rw[<-N6,<-Int.natCast_add]; exact NS Int.ofNat this.symm
  have h2:(((a+(uM k-uw k b)):Nat):Int)=((a:Int)-(b:Int))+(uM k:Int)*(1+((b/uM k:Nat):Int)):=by
   rw[Int.natCast_add,Int.natCast_sub (Oa hlt),Int.mul_add]; omega
  rw[h2,Int.add_mul_emod_self_left]
 have e2:ui k ((a:Int)-(b:Int))=gN k a b:=by
  unfold ui;rw[e,<-Int.natCast_emod,Mx]; rfl
 rw[e2]
def uY(h:k.signed=false)(a b:Nat)(hb:(0<b)):bz .quo ty P (.int k (a:Int)) (.int k (b:Int))=some (.int k ((uw k (a/b):Nat):Int)):=by
 rw[zQ _ _ _ (by omega),Int.tdiv_eq_ediv_of_nonneg (Nt _),<-Int.natCast_ediv,je h]
def nD(a b:Nat)(hb:0<b):bz .rem ty P (.int k (a:Int)) (.int k (b:Int))=some (.int k ((a%b:Nat):Int)):=by
 rw[AH _ _ _ (by omega),Int.tmod_eq_emod_of_nonneg (Nt _),<-Int.natCast_emod]
def mJ(k:IntKind)(a:Nat):(BitVec.ofInt k.bits (a:Int)).toNat=uw k a:=by simp[uw,uM]
def qa(h:k.signed=false)(a b:Nat):bz .and ty P (.int k (a:Int)) (.int k (b:Int))=some (.int k ((uw k (uw k a &&& uw k b):Nat):Int)):=by
 simp only[bz,if_true]; rw[BitVec.toNat_and,mJ,mJ,je h]
def Eb(h:k.signed=false)(a b:Nat):bz .or ty P (.int k (a:Int)) (.int k (b:Int))=some (.int k ((uw k (uw k a ||| uw k b):Nat):Int)):=by
 simp only[bz,if_true]; rw[BitVec.toNat_or,mJ,mJ,je h]
def DC(a b:Nat):bz .lss ty P (.int k (a:Int)) (.int k (b:Int))=some (.bool (decide (a<b))):=by rw[aO]; congr 2; exact decide_eq_decide.2 Int.ofNat_lt
def H9(a b:Nat):bz .leq ty P (.int k (a:Int)) (.int k (b:Int))=some (.bool (decide (a<=b))):=by rw[pt]; congr 2; exact decide_eq_decide.2 Int.ofNat_le
def yR(a b:Nat):bz .gtr ty P (.int k (a:Int)) (.int k (b:Int))=some (.bool (decide (b<a))):=by rw[dw]; congr 2; exact decide_eq_decide.2 Int.ofNat_lt
def ma(a b:Nat):bz .geq ty P (.int k (a:Int)) (.int k (b:Int))=some (.bool (decide (b<=a))):=by rw[dY]; congr 2; exact decide_eq_decide.2 Int.ofNat_le
def vr(a b:Nat):bz .eql ty P (.int k (a:Int)) (.int k (b:Int))=some (.bool (decide (a=b))):=by rw[fA]; congr 2; exact decide_eq_decide.2 Int.ofNat_inj
def IX(a b:Nat):bz .neq ty P (.int k (a:Int)) (.int k (b:Int))=some (.bool (!decide (a=b))):=by
 rw[AG]; congr 2
 by_cases h:a=b
 simp[h]
 have:¬((a:Int)=(b:Int)):=by omega
 simp[h,this]
def cu(a b:Int):bz .neq ty P (.int k a) (.int k b)=some (.bool (!decide (a=b))):=by
 rw[AG]; congr 2; by_cases h:a=b<;>simp[h]
def oe(h:k.signed=false)(a:Nat)(b:Int)(hb:decide (0<=b)=true):bz .shl ty P (.int k (a:Int)) (.int kd b)=some (.int k ((eF k a b.toNat:Nat):Int)):=by
 have h0:¬(b<0):=by have:=of_decide_eq_true hb; omega
 simp only[bz,ME h0];have h2:((a:Int)*2 ^ (min b.toNat k.bits))=((a*2 ^ (min b.toNat k.bits):Nat):Int):=by simp
 rw[h2,je h]; rfl
def ft(a:Nat)(b:Int)(hb:decide (0<=b)=true):bz .shr ty P (.int k (a:Int)) (.int kd b)=some (.int k ((di k a b.toNat:Nat):Int)):=by
 have h0:¬(b<0):=by have:=of_decide_eq_true hb; omega
 simp only[bz,ME h0,di]
 congr 2
 have h2:((2:Int) ^ (min b.toNat k.bits))=((2 ^ (min b.toNat k.bits):Nat):Int):=by simp
 rw[h2,Int.fdiv_eq_ediv_of_nonneg _ (Nt _)];exact(Int.natCast_ediv a _).symm
def IZ(a:Int)(b:Int)(hb:decide (0<=b)=true):bz .shl ty P (.int k a) (.int kd b)=some (.int k (Fz k a b.toNat)):=by
 have h0:¬(b<0):=by have:=of_decide_eq_true hb; omega
 simp only[bz,ME h0,Fz]
def Is(a:Int)(b:Int)(hb:decide (0<=b)=true):bz .shr ty P (.int k a) (.int kd b)=some (.int k (GC k a b.toNat)):=by
 have h0:¬(b<0):=by have:=of_decide_eq_true hb; omega
 simp only[bz,ME h0,GC]
def kz(a b:Int)(h:decide (b≠0)=true):bz .quo ty P (.int k a) (.int k b)=some (.int k (k.wrap (a.tdiv b))):=zQ k a b (of_decide_eq_true h)
def kR(a b:Int)(h:decide (b≠0)=true):bz .rem ty P (.int k a) (.int k b)=some (.int k (a.tmod b)):=AH k a b (of_decide_eq_true h)
def JI(h:k.signed=false)(a:Nat):yr .neg (.int k (a:Int))=some (.int k ((Gb k a:Nat):Int)):=by
 have:=kT (ty:=0) (P:=default) h 0 a;rw[bE] at this;simp only[yr];have e:gN k 0 a=Gb k a:=by unfold gN Gb; rw[Nu]
 rw[e] at this; exact this
def xL{s d:OO}{x:Int}(hs:(P.underlying s).isSome=true)(hd:P.underlying d=some (.int k)):fw P s d (.int kd x)=some (.int k (k.wrap x)):=by
 cases h:P.underlying s with
 | none=>rw[h] at hs; cases hs
 | some u=>simp only[fw,h,hd]
def BI{s d:OO}{x:Int}(hs:(P.underlying s).isSome=true)(hd:P.underlying d=some (.int k))(hk:k.signed=false):fw P s d (.int kd x)=some (.int k ((ui k x:Nat):Int)):=by
 rw[xL hs hd,rv hk]
def Ky{s d:OO}{x:Nat}(hs:(P.underlying s).isSome=true)(hd:P.underlying d=some (.int k))(hk:k.signed=false):fw P s d (.int kd (x:Int))=some (.int k ((uw k x:Nat):Int)):=by
 rw[BI hs hd hk,D4]
def HQ{a b:Bool}(hu:P.underlying ty=some .bool):bz .eql ty P (.bool a) (.bool b)=some (.bool (a==b)):=by
 simp only[bz,Op.maxDepth,jn,hu,MB]
def D1{a b:Bool}(hu:P.underlying ty=some .bool):bz .neq ty P (.bool a) (.bool b)=some (.bool (!(a==b))):=by
 simp only[bz,Op.maxDepth,jn,hu,MB]
end
def nF{c:Bool}(h:c=true):(c==true)=true:=by rw[h]; rfl
def dG{c:Bool}(h:c=false):(c==false)=true:=by rw[h]; rfl
def dQ{c:Bool}(h:c=true):(c==false)=false:=by rw[h]; rfl
def nO{c:Bool}(h:c=false):(c==true)=false:=by rw[h]; rfl
section
variable{E:Env}{n:Nat}{m0:PJ}{fs:Fs}{ps:PM Pc}{x y:OP}{v:ON}{ty:OO}
def fP{c:OP}{b:Bool}(hc:ev E fs c=some (.bool b))(hb:b=true)(h:ev E fs x=some v):Od E m0 fs ps (.pick c x y) v ps:=qW (by rw[hc,hb]) h
def fp{c:OP}{b:Bool}(hc:ev E fs c=some (.bool b))(hb:b=false)(h:ev E fs y=some v):Od E m0 fs ps (.pick c x y) v ps:=L5 (by rw[hc,hb]) h
def mF{α:Type}{f:α->PM ON}{elem ty2:OO}{w k k2 c0 l l1:Nat}{a a0:OL}{xs ys:PM α}{ars:PO OP}{p0:Pc}(he:Enc f w)(ht:SlT E.P ty elem w)(h4:∃e2,E.P.underlying ty2=some (.slice e2))(ha:nv E fs ars.toList=some [.slice a l l,.slice a0 l1 c0])(hp:pk ps k=some (.sl a w l (xs.map f)))(h0:pk ps k2=some p0)(hr:IsRd p0 a0 c0 w l1 (ys.map f))(hl:lim (xs++ys).length=true) :
  Ox E m0 fs ps (.call ⟨.builtin .append,ars,#[ty,ty2]⟩) (fun a':OL=>.slice a' (xs++ys).length (xs++ys).length) (fun a'=>du ps k (.sl a' w (xs++ys).length ((xs++ys).map f))):=by
 intro t m hf hm;have h1:l=xs.length:=by
  have:=hm.get hp;rcases this with⟨h5,h1,_⟩|⟨b,tg,_,h1⟩
  rw[h5,List.map_eq_nil_iff.1 h1]; rfl
  have:=h1.2.2.2.1; rw[MS] at this; exact this.symm
 have h2:l1=ys.length:=by
  have:=(hm.rd h0 hr).1; rw[MS] at this; exact this.symm
 have:=Lj (m0:=m0) ht h4 ha hp h0 hr (he.px ys) (he.fE ys) (by rw[h1,h2,<-MV]; exact hl) t m hf hm
 have e1:xs.map f++ys.map f=(xs++ys).map f:=List.map_append.symm;have e2:l+l1=(xs++ys).length:=by rw[h1,h2,MV]
 rw[e1,e2] at this;exact this
def AF{α:Type}{f:α->PM ON}{elem:OO}{k cap w l:Nat}{lo hi:Int}{a:OL}{xs:PM α}{lx hx:PE OP}{lv hv:PE ON}(ht:SlT E.P ty elem w)(hv':ev E fs x=some (.slice a l cap))(e1:E8 E fs lx=some lv)(e2:E8 E fs hx=some hv)(hp:pk ps k=some (.rd a cap w l (xs.map f)))(hb:okB lo hi l=true)(hl:lv=none/\lo=0\/∃k,lv=some (.int k lo))(hh:hv=none/\hi=(l:Int)\/∃k,hv=some (.int k hi)) :
  Ox E m0 fs ps (.slice ty x lx hx none) (fun r:OL×Nat=>.slice r.1 ((xs.drop lo.toNat).take (hi.toNat-lo.toNat)).length r.2) (fun r=>.rd r.1 r.2 w ((xs.drop lo.toNat).take (hi.toNat-lo.toNat)).length (((xs.drop lo.toNat).take (hi.toNat-lo.toNat)).map f)::ps):=by
 intro t m hf hm;obtain⟨b1,b2,b3⟩:=Cw hb;have h1:xs.length=l:=by have:=(hm.get hp).1; rw[MS] at this; exact this
 have elo:((lo.toNat:Nat):Int)=lo:=Of b1;have ehi:((hi.toNat:Nat):Int)=hi:=Of (by omega)
 have hlen:((xs.drop lo.toNat).take (hi.toNat-lo.toNat)).length=hi.toNat-lo.toNat:=by rw[NK,List.length_drop,h1]; omega
 have:=LQ (m0:=m0) (lo:=lo.toNat) (hi:=hi.toNat) ht hv' e1 e2 hp (by omega) (by omega) (by
  rcases hl with⟨h,h'⟩|⟨k,h⟩
  exact .inl ⟨h,by omega⟩
  exact .inr ⟨k,by rw[elo]; exact h⟩) (by
  rcases hh with⟨h,h'⟩|⟨k,h⟩
  exact .inl ⟨h,by omega⟩
  exact .inr ⟨k,by rw[ehi]; exact h⟩) t m hf hm
 rw[Hd] at this;rw[hlen];exact this
def lR{α:Type}{f:α->PM ON}{z0:α}{elem:OO}{w:Nat}{i:Int}{z:ON}(ht:SlT E.P ty elem w)(hx:ev E fs x=some (.int .i64 i))(hi:decide (0<=i)=true)(hl:lim i.toNat=true)(hz:bU E.P elem=some z)(hp:z.cells.toList.all aM=true)(hzf:z.cells.toList=f z0) :
  Ox E m0 fs ps (.makeSlice ty x x) (fun b=>.slice (some ⟨b,0,none⟩) i.toNat i.toNat) (fun b=>.arr b w i.toNat ((List.replicate i.toNat z0).map f) .own::ps):=by
 have:=KG (m0:=m0) (ps:=ps) ht hx (Of (of_decide_eq_true hi)).symm hl hz hp;rw[hzf,GW] at this;exact this
def eW{α:Type}{f:α->PM ON}{ag:Bool}{sz b w l j c k:Nat}{xs:PM α}{x1 x2:α}{tg:Tag}(ht:TyI E.P ty ag sz)(hx:ev E fs x=some (ptr b (j*w+c)))(hy:ev E fs y=some v)(hp:pk ps k=some (.arr b w l (xs.map f) tg))(he:xs[j]? = some x1)(hv:HM (f x1) c v sz=some (f x2)):Od E m0 fs ps (.store ty x y) undef (du ps k (.arr b w l ((xs.set j x2).map f) tg)):=by
 have:=Dk (m0:=m0) ht hx hy hp (aU he) hv;rwa[FT] at this
end
def F9:Tag->Bool
 | .more _=>false
 | _=>true
def JP:Tag->Bool
 | .own=>true
 | _=>false
def sn{fs:Fs}:sub fs []:=trivial
def sc{fs l:Fs}{i:Nat}{v:ON}(h:lk fs i=some v)(k:sub fs l):sub fs ((i,v)::l):=⟨h,k⟩
def cI{k:IntKind}{e y:Int}(h:some e=some y):some (Value.int k e)=some (.int k y):=by rw[MH h]
def cN{k:IntKind}{e y:Nat}(h:some e=some y):some (Value.int k (e:Int))=some (.int k (y:Int)):=by rw[MH h]
def nn(b:Nat):decide (0<=(b:Int))=true:=M4 (Nt b)
section
variable{P:OQ}{ty el:OO}{w len:Nat}
def J6(h:ArT P ty el len w){b o i:Nat}{kd:IntKind}(hi:i<len):bM P ty (ptr b o) (.int kd (i:Int))=some (ptr b (o+i*w)):=Jx h.und h.known h.size hi
def H8{cs:PO ON}{off sz:Nat}{v:ON}(h:TyI P ty true sz)(hv:(Value.agg (cs.extract off (off+sz)))=v):eE P ty cs off=some v:=by
 simp only[eE,h.known,h.agg,h.size,MO,MJ,if_false,if_true,hv]
def yI{cs:PO ON}{off sz:Nat}{v:ON}(h:TyI P ty false sz)(hv:cs[off]? = some v):eE P ty cs off=some v:=by
 simp only[eE,h.known,h.agg,MO,MJ,if_false,hv]
structure BdT(P:OQ)(ty:OO)(z:ON)(offs:PM (Nat×Nat)):Prop where
 bd:∀parts,(parts.all fun p=>Nat.blt p.1 offs.length)=true->jB P ty parts=(gH (fun i=>offs[i]?) z.cells.toList parts).map fun cs=>.agg cs.toArray
def Mn(P:OQ)(ty:OO)(z:ON)(offs:PM (Nat×Nat)):Prop :=
 bU P ty=some z/\match P.underlying ty with
  | some (.struct fields)=>fields.toList.all (fun f=>known P f.type)=true/\fields.toList.map (fun f=>(f.offset,ax P f.type))=offs
  | some (.array n elem)=>known P elem=true/\(List.range n).map (fun i=>(i*ax P elem,ax P elem))=offs
  | _=>False
def kL{p q:Nat->PE (Nat×Nat)}{n:Nat}(h:∀i,i<n->p i=q i):∀(parts:PM (Nat×ON)) (cs:PM ON),(parts.all fun p=>Nat.blt p.1 n)=true->gH p cs parts=gH q cs parts
 | [],_,_=>rfl
 |(i,v)::rest,cs,hp=>by
  rw[NF,My] at hp;have hi:i<n:=by have:=hp.1; rwa[N1] at this
  simp only[gH,h i hi];cases q i with
  | none=>rfl
  | some r=>simp only[]; split; rfl; exact kL h rest _ hp.2
def BdT.of{z:ON}{offs:PM (Nat×Nat)}(h:Mn P ty z offs):BdT P ty z offs:=⟨fun parts hp=>by
 obtain⟨hz,h⟩:=h;unfold jB;rw[hz];cases hu:P.underlying ty with
 | none=>rw[hu] at h; exact h.elim
 | some u =>
  rw[hu] at h;cases u with
  | struct fields =>
   simp only at h ⊢;rw[MG h.1]
   congr 1
   refine kL (n:=offs.length) (fun i hi=>?_) parts _ hp;rw[<-h.2,MP]; simp
  | array n elem =>
   simp only at h ⊢;rw[MG h.1]
   congr 1
   refine kL (n:=offs.length) (fun i hi=>?_) parts _ hp;have hl:offs.length=n:=by rw[<-h.2]; simp
   rw[<-h.2,MP,List.getElem?_range (by omega)]; rfl
  | _=>exact h.elim⟩
def Ma(P:OQ)(ty:OO)(offs:PM (Nat×Nat)):Bool :=
 match P.underlying ty with
 | some (.struct fields)=>fields.toList.all (fun f=>known P f.type)&&decide (fields.toList.map (fun f=>(f.offset,ax P f.type))=offs)
 | some (.array n elem)=>known P elem&&decide ((List.range n).map (fun i=>(i*ax P elem,ax P elem))=offs)
 | _=>false
def BdT.mk'{z:ON}{offs:PM (Nat×Nat)}(hz:bU P ty=some z)(h:Ma P ty offs=true):BdT P ty z offs:=by
 refine .of ⟨hz,?_⟩;unfold Ma at h;cases hu:P.underlying ty with
 | none=>rw[hu] at h; cases h
 | some u =>
  rw[hu] at h;cases u with
  | struct fields=>simp only[My,MW] at h ⊢; exact h
  | array n elem=>simp only[My,MW] at h ⊢; exact h
  | _=>cases h
def eU{z r:ON}{offs:PM (Nat×Nat)}{parts:PM (Nat×ON)}{cs:PM ON}(h:BdT P ty z offs)(hp:(parts.all fun p=>Nat.blt p.1 offs.length)=true)(hr:gH (fun i=>offs[i]?) z.cells.toList parts=some cs)(e:Value.agg cs.toArray=r):jB P ty parts=some r:=by
 rw[h.bd parts hp,hr]; exact NS some e
def j5{n:Nat}{vs:PM (Nat×ON)}{z:ON}{cs:PM ON}(ht:SlT P ty el w)(hz:bU P el=some z)(h1:((cm z.cells.toList n).all aM&&Nat.ble (n*w) 16777216)=true)(hr:gH (fun i=>some (i*w,w)) (cm z.cells.toList n) vs=some cs):Lx P el w n vs=some cs:=by
 have hzs:z.cells.size=w:=by have:=ht.zero; rw[hz] at this; simp only[Option.any_some,My,beq_iff_eq] at this; exact this.1
 have:fD P el n=some (cm z.cells.toList n):=by simp only[fD,hz,ht.size]; rw[MG hzs]
 simp only[Lx,this,h1]; exact hr
def Kx{xs ys:PO ON}{b:Bool}(h:P.eqGuardType P.depth ty=false)(hb:jn P Op.maxDepth ty (.agg xs) (.agg ys)=some b):bz .eql ty P (.agg xs) (.agg ys)=some (.bool b):=by
 simp only[bz,h,MJ,if_false,hb,MB]
def HH{xs ys:PO ON}{b:Bool}(h:P.eqGuardType P.depth ty=false)(hb:jn P Op.maxDepth ty (.agg xs) (.agg ys)=some b):bz .neq ty P (.agg xs) (.agg ys)=some (.bool (!b)):=by
 simp only[bz,h,MJ,if_false,hb,MB]
end
section
variable{E:Env}{n:Nat}{m0:PJ}{fs:Fs}{ps:PM Pc}{x y:OP}{v:ON}{ty:OO}
def KF{el:OO}{len w b o k:Nat}{cs:PM ON}{tg:Tag}(ht:ArT E.P ty el len w)(hx:ev E fs x=some (ptr b o))(hp:pk ps k=some (.obj b (.cells cs tg)))(htg:F9 tg=true)(hlen:Nat.blt 0 len=true):Od E m0 fs ps (.slice ty x none none none) (.slice (some ⟨b,o,none⟩) len len) ps :=
 fun t m hf h=>⟨fun b' hb=>by
  have:fO (ptr b o)=some b:=rfl;simp only[aQ,hf.ev hx,M3,this] at hb;cases hb; exact(h.get hp).2.1,fun K hK=>by
  have hg:=(h.get hp).2.2;have hb:ew len len none none none=some (0,len,len):=nZ (NV _) (MA _) (.inl ⟨rfl,rfl⟩) (.inl ⟨rfl,rfl⟩);have hl:len≠0:=by rw[N1] at hlen; omega
  have:cB E.P ty (ptr b o) none none none m=some (.slice (some ⟨b,o,none⟩) len len):=by
   cases tg with
   | more s=>cases htg
   | ro=>simp only[cB,ptr,ht.und,ht.known,if_true,hg,hb,Nat.sub_zero,ME hl,Om,NA]
   | own=>simp only[cB,ptr,ht.und,ht.known,if_true,hg,hb,Nat.sub_zero,ME hl,Om,NA]
  rw[Go.Ab.AJ (hf.ev hx) rfl rfl rfl this]; exact hK m h⟩
variable{ops:PO Oper}{os:PM Oper}{K:Tm->PJ->Prop}{dr:Bool}
def Wo.len{α:Type}{f:α->PM ON}{k w l:Nat}{a:OL}{xs:PM α}(hp:pk ps k=some (.sl a w l (xs.map f)))(h:l=xs.length->Wo dr E n ops K os m0 fs ps):Wo dr E n ops K os m0 fs ps:=by
 have key:∀m,Hp m0 m ps->l=xs.length:=fun m hm=>by
  rcases hm.get hp with⟨h0,h1,_⟩|⟨b,tg,_,h1⟩
  rw[h0,List.map_eq_nil_iff.1 h1]; rfl
  have:=h1.2.2.2.1; rw[MS] at this; exact this.symm
 cases dr with
 | false=>exact fun t m hf hm=>h (key m hm) t m hf hm
 | true=>exact fun t m w hf hm hw=>h (key m hm) t m w hf hm hw
end
def ah.CI{m0:PJ}{ps:PM Pc}(w:Nat):ah m0 ps (.rd none 0 w 0 []::ps):=fun m h =>
 h.cons (MA _) h.ext (fun _ _=>rfl) (Rd.nil m w) fun b hb=>(by cases hb)
def Hp.Mw{m0 m:PJ}{ps:PM Pc}{α:Type}{xs:PM α}{f:α->PM ON}{k b o w l:Nat}{cs:PM ON}{tg:Tag}(h:Hp m0 m ps)(hp:pk ps k=some (.obj b (.cells cs tg)))(htg:JP tg=true)(hl:Nat.beq xs.length l=true)(hc:(cs.drop o).take (l*w)=(xs.map f).flatten)(he:Enc f w):Rd m (some ⟨b,o,none⟩) l w l (xs.map f):=by
 have hl:=Mz hl;have hnm:∀sz,tg=.more sz->sz=w:=fun sz e=>by rw[e] at htg; cases htg
 have hg:=(h.get hp).2.2;refine⟨by rw[MS]; exact hl,MA _,.inr (.inr ⟨b,o,rfl,(h.get hp).2.1,cs,tg,hg,hnm,fun i e hi=>?_⟩)⟩
 have hw:=he.px xs;have h1:=zP hw hi;have hlt:i<l:=by have:=(ML.1 hi).1; rw[MS,hl] at this; exact this
 refine⟨?_,hw e (M5 hi)⟩;rw[<-hc] at h1;rw[<-h1,List.drop_take,List.take_take,On];have:w<=l*w-i*w:=by
  have:(i+1)*w<=l*w:=Nj w hlt;rw[N9] at this; omega
 rw[Nw this]
def gu{ops:PO Oper}{fs:Fs}{j d:Nat}{b:Bool}(hd:(ops[j]?).bind (·.dst)=some d)(h:lk fs d=some undef):vQ ops fs (some (j,b)) false:=fun t d' o ty p af hf=>by
 rw[DA];have hat:=hf d _ h;unfold cJ;rw[hd];unfold Tm.at at hat;cases hg:Trie.get t d with
 | none=>simp only[hg]
 | some v=>rw[hg] at hat; have hv:v=undef:=hat; subst hv; simp only[hg]; rfl
section
variable{P:OQ}{ty:OO}{k:IntKind}
end
section
variable{E:Env}{n:Nat}{m0:PJ}{fs:Fs}{ps:PM Pc}{x y:OP}{v:ON}{ty:OO}
def K5{s:ByteArray}{kd:IntKind}{i:Int}{b:Nat}(tab:PM Nat)(hu:E.P.underlying ty=some .string)(hx:ev E fs x=some (.string s))(hs:s.data.toList.map (·.toNat)=tab)(hy:ev E fs y=some (.int kd i))(hi:cP i tab.length=true)(hb:tab[i.toNat]? = some b):Od E m0 fs ps (.index ty x y) (.int .u8 (b:Int)) ps:=by
 refine LV hx hy ?_;have h0:=(aq hi).1;simp only[gh,hu];rw[MG h0];subst hs;rw[MP] at hb;have:s[i.toNat]? = s.data.toList[i.toNat]?:=by
  cases hs:s.data.toList[i.toNat]? with
  | none =>
   have:=List.getElem?_eq_none_iff.1 hs;exact getElem?_neg s i.toNat (by have e:s.size=s.data.toList.length:=Oq.symm; omega)
  | some u =>
   obtain⟨h1,h2⟩:=ML.1 hs;have h3:i.toNat<s.size:=by have e:s.size=s.data.toList.length:=Oq.symm; omega
   rw[getElem?_pos s i.toNat h3]
   congr 1
 rw[this];cases hs:s.data.toList[i.toNat]? with
 | none=>rw[hs] at hb; cases hb
 | some u=>rw[hs] at hb; simp only[MB,Option.some.injEq] at hb ⊢; rw[hb]
end
end Go.Ab.W
end
section
namespace Go.Ab
open Go Go.Ab.W
def JW(j:aI)(u:ON):∃v,VR j v u:=by
 match h:u with
 | .agg cs =>
  have:∀i (hi:i<cs.size),∃v,VR j v cs[i]:=fun i hi=>JW j cs[i];refine⟨.agg (Array.ofFn fun i:Fin cs.size=>Classical.choose (this i.1 i.2)),.agg (by simp) fun i a b=>?_⟩
  have hi:i<cs.size:=b;have:=N3 (this i hi)
  simpa using this
 | .tuple cs =>
  have:∀i (hi:i<cs.size),∃v,VR j v cs[i]:=fun i hi=>JW j cs[i];refine⟨.tuple (Array.ofFn fun i:Fin cs.size=>Classical.choose (this i.1 i.2)),.tuple (by simp) fun i a b=>?_⟩
  have hi:i<cs.size:=b;have:=N3 (this i hi)
  simpa using this
 | .bool b=>exact⟨_,.bool b⟩
 | .int k n=>exact⟨_,.int k n⟩
 | .float k b=>exact⟨_,.junk rfl⟩
 | .complex k a b=>exact⟨_,.junk rfl⟩
 | .string s=>exact⟨_,.string s⟩
 | .pointer none=>exact⟨_,.pnil⟩
 | .pointer (some a)=>exact⟨_,.junk rfl⟩
 | .slice none l c=>exact⟨_,.snil l c⟩
 | .slice (some a) l c=>exact⟨_,.junk rfl⟩
 | .map none=>exact⟨_,.mnil⟩
 | .map (some r)=>exact⟨_,.junk rfl⟩
 | .chan r=>exact⟨_,.junk rfl⟩
 | .func f a b=>exact⟨_,.junk rfl⟩
 | .nilFunc=>exact⟨_,.nilFunc⟩
 | .iface t v=>exact⟨_,.junk rfl⟩
 | .nilIface=>exact⟨_,.nilIface⟩
termination_by SizeOf.sizeOf u
decreasing_by
 all_goals
  subst h;have:=Array.sizeOf_getElem cs i hi;simp only[Value.agg.sizeOf_spec,Value.tuple.sizeOf_spec];omega
open Classical in
noncomputable def seen (j:aI) (v':ON):ON:=if aM v' then v' else match v' with
 | .slice (some _) 0 _=>.slice (some ⟨0,0,some 0⟩) 0 0
 | .slice (some a) (l+1) c=>if a.spot=none/\j a.block=some ⟨a.block,none⟩ then .slice (some a) (l+1) c else Classical.choose (JW j (.slice (some a) (l+1) c))
 | v'=>Classical.choose (JW j v')
def zN(j:aI)(v':ON):VR j (seen j v') v':=by
 unfold seen
 split
 rename_i h; exact .aM h
 split
 exact .gA
 rename_i a l c _
 split
 rename_i h;obtain⟨b,o,s⟩:=a;obtain⟨h1,h2⟩:=h;cases h1;exact .slice (k:=⟨b,none⟩) h2 rfl
 exact N3 (JW j _)
 exact N3 (JW j _)
def He{j:aI}{a:Addr}{l c:Nat}(h0:l≠0)(h1:a.spot=none)(h2:j a.block=some ⟨a.block,none⟩):seen j (.slice (some a) l c)=.slice (some a) l c:=by
 obtain⟨l,rfl⟩:∃k,l=k+1:=⟨l-1,by omega⟩
 unfold seen;rw[ME (fun h=>by cases h)]
 dsimp only
 rw[MG ⟨h1,h2⟩]
def C1{j:aI}{a:Addr}{c:Nat}:seen j (.slice (some a) 0 c)=.slice (some ⟨0,0,some 0⟩) 0 0:=by
 unfold seen;rw[ME (fun h=>by cases h)]
def p6{j:aI}{v':ON}(h:aM v'=true):seen j v'=v':=by unfold seen; rw[MG h]
def ek(W:OS):aI:=fun b=>if b<W.heap.size then some ⟨b,none⟩ else none
noncomputable def eG (W:OS):PJ:={ next:=W.heap.size,wl:=W.heap.size,bT:=.nil,base:=fun b=>match W.heap[b]? with
 | some (.cells c _ _)=>some (.cells (c.toList.map (seen (ek W))) .ro)
 | _=>none}
def ry(W:OS)(b:Nat):(eG W).get b=match W.heap[b]? with
 | some (.cells c _ _)=>some (.cells (c.toList.map (seen (ek W))) .ro)
 | _=>none:=by
 simp[PJ.get,eG,Heap.get_nil]
def np{W:OS}{b:Nat}{c:PO ON}{t:OO}{fz:Nat×Nat}(h:W.heap[b]? = some (.cells c t fz)):(eG W).get b=some (.cells (c.toList.map (seen (ek W))) .ro):=by
 rw[ry,h]
def Ij{E:Env}{W:OS}(hg:E.glob<=W.heap.size):MR E (ek W) (eG W) W:=by
 have hj:∀b k,ek W b=some k->b<W.heap.size/\k=⟨b,none⟩:=by
  intro b k h;unfold ek at h
  split at h
  rename_i hb; cases h; exact⟨hb,rfl⟩
  cases h
 refine⟨fun b k h=>?_,fun b o k ho h=>?_,fun b b' k k' h h' _ _ hc=>?_,fun g hgl=>?_⟩
 obtain⟨h1,rfl⟩:=hj b k h;exact⟨h1,h1⟩
 obtain⟨h1,rfl⟩:=hj b k h;rw[ry] at ho
 split at ho
 rename_i c t fz hc;cases ho;refine⟨_,hc,⟨rfl,by simp⟩,fun i v hi=>?_⟩
 rw[MP] at hi;obtain⟨x,hx,rfl⟩:=NY.1 hi;exact⟨x,by simpa using hx,zN _ _⟩
 cases ho
 obtain⟨_,rfl⟩:=hj b k h;obtain⟨_,rfl⟩:=hj b' k' h';exact hc
 unfold ek;rw[OW]
inductive Lf where
 | int (k:IntKind)
 | bool
 | sl (e:OO)
 deriving DecidableEq
def A1(EH:OO->PE (PM Lf))(P:OQ):PM Field->Nat->PE (PM Lf)
 | [],_=>some []
 | f::fs,off=>match EH f.type,A1 EH P fs (off+P.cellsOf f.type) with
  | some l,some r=>if f.offset=off/\l.length=P.cellsOf f.type then some (l++r) else none
  | _,_=>none
def EH(P:OQ):Nat->OO->PE (PM Lf)
 | 0,_=>none
 | d+1,t=>match P.underlying t with
  | some (.int k)=>some [.int k]
  | some .bool=>some [.bool]
  | some (.slice e)=>some [.sl e]
  | some (.array n e)=>match EH P d e with
   | some l=>if l.length=P.cellsOf e/\P.cellsOf t=n*P.cellsOf e then some (List.replicate n l).flatten else none
   | none=>none
  | some (.struct fs)=>match A1 (EH P d) P fs.toList 0 with
   | some l=>if l.length=P.cellsOf t then some l else none
   | none=>none
  | _=>none
def sE{H:Type}(enc:OO×ON->H)(P:OQ)(W:OS)(base:Nat)(sp:Nat->Bool)(held:Bool):Lf->ON->Prop
 | .int k,v=>∃n,v=.int k n/\(Lit.int k n).wf=true
 | .bool,v=>∃b,v=.bool b
 | .sl e,v=>(v=.slice none 0 0)\/∃(a:Addr) (len cap:Nat) (n:Nat),v=.slice (some a) len cap/\len<=cap/\cap<=maxLen/\base<=a.block /\
   ∀i,i<len->∃cs x,W.cells? base (a.add (i*P.cellsOf e)) (P.cellsOf e)=some cs/\DataW.trod enc P W base sp held n e cs=some x
inductive All2{α β:Type}(R:α->β->Prop):PM α->PM β->Prop
 | nil:All2 R [] []
 | cons {a:α} {b:β} {l:PM α} {r:PM β} (h:R a b) (t:All2 R l r):All2 R (a::l) (b::r)
def All2.append{α β:Type}{R:α->β->Prop}{l l':PM α}{r r':PM β}(h:All2 R l r)(h':All2 R l' r'):All2 R (l++l') (r++r'):=by
 induction h with
 | nil=>exact h'
 | cons h _ ih=>exact .cons h ih
section
variable{H:Type}{enc:OO×ON->H}{P:OQ}{W:OS}{base:Nat}{sp:Nat->Bool}{held:Bool}
theorem tG{R:Lf->ON->Prop}{l:PM Lf}:∀(n w:Nat) (cs:PM ON),cs.length=n*w->(∀i,i<n->All2 R l ((cs.drop (i*w)).take w))->All2 R (List.replicate n l).flatten cs
 | 0,w,cs,hl,_=>by
  have:cs=[]:=NL.1 (by simpa using hl)
  subst this; exact .nil
 | n+1,w,cs,hl,h=>by
  rw[NQ,No];have h0:=h 0 (by omega)
  simp only[Om,List.drop_zero] at h0;have hw:w<=cs.length:=by rw[hl,Nc]; omega
  rw[<-List.take_append_drop w cs];refine All2.append h0 (tG n w _ (by rw[List.length_drop,hl,Nc]; omega) fun i hi=>?_)
  have:=h (i+1) (by omega)
  rw[On];have e:w+i*w=(i+1)*w:=by rw[Nc]; omega
  rw[e]; exact this
theorem wi:∀(d:Nat) (t:OO) (L:PM Lf),EH P d t=some L->∀(n:Nat) (cs:PM ON) (x:DataW H×PM MemPlace),DataW.trod enc P W base sp held n t cs=some x->All2 (sE enc P W base sp held) L cs:=by
 intro d
 induction d with
 | zero=>intro t L h; cases h
 | succ d ih =>
  intro t L hL n cs x hx;unfold EH at hL
  split at hL
  rename_i k hu;cases hL;obtain⟨m,rfl,_,hwf⟩:=DataW.trod_int hu hx;exact .cons ⟨m,rfl,hwf⟩ .nil
  rename_i hu;cases hL;obtain⟨b,rfl,_⟩:=DataW.trod_bool hu hx;exact .cons ⟨b,rfl⟩ .nil
  rename_i e hu;cases hL;rcases DataW.trod_slice hu hx with⟨rfl,_⟩|⟨a,len,cap,elems,rest,m,rfl,rfl,_,hb,h1,h2,h3,h4,_⟩
  exact .cons (.inl rfl) .nil
  refine .cons (.inr ⟨a,len,cap,m,rfl,h1,h2,hb,fun i hi=>?_⟩) .nil;have:=h4 i hi;have hi':i<elems.length:=by omega
  rw[MF hi'] at this;obtain⟨cs,h5,h6⟩:=Option.bind_eq_some_iff.1 this;exact⟨cs,_,h5,h6⟩
  rename_i m e hu
  split at hL
  rename_i l hl
  split at hL
  rename_i hc;cases hL;obtain⟨xs,m',rfl,_,hcl,hxl,hel⟩:=DataW.trod_array hu hx;refine tG m (P.cellsOf e) cs (hcl.trans hc.2) fun i hi=>?_;have:=hel i hi;rw[MF (by omega)] at this
  exact ih e l hl m' _ _ this
  cases hL
  cases hL
  ·rename_i fs hu
   split at hL
   ·rename_i l hl
    split at hL
    ·rename_i hc;cases hL;obtain⟨xs,m',rfl,_,hcl,hxl,hel⟩:=DataW.trod_struct hu hx;have hfield:∀f∈fs.toList,∃y,DataW.trod enc P W base sp held m' f.type ((cs.drop f.offset).take (P.cellsOf f.type))=some y:=by
      intro f hf;obtain⟨i,hi,hif⟩:=List.getElem_of_mem hf;have hi':i<fs.size:=by simpa using hi
      have:=hel i f (by rw[<-hif]; simp[hi'])
      rw[MF (by omega)] at this
      exact⟨_,this⟩
     have key:∀(l1:PM Field) (off:Nat) (r:PM Lf),A1 (EH P d) P l1 off=some r->(∀f∈l1,∃y,DataW.trod enc P W base sp held m' f.type ((cs.drop f.offset).take (P.cellsOf f.type))=some y)->All2 (sE enc P W base sp held) r ((cs.drop off).take r.length):=by
      intro l1
      induction l1 with
      | nil=>intro off r hr _; cases hr; simp only[List.length_nil,List.take_zero]; exact .nil
      | cons f l1 ih1 =>
       intro off r hr hf;unfold A1 at hr
       split at hr
       rename_i l2 r2 hl2 hr2
       split at hr
       rename_i ho;cases hr;obtain⟨y,hy⟩:=hf f (by simp)
       have h1:=ih f.type l2 hl2 m' _ _ hy;have h2:=ih1 _ _ hr2 fun g hg=>hf g (by simp[hg])
       rw[ho.1,<-ho.2] at h1;rw[<-ho.2] at h2;have:=All2.append h1 h2;rw[MV,List.take_add,On];exact this
       cases hr
       cases hr
     have:=key fs.toList 0 _ hl hfield;rw[List.drop_zero,hc,<-hcl,List.take_length] at this;exact this
    cases hL
   cases hL
  cases hL
end
end Go.Ab
end
section
namespace Go.Ab
open Go Go.Ab.W Go.ChangeShapes Go.WideShapes Go.RowKit
section
variable{H:Type}{enc:OO×ON->H}{P:OQ}{W:OS}{sp:Nat->Bool}{held:Bool}
theorem xr{a:Addr}(h:a.spot=none)(n:Nat):a.add n=⟨a.block,a.off+n,none⟩:=by
 unfold Addr.add
 split
 rename_i e; subst e; cases a; cases h; rfl
 rfl
theorem nK{W:OS}{a:Addr}{v:ON}(h:W.cell? a=some v):a.spot=none/\∃c t fz,W.heap[a.block]? = some (.cells c t fz)/\c[a.off]? = some v:=by
 unfold World.cell? at h
 split at h
 rename_i c t fz hc
 split at h
 cases h
 rename_i hs;refine⟨by simpa using hs,c,t,fz,hc,h⟩
 cases h
theorem G5{α:Type}{f:α->PM ON}{R:α->Prop}{e w:Nat}(hw:P.cellsOf e=w)(hw0:0<w)(hsz:0<W.heap.size)
  (hdec:∀n cs x,DataW.trod enc P W 0 sp held n e cs=some x->∃p,cs.map (seen (ek W))=f p/\R p) {v:ON} (h:sE enc P W 0 sp held (.sl e) v) :
  ∃(a:OL) (cap:Nat) (l:PM α),seen (ek W) v=.slice a l.length cap/\(∀b,eY a=some b->b<W.heap.size)/\Rd (eG W) a cap w l.length (l.map f)/\(∀p∈l,R p)/\l.length<=maxLen:=by
 rcases h with rfl|⟨a,len,cap,n,rfl,h1,h2,_,h3⟩
 exact⟨none,0,[],p6 rfl,fun b h=>(by cases h),Rd.nil _ _,fun p hp=>(by cases hp),NV _⟩
 by_cases h0:len=0
 subst h0;exact⟨some ⟨0,0,some 0⟩,0,[],C1,fun b h=>(by cases h; exact hsz),⟨rfl,MA _,.inr (.inl ⟨0,0,rfl,rfl,rfl,hsz⟩)⟩,fun p hp=>(by cases hp),NV _⟩
 rw[hw] at h3;have hg:∀i:Fin len,∃(p:α) (cs:PM ON),W.cells? 0 (a.add (i.1*w)) w=some cs/\cs.map (seen (ek W))=f p/\R p:=by
  intro i;obtain⟨cs,x,h4,h5⟩:=h3 i.1 i.2;obtain⟨p,he,hR⟩:=hdec _ _ _ h5;exact⟨p,cs,h4,he,hR⟩
 obtain⟨g,q,hg⟩:∃(g:Fin len->α) (q:Fin len->PM ON),∀i,W.cells? 0 (a.add (i.1*w)) w=some (q i)/\(q i).map (seen (ek W))=f (g i)/\R (g i):=⟨fun i=>Classical.choose (hg i),fun i=>Classical.choose (N3 (hg i)),fun i=>N3 (N3 (hg i))⟩;have hat:∀(i:Fin len) (k:Nat),k<w->W.cell? ((a.add (i.1*w)).add k)=(q i)[k]?:=fun i k hk=>(World.cells?_some (hg i).1).2.2 k hk;have hql:∀i,(q i).length=w:=fun i=>(World.cells?_some (hg i).1).2.1;have hfl:∀i,(f (g i)).length=w:=fun i=>by rw[<-(hg i).2.1,MS,hql]
 have hsm:∀(i:Fin len) (k:Nat),k<w->∃x,(q i)[k]? = some x:=fun i k hk=>⟨_,MF (by rw[hql]; exact hk)⟩
 have hspot:a.spot=none:=by
  obtain⟨x,hx⟩:=hsm ⟨0,by omega⟩ 0 hw0
  have:=hat ⟨0,by omega⟩ 0 hw0
  rw[hx] at this;have:=(nK this).1
  simpa [Addr.add] using this
 obtain⟨c,t,fz,hc⟩:∃c t fz,W.heap[a.block]? = some (.cells c t fz):=by
  obtain⟨x,hx⟩:=hsm ⟨0,by omega⟩ 0 hw0
  have:=hat ⟨0,by omega⟩ 0 hw0
  rw[hx] at this;obtain⟨_,c,t,fz,hc,_⟩:=nK this;refine⟨c,t,fz,?_⟩
  simpa [Addr.add] using hc
 have hcell:∀(i:Fin len) (k:Nat),k<w->c[a.off+i.1*w+k]? =(q i)[k]?:=by
  intro i k hk;obtain⟨x,hx⟩:=hsm i k hk;have:=hat i k hk;rw[hx] at this;rw[hx];rw[xr hspot,xr rfl] at this;obtain⟨_,c',t',fz',hc',h6⟩:=nK this;rw[hc] at hc';cases hc';exact h6
 have hb:a.block<W.heap.size:=by
  rcases M7 a.block W.heap.size with h|h
  exact h
  rw[Array.getElem?_eq_none h] at hc; cases hc
 have ha:a=⟨a.block,a.off,none⟩:=by cases a; cases hspot; rfl
 refine⟨some a,cap,List.ofFn g,?_,fun b h=>?_,?_,fun p hp=>?_,?_⟩
 rw[List.length_ofFn];exact He h0 hspot (by unfold ek; rw[MG hb])
 cases h; exact hb
 refine⟨by simp,by simpa using h1,.inr (.inr ⟨a.block,a.off,by rw[<-ha],hb,_,_,np hc,fun sz e=>(by cases e),fun i e he=>?_⟩)⟩
 rw[MP] at he;obtain⟨p,hp,rfl⟩:=NY.1 he;have hi:i<len:=by
  have:=(ML.1 hp).1
  simpa using this
 have hpg:p=g ⟨i,hi⟩:=by
  rw[List.getElem?_ofFn] at hp;simp[hi] at hp;exact hp.symm
 subst hpg;refine⟨?_,hfl _⟩;apply List.ext_getElem?;intro k
 by_cases hk:k<w
 rw[List.getElem?_take_of_lt hk,NO,MP];have h7:=hcell ⟨i,hi⟩ k hk;obtain⟨x,hx⟩:=hsm ⟨i,hi⟩ k hk;rw[hx] at h7;have h8:c.toList[a.off+i*w+k]? = some x:=by simpa using h7
 rw[h8,<-(hg ⟨i,hi⟩).2.1,MP,hx]
 rw[NB (by rw[NK]; omega),NB (by rw[hfl]; omega)]
 obtain⟨i,hi,rfl⟩:=List.getElem_of_mem hp;simp only[List.getElem_ofFn];exact(hg _).2.2
 rw[List.length_ofFn]; omega
theorem IN{α:Type}{f:α->PM ON}{R:α->Prop}{e w:Nat}(hw:P.cellsOf e=w)(hw0:0<w)(hsz:0<W.heap.size)(hf:∀p,(f p).all aM=true)
  (hdec:∀n cs x,DataW.trod enc P W 0 sp held n e cs=some x->∃p,cs=f p/\R p) {v:ON} (h:sE enc P W 0 sp held (.sl e) v) :
  ∃(a:OL) (cap:Nat) (l:PM α),VR (ek W) (.slice a l.length cap) v/\Rd (eG W) a cap w l.length (l.map f)/\(∀p∈l,R p)/\l.length<=maxLen:=by
 obtain⟨a,cap,l,h1,_,h2,h3,h4⟩:=G5 (f:=f) (R:=R) hw hw0 hsz (fun n cs x hx=>by
  obtain⟨p,rfl,hR⟩:=hdec n cs x hx;refine⟨p,?_,hR⟩;have:∀(l:PM ON),l.all aM=true->l.map (seen (ek W))=l:=fun l hl=>by
   induction l with
   | nil=>rfl
   | cons x l ih =>
    rw[NF,My] at hl;rw[OF,p6 hl.1,ih hl.2]
  exact this _ (hf p)) h
 exact⟨a,cap,l,by rw[<-h1]; exact zN _ _,h2,h3,h4⟩
theorem yV{base:Nat}{v:ON}(h:sE enc P W base sp held (.int .u8) v):∃n:Nat,v=.int .u8 (n:Int)/\n<256:=by
 obtain⟨n,rfl,hw⟩:=h;have:=bounds_u8 hw;exact⟨n.toNat,by rw[Of this.1],by omega⟩
theorem nT{α β:Type}{R:α->β->Prop}{a:α}{l:PM α}{r:PM β}(h:All2 R (a::l) r):∃b r',r=b::r'/\R a b/\All2 R l r':=by
 cases h with
 | cons h t=>exact⟨_,_,rfl,h,t⟩
theorem wH{α β:Type}{R:α->β->Prop}{r:PM β}(h:All2 R [] r):r=[]:=by cases h; rfl
theorem yd{base d t n:Nat}{cs:PO ON}{L:PM Lf}{x:DataW H×PM MemPlace}(hl:EH P d t=some L)(h:DataW.trod enc P W base sp held n t (Value.agg cs).cells.toList=some x):All2 (sE enc P W base sp held) L cs.toList:=wi d t L hl n _ x h
theorem Jv{j:aI}{l:PM ON}{cs:PO ON}(h:LR j l cs.toList):VR j (.agg l.toArray) (.agg cs):=.yl (by simpa using h)
theorem lU{T:OO->Prop}(K:Kids P T)(hsz:∀{t e:OO},T t->P.underlying t=some (.slice e)->0<P.cellsOf e){W':OS}{sp':Nat->Bool}:∀{ts:PM OO} {vs:PM ON} {ds:PM (DataW H)} {ps:PM MemPlace},
  (∀t∈ts,T t)->DataW.TrodAll enc P W 0 (fun _=>true) true ts vs ds ps->(∀p∈ps,W.sameAt W' p)->(∀p∈ps,sp' p.block=true)->DataW.TrodAll enc P W' 0 sp' true ts vs ds ps
 | [],[],[],_,_,h,_,_=>h
 | t::ts,v::vs,d::ds,_,hT,⟨p,q,⟨n,hn⟩,hs,e⟩,h1,h2=>by
  subst e;refine⟨p,q,⟨n,DataW.trod_stays K hsz (fun h=>(by cases h)) (hT t (by simp)) hn (fun x hx=>h1 x (by simp[hx])) fun x hx=>h2 x (by simp[hx])⟩,lU K hsz (fun t' ht'=>hT t' (by simp[ht'])) hs (fun x hx=>h1 x (by simp[hx])) (fun x hx=>h2 x (by simp[hx])),rfl⟩
theorem BS{w w':OS}{p:MemPlace}(h:w'.heap[p.block]? = w.heap[p.block]?):w.sameAt w' p:=by
 cases p with
 | cell b o=>simp only[World.sameAt,World.cell?]; rw[show w'.heap[b]? = w.heap[b]? from h]
 | map b=>simp only[World.sameAt]; rw[show w'.heap[b]? = w.heap[b]? from h]
def sizedB(P:OQ):Bool:=(List.range P.types.size).all fun t=>match P.underlying t with
 | some (.slice e)=>decide (0<P.cellsOf e)
 | _=>true
theorem Bi(h:sizedB P=true){t e:OO}(ht:t<P.types.size)(hu:P.underlying t=some (.slice e)):0<P.cellsOf e:=by
 have:=MK.1 h t (by simpa using ht)
 rw[hu] at this
 simpa using this
theorem CC{f:Func}{s:ChangeSpec}{W':OS}{args:PO ON}{ds:PM (DataW H)}{before:PM MemPlace}{tb:OO}{fresh handsOn:Bool}(hlo:laidOutB P=true)(hm:mapsRowed P=true)(hsz:sizedB P=true)
  (hvars:s.vars=[]) (hres:f.resultTypes.toList=[tb]) (hrs:f.resultTypes.size=1) (htb:P.underlying tb=some .bool) (hpt:∀t∈f.params.toList,t<P.types.size) (hfn:s.fn H ds ={ results:=[.lit (.bool true)],args:=ds,vars:=[]})
  (hW:DataW.Whole enc P f.params.toList s.vars false W args.toList ds [] before) {E:Env} (hcalm:ib E W W') (hg:∀c,c<W.heap.size->W'.heap[c]? = W.heap[c]?) :
  s.post enc P f false fresh handsOn false W args (.bool true) W':=by
 have hW':=hW;obtain⟨p,q,hA,hV,rfl,_,_⟩:=hW;rw[hvars] at hV;obtain⟨_,rfl⟩:=trodVars_none hV;have hlt:=hW'.lt;refine⟨ds,[],_,[],p,[],hW',?_,?_,?_,pg hcalm hg _,fun h=>by cases h⟩
 rw[NX,hfn,hres]
 show DataW.TrodAll enc P W' _ _ handsOn [tb] ((Value.bool true).resultList f.resultTypes.size) [.lit (.bool true)] []
 rw[hrs];exact trodAll_mk1 (shut_bool htb true)
 rw[NX,hfn];refine lU (kids_rows hlo hm) (fun ht hu=>Bi hsz ht hu) hpt hA (fun x hx=>BS (hg _ (hlt x (by simp[hx])))) fun x hx=>by
  have:=hlt x (by simp[hx])
  simpa using this
 rw[NX,hfn,hvars];exact rfl
end
end Go.Ab
end
section
namespace Go.Ab
open Go
def uU(x y c:Nat):ON:=.tuple #[.int .u64 (.ofNat ((x+y+c)%18446744073709551616)),.int .u64 (.ofNat ((x+y+c)/18446744073709551616))]
def rX(x y c:Nat):ON:=.tuple #[.int .u64 (.ofNat ((x+18446744073709551616-y-c)%18446744073709551616)),.int .u64 (.ofNat (if x<y+c then 1 else 0))]
def dD(V:Nat->Nat->Nat->ON)(args:PM ON)(m:PJ):PE (ON×PJ) :=
 match args with
 | [.int .u64 (.ofNat x),.int .u64 (.ofNat y),.int .u64 (.ofNat c)]=>if Nat.ble c 1 then some (V x y c,m) else none
 | _=>none
def rL{V:Nat->Nat->Nat->ON}{args:PM ON}{m m':PJ}{v:ON}(h:dD V args m=some (v,m')) :
  ∃x y c:Nat,args=[.int .u64 x,.int .u64 y,.int .u64 c]/\c<=1/\v=V x y c/\m'=m:=by
 unfold dD at h
 split at h
 rename_i x y c
 split at h
 rename_i hc;cases h;exact⟨x,y,c,rfl,MD hc,rfl,rfl⟩
 cases h
 cases h
section
variable{E:Env}{j:aI}{m:PJ}{w:OS}
def LR.AT:∀{l l':PM ON},l.all Ab.aM=true->LR j l l'->l'=l:=by
 intro l
 induction l with
 | nil=>intro l' _ h; exact h.dc
 | cons v l ih =>
  intro l' hp h;obtain⟨v1,vs,rfl,h1,h2⟩:=h.cons_inv;rw[NF,My] at hp;rw[eA hp.1 h1,ih hp.2 h2]
def nf{V:Nat->Nat->Nat->ON}{f:PU}(hV:∀x y c,bu (V x y c)=true)(hrun:∀(x y c:Nat) (w:OS),c<=1->(callFunc f #[.int .u64 x,.int .u64 y,.int .u64 c]).run E.P w=.ok (.value (V x y c)) w)(hpr:(E.cR f).isSome=true)
  {args args':PM ON} {v:ON} {m':PJ} (he:dD V args m=some (v,m')) (h:MR E j m w) (hl:LR j args args') :
  dL E.P (E.cR f).isSome f args'.toArray w (fo E j m w v m'):=by
 obtain⟨x,y,c,rfl,hc,rfl,rfl⟩:=rL he;rw[LR.AT rfl hl];exact .inr ⟨hpr,V x y c,w,hrun x y c w hc,j,.refl h,.bu (hV x y c)⟩
end
def yU(x y c:Nat):bu (uU x y c)=true:=rfl
def zt(x y c:Nat):bu (rX x y c)=true:=rfl
section
variable{P:OQ}{f:PU}{fn:Func}
def GA (hf : P.funcs[f]? = some fn) (hname : (fn.name == "runtime.NumGoroutine") = false) (hb : fn.body.isNone = true) (hn : Extern.findNext fn = none) (he : Extern.find fn = some add64Entry) (x y c : Nat) (w : OS) (hc : c <= 1) :
  (callFunc f #[.int .u64 x,.int .u64 y,.int .u64 c]).run P w=.ok (.value (uU x y c)) w:=by
 rw[run_callFunc_extern hf hname hb hn he,run_add64 x y c (by omega) (by omega) (by omega) (by omega)]
 simp only[Result.andThen,uU]
 congr 5
def FA (hf : P.funcs[f]? = some fn) (hname : (fn.name == "runtime.NumGoroutine") = false) (hb : fn.body.isNone = true) (hn : Extern.findNext fn = none) (he : Extern.find fn = some Go.Proofs.sub64Entry) (x y c : Nat) (w : OS) (hc : c <= 1) :
  (callFunc f #[.int .u64 x,.int .u64 y,.int .u64 c]).run P w=.ok (.value (rX x y c)) w:=by
 rw[run_callFunc_extern hf hname hb hn he,Go.Proofs.run_sub64 x y c hc]
 rfl
end
noncomputable def GJ (v:ON) (k:Nat->Bool):Bool:=lB v fun kd z=>dE (jD kd .u64) (Bo z k false) false
def nU{v:ON}{k:Nat->Bool}(h:GJ v k=true):∃x:Nat,v=.int .u64 x/\k x=true:=by
 obtain⟨kd,z,rfl,h⟩:=cz h;obtain⟨h1,h⟩:=aW h;cases ei h1;rcases ic h with⟨x,rfl,h⟩|h
 exact⟨x,rfl,h⟩
 cases h
noncomputable def uJ (W:Nat->Nat->Nat->(ON->Bool)->Bool) (args:PM ON) (m:PJ) (K:ON->PJ->Bool):Bool :=
 dE (Eh args 3) (xF 0 args fun a=>xF 1 args fun b=>xF 2 args fun d=>GJ a fun x=>GJ b fun y=>GJ d fun c=>dE (Nat.ble c 1) (W x y c fun v=>K v m) false) false
noncomputable def Ih (x y c:Nat) (k:ON->Bool):Bool:=fN ((x+y+c)%18446744073709551616) fun s=>fN ((x+y+c)/18446744073709551616) fun d=>k (.tuple #[.int .u64 (.ofNat s),.int .u64 (.ofNat d)])
noncomputable def I6 (x y c:Nat) (k:ON->Bool):Bool:=fN ((x+18446744073709551616-y-c)%18446744073709551616) fun s=>dE (Nat.blt x (y+c)) (k (.tuple #[.int .u64 (.ofNat s),.int .u64 (.ofNat 1)])) (k (.tuple #[.int .u64 (.ofNat s),.int .u64 (.ofNat 0)]))
def Ar(x y c:Nat)(k:ON->Bool):Ih x y c k=k (uU x y c):=by unfold Ih uU; rw[cU,cU]
def AS(x y c:Nat)(k:ON->Bool):I6 x y c k=k (rX x y c):=by
 unfold I6 rX;rw[cU]
 by_cases h:x<y+c
 have:Nat.blt x (y+c)=true:=by rw[N1]; exact h
 rw[this,MG h]; rfl
 ·have:Nat.blt x (y+c)=false:=by
   cases hb:Nat.blt x (y+c) with
   | false=>rfl
   | true=>rw[N1] at hb; exact MX hb h
  rw[this,ME h]; rfl
def kZ{V:Nat->Nat->Nat->ON}{W:Nat->Nat->Nat->(ON->Bool)->Bool}(hW:∀x y c k,W x y c k=k (V x y c)){args:PM ON}{m:PJ}{K:ON->PJ->Bool}(h:uJ W args m K=true):∃v m',dD V args m=some (v,m')/\K v m'=true:=by
 unfold uJ at h;obtain⟨hl,h⟩:=aW h;obtain⟨a,ha,h⟩:=fY h;obtain⟨b,hb,h⟩:=fY h;obtain⟨d,hd,h⟩:=fY h;obtain⟨x,ea,h⟩:=nU h;obtain⟨y,eb,h⟩:=nU h;obtain⟨c,ed,h⟩:=nU h;rw[ea] at ha; rw[eb] at hb; rw[ed] at hd;obtain⟨hc,h⟩:=aW h;rw[hW] at h;have hargs:args=[.int .u64 x,.int .u64 y,.int .u64 c]:=by
  have:=lr hl
  match args,this,ha,hb,hd with
  | [p,q,r],_,ha,hb,hd=>cases ha; cases hb; cases hd; rfl
 refine⟨_,_,?_,h⟩;rw[hargs]
 show(if Nat.ble c 1 then some (V x y c,m) else none)=_
 rw[hc]; rfl
end Go.Ab
end
section
namespace Go.Proofs.YtpkadoocdgdcfaaGreatDoor
open Go.ChangeShapes Go.WideShapes Go.ChangeAt Go.WideMaps Go.WideElems Go.RowKit Go.Ab
def Ks:ownKnob Tryz.prog.godebug=none:=by kernel_rfl
def LL : Tryz.prog.globalNamed "math/bits.deBruijn64tab" = some 0 := by kernel_rfl
def jx:PM Int:=[0,1,56,2,57,49,28,3,61,58,42,50,38,29,17,4,62,47,59,36,45,43,51,22,53,39,33,30,24,18,12,5,63,55,48,27,60,41,37,16,46,35,44,21,52,32,23,11,54,26,40,15,34,20,31,10,25,14,19,9,13,8,7,6]
abbrev qc : PM (String × DataW PN) := [("math/bits.deBruijn64tab", Rows.laid_math_bits_deBruijn64tab)]
def fj:Nat->PE (PM ON):=fun b=>if b=0 then some (jx.map (.int .u8)) else none
def Ml:PJ:=BG 1 fj
noncomputable def vc (p q r:PE Prim) (f:PU):PE Prim:=if f=234 then some ⟨dD uU⟩ else if f=251 then some ⟨dD rX⟩ else if f=66 then p else if f=11 then q else if f=70 then r else none
noncomputable def dt (p q r:PE Prim):Env:={ P:=Tryz.prog,glob:=1,cR:=vc p q r,mono:=False}
noncomputable abbrev lL:Env:=dt none none none
def E5:zm Tryz.prog=true:=by kernel_rfl
def ru{p q r:PE Prim}(hp:∀c,p=some c->∀args m v m',c.run args m=some (v,m')->∀(j:aI) (w:OS) (args':PM ON),MR (dt p q r) j m w->LR j args args'->dL Tryz.prog true 66 args'.toArray w (fo (dt p q r) j m w v m'))
  (hq:∀c,q=some c->∀args m v m',c.run args m=some (v,m')->∀(j:aI) (w:OS) (args':PM ON),MR (dt p q r) j m w->LR j args args'->dL Tryz.prog true 11 args'.toArray w (fo (dt p q r) j m w v m'))
  (hr:∀c,r=some c->∀args m v m',c.run args m=some (v,m')->∀(j:aI) (w:OS) (args':PM ON),MR (dt p q r) j m w->LR j args args'->dL Tryz.prog true 70 args'.toArray w (fo (dt p q r) j m w v m')):EnvOk (dt p q r):=CT E5 fun f pc hf args m v m' hrun j w args' hm hl=>by
 have hp':vc p q r f=some pc:=hf;unfold vc at hp'
 split at hp'
 rename_i hf;subst hf;cases hp';exact nf (E:=dt p q r) yU (fun x y c w hc=>GA Tryz.func234 (by kernel_rfl) (by kernel_rfl) (by kernel_rfl) (by kernel_rfl) x y c w hc) rfl hrun hm hl
 split at hp'
 rename_i hf;subst hf;cases hp';exact nf (E:=dt p q r) zt (fun x y c w hc=>FA Tryz.func251 (by kernel_rfl) (by kernel_rfl) (by kernel_rfl) (by kernel_rfl) x y c w hc) rfl hrun hm hl
 split at hp'
 rename_i hf;subst hf;have e:((dt p q r).cR 66).isSome=true:=by show(vc p q r 66).isSome=true; unfold vc; simp[hp']
 rw[e];exact hp pc hp' args m v m' hrun j w args' hm hl
 split at hp'
 rename_i hf;subst hf;have e:((dt p q r).cR 11).isSome=true:=by show(vc p q r 11).isSome=true; unfold vc; simp[hp']
 rw[e];exact hq pc hp' args m v m' hrun j w args' hm hl
 split at hp'
 rename_i hf;subst hf;have e:((dt p q r).cR 70).isSome=true:=by show(vc p q r 70).isSome=true; unfold vc; simp[hp']
 rw[e];exact hr pc hp' args m v m' hrun j w args' hm hl
 cases hp'
def mQ:EnvOk lL:=ru (fun c h=>by cases h) (fun c h=>by cases h) (fun c h=>by cases h)
def zI(os:Os)(args:PO ON):laidMetH Tryz.prog qc ((World.doorLaid Tryz.prog 400 os).forCall (fun _ _=>0) ⟨#[],args,[]⟩).memory :=
 laidMetH_of_parts3 (fuel:=8) (laidMet_of_run' 8 (by kernel_rfl) (by kernel_rfl)) (by kernel_rfl) (by kernel_rfl)
noncomputable def j8 (f:PU):PE PSem:=if f=234 then some ⟨uJ Ih⟩ else if f=251 then some ⟨uJ I6⟩ else none
def oC(p q r:PE Prim):IM (dt p q r) j8:=by
 intro f S hS;unfold j8 at hS
 split at hS
 rename_i e; cases hS; subst e;exact⟨⟨dD uU⟩,rfl,fun h=>kZ Ar h⟩
 split at hS
 rename_i e; cases hS; subst e;exact⟨⟨dD rX⟩,rfl,fun h=>kZ AS h⟩
 cases hS
end Go.Proofs.YtpkadoocdgdcfaaGreatDoor
end
section
namespace Go.Ab.W
open Go Go.Ab
attribute [local irreducible] Tm.at Trie.set Trie.get PJ.get PJ.set PJ.alloc PJ.ww PJ.kill
section
variable{E:Env}{n:Nat}{m0:PJ}{fs:Fs}{ps ps':PM Pc}{ops:PO Oper}{os:PM Oper}{K:Tm->PJ->Prop}{prs:PM (Nat×Nat)}
variable{ty:OO}{p:String}{af:PO Edge}{d:Nat}{o:Op}{g:PE (Nat×Bool)}{v:ON}
inductive Nk
 | any
 | call
 | rd (b:Nat)
 | wr (b:Nat)
 | low (b:Nat)
 | kp (l:PM Nat)
 | rn (o:PE Nat)
 | ka (l:PM (PE Nat))
def Nk.of:Nk->Note->Prop
 | .any,_=>True
 | .call,x=>x.next<=x.wl
 | .rd b,x=>x.read=some b
 | .wr b,x=>x.wrote=some b
 | .low b,x=>b<x.wl
 | .kp l,x=>∀b∈l,x.kept b=true
 | .rn o,x=>x.read=o
 | .ka l,x=>∀b,some b∈l->x.kept b=true
def NR:PM Nk->PM Note->Prop
 | [],[]=>True
 | b::bs,x::xs=>cV x=true/\b.of x/\NR bs xs
 | _,_=>False
def NR.at:∀{bs:PM Nk} {ns:PM Note} {i:Nat} {b:Nk},NR bs ns->bs[i]? = some b->∃x,ns[i]? = some x/\b.of x
 | b::bs,x::xs,0,c,h,e=>by simp only[MM,Option.some.injEq] at e; subst e; exact⟨x,rfl,h.2.1⟩
 | b::bs,x::xs,i+1,c,h,e=>by rw[Nl] at e ⊢; exact NR.at h.2.2 e
 | [],[],i,c,h,e=>by simp at e
 | [],_::_,_,_,h,_=>h.elim
 | _::_,[],_,_,h,_=>h.elim
def NR.all:∀{bs:PM Nk} {ns:PM Note},NR bs ns->ns.all cV=true
 | [],[],_=>rfl
 | _::_,_::_,h=>by rw[NF,h.1,NR.all h.2.2]; rfl
 | [],_::_,h=>h.elim
 | _::_,[],h=>h.elim
def NR.snoc:∀{bs:PM Nk} {ns:PM Note} {b:Nk} {x:Note},NR bs ns->cV x=true->b.of x->NR (bs++[b]) (ns++[x])
 | [],[],_,_,_,h1,h2=>⟨h1,h2,trivial⟩
 | _::_,_::_,_,_,h,h1,h2=>⟨h.1,h.2.1,NR.snoc h.2.2 h1 h2⟩
 | [],_::_,_,_,h,_,_=>h.elim
 | _::_,[],_,_,h,_,_=>h.elim
def Nk.Kn:Nk->Bool
 | .call=>true
 | _=>false
def EK(ops:PO Oper)(ss:PM Nk)(p:Nat×Nat):Prop :=
 match ss[p.1]?,ss[p.2]? with
  | some (.rd b),some (.wr b')=>b≠b'/\aA (ops.getD p.1 default).op=false
  | some (.wr b),some (.rd b')=>b'≠b/\aA (ops.getD p.2 default).op=false
  | some (.rd b),some (.low b')=>b<=b'/\aA (ops.getD p.1 default).op=false
  | some (.low b),some (.rd b')=>b'<=b/\aA (ops.getD p.2 default).op=false
  | some (.rd b),some (.kp l)=>b∈l/\aA (ops.getD p.1 default).op=false
  | some (.kp l),some (.rd b)=>b∈l/\aA (ops.getD p.2 default).op=false
  | some (.rd b),some (.ka l)=>some b∈l/\aA (ops.getD p.1 default).op=false
  | some (.ka l),some (.rd b)=>some b∈l/\aA (ops.getD p.2 default).op=false
  | some (.rn o),some (.ka l)=>o∈l/\aA (ops.getD p.1 default).op=false
  | some (.ka l),some (.rn o)=>o∈l/\aA (ops.getD p.2 default).op=false
  | some a,some b=>((a.Kn || !(aA (ops.getD p.1 default).op)) &&(b.Kn || !(aA (ops.getD p.2 default).op)))=true
  | _,_=>False
def gq(ops:PO Oper)(ss:PM Nk):PM (Nat×Nat)->Prop
 | []=>True
 | p::ps=>EK ops ss p/\gq ops ss ps
def JF(ops:PO Oper)(ss:PM Nk):PM (Nat×Nat)->Bool
 | []=>true
 | p::ps=>(match ss[p.1]?,ss[p.2]? with
  | some (.rd _),some (.wr _)=>false
  | some (.wr _),some (.rd _)=>false
  | some (.rd _),some (.low _)=>false
  | some (.low _),some (.rd _)=>false
  | some (.rd _),some (.kp _)=>false
  | some (.kp _),some (.rd _)=>false
  | some (.rd _),some (.ka _)=>false
  | some (.ka _),some (.rd _)=>false
  | some (.rn _),some (.ka _)=>false
  | some (.ka _),some (.rn _)=>false
  | some a,some b=>((a.Kn || !(aA (ops.getD p.1 default).op)) &&(b.Kn || !(aA (ops.getD p.2 default).op)))
  | _,_=>false)&&JF ops ss ps
def gq.all{ops:PO Oper}{ss:PM Nk}:∀{ps:PM (Nat×Nat)},JF ops ss ps=true->gq ops ss ps
 | [],_=>trivial
 | p::ps,h=>by
  simp only[JF,My] at h;refine⟨?_,gq.all h.2⟩;have h1:=h.1;unfold EK
  split at h1
  cases h1
  cases h1
  cases h1
  cases h1
  cases h1
  cases h1
  cases h1
  cases h1
  cases h1
  cases h1
  rename_i a b ha hb hn1 hn2;exact h1
  cases h1
def gq.nil{ops:PO Oper}{ss:PM Nk}:gq ops ss []:=trivial
section
variable{ops:PO Oper}{ss:PM Nk}{ps:PM (Nat×Nat)}{i j b b':Nat}{l:PM Nat}{o:PE Nat}{la:PM (PE Nat)}
def gq.rw(h1:ss[i]? = some (.rd b))(h2:ss[j]? = some (.wr b'))(he:aA (ops.getD i default).op=false)(hne:b≠b')(k:gq ops ss ps):gq ops ss ((i,j)::ps):=by
 refine⟨?_,k⟩;simp only[EK,h1,h2]; exact⟨hne,he⟩
def gq.rk(h1:ss[i]? = some (.rd b))(h2:ss[j]? = some (.kp l))(he:aA (ops.getD i default).op=false)(hm:b∈l)(k:gq ops ss ps):gq ops ss ((i,j)::ps):=by
 refine⟨?_,k⟩;simp only[EK,h1,h2]; exact⟨hm,he⟩
end
def G9{r e:Note}(h:e.next<=e.wl):Note.ok r e=true:=by
 unfold Note.ok
 split
 rfl
 rename_i b _
 by_cases hb:b<e.wl
 simp[hb]
 have:e.next<=b:=by omega
 simp[this]
def A2{r e:Note}{b b':Nat}(h1:r.read=some b)(h2:e.wrote=some b')(hne:b≠b'):Note.ok r e=true:=by
 unfold Note.ok;rw[h1,h2];simp[hne]
def xo{r e:Note}{b b':Nat}(h1:r.read=some b)(h2:b'<e.wl)(hne:b<=b'):Note.ok r e=true:=by
 unfold Note.ok;rw[h1];simp[show b<e.wl by omega]
def AK{r e:Note}{b:Nat}{l:PM Nat}(h1:r.read=some b)(h2:∀b∈l,e.kept b=true)(hm:b∈l):Note.ok r e=true:=by
 unfold Note.ok;rw[h1];simp[h2 b hm]
def uK{r e:Note}{b:Nat}{l:PM (PE Nat)}(h1:r.read=some b)(h2:∀b,some b∈l->e.kept b=true)(hm:some b∈l):Note.ok r e=true:=by
 unfold Note.ok;rw[h1];simp[h2 b hm]
def zO{r e:Note}{o:PE Nat}{l:PM (PE Nat)}(h1:r.read=o)(h2:∀b,some b∈l->e.kept b=true)(hm:o∈l):Note.ok r e=true:=by
 cases o with
 | none=>unfold Note.ok; rw[h1]
 | some b=>exact uK h1 h2 hm
def Nk.ok{a b:Nk}{x y:Note}(_:a.of x)(hy:b.of y)(h:b.Kn=true):Note.ok x y=true:=by
 cases b with
 | call=>exact G9 hy
 | _=>cases h
def w5{ops:PO Oper}{ss:PM Nk}{ns:PM Note}(h:NR ss ns):∀{prs:PM (Nat×Nat)},gq ops ss prs->prs.all (dj ns ops)=true
 | [],_=>rfl
 | p::prs,hk=>by
  rw[NF,w5 h hk.2,Bool.and_true];have h1:=hk.1;unfold EK at h1
  split at h1
  rename_i b b' ha hb;obtain⟨x,hx1,hx2⟩:=h.at ha;obtain⟨y,hy1,hy2⟩:=h.at hb;simp only[dj,hx1,hy1,A2 hx2 hy2 h1.1,h1.2,Oz,NG,Oy,Ns]
  rename_i b b' ha hb;obtain⟨x,hx1,hx2⟩:=h.at ha;obtain⟨y,hy1,hy2⟩:=h.at hb;simp only[dj,hx1,hy1,A2 hy2 hx2 h1.1,h1.2,Oz,NG,Oy,Ns]
  rename_i b b' ha hb;obtain⟨x,hx1,hx2⟩:=h.at ha;obtain⟨y,hy1,hy2⟩:=h.at hb;simp only[dj,hx1,hy1,xo hx2 hy2 h1.1,h1.2,Oz,NG,Oy,Ns]
  rename_i b b' ha hb;obtain⟨x,hx1,hx2⟩:=h.at ha;obtain⟨y,hy1,hy2⟩:=h.at hb;simp only[dj,hx1,hy1,xo hy2 hx2 h1.1,h1.2,Oz,NG,Oy,Ns]
  rename_i b b' ha hb;obtain⟨x,hx1,hx2⟩:=h.at ha;obtain⟨y,hy1,hy2⟩:=h.at hb;simp only[dj,hx1,hy1,AK hx2 hy2 h1.1,h1.2,Oz,NG,Oy,Ns]
  rename_i b b' ha hb;obtain⟨x,hx1,hx2⟩:=h.at ha;obtain⟨y,hy1,hy2⟩:=h.at hb;simp only[dj,hx1,hy1,AK hy2 hx2 h1.1,h1.2,Oz,NG,Oy,Ns]
  rename_i b l ha hb;obtain⟨x,hx1,hx2⟩:=h.at ha;obtain⟨y,hy1,hy2⟩:=h.at hb;simp only[dj,hx1,hy1,uK hx2 hy2 h1.1,h1.2,Oz,NG,Oy,Ns]
  rename_i b l ha hb;obtain⟨x,hx1,hx2⟩:=h.at ha;obtain⟨y,hy1,hy2⟩:=h.at hb;simp only[dj,hx1,hy1,uK hy2 hx2 h1.1,h1.2,Oz,NG,Oy,Ns]
  rename_i b l ha hb;obtain⟨x,hx1,hx2⟩:=h.at ha;obtain⟨y,hy1,hy2⟩:=h.at hb;simp only[dj,hx1,hy1,zO hx2 hy2 h1.1,h1.2,Oz,NG,Oy,Ns]
  rename_i b l ha hb;obtain⟨x,hx1,hx2⟩:=h.at ha;obtain⟨y,hy1,hy2⟩:=h.at hb;simp only[dj,hx1,hy1,zO hy2 hx2 h1.1,h1.2,Oz,NG,Oy,Ns]
  rename_i a b _ _ _ _ _ _ _ _ _ _ ha hb;obtain⟨x,hx1,hx2⟩:=h.at ha;obtain⟨y,hy1,hy2⟩:=h.at hb;simp only[My,NJ,Ng] at h1;simp only[dj,hx1,hy1,My,NJ,Ng];refine⟨?_,?_⟩
  rcases h1.2 with h2|h2
  exact .inr (Nk.ok hx2 hy2 h2)
  exact .inl h2
  rcases h1.1 with h2|h2
  exact .inr (Nk.ok hy2 hx2 h2)
  exact .inl h2
  exact h1.elim
def NR.rev:∀{bs:PM Nk} {ns:PM Note},NR bs ns->NR bs.reverse ns.reverse
 | [],[],_=>trivial
 | b::bs,x::xs,h=>by
  rw[List.reverse_cons,List.reverse_cons];exact(NR.rev h.2.2).snoc h.1 h.2.1
 | [],_::_,h=>h.elim
 | _::_,[],h=>h.elim
variable{ss:PM Nk}
def Wn(E:Env)(n:Nat)(ops:PO Oper)(prs:PM (Nat×Nat))(K:Tm->PJ->Prop)(os:PM Oper)(ss:PM Nk)(m0:PJ)(fs:Fs)(ps:PM Pc):Prop :=
 ∀t m ns,Fr t fs->Hp m0 m ps->NR ss ns->dO E n ops (fun t m ns=>(prs.all (dj ns ops)&&ns.all cV)=true/\K t m) os t m ns
def Wn.nil{Q:PK->Tm->PJ->Prop}(hk:∀m,Hp m0 m ps->gq ops ss.reverse prs)(h:At Q .normal m0 fs ps):Wn E n ops prs (Q .normal) [] ss m0 fs ps:=fun t m ns hf hm hn=>by
 refine⟨?_,h t m hf hm⟩;rw[w5 hn.rev (hk m hm),hn.rev.all]; rfl
def Wn.xg{α:Type}{V:α->ON}{N:α->PM Pc}{c:Nk}(h:∀t m,Fr t fs->Hp m0 m ps->m.wl=m.next->(∀b,aQ E t o=some b->b<m.next)/\∀K:ON->PJ->Prop,(∀x m',Hp m0 m' (N x)->c.of { read:=aQ E t o,wl:=m'.wl,next:=m.next,wrote:=dT E t o,kept:=gJ m m'}->K (V x) m')->bw E t m o K)
  (hg:vQ ops fs g true) (dst:PE Nat) (hd:∀d,dst=some d->Nat.blt d n=true) (k:∀x,Wn E n ops prs K os (c::ss) m0 (match dst with|some d=>(d,V x)::fs|none=>fs) (N x)):Wn E n ops prs K (⟨dst,o,ty,p,af,g⟩::os) ss m0 fs ps:=by
 intro t m ns hf hm hn;simp only[dO,hg t _ _ _ _ _ hf,if_true];have hx:=hm.ext.next
 have hm':Hp m0 (m.ww m.next) ps:=hm.ww (by omega)
 have hwl:(m.ww m.next).wl=(m.ww m.next).next:=by rw[PJ.wl_ww,PJ.next_ww]
 have e0:({ next:=m.next,wl:=m.next,bT:=m.bT,base:=m.base}:PJ)=m.ww m.next:=by unfold PJ.ww; rfl
 rw[e0];obtain⟨h1,h2⟩:=h t _ hf hm' hwl;rw[PJ.next_ww] at h1;refine bw.A (h2 _ fun x m' hm'' hc=>?_);rw[PJ.next_ww] at hc;have hw:=hm''.ext.wl;have e1:({ next:=m'.next,wl:=min m.wl m'.wl,bT:=m'.bT,base:=m'.base}:PJ)=m'.ww (min m.wl m'.wl):=by unfold PJ.ww; rfl
 have hw0:=hm.ext.wl;have hfin:Hp m0 (m'.ww (min m.wl m'.wl)) (N x):=hm''.ww (by omega)
 have hkp:gJ (m.ww m.next) m'=gJ m m':=by
  funext b
  unfold gJ;rw[PJ.get_ww]
 rw[hkp] at hc;have hnr:NR (c::ss) ({ read:=aQ E t o,wl:=m'.wl,next:=m.next,wrote:=dT E t o,kept:=gJ m m'}::ns):=⟨tA h1,hc,hn⟩
 cases dst with
 | none=>exact⟨t,rfl,by rw[e1]; exact k x t _ _ hf hfin hnr⟩
 | some d =>
  have hd':d<n:=by have:=hd d rfl; rwa[N1] at this
  exact⟨t.set d (V x),by rw[cy,MG hd'],by rw[e1]; exact k x _ _ _ hf.set hfin hnr⟩
def Wn.x{α:Type}{V:α->ON}{N:α->PM Pc}(h:Ox E m0 fs ps o V N)(hg:vQ ops fs g true)(hd:Nat.blt d n=true)(k:∀x,Wn E n ops prs K os (.any::ss) m0 ((d,V x)::fs) (N x)):Wn E n ops prs K (⟨some d,o,ty,p,af,g⟩::os) ss m0 fs ps :=
 Wn.xg (c:=.any) (fun t m hf hm _=>⟨(h t m hf hm).1,fun K hK=>(h t m hf hm).2 K fun x m' h1=>hK x m' h1 trivial⟩) hg (some d) (fun d' e=>by cases e; exact hd) k
def Wn.x0{α:Type}{V:α->ON}{N:α->PM Pc}(h:Ox E m0 fs ps o V N)(hg:vQ ops fs g true)(k:∀x,Wn E n ops prs K os (.any::ss) m0 fs (N x)):Wn E n ops prs K (⟨none,o,ty,p,af,g⟩::os) ss m0 fs ps :=
 Wn.xg (c:=.any) (fun t m hf hm _=>⟨(h t m hf hm).1,fun K hK=>(h t m hf hm).2 K fun x m' h1=>hK x m' h1 trivial⟩) hg none (fun d' e=>by cases e) k
def zg:ON->Bool
 | .int _ _|.bool _|.slice _ _ _|.map _|.pointer _=>true
 | _=>false
def Lo:ON->Bool
 | .func (.func _) a c=>a.toList.all zg&&c.toList.all zg
 | v=>zg v
def Be{α:Type}(ps:PM Pc)(N:α->PM Pc):PM Nat->Prop
 | []=>True
 | b::l=>(∃cs k,pk ps k=some (.obj b (.cells cs .own))/\cs.all Lo=true/\∀x,∃k',pk (N x) k'=some (.obj b (.cells cs .own)))/\Be ps N l
def ET{m m':PJ}{b:Nat}(h:m.get b=m'.get b):gJ m m' b=true:=by
 unfold gJ;rw[NJ];exact .inr (@decide_eq_true _ (Classical.propDecidable _) h)
def Be.kept{α:Type}{N:α->PM Pc}{m m':PJ}{x:α}(hm:Hp m0 m ps)(hm':Hp m0 m' (N x)):∀{l:PM Nat},Be ps N l->∀b∈l,gJ m m' b=true
 | [],_,b,hb=>by cases hb
 | c::l,h,b,hb=>by
  rcases M0.1 hb with rfl|hb
  obtain⟨cs,k,h1,h2,h3⟩:=h.1;obtain⟨k',h4⟩:=h3 x;exact ET (by rw[(hm.get h1).2.2,(hm'.get h4).2.2])
  exact Be.kept hm hm' h.2 b hb
def Wn.xk{α:Type}{V:α->ON}{N:α->PM Pc}{l:PM Nat}(h:Ox E m0 fs ps o V N)(hl:Be ps N l)(hg:vQ ops fs g true)(hd:Nat.blt d n=true)(k:∀x,Wn E n ops prs K os (.kp l::ss) m0 ((d,V x)::fs) (N x)):Wn E n ops prs K (⟨some d,o,ty,p,af,g⟩::os) ss m0 fs ps :=
 Wn.xg (c:=.kp l) (fun t m hf hm _=>⟨(h t m hf hm).1,fun K hK=>(h t m hf hm).2 K fun x m' h1=>hK x m' h1 (Be.kept hm h1 hl)⟩) hg (some d) (fun d' e=>by cases e; exact hd) k
def Hp.ne{m:PJ}{i j b b':Nat}{x y:Pc}(h:Hp m0 m ps)(hx:pk ps i=some x)(hy:pk ps j=some y)(hb:x.rC=some b)(hb':y.rC=some b')(hne:i≠j)(ho:x.own=true):b≠b':=fun e=>(gS h.apart hx hy hne).1 b (Pc.Ke ho hb) (.inl (by rw[e]; exact hb'))
def Oc(E:Env)(m0:PJ)(fs:Fs)(ps:PM Pc)(o:Op){α:Type}(V:α->ON)(N:α->PM Pc):Prop :=
 ∀t m,Fr t fs->Hp m0 m ps->m.wl=m.next->(∀b,aQ E t o=some b->b<m.next)/\∀K:ON->PJ->Prop,(∀x m',Hp m0 m' (N x)->m.next<=m'.wl->K (V x) m')->bw E t m o K
def q8{α:Type}{V:α->ON}{N:α->PM Pc}{f:OP}{g:PU}{ars:PO OP}{ts:PO OO}{args:PM ON}(hf:ev E fs f=some (.func (.func g) #[] #[]))(ha:nv E fs ars.toList=some args)(hc:∀m,Hp m0 m ps->aD E g args m (fun v m'=>∃x,v=V x/\Hp m m' (N x)))(ho:∀x,vi (N x)=true):Oc E m0 fs ps (.call ⟨.value f,ars,ts⟩) V (fun x=>N x++ps) :=
 fun t m hfr hm hwl=>⟨fun b hb=>(by simp[aQ] at hb),fun K hK=>by
  show ko E (au E t f) (bI E t ars.toList) m _
  rw[hfr.ev hf,hfr.nv ha,qv];refine(hc m hm).mono fun v m' ⟨x,e,h⟩=>?_;rw[e];refine hK x m' (hm.after h fun p hp=>MK.1 (ho x) p hp) ?_;have:=h.ext.wl;omega⟩
def Wn.c{α:Type}{V:α->ON}{N:α->PM Pc}(h:Oc E m0 fs ps o V N)(hg:vQ ops fs g true)(hd:Nat.blt d n=true)(k:∀x,Wn E n ops prs K os (.call::ss) m0 ((d,V x)::fs) (N x)):Wn E n ops prs K (⟨some d,o,ty,p,af,g⟩::os) ss m0 fs ps :=
 Wn.xg (c:=.call) (fun t m hf hm hw=>⟨(h t m hf hm hw).1,fun K hK=>(h t m hf hm hw).2 K fun x m' h1 h2=>hK x m' h1 h2⟩) hg (some d) (fun d' e=>by cases e; exact hd) k
def Wn.od(h:Od E m0 fs ps o v ps')(hd:Nat.blt d n=true)(k:Wn E n ops prs K os (.any::ss) m0 ((d,v)::fs) ps'):Wn E n ops prs K (⟨some d,o,ty,p,af,none⟩::os) ss m0 fs ps:=Wn.x h.x gn hd fun _=>k
def Wn.o0(h:Od E m0 fs ps o v ps')(k:Wn E n ops prs K os (.any::ss) m0 fs ps'):Wn E n ops prs K (⟨none,o,ty,p,af,none⟩::os) ss m0 fs ps:=Wn.x0 h.x gn fun _=>k
def Wn.og(h:Od E m0 fs ps o v ps')(hg:vQ ops fs g true)(hd:Nat.blt d n=true)(k:Wn E n ops prs K os (.any::ss) m0 ((d,v)::fs) ps'):Wn E n ops prs K (⟨some d,o,ty,p,af,g⟩::os) ss m0 fs ps:=Wn.x h.x hg hd fun _=>k
def Wn.Ms{x:OP}{b off:Nat}{ty':OO}(hx:ev E fs x=some (ptr b off))(h:Od E m0 fs ps (.load ty' x) v ps')(hg:vQ ops fs g true)(hd:Nat.blt d n=true)(k:Wn E n ops prs K os (.rd b::ss) m0 ((d,v)::fs) ps'):Wn E n ops prs K (⟨some d,.load ty' x,ty,p,af,g⟩::os) ss m0 fs ps :=
 Wn.xg (V:=fun _:PN=>v) (N:=fun _=>ps') (c:=.rd b) (fun t m hf hm _=>⟨(h t m hf hm).1,fun K hK=>(h t m hf hm).2 K fun m' h1=>hK () m' h1 (by show aQ E t (.load ty' x)=some b; simp only[aQ,hf.ev hx]; rfl)⟩) hg (some d) (fun d' e=>by cases e; exact hd) fun _=>k
def Wn.Ls{x:OP}{b off:Nat}{ty':OO}(hx:ev E fs x=some (ptr b off))(h:Od E m0 fs ps (.load ty' x) v ps')(hd:Nat.blt d n=true)(k:Wn E n ops prs K os (.rd b::ss) m0 ((d,v)::fs) ps'):Wn E n ops prs K (⟨some d,.load ty' x,ty,p,af,none⟩::os) ss m0 fs ps:=Wn.Ms hx h gn hd k
def Wn.L9{x y:OP}{b off:Nat}{ty':OO}(hx:ev E fs x=some (ptr b off))(h:Od E m0 fs ps (.store ty' x y) v ps')(hg:vQ ops fs g true)(k:Wn E n ops prs K os (.wr b::ss) m0 fs ps'):Wn E n ops prs K (⟨none,.store ty' x y,ty,p,af,g⟩::os) ss m0 fs ps :=
 Wn.xg (V:=fun _:PN=>v) (N:=fun _=>ps') (c:=.wr b) (fun t m hf hm _=>⟨(h t m hf hm).1,fun K hK=>(h t m hf hm).2 K fun m' h1=>hK () m' h1 (by show dT E t (.store ty' x y)=some b; simp only[dT,hf.ev hx]; rfl)⟩) hg none (fun d' e=>by cases e) fun _=>k
def Wn.Mi{x y:OP}{b off:Nat}{ty':OO}(hx:ev E fs x=some (ptr b off))(h:Od E m0 fs ps (.store ty' x y) v ps')(k:Wn E n ops prs K os (.wr b::ss) m0 fs ps'):Wn E n ops prs K (⟨none,.store ty' x y,ty,p,af,none⟩::os) ss m0 fs ps:=Wn.L9 hx h gn k
def Wn.s(hg:vQ ops fs g false)(hd:Nat.blt d n=true)(k:Wn E n ops prs K os (.call::ss) m0 ((d,undef)::fs) ps):Wn E n ops prs K (⟨some d,o,ty,p,af,g⟩::os) ss m0 fs ps:=by
 have hd':d<n:=by rwa[N1] at hd
 intro t m ns hf hm hn;simp only[dO,hg t _ _ _ _ _ hf,MJ,if_false];exact⟨t.set d undef,by rw[cy,MG hd'],k _ _ _ hf.set hm ⟨rfl,MA _,hn⟩⟩
def Wn.eQ(h:ah m0 ps ps')(k:Wn E n ops prs K os ss m0 fs ps'):Wn E n ops prs K os ss m0 fs ps:=fun t m ns hf hm hn=>k t m ns hf (h m hm) hn
def Wn.len{α:Type}{f:α->PM ON}{k w l:Nat}{a:OL}{xs:PM α}(hp:pk ps k=some (.sl a w l (xs.map f)))(h:l=xs.length->Wn E n ops prs K os ss m0 fs ps):Wn E n ops prs K os ss m0 fs ps:=fun t m ns hf hm hn=>by
 refine h ?_ t m ns hf hm hn;rcases hm.get hp with⟨h0,h1,_⟩|⟨b,tg,_,h1⟩
 rw[h0,List.map_eq_nil_iff.1 h1]; rfl
 have:=h1.2.2.2.1; rw[MS] at this; exact this.symm
def Wk.da{fn:PU}{ro:PE Nat}{Q:PK->Tm->PJ->Prop}{id:Nat}(hp:iz ops=some prs)(h:Wn E n ops prs (Q .normal) ops.toList [] m0 fs ps):Wk E n fn ro (.region id ops true) Q m0 fs ps:=fun t m hf hm=>.draw hp (h t m [] hf hm trivial)
end
section
variable{E:Env}{n:Nat}{fn:PU}{m0:PJ}{fs:Fs}{ps:PM Pc}{Q:PK->Tm->PJ->Prop}
structure Rn where
 st:LoopState
 pe:PE Code
 ps:PM Pc
end
section
variable{E:Env}{n:Nat}{m0 m1 m m':PJ}{fs:Fs}{ps:PM Pc}{ops:PO Oper}{os:PM Oper}{K:Tm->PJ->Prop}{x y:OP}{ty:OO}
end
section
variable{α β:Type}[DecidableEq α]
structure KeyE(P:OQ)(kt:OO)(kE:α->ON):Prop where
 eq:∀a b,jn P Op.maxDepth kt (kE a) (kE b)=some (decide (a=b))
 ok:∀a,iw P kt (kE a)=true
 plain:∀a,bu (kE a)=true
 same:∀a,Instr.sameBits 10000 (kE a) (kE a)=true
end
section
variable{E:Env}{n:Nat}{m0 m:PJ}{fs:Fs}{ps:PM Pc}{x y z:OP}{ty:OO}
variable{α β:Type}[DecidableEq α]
def Dr{γ:Type}{f:γ->PM ON}{xs:PM γ}{k cap w l:Nat}{a:OL}(h:Hp m0 m ps)(hp:pk ps k=some (.rd a cap w l (xs.map f))):l=xs.length:=by
 have:=(h.get hp).1;rw[MS] at this;exact this.symm
end
section
variable{E:Env}{n:Nat}{m0 m:PJ}{fs:Fs}{ps ps':PM Pc}{x y z:OP}{ty:OO}
end
end Go.Ab.W
section
open Go Go.Ab Go.Ab.W
abbrev Po:=@Wn.nil
abbrev Pt:=@Wn.c
abbrev O9:=@Wn.od
abbrev Pz:=@Wn.o0
abbrev PB:=@Wn.s
abbrev PA:=@Wk.da
end
end
section
namespace Go.Ab.W
open Go Go.Ab
set_option maxRecDepth 10000
attribute [local irreducible] Tm.at Trie.set Trie.get PJ.get PJ.set PJ.alloc PJ.ww
section
variable{E:Env}{n:Nat}{m0:PJ}{fs:Fs}{ps:PM Pc}{x y z:OP}{v:ON}{ty ty2:OO}
end
end Go.Ab.W
end
section
namespace Go.Ab.W
open Go Go.Ab
attribute [local irreducible] Tm.at Trie.set Trie.get PJ.get PJ.set PJ.alloc PJ.ww PJ.kill
section
variable{α:Type}
def Jc:PM α->PE (α×α×α×α×α×α×α×α)
 | [a,b,c,d,e,f,g,h]=>some (a,b,c,d,e,f,g,h)
 | _=>none
def nw{xs:PM α}{a b c d e f g h:α}(hx:Jc xs=some (a,b,c,d,e,f,g,h)):xs=[a,b,c,d,e,f,g,h]:=by
 unfold Jc at hx
 split at hx
 cases hx; rfl
 cases hx
end
section
variable{E:Env}{n:Nat}{m0 m:PJ}{fs:Fs}{ps:PM Pc}{x y z:OP}{ty:OO}
def ah.qF{α:Type}{xs:PM α}{f:α->PM ON}{k b w l:Nat}{cs:PM ON}(hp:pk ps k=some (.obj b (.cells cs .own)))(hx:cs=(xs.map f).flatten)(hl:xs.length=l)(he:Enc f w)(h0:Nat.blt 0 w=true):ah m0 ps (du ps k (.arr b w l (xs.map f) .own)):=fun m h=>by
 subst hx;exact h.put hp rfl rfl rfl (MA _) h.ext ⟨(h.get hp).1,(h.get hp).2.1,(h.get hp).2.2,by rw[MS]; exact hl,fun e hm=>by obtain⟨x,_,rfl⟩:=Ov.1 hm; exact he.1 x,.inl rfl,by rwa[N1] at h0⟩ fun _ _ _=>rfl
def ah.vF{α:Type}{xs ys:PM α}{f:α->PM ON}{k b w l:Nat}{cs:PM ON}{tg:Tag}(hp:pk ps k=some (.arr b w l (xs.map f) tg))(hx:xs=ys)(hc:(ys.map f).flatten=cs):ah m0 ps (du ps k (.obj b (.cells cs tg))):=fun m h=>by
 subst hx hc;exact h.put hp rfl rfl rfl (MA _) h.ext ⟨(h.get hp).1,(h.get hp).2.1,(h.get hp).2.2.1⟩ fun _ _ _=>rfl
def lI{el:OO}{b len w:Nat}{i:Int}{kd:IntKind}(h:ArT E.P ty el len w)(hx:ev E fs x=some (ptr b 0))(hy:ev E fs y=some (.int kd i))(hi:0<=i/\i.toNat<len):Od E m0 fs ps (.indexAddr ty x y) (ptr b (i.toNat*w+0)) ps:=by
 obtain⟨j,rfl⟩:=Int.eq_ofNat_of_zero_le hi.1;have hj:j<len:=by simpa using hi.2
 refine II hx hy ?_;rw[J6 h (b:=b) (o:=0) hj];simp
end
section
variable{E:Env}{n:Nat}{m0 m:PJ}{fs:Fs}{ps:PM Pc}
def wu(l:PM Pc):Bool:=l.all Pc.bound
def bP{α:Type}{V:α->ON}{N:α->PM Pc}{f:OP}{g:PU}{ars:PO OP}{ts:PO OO}{args:PM ON}(hf:ev E fs f=some (.func (.func g) #[] #[]))(ha:nv E fs ars.toList=some args)(hc:∀m,Hp m0 m ps->aD E g args m (fun v m'=>∃x,v=V x/\Hp m m' (N x++[.gen (aJ (CU ps))])))(ho:∀x,wu (N x)=true):Ox E m0 fs ps (.call ⟨.value f,ars,ts⟩) V (fun x=>N x++ps) :=
 rM hf ha fun m hm=>by
  simp only[N5,NX];exact(hc m hm).mono fun v m' ⟨x,e,h⟩=>⟨x,e,hm.DD h fun p hp=>MK.1 (ho x) p hp⟩
def bJ{α:Type}{V:α->ON}{N:α->PM Pc}{f:OP}{g:PU}{ars:PO OP}{ts:PO OO}{args:PM ON}(hf:ev E fs f=some (.func (.func g) #[] #[]))(ha:nv E fs ars.toList=some args)(hc:∀m,Hp m0 m ps->aD E g args m (fun v m'=>∃x,v=V x/\Hp m m' (N x++[.gen (aJ (CU ps))])))(ho:∀x,wu (N x)=true):Oc E m0 fs ps (.call ⟨.value f,ars,ts⟩) V (fun x=>N x++ps) :=
 fun t m hfr hm hwl=>⟨fun b hb=>(by simp[aQ] at hb),fun K hK=>by
  show ko E (au E t f) (bI E t ars.toList) m _
  rw[hfr.ev hf,hfr.nv ha,qv];refine(hc m hm).mono fun v m' ⟨x,e,h⟩=>?_;rw[e];refine hK x m' (hm.DD h fun p hp=>MK.1 (ho x) p hp) ?_;have:=h.ext.wl;omega⟩
end
section
variable{E:Env}{n:Nat}{m0:PJ}{fs:Fs}{ps:PM Pc}{ops:PO Oper}{os:PM Oper}{dr:Bool}
def Wo.aL{K:Tm->PJ->Prop}{α:Type}{f:α->PM ON}{k w l cap:Nat}{a:OL}{xs:PM α}(hp:pk ps k=some (.rd a cap w l (xs.map f)))(h:l=xs.length->Wo dr E n ops K os m0 fs ps):Wo dr E n ops K os m0 fs ps:=by
 have key:∀m,Hp m0 m ps->l=xs.length:=fun m hm=>Dr hm hp;cases dr with
 | false=>exact fun t m hf hm=>h (key m hm) t m hf hm
 | true=>exact fun t m w hf hm hw=>h (key m hm) t m w hf hm hw
def Wn.aL{prs:PM (Nat×Nat)}{K:Tm->PJ->Prop}{ss:PM Nk}{α:Type}{f:α->PM ON}{k w l cap:Nat}{a:OL}{xs:PM α}(hp:pk ps k=some (.rd a cap w l (xs.map f)))(h:l=xs.length->Wn E n ops prs K os ss m0 fs ps):Wn E n ops prs K os ss m0 fs ps :=
 fun t m ns hf hm hn=>h (Dr hm hp) t m ns hf hm hn
end
section
variable{E:Env}{m0:PJ}{fs:Fs}{ps:PM Pc}{ty:OO}
def Kt{α:Type}{f:α->PM ON}{elem ty2:OO}{w k c0 l l1:Nat}{a a0:OL}{xs ys:PM α}{ars:PO OP}(he:Enc f w)(ht:SlT E.P ty elem w)(h4:∃e2,E.P.underlying ty2=some (.slice e2))(ha:nv E fs ars.toList=some [.slice a l l,.slice a0 l1 c0])(hp:pk ps k=some (.sl a w l (xs.map f)))(hr:∀m,Hp m0 m ps->Rd m a0 c0 w l1 (ys.map f))(hl:lim (xs++ys).length=true) :
  Ox E m0 fs ps (.call ⟨.builtin .append,ars,#[ty,ty2]⟩) (fun a':OL=>.slice a' (xs++ys).length (xs++ys).length) (fun a'=>du ps k (.sl a' w (xs++ys).length ((xs++ys).map f))):=fun t m hf hm=>⟨fun b hb=>(by simp[aQ] at hb),fun K hK=>by
 have h1:l=xs.length:=by
  have:=hm.get hp;rcases this with⟨h5,h1,_⟩|⟨b,tg,_,h1⟩
  rw[h5,List.map_eq_nil_iff.1 h1]; rfl
  have:=h1.2.2.2.1; rw[MS] at this; exact this.symm
 have h2:l1=ys.length:=by
  have:=(hr m hm).1; rw[MS] at this; exact this.symm
 have e2:l+l1=(xs++ys).length:=by rw[h1,h2,MV]
 obtain⟨a',m',h3,h0⟩:=nB (n:=l) ht h4 hm hp (hr m hm) (he.px ys) (he.fE ys) (by rw[e2]; exact hl)
 have:bD E.P .append #[ty,ty2] [.slice a l l,.slice a0 l1 c0] m=some (.slice a' (l+l1) (l+l1),m'):=h3;rw[Go.Ab.gO (hf.nv ha) this];have e1:xs.map f++ys.map f=(xs++ys).map f:=List.map_append.symm;rw[e1,e2] at h0;rw[e2];exact hK a' m' h0⟩
end
section
def mI(c:ON)(cs:PM ON)(o:Nat)(vs:PM ON):aH (c::cs) (o+1) vs=c::aH cs o vs:=by cases vs<;>rfl
def fh:∀(cs:PM ON) (o:Nat),aH cs o []=cs
 | [],0=>rfl
 | _::_,0=>rfl
 | [],_+1=>rfl
 | c::cs,o+1=>by rw[mI,fh cs o]
def oO{f:Nat->PM ON}{v:Nat->ON}(hf:∀x,f x=[v x]):∀{ys xs zs:PM Nat},ys++xs.drop ys.length=zs->ys.length<=xs.length->aH (xs.map f).flatten 0 (ys.map f).flatten=(zs.map f).flatten
 | [],xs,zs,h,_=>by
  rw[N5,List.length_nil,List.drop_zero] at h;rw[h];exact fh _ 0
 | y::ys,[],zs,_,hl=>by simp at hl
 | y::ys,x::xs,zs,h,hl=>by
  have ih:=oO hf (ys:=ys) (xs:=xs) (zs:=ys++xs.drop ys.length) rfl (by simpa using hl)
  subst h;simp only[OF,No,hf,List.cons_append,N5,Ni,List.drop_succ_cons] at ih ⊢
  show v y::aH _ 0 _=_
  rw[ih]
def Lc{f:Nat->PM ON}{v:Nat->ON}(hf:∀x,f x=[v x]){c:ON}{ys xs zs:PM Nat}(h:ys++xs.drop ys.length=zs)(hl:ys.length<=xs.length):aH (c::(xs.map f).flatten) 1 (ys.map f).flatten=c::(zs.map f).flatten:=by
 rw[show(1:Nat)=0+1 from rfl,mI,oO hf h hl]
variable{E:Env}{m0:PJ}{fs:Fs}{ps:PM Pc}{ty:OO}
def Lk{f:Nat->PM ON}{elem ty2:OO}{k b o q c0 l1:Nat}{a0:OL}{cs cs':PM ON}{ys:PM Nat}{ars:PO OP}(he:Enc f 1)(ht:SlT E.P ty elem 1)(ha:nv E fs ars.toList=some [.slice (some ⟨b,o,none⟩) q q,.slice a0 l1 c0])(hp:pk ps k=some (.obj b (.cells cs .own)))(hr:∀m,Hp m0 m ps->Rd m a0 c0 1 l1 (ys.map f))(hq:decide (ys.length<=q)=true)(ho:Nat.ble (o+q) cs.length=true)(hs:aH cs o (ys.map f).flatten=cs') :
  Od E m0 fs ps (.call ⟨.builtin .copy,ars,#[ty,ty2]⟩) (.int .i64 (ys.length:Int)) (du ps k (.obj b (.cells cs' .own))):=fun t m hf hm=>⟨fun b hb=>(by simp[aQ] at hb),fun K hK=>by
 have h2:l1=ys.length:=by
  have:=(hr m hm).1; rw[MS] at this; exact this.symm
 have hq':=of_decide_eq_true hq;have ho':=MD ho;have hc:=(hr m hm).cells;have hmin:min l1 q=l1:=by omega
 have hone:bh (ys.map f).flatten=true:=by
  unfold bh;rw[MK];intro x hx;obtain⟨e,h3,h5⟩:=List.mem_flatten.1 hx;exact MK.1 (he.fE ys e h3) x h5
 have hlen:(ys.map f).flatten.length=ys.length:=by
  clear hs hr hq hK h2 hq' hc hone
  induction ys with
  | nil=>rfl
  | cons x l ih=>rw[OF,No,MV,ih,he.1 x,Ni]; omega
 have hg:=(hm.get hp).2.2;have hsrc:cd (ax E.P elem) (.slice a0 l1 c0) (min l1 q) m=some (ys.map f).flatten:=by rw[ht.size,hmin]; exact hc
 cases hy:ys with
 | nil =>
  subst hy;have e1:cs'=cs:=by rw[<-hs]; exact fh cs o
  have h0:min l1 q=0:=by rw[hmin,h2]; rfl
  have:bD E.P .copy #[ty,ty2] [.slice (some ⟨b,o,none⟩) q q,.slice a0 l1 c0] m=some (.int .i64 0,m):=by
   show qK E.P ty _ _ m=_
   unfold qK;rw[h0] at hsrc;simp only[ht.und,ht.known,MO,MJ,if_false,h0,hsrc,hone]
  rw[Go.Ab.gO (hf.nv ha) this];exact hK m (by rw[e1]; exact hm.put hp rfl rfl rfl (MA _) hm.ext (hm.get hp) fun _ _ _=>rfl)
 | cons y y2 =>
  have h4:min l1 q=y2.length+1:=by rw[hmin,h2,hy]; rfl
  have hst:m.dn b o (ys.map f).flatten=some (m.set b (.cells cs' .own)):=by
   have hne:(ys.map f).flatten≠[]:=fun e=>by rw[e,hy] at hlen; cases hlen
   unfold PJ.dn
   split
   rename_i e; exact MX e hne
   rw[hg];simp only[hlen];rw[OW,hs]
  have:bD E.P .copy #[ty,ty2] [.slice (some ⟨b,o,none⟩) q q,.slice a0 l1 c0] m=some (.int .i64 (ys.length:Int),m.set b (.cells cs' .own)):=by
   show qK E.P ty _ _ m=_
   unfold qK;rw[h4] at hsrc;simp only[ht.und,ht.known,MO,MJ,if_false,h4,hsrc,hone,hst,MB];rw[hy]; rfl
  rw[Go.Ab.gO (hf.nv ha) this];have hw:Hp m0 (m.set b (.cells cs' .own)) (du ps k (.obj b (.cells cs' .own))):=hm.write (o':=.cells cs' .own) (p':=.obj b (.cells cs' .own)) hp rfl rfl rfl rfl ⟨(hm.get hp).1,by rw[PJ.next_set]; exact(hm.get hp).2.1,by rw[PJ.cb,MG rfl]⟩
  exact hK _ hw⟩
end
end Go.Ab.W
section
open Go Go.Ab Go.Ab.W
abbrev Pl:=@Wo.aL
abbrev Pj:=@Wn.aL
end
end
section
namespace Go.Ab.W
open Go Go.Ab
section
variable{α:Type}
end
section
variable{α:Type}{E:Env}{m0 m:PJ}{fs:Fs}{ps:PM Pc}{f:α->PM ON}{w:Nat}
variable{x:OP}{ty:OO}
variable{N:Nat}{ops:PO Oper}{os:PM Oper}{dr:Bool}
end
attribute [local irreducible] Tm.at Trie.set Trie.get PJ.get PJ.set PJ.alloc PJ.ww PJ.kill
section
variable{α:Type}{E:Env}{m0 m:PJ}{fs:Fs}{ps:PM Pc}{f:α->PM ON}{w:Nat}{ty:OO}
def Ft{β:Type}{V:β->ON}{N:β->PM Pc}{x:OP}{b off:Nat}(hx:ev E fs x=some (ptr b off))(hb:∀m,Hp m0 m ps->b<m.next)(h:∀m,Hp m0 m ps->∃z,dz E.P ty (ptr b off) m=some (V z)/\Hp m0 m (N z)):Ox E m0 fs ps (.load ty x) V N :=
 fun t m hf hm=>⟨fun b' hb'=>by
  have hx':au E t x=some (ptr b off):=hf.ev hx;simp only[aQ,hx',M3] at hb';cases hb'; exact hb m hm,fun K hK=>by
  obtain⟨z,h1,h2⟩:=h m hm;rw[Go.Ab.CY (hf.ev hx) h1]; exact hK z m h2⟩
end
section
variable{α:Type}{E:Env}{n:Nat}{m0 m:PJ}{fs:Fs}{ps:PM Pc}{f:α->PM ON}{w:Nat}{ops:PO Oper}{os:PM Oper}{prs:PM (Nat×Nat)}{K:Tm->PJ->Prop}{ss:PM Nk}
end
def Kj(m:PJ)(RW:OM)(rb:Nat)(row:PM (Bool×PM Nat)):Prop :=
 rb<m.next/\∃vs,m.get rb=some (.cells vs .own)/\vs.length=row.length*2/\∀(j:Nat) (x:Bool×PM Nat),row[j]? = some x->vs[j*2]? = some (.bool x.1)/\∃a c,vs[j*2+1]? = some (.slice a x.2.length c)/\Rd m a c 1 x.2.length (x.2.map (eN .u64))/\∀b,eY a=some b->RW b
def LK(ρ:Nat->Nat)(L:PM (PM (Bool×PM Nat)))(x:Nat):Prop:=∃i row,L[i]? = some row/\row≠[]/\x=ρ i
structure MatAt(m:PJ)(b n:Nat)(ρ:Nat->Nat)(RW:OM)(L:PM (PM (Bool×PM Nat))):Prop where
 lt:b<m.next
 len:n=L.length
 cells:∃cs,m.get b=some (.cells cs .own)/\cs.length=n/\∀(i:Nat) (row:PM (Bool×PM Nat)),L[i]? = some row->(row=[]/\cs[i]? = some (.slice none 0 0))\/(row≠[]/\cs[i]? = some (.slice (some ⟨ρ i,0,none⟩) row.length row.length))
 rows:∀(i:Nat) (row:PM (Bool×PM Nat)),L[i]? = some row->row≠[]->Kj m RW (ρ i) row
 rw:∀x,RW x->x<m.next/\x≠b/\¬LK ρ L x
 out:∀(i:Nat) (row:PM (Bool×PM Nat)),L[i]? = some row->row≠[]->ρ i≠b
 inj:∀(i j:Nat) (row row':PM (Bool×PM Nat)),L[i]? = some row->L[j]? = some row'->row≠[]->row'≠[]->ρ i=ρ j->i=j
section
variable{E:Env}{m0 m:PJ}{fs:Fs}{ps:PM Pc}{x y:OP}{ty:OO}{b n:Nat}{ρ:Nat->Nat}{RW:Nat->Prop}{L:PM (PM (Bool×PM Nat))}
end
section
variable{E:Env}{m0 m:PJ}{fs:Fs}{ps:PM Pc}{x y z:OP}{ty:OO}{H:Nat->Prop}{M:PM (PE Nat×PM (Int×Bool))}
end
end Go.Ab.W
end
section
namespace Go.Ab.W
open Go Go.Ab
section
variable{P:OQ}{ty el:OO}
def gi{eq:OO->ON->ON->PE Bool}{xs ys:PO ON}{t off:Nat}{rest:PM (OO×Nat)}{x y:ON}{b r:Bool}(h1:eE P t xs off=some x)(h2:eE P t ys off=some y)(h3:eq t x y=some b)(h4:gL eq P xs ys rest=some r):gL eq P xs ys ((t,off)::rest)=some (b&&r):=by
 unfold gL;rw[h1,h2]
 dsimp only
 rw[h3];cases b with
 | true=>exact h4
 | false=>rfl
def oM{k:IntKind}(he:P.underlying el=some (.int k))(d:Nat)(x y:Nat):jn P (d+1) el (.int k ((x:Nat):Int)) (.int k ((y:Nat):Int))=some (decide (x=y)):=by
 simp only[jn,he,if_true]
 congr 1
 rw[Bool.eq_iff_iff];simp only[beq_iff_eq,MW];omega
def ze{k:IntKind}(hu:P.underlying ty=some (.array 8 el))(hk:known P el=true)(hs:ax P el=1)(ha:dK P el=false)(he:P.underlying el=some (.int k))(d:Nat)(x0 y0 x1 y1 x2 y2 x3 y3 x4 y4 x5 y5 x6 y6 x7 y7:Nat) :
  jn P (d+2) ty (.agg #[.int k ((x0:Nat):Int),.int k ((x1:Nat):Int),.int k ((x2:Nat):Int),.int k ((x3:Nat):Int),.int k ((x4:Nat):Int),.int k ((x5:Nat):Int),.int k ((x6:Nat):Int),.int k ((x7:Nat):Int)])
   (.agg #[.int k ((y0:Nat):Int),.int k ((y1:Nat):Int),.int k ((y2:Nat):Int),.int k ((y3:Nat):Int),.int k ((y4:Nat):Int),.int k ((y5:Nat):Int),.int k ((y6:Nat):Int),.int k ((y7:Nat):Int)]) =
   some (decide (x0=y0)&&decide (x1=y1)&&decide (x2=y2)&&decide (x3=y3)&&decide (x4=y4)&&decide (x5=y5)&&decide (x6=y6)&&decide (x7=y7)):=by
 have hp:∀(cs:PO ON) (i:Nat) (v:ON),cs[i]? = some v->eE P el cs i=some v:=fun cs i v h=>by
  unfold eE;rw[hk,ha,h]; rfl
 show jn P ((d+1)+1) ty _ _=_
 unfold jn;simp only[hu,hk,if_true,hs]
 show gL _ P _ _ [(el,0),(el,1),(el,2),(el,3),(el,4),(el,5),(el,6),(el,7)]=_
 simp only[Bool.and_assoc];rw[gi (hp _ 0 _ rfl) (hp _ 0 _ rfl) (oM he d x0 y0) (gi (hp _ 1 _ rfl) (hp _ 1 _ rfl) (oM he d x1 y1) (gi (hp _ 2 _ rfl) (hp _ 2 _ rfl) (oM he d x2 y2) (gi (hp _ 3 _ rfl) (hp _ 3 _ rfl) (oM he d x3 y3) (gi (hp _ 4 _ rfl) (hp _ 4 _ rfl) (oM he d x4 y4) (gi (hp _ 5 _ rfl) (hp _ 5 _ rfl) (oM he d x5 y5) (gi (hp _ 6 _ rfl) (hp _ 6 _ rfl) (oM he d x6 y6) (gi (hp _ 7 _ rfl) (hp _ 7 _ rfl) (oM he d x7 y7) rfl)))))))];simp only[Bool.and_true]
def Kc{k:IntKind}(hu:P.underlying ty=some (.array 8 el))(hk:known P el=true)(hs:ax P el=1)(ha:dK P el=false)(he:P.underlying el=some (.int k))(x0 y0 x1 y1 x2 y2 x3 y3 x4 y4 x5 y5 x6 y6 x7 y7:Nat) :
  jn P Op.maxDepth ty (.agg #[.int k ((x0:Nat):Int),.int k ((x1:Nat):Int),.int k ((x2:Nat):Int),.int k ((x3:Nat):Int),.int k ((x4:Nat):Int),.int k ((x5:Nat):Int),.int k ((x6:Nat):Int),.int k ((x7:Nat):Int)])
   (.agg #[.int k ((y0:Nat):Int),.int k ((y1:Nat):Int),.int k ((y2:Nat):Int),.int k ((y3:Nat):Int),.int k ((y4:Nat):Int),.int k ((y5:Nat):Int),.int k ((y6:Nat):Int),.int k ((y7:Nat):Int)]) =
   some (decide (x0=y0)&&decide (x1=y1)&&decide (x2=y2)&&decide (x3=y3)&&decide (x4=y4)&&decide (x5=y5)&&decide (x6=y6)&&decide (x7=y7)) :=
 ze hu hk hs ha he 9998 x0 y0 x1 y1 x2 y2 x3 y3 x4 y4 x5 y5 x6 y6 x7 y7
def Kd {k : IntKind} {w : OO} {fs : PO _} (hu2 : P.underlying ty = some (.struct fs)) (hst : (P.stoodInHeld ty || fs.any (·.name == "_")) = false) (hm : fs.toList.map (fun f => (f.type, f.offset)) = [(w, 0), (w, 8)])
  (hkw:known P w=true) (haw:dK P w=true) (hsw:ax P w=8)
  (hu:P.underlying w=some (.array 8 el)) (hk:known P el=true) (hs:ax P el=1) (ha:dK P el=false) (he:P.underlying el=some (.int k)) (x0 y0 x1 y1 x2 y2 x3 y3 x4 y4 x5 y5 x6 y6 x7 y7 x8 y8 x9 y9 x10 y10 x11 y11 x12 y12 x13 y13 x14 y14 x15 y15:Nat) :
  jn P Op.maxDepth ty (.agg #[.int k ((x0:Nat):Int),.int k ((x1:Nat):Int),.int k ((x2:Nat):Int),.int k ((x3:Nat):Int),.int k ((x4:Nat):Int),.int k ((x5:Nat):Int),.int k ((x6:Nat):Int),.int k ((x7:Nat):Int),.int k ((x8:Nat):Int),.int k ((x9:Nat):Int),.int k ((x10:Nat):Int),.int k ((x11:Nat):Int),.int k ((x12:Nat):Int),.int k ((x13:Nat):Int),.int k ((x14:Nat):Int),.int k ((x15:Nat):Int)]) (.agg #[.int k ((y0:Nat):Int),.int k ((y1:Nat):Int),.int k ((y2:Nat):Int),.int k ((y3:Nat):Int),.int k ((y4:Nat):Int),.int k ((y5:Nat):Int),.int k ((y6:Nat):Int),.int k ((y7:Nat):Int),.int k ((y8:Nat):Int),.int k ((y9:Nat):Int),.int k ((y10:Nat):Int),.int k ((y11:Nat):Int),.int k ((y12:Nat):Int),.int k ((y13:Nat):Int),.int k ((y14:Nat):Int),.int k ((y15:Nat):Int)])=some (decide (x0=y0)&&decide (x1=y1)&&decide (x2=y2)&&decide (x3=y3)&&decide (x4=y4)&&decide (x5=y5)&&decide (x6=y6)&&decide (x7=y7)&&decide (x8=y8)&&decide (x9=y9)&&decide (x10=y10)&&decide (x11=y11)&&decide (x12=y12)&&decide (x13=y13)&&decide (x14=y14)&&decide (x15=y15)):=by
 have hp0:∀a0 a1 a2 a3 a4 a5 a6 a7 b0 b1 b2 b3 b4 b5 b6 b7:ON,eE P w #[a0,a1,a2,a3,a4,a5,a6,a7,b0,b1,b2,b3,b4,b5,b6,b7] 0=some (.agg #[a0,a1,a2,a3,a4,a5,a6,a7]):=fun _ _ _ _ _ _ _ _ _ _ _ _ _ _ _ _=>by
  unfold eE;rw[hkw,haw,hsw]; rfl
 have hp8:∀a0 a1 a2 a3 a4 a5 a6 a7 b0 b1 b2 b3 b4 b5 b6 b7:ON,eE P w #[a0,a1,a2,a3,a4,a5,a6,a7,b0,b1,b2,b3,b4,b5,b6,b7] 8=some (.agg #[b0,b1,b2,b3,b4,b5,b6,b7]):=fun _ _ _ _ _ _ _ _ _ _ _ _ _ _ _ _=>by
  unfold eE;rw[hkw,haw,hsw]; rfl
 show jn P (9999+1) ty _ _=_
 unfold jn;simp only[hu2,hst,MJ,if_false,hm];rw[gi (hp0 ..) (hp0 ..) (ze hu hk hs ha he 9997 x0 y0 x1 y1 x2 y2 x3 y3 x4 y4 x5 y5 x6 y6 x7 y7) (gi (hp8 ..) (hp8 ..) (ze hu hk hs ha he 9997 x8 y8 x9 y9 x10 y10 x11 y11 x12 y12 x13 y13 x14 y14 x15 y15) rfl)];simp only[Bool.and_true,Bool.and_assoc]
def KT(P:OQ)(ty w:OO):Bool:=match P.underlying ty with
 | some (.struct fs) => !(P.stoodInHeld ty || fs.any (·.name == "_")) && (fs.toList.map (fun f => (f.type, f.offset)) == [(w, 0), (w, 8)]) && known P w && dK P w && (ax P w == 8)
 | _=>false
def IT{k:IntKind}{w:OO}(h:KT P ty w=true)
  (hu:P.underlying w=some (.array 8 el)) (hk:known P el=true) (hs:ax P el=1) (ha:dK P el=false) (he:P.underlying el=some (.int k)) (x0 y0 x1 y1 x2 y2 x3 y3 x4 y4 x5 y5 x6 y6 x7 y7 x8 y8 x9 y9 x10 y10 x11 y11 x12 y12 x13 y13 x14 y14 x15 y15:Nat) :
  jn P Op.maxDepth ty (.agg #[.int k ((x0:Nat):Int),.int k ((x1:Nat):Int),.int k ((x2:Nat):Int),.int k ((x3:Nat):Int),.int k ((x4:Nat):Int),.int k ((x5:Nat):Int),.int k ((x6:Nat):Int),.int k ((x7:Nat):Int),.int k ((x8:Nat):Int),.int k ((x9:Nat):Int),.int k ((x10:Nat):Int),.int k ((x11:Nat):Int),.int k ((x12:Nat):Int),.int k ((x13:Nat):Int),.int k ((x14:Nat):Int),.int k ((x15:Nat):Int)]) (.agg #[.int k ((y0:Nat):Int),.int k ((y1:Nat):Int),.int k ((y2:Nat):Int),.int k ((y3:Nat):Int),.int k ((y4:Nat):Int),.int k ((y5:Nat):Int),.int k ((y6:Nat):Int),.int k ((y7:Nat):Int),.int k ((y8:Nat):Int),.int k ((y9:Nat):Int),.int k ((y10:Nat):Int),.int k ((y11:Nat):Int),.int k ((y12:Nat):Int),.int k ((y13:Nat):Int),.int k ((y14:Nat):Int),.int k ((y15:Nat):Int)])=some (decide (x0=y0)&&decide (x1=y1)&&decide (x2=y2)&&decide (x3=y3)&&decide (x4=y4)&&decide (x5=y5)&&decide (x6=y6)&&decide (x7=y7)&&decide (x8=y8)&&decide (x9=y9)&&decide (x10=y10)&&decide (x11=y11)&&decide (x12=y12)&&decide (x13=y13)&&decide (x14=y14)&&decide (x15=y15)):=by
 unfold KT at h
 split at h
 rename_i fs hf;simp only[My,Ng,beq_iff_eq] at h;exact Kd hf h.1.1.1.1 h.1.1.1.2 h.1.1.2 h.1.2 h.2 hu hk hs ha he x0 y0 x1 y1 x2 y2 x3 y3 x4 y4 x5 y5 x6 y6 x7 y7 x8 y8 x9 y9 x10 y10 x11 y11 x12 y12 x13 y13 x14 y14 x15 y15
 cases h
end
section
variable{P:OQ}{ty:OO}
end
attribute [local irreducible] Tm.at Trie.set Trie.get PJ.get PJ.set PJ.alloc PJ.ww PJ.kill
section
variable{E:Env}{n:Nat}{m0 m:PJ}{fs:Fs}{ps:PM Pc}{x y:OP}{ty:OO}
variable{α:Type}{f:α->PM ON}{elem:OO}{k cap w l:Nat}{a:OL}{es:OK}{xs:PM α}
end
section
variable{E:Env}{n:Nat}{m0:PJ}{fs:Fs}{ps:PM Pc}{ops:PO Oper}{os:PM Oper}{K:Tm->PJ->Prop}{dr:Bool}
end
section
variable{E:Env}{n:Nat}{m0 m:PJ}{fs:Fs}{ps:PM Pc}{x y:OP}{ty:OO}{v:ON}
end
section
variable{α γ:Type}[DecidableEq α]
end
section
variable{α γ:Type}[DecidableEq α]{E:Env}{m0 m:PJ}{fs:Fs}{ps:PM Pc}{f:γ->PM ON}{w:Nat}{kE:α->ON}
variable{x y z:OP}{ty:OO}
end
structure Rep(α:Type) where
 w:Nat
 G:Type
 V:α->G->PM ON
 A:PJ->(Nat->Prop)->α->G->Prop
 N:α->G->(Nat->Prop)->PM Pc
 mono:∀{m:PJ} {R R':OM} {x:α} {g:G},A m R x g->(∀b,R b->R' b)->A m R' x g
 st:∀{m m':PJ} {R:OM} {x:α} {g:G},A m R x g->m.next<=m'.next->(∀b,R b->b<m.next->m'.get b=m.get b)->A m' R x g
 len:∀x g,(V x g).length=w
 one:∀x g,(V x g).all lD=true
 hN:∀{lo:Nat} {m:PJ} {R:OM} {x:α} {g:G},A m R x g->(∀b,R b->b<m.next)->∀p∈N x g R,p.ok lo m/\(∀b,¬p.ow b)/\∀b,p.any b->R b
section
variable{α β:Type}
def gE(r:Rep α)(m:PJ)(R:OM)(L:PM α)(es:OK):Prop :=
 es.length=L.length/\∀(i:Nat) (x:α),L[i]? = some x->∃g,es[i]? = some (r.V x g)/\r.A m R x g
def gE.mono{r:Rep α}{m:PJ}{R R':OM}{L:PM α}{es:OK}(h:gE r m R L es)(hR:∀b,R b->R' b):gE r m R' L es :=
 ⟨h.1,fun i x hi=>by obtain⟨g,h1,h2⟩:=h.2 i x hi; exact⟨g,h1,r.mono h2 hR⟩⟩
def gE.st{r:Rep α}{m m':PJ}{R:OM}{L:PM α}{es:OK}(h:gE r m R L es)(hn:m.next<=m'.next)(hg:∀b,R b->b<m.next->m'.get b=m.get b):gE r m' R L es :=
 ⟨h.1,fun i x hi=>by obtain⟨g,h1,h2⟩:=h.2 i x hi; exact⟨g,h1,r.st h2 hn hg⟩⟩
def gE.nil{r:Rep α}{m:PJ}{R:OM}:gE r m R [] []:=⟨rfl,fun i x h=>by simp at h⟩
def gE.cons{r:Rep α}{m:PJ}{R:OM}{L:PM α}{es:OK}{x:α}{g:r.G}(hx:r.A m R x g)(h:gE r m R L es):gE r m R (x::L) (r.V x g::es) :=
 ⟨by simp[h.1],fun i y hi=>by
  cases i with
  | zero=>cases hi; exact⟨g,rfl,hx⟩
  | succ i=>exact h.2 i y (by simpa using hi)⟩
def gE.append{r:Rep α}{m:PJ}{R:OM}{L L':PM α}{es es':OK}(h:gE r m R L es)(h':gE r m R L' es'):gE r m R (L++L') (es++es') :=
 ⟨by simp[h.1,h'.1],fun i y hi=>by
  by_cases hlt:i<L.length
  rw[Nn hlt] at hi;rw[Nn (by rw[h.1]; exact hlt)]
  exact h.2 i y hi
  rw[M1 (by omega)] at hi
  rw[M1 (by rw[h.1]; omega),h.1]
  exact h'.2 _ y hi⟩
def gE.set{r:Rep α}{m:PJ}{R:OM}{L:PM α}{es:OK}{x:α}{g:r.G}(h:gE r m R L es)(j:Nat)(hx:r.A m R x g):gE r m R (L.set j x) (es.set j (r.V x g)) :=
 ⟨by simp[h.1],fun i y hi=>by
  rw[List.getElem?_set] at hi ⊢
  split at hi
  rename_i e;subst e
  split at hi
  rename_i hlt;cases hi;rw[MG rfl,MG (by rw[h.1]; exact hlt)]
  exact⟨g,rfl,hx⟩
  cases hi
  rename_i e;rw[ME e];exact h.2 i y hi⟩
def gE.fE{r:Rep α}{m:PJ}{R:OM}{L:PM α}{es:OK}(h:gE r m R L es):W.fE es:=fun e he=>by
 obtain⟨i,hi,rfl⟩:=List.mem_iff_getElem.1 he;obtain⟨g,h1,_⟩:=h.2 i (L[i]'(by rw[<-h.1]; exact hi)) (by simp)
 rw[MF hi] at h1;rw[MH h1]; exact r.one _ _
def gE.width{r:Rep α}{m:PJ}{R:OM}{L:PM α}{es:OK}(h:gE r m R L es):∀e∈es,e.length=r.w:=fun e he=>by
 obtain⟨i,hi,rfl⟩:=List.mem_iff_getElem.1 he;obtain⟨g,h1,_⟩:=h.2 i (L[i]'(by rw[<-h.1]; exact hi)) (by simp)
 rw[MF hi] at h1;rw[MH h1]; exact r.len _ _
def bN(r:Rep α)(R:OM)(L:PM α)(es:OK):GPc where
 ow _:=False
 rd b:=R b
 P m:=gE r m R L es/\∀b,R b->b<m.next
 st _ _ h hn hg:=⟨h.1.st hn fun b hb hlt=>hg b (.inr hb) hlt,fun b hb=>MC (h.2 b hb) hn⟩
 lt _ b h hb:=hb.elim (fun h=>h.elim) (h.2 b)
def mg{r:Rep α}{R:OM}{L:PM α}{es:OK}{b:Nat}:¬Pc.ow (.gen (bN r R L es)) b:=fun h=>h.elim (fun h=>by cases h.1) fun h=>h
def AW{r:Rep α}{R:OM}{L:PM α}{es:OK}{b:Nat}(h:Pc.any (.gen (bN r R L es)) b):R b:=h.elim (fun h=>by cases h) fun h=>h.elim (fun h=>h.elim) id
def xD{a:OL}{cap w n:Nat}{es:OK}{b:Nat}:¬Pc.ow (.rd a cap w n es) b:=fun h=>h.elim (fun h=>by cases h.1) fun h=>h.elim
def Cf{a:OL}{cap w n:Nat}{es:OK}{b:Nat}(h:Pc.any (.rd a cap w n es) b):eY a=some b:=h.elim id fun h=>h.elim
def rF(f:α->PM ON)(w:Nat)(h:Enc f w):Rep α where
 w:=w
 G:=PN
 V x _:=f x
 A _ _ _ _:=True
 N _ _ _:=[]
 mono _ _:=trivial
 st _ _ _:=trivial
 len x _:=h.len x
 one x _:=h.one x
 hN _ _ p hp:=by cases hp
def rS(f:α->PM ON)(w:Nat):Rep (PM α) where
 w:=1
 G:=OL×Nat
 V l g:=[.slice g.1 l.length g.2]
 A m R l g:=Rd m g.1 g.2 w l.length (l.map f)/\∀b,eY g.1=some b->R b
 N l g _:=[.rd g.1 g.2 w l.length (l.map f)]
 mono h hR:=⟨h.1,fun b hb=>hR b (h.2 b hb)⟩
 st h hn hg:=⟨h.1.j7 hn fun b hb hlt=>hg b (h.2 b hb) hlt,h.2⟩
 len _ _:=rfl
 one _ _:=rfl
 hN h _ p hp:=by
  rw[NH.1 hp];exact⟨h.1,fun b=>xD,fun b hb=>h.2 b (Cf hb)⟩
def rP(r:Rep α)(s:Rep β):Rep (α×β) where
 w:=r.w+s.w
 G:=r.G×s.G
 V x g:=r.V x.1 g.1++s.V x.2 g.2
 A m R x g:=r.A m R x.1 g.1/\s.A m R x.2 g.2
 N x g R:=r.N x.1 g.1 R++s.N x.2 g.2 R
 mono h hR:=⟨r.mono h.1 hR,s.mono h.2 hR⟩
 st h hn hg:=⟨r.st h.1 hn hg,s.st h.2 hn hg⟩
 len x g:=by rw[MV,r.len,s.len]
 one x g:=by rw[List.all_append,r.one,s.one]; rfl
 hN h hlt p hp:=by
  rcases NW.1 hp with hp|hp
  exact r.hN h.1 hlt p hp
  exact s.hN h.2 hlt p hp
end
section
variable{α β:Type}{E:Env}{n:Nat}{m0 m:PJ}{fs:Fs}{ps:PM Pc}{r:Rep α}{r2:Rep β}{x:OP}{ty:OO}
def ti:∀(l:PM Pc) (k:Nat),pk (l++ps) (l.length+k)=pk ps k
 | [],k=>by rw[N5,List.length_nil,Nu]
 | p::l,k=>by rw[List.cons_append,Ni,show l.length+1+k=(l.length+k)+1 by omega,fF,ti l k]
def Hp.DV{q:Nat}{p:Pc}(h:Hp m0 m ps)(hq:pk ps q=some p)(hpo:∀b,¬p.ow b):∀new:PM Pc,(∀r∈new,r.ok m0.next m/\(∀b,¬r.ow b)/\∀b,r.any b->p.any b)->Hp m0 m (new++ps)
 | [],_=>h
 | r::l,hl=>(h.DV hq hpo l fun r' h'=>hl r' (List.mem_cons_of_mem _ h')).HG (k:=l.length+q) (by rw[ti]; exact hq) hpo (hl r (Oi ..)).1 (hl r (Oi ..)).2.1 (hl r (Oi ..)).2.2
def sW{ag:Bool}{sz b o w j c q off:Nat}{R:OM}{L:PM α}{es:OK}{z:α}{V:r.G->ON}{N:r.G->PM Pc}(ht:TyI E.P ty ag sz)(hx:ev E fs x=some (ptr b off))(ho:off=o+j*w+c)(hli:∀m,Hp m0 m ps->oi m b o w es)(hq:pk ps q=some (.gen (bN r R L es)))(hl:L[j]? = some z)(hv:∀g,B8 ag sz (r.V z g) c=some (V g))(hs:ED ag sz c w=true)(hN:∀g,N g=r.N z g R++ps):Ox E m0 fs ps (.load ty x) V N:=by
 subst ho;refine Ft hx (fun m hm=>(hli m hm).1) fun m hm=>?_;have hP:=(hm.get hq).1;obtain⟨g,h1,h2⟩:=hP.1.2 j z hl;have hs:=vD hs;refine⟨g,oh ht (hli m hm) h1 (hv g) hs.1 hs.2,?_⟩;rw[hN];exact hm.DV hq (fun b=>mg) _ fun p hp=>by
  obtain⟨a1,a2,a3⟩:=r.hN h2 hP.2 p hp;exact⟨a1,a2,fun b hb=>.inr (.inr (a3 b hb))⟩
def CB{k b w l:Nat}{es:OK}{tg:Tag}(hp:pk ps k=some (.arr b w l es tg)):∀m,Hp m0 m ps->oi m b 0 w es:=fun _ h=>yj.JQ (h.get hp)
def Al{k b o w l:Nat}{es:OK}(hp:pk ps k=some (.ro b o w l es)):∀m,Hp m0 m ps->oi m b o w es:=fun _ h=>(h.get hp).2
def Hp.qU{j q:Nat}{R:OM}{L:PM α}{es:OK}{z:α}(hm:Hp m0 m ps)(hq:pk ps q=some (.gen (bN r R L es)))(hl:L[j]? = some z):∃g,es[j]? = some (r.V z g)/\Hp m0 m (r.N z g R++ps):=by
 have hP:=(hm.get hq).1;obtain⟨g,h1,h2⟩:=hP.1.2 j z hl;exact⟨g,h1,hm.DV hq (fun b=>mg) _ fun p hp=>by
  obtain⟨a1,a2,a3⟩:=r.hN h2 hP.2 p hp;exact⟨a1,a2,fun b hb=>.inr (.inr (a3 b hb))⟩⟩
def Kl(a c:Nat):a+c=0+a+c:=by rw[Nu]
def Lf(m0:PJ)(ps:PM Pc)(r:Rep α)(z:α)(g:r.G)(S:OM):Prop:=∀m,Hp m0 m ps->r.A m S z g/\∀b,S b->∃q∈ps,(∀b,¬q.ow b)/\q.any b
def Lf.f{f:α->PM ON}{w:Nat}(h:Enc f w)(z:α):Lf m0 ps (rF f w h) z () (fun _=>False):=fun _ _=>⟨trivial,fun _ h=>h.elim⟩
def Lf.s{f:α->PM ON}{a:OL}{k cap w:Nat}{l:PM α}(hp:pk ps k=some (.rd a cap w l.length (l.map f))):Lf m0 ps (rS f w) l (a,cap) (fun b=>eY a=some b):=fun _ hm =>
 ⟨⟨hm.get hp,fun _ h=>h⟩,fun _ hb=>⟨_,kl hp,fun _=>xD,.inl hb⟩⟩
def Lf.s0{f:α->PM ON}{w:Nat}:Lf m0 ps (rS f w) [] (none,0) (fun _=>False):=fun _ _=>⟨⟨Rd.nil _ _,fun _ h=>(by cases h)⟩,fun _ h=>h.elim⟩
def Lf.p{z:α}{y:β}{g:r.G}{g':r2.G}{S S':OM}(h:Lf m0 ps r z g S)(h':Lf m0 ps r2 y g' S'):Lf m0 ps (rP r r2) (z,y) (g,g') (fun b=>S b\/S' b):=fun m hm =>
 ⟨⟨r.mono (h m hm).1 fun _ h=>.inl h,r2.mono (h' m hm).1 fun _ h=>.inr h⟩,fun b hb=>hb.elim ((h m hm).2 b) ((h' m hm).2 b)⟩
def wR(m0:PJ)(ps:PM Pc)(r:Rep α)(L:PM α)(es:OK)(S:OM):Prop:=∀m,Hp m0 m ps->gE r m S L es/\∀b,S b->∃q∈ps,(∀b,¬q.ow b)/\q.any b
def wR.nil:wR m0 ps r [] [] (fun _=>False):=fun _ _=>⟨.nil,fun _ h=>h.elim⟩
def wR.cons{z:α}{g:r.G}{S S':OM}{L:PM α}{es:OK}(h:Lf m0 ps r z g S)(h':wR m0 ps r L es S'):wR m0 ps r (z::L) (r.V z g::es) (fun b=>S b\/S' b):=fun m hm =>
 ⟨.cons (r.mono (h m hm).1 fun _ h=>.inl h) ((h' m hm).1.mono fun _ h=>.inr h),fun b hb=>hb.elim ((h m hm).2 b) ((h' m hm).2 b)⟩
def Hp.Hh{S:OM}{p:Pc}(h:Hp m0 m ps)(hp:p.ok m0.next m)(ho:∀b,¬p.ow b)(ha:∀b,p.any b->∃q∈ps,(∀b,¬q.ow b)/\q.any b):Hp m0 m (p::ps) :=
 ⟨h.ext,fun q hq=>by
  rcases M0.1 hq with rfl|hq
  exact hp
  exact h.ok q hq,Ny.2 ⟨fun q hq=>⟨fun b h1 _=>ho b h1,fun b h1 h2=>by
  obtain⟨q',hq',h3,h4⟩:=ha b h2;obtain⟨i,hi⟩:=j6 hq;obtain⟨j,hj⟩:=j6 hq'
  by_cases e:i=j
  subst e;rw[hi] at hj;exact h3 b (by rw[<-MH hj]; exact h1)
  exact(gS h.apart hi hj e).1 b h1 h4⟩,h.apart⟩⟩
def ah.dp{L:PM α}{es:OK}{S:OM}(h:wR m0 ps r L es S):ah m0 ps (.gen (bN r S L es)::ps):=fun m hm=>by
 obtain⟨h1,h2⟩:=h m hm;refine hm.Hh (S:=S) ⟨⟨h1,fun b hb=>?_⟩,fun _ b hb=>hb.elim⟩ (fun _=>mg) fun b hb=>h2 b (AW hb);obtain⟨q,hq,_,h4⟩:=h2 b hb;exact Pc.gT (hm.ok q hq) h4
def ah.HF:ah m0 ps (.gen (bN r (fun _=>False) [] [])::ps):=ah.dp .nil
def Hp.C3{q:Nat}{R S:OM}{L L':PM α}{es es':OK}(h:Hp m0 m ps)(hq:pk ps q=some (.gen (bN r R L es)))(h1:gE r m (fun b=>R b\/S b) L' es')(h2:∀b,S b->∃q∈ps,(∀b,¬q.ow b)/\q.any b):Hp m0 m (du ps q (.gen (bN r (fun b=>R b\/S b) L' es'))):=by
 have hP:=h.get hq;refine⟨h.ext,fun p hp=>?_,ij hq (fun p hp ha=>⟨fun b h3 _=>(mg h3).elim,fun b h3 h4=>?_⟩) h.apart⟩
 rcases sR hp with hp|rfl
 exact h.ok p hp
 refine⟨⟨h1,fun b hb=>hb.elim (hP.1.2 b) fun hb=>?_⟩,fun _ b hb=>hb.elim⟩;obtain⟨q',hq',_,h5⟩:=h2 b hb;exact Pc.gT (h.ok q' hq') h5
 rcases AW h4 with h4|h4
 exact ha.2 b h3 (.inr (.inr h4))
 obtain⟨q',hq',h5,h6⟩:=h2 b h4;obtain⟨i,hi⟩:=j6 hp;obtain⟨j,hj⟩:=j6 hq'
 by_cases e:i=j
 subst e;rw[hi] at hj;exact h5 b (by rw[<-MH hj]; exact h3)
 exact(gS h.apart hi hj e).1 b h3 h6
def ah.tC{q j:Nat}{R S:OM}{L:PM α}{es:OK}{z:α}{g:r.G}(hq:pk ps q=some (.gen (bN r R L es)))(h:Lf m0 ps r z g S):ah m0 ps (du ps q (.gen (bN r (fun b=>R b\/S b) (L.set j z) (es.set j (r.V z g))))):=fun m hm =>
 hm.C3 hq (((hm.get hq).1.1.mono fun _ h=>.inl h).set j (r.mono (h m hm).1 fun _ h=>.inr h)) (h m hm).2
def ah.Li{q q2:Nat}{R S:OM}{L L':PM α}{es es':OK}(hq:pk ps q=some (.gen (bN r R L es)))(hq2:pk ps q2=some (.gen (bN r S L' es'))):ah m0 ps (du ps q (.gen (bN r (fun b=>R b\/S b) (L++L') (es++es')))):=fun m hm =>
 hm.C3 hq (((hm.get hq).1.1.mono fun _ h=>.inl h).append ((hm.get hq2).1.1.mono fun _ h=>.inr h)) fun _ hb=>⟨_,kl hq2,fun _=>mg,.inr (.inr hb)⟩
def Pc.Dw{lo w l:Nat}{a:OL}{es:OK}(h:Pc.ok lo m (.sl a w l es)):l=es.length:=by
 rcases h with⟨h0,h1,_⟩|⟨b,tg,_,h1⟩
 rw[h0,h1]; rfl
 exact h1.2.2.2.1.symm
def HY{elem ty2:OO}{w k k2 q q2 c0 l l1:Nat}{a a0:OL}{R S:OM}{L L':PM α}{es es':OK}{ars:PO OP}{p0:Pc}(ht:SlT E.P ty elem w)(h6:∃e2,E.P.underlying ty2=some (.slice e2))(ha:nv E fs ars.toList=some [.slice a l l,.slice a0 l1 c0])(hp:pk ps k=some (.sl a w l es))(hq:pk ps q=some (.gen (bN r R L es)))(h4:pk ps k2=some p0)(hr:IsRd p0 a0 c0 w l1 es')(h0:pk ps q2=some (.gen (bN r S L' es')))(hw:r.w=w)(hl:lim (L++L').length=true) :
  Ox E m0 fs ps (.call ⟨.builtin .append,ars,#[ty,ty2]⟩) (fun y:OL ×(Nat->Prop)=>.slice y.1 (L++L').length (L++L').length) (fun y=>du (du ps q (.gen (bN r y.2 (L++L') (es++es')))) k (.sl y.1 w (L++L').length (es++es'))):=fun t m hf hm=>⟨fun b hb=>(by simp[aQ] at hb),fun K hK=>by
 have e1:l=L.length:=by rw[Pc.Dw (hm.get hp),(hm.get hq).1.1.1]
 have e2:l1=L'.length:=by rw[<-(hm.rd h4 hr).1,(hm.get h0).1.1.1]
 have e0:l+l1=(L++L').length:=by rw[e1,e2,MV]
 have h1:=ah.Li (m0:=m0) hq h0 m hm;have hkq:k≠q:=fun e=>by rw[e,hq] at hp; cases hp
 have h7:pk (du ps q (.gen (bN r (fun b=>R b\/S b) (L++L') (es++es')))) k=some (.sl a w l es):=by
  have:∀(l:PM Pc) (q k:Nat) (x:Pc),k≠q->pk (du l q x) k=pk l k:=by
   intro l
   induction l with
   | nil=>intro q k x _; rfl
   | cons p l ih =>
    intro q k x hne;cases q with
    | zero =>
     cases k with
     | zero=>exact MX rfl hne
     | succ k=>rfl
    | succ q =>
     cases k with
     | zero=>rfl
     | succ k=>rw[gR,fF,fF]; exact ih q k x fun e=>hne (by rw[e])
  rw[this ps q k _ hkq]; exact hp
 obtain⟨a',m',h3,h5⟩:=nB (n:=l) ht h6 h1 h7 (hm.rd h4 hr) (fun e he=>by rw[<-hw]; exact(hm.get h0).1.1.width e he) (hm.get h0).1.1.fE (by rw[e0]; exact hl)
 have:bD E.P .append #[ty,ty2] [.slice a l l,.slice a0 l1 c0] m=some (.slice a' (l+l1) (l+l1),m'):=h3;rw[Go.Ab.gO (hf.nv ha) this];rw[e0] at h5 ⊢;exact hK (a',_) m' h5⟩
def Hp.dp{q:Nat}{R:OM}{L:PM α}{es:OK}(h:Hp m0 m ps)(hq:pk ps q=some (.gen (bN r R L es))):(bN r R L es).P m:=(h.get hq).1
def Hp.H4{R:OM}{L:PM α}{es:OK}(h:Hp m0 m ps)(ho:∀p∈ps,∀b,¬p.ow b)(hd:(bN r R L es).P m):Hp m0 m (.gen (bN r R L es)::ps) :=
 ⟨h.ext,fun p hp=>by
  rcases M0.1 hp with rfl|hp
  exact⟨hd,fun _ b hb=>hb.elim⟩
  exact h.ok p hp,Ny.2 ⟨fun q hq=>⟨fun b h1 _=>(mg h1).elim,fun b h1 _=>(ho q hq b h1).elim⟩,h.apart⟩⟩
def Hp.dF{a:OL}{cap w l:Nat}{es:OK}(h:Hp m0 m ps)(ho:∀p∈ps,∀b,¬p.ow b)(hr:Rd m a cap w l es):Hp m0 m (.rd a cap w l es::ps) :=
 ⟨h.ext,fun p hp=>by
  rcases M0.1 hp with rfl|hp
  exact hr
  exact h.ok p hp,Ny.2 ⟨fun q hq=>⟨fun b h1 _=>(xD h1).elim,fun b h1 _=>(ho q hq b h1).elim⟩,h.apart⟩⟩
def Hp.bS{l0:PM Pc}{H:OM}{a:OL}{cap w l:Nat}{es:OK}(h:Hp m0 m (l0++[.gen (aJ H)]))(ho:∀p∈l0,∀b,¬p.ow b)(hr:Rd m a cap w l es)(ha:∀b,eY a=some b->¬H b):Hp m0 m (.rd a cap w l es::(l0++[.gen (aJ H)])) :=
 ⟨h.ext,fun p hp=>by
  rcases M0.1 hp with rfl|hp
  exact hr
  exact h.ok p hp,Ny.2 ⟨fun q hq=>⟨fun b h1 _=>(xD h1).elim,fun b h1 h2=>by
  rcases NW.1 hq with hq|hq
  exact(ho q hq b h1).elim
  rw[NH.1 hq] at h1;rcases h1 with h1|h1
  cases h1.1
  exact ha b (Cf h2) h1⟩,h.apart⟩⟩
def dg:∀p ∈([]:PM Pc),∀b,¬p.ow b:=fun _ h=>by cases h
def hY{l:PM Pc}{a:OL}{cap w k:Nat}{es:OK}(h:∀p∈l,∀b,¬p.ow b):∀p ∈(Pc.rd a cap w k es::l),∀b,¬p.ow b:=fun p hp=>by
 rcases M0.1 hp with rfl|hp
 exact fun _=>xD
 exact h p hp
def Mu{l:PM Pc}{R:OM}{L:PM α}{es:OK}(h:∀p∈l,∀b,¬p.ow b):∀p ∈(Pc.gen (bN r R L es)::l),∀b,¬p.ow b:=fun p hp=>by
 rcases M0.1 hp with rfl|hp
 exact fun _=>mg
 exact h p hp
end
section
variable{α:Type}{E:Env}{n:Nat}{m0:PJ}{fs:Fs}{ps:PM Pc}{ops:PO Oper}{os:PM Oper}{dr:Bool}{K:Tm->PJ->Prop}{r:Rep α}
def Wo.qU{j q:Nat}{R:OM}{L:PM α}{es:OK}{z:α}{N:r.G->PM Pc}(hq:pk ps q=some (.gen (bN r R L es)))(hl:L[j]? = some z)(hN:∀g,N g=r.N z g R++ps)(k:∀g,es[j]? = some (r.V z g)->Wo dr E n ops K os m0 fs (N g)):Wo dr E n ops K os m0 fs ps:=by
 cases dr with
 | false=>intro t m hf hm; obtain⟨g,h1,h2⟩:=hm.qU hq hl; exact k g h1 t m hf (by rw[hN]; exact h2)
 | true=>intro t m w hf hm hw; obtain⟨g,h1,h2⟩:=hm.qU hq hl; exact k g h1 t m w hf (by rw[hN]; exact h2) hw
end
section
variable{α:Type}{E:Env}{n:Nat}{m0:PJ}{fs:Fs}{ps:PM Pc}{ops:PO Oper}{os:PM Oper}{dr:Bool}{K:Tm->PJ->Prop}{r:Rep α}{prs:PM (Nat×Nat)}{ss:PM Nk}
def Wo.dp{L:PM α}{es:OK}{S:OM}(h:wR m0 ps r L es S)(k:∀R,Wo dr E n ops K os m0 fs (.gen (bN r R L es)::ps)):Wo dr E n ops K os m0 fs ps:=PC (ah.dp h) (k _)
def Wo.tC{q j:Nat}{R S:OM}{L:PM α}{es:OK}{z:α}{g:r.G}(hq:pk ps q=some (.gen (bN r R L es)))(h:Lf m0 ps r z g S)(k:∀R',Wo dr E n ops K os m0 fs (du ps q (.gen (bN r R' (L.set j z) (es.set j (r.V z g)))))):Wo dr E n ops K os m0 fs ps:=PC (ah.tC hq h) (k _)
def Wn.tC{q j:Nat}{R S:OM}{L:PM α}{es:OK}{z:α}{g:r.G}(hq:pk ps q=some (.gen (bN r R L es)))(h:Lf m0 ps r z g S)(k:∀R',Wn E n ops prs K os ss m0 fs (du ps q (.gen (bN r R' (L.set j z) (es.set j (r.V z g)))))):Wn E n ops prs K os ss m0 fs ps:=Wn.eQ (ah.tC hq h) (k _)
def JB{m:PJ}{q:Nat}{R:OM}{L:PM α}{es:OK}(hm:Hp m0 m ps)(hq:pk ps q=some (.gen (bN r R L es))):es.length=L.length:=(hm.get hq).1.1.1
def IY{lo k w l:Nat}{m:PJ}{p:Pc}{a:OL}{es:OK}(hm:Hp m0 m ps)(hp:pk ps k=some p)(h:p=.sl a w l es\/(∃c,p=.rd a c w l es)\/∃b tg,p=.arr b w l es tg):l=es.length:=by
 have h0:=hm.get hp;rcases h with rfl|⟨c,rfl⟩|⟨b,tg,rfl⟩
 exact Pc.Dw h0
 exact h0.1.symm
 exact h0.2.2.2.1.symm
def Wo.Ld{k q w l:Nat}{a:OL}{p:Pc}{R:OM}{L:PM α}{es:OK}(hp:pk ps k=some p)(hp':p=.sl a w l es\/(∃c,p=.rd a c w l es)\/∃b tg,p=.arr b w l es tg)(hq:pk ps q=some (.gen (bN r R L es)))(h:l=L.length->Wo dr E n ops K os m0 fs ps):Wo dr E n ops K os m0 fs ps:=by
 have key:∀m,Hp m0 m ps->l=L.length:=fun m hm=>(IY (lo:=0) hm hp hp').trans (JB hm hq);cases dr with
 | false=>exact fun t m hf hm=>h (key m hm) t m hf hm
 | true=>exact fun t m w hf hm hw=>h (key m hm) t m w hf hm hw
def Wn.qU{j q:Nat}{R:OM}{L:PM α}{es:OK}{z:α}{N:r.G->PM Pc}(hq:pk ps q=some (.gen (bN r R L es)))(hl:L[j]? = some z)(hN:∀g,N g=r.N z g R++ps)(k:∀g,es[j]? = some (r.V z g)->Wn E n ops prs K os ss m0 fs (N g)):Wn E n ops prs K os ss m0 fs ps:=fun t m ns hf hm hn=>by
 obtain⟨g,h1,h2⟩:=hm.qU hq hl; exact k g h1 t m ns hf (by rw[hN]; exact h2) hn
end
section
variable{m0 m:PJ}{ps qs:PM Pc}
end
structure Orp{α:Type}(r:Rep α) where
 G:Type
 V:α->G->PM ON
 N:α->G->PM Pc
 len:∀x g,(V x g).length=r.w
 one:∀x g,(V x g).all lD=true
 own:∀x g,∀p∈N x g,p.bound=true/\∀b,p.any b->p.ow b
 frz:∀{m:PJ} {x:α} {g:G} {S:OM},(∀p∈N x g,p.ok 0 m)->(∀p∈N x g,∀b,p.any b->S b)->∃g',V x g=r.V x g'/\r.A m S x g'
section
variable{α β:Type}{r:Rep α}{r2:Rep β}
end
section
variable{α:Type}{r:Rep α}{o:Orp r}{E:Env}{n:Nat}{m0 m:PJ}{fs:Fs}{ps:PM Pc}
end
section
variable{α:Type}{E:Env}{n:Nat}{m0 m:PJ}{fs:Fs}{ps:PM Pc}{r:Rep α}{x:OP}{ty elem:OO}
def wR.rep{z:α}{g:r.G}{S:OM}(h:Lf m0 ps r z g S)(k:Nat):wR m0 ps r (List.replicate k z) ((List.replicate k (r.V z g)).map fun e=>e) S:=fun m hm=>by
 refine⟨?_,(h m hm).2⟩;rw[List.map_id'];refine⟨by simp,fun i y hi=>?_⟩
 obtain⟨hi1,hi2⟩:=ML.1 hi;rw[List.length_replicate] at hi1;rw[List.getElem_replicate] at hi2;subst hi2;exact⟨g,by rw[Oo,MG hi1],(h m hm).1⟩
end
end Go.Ab.W
section
open Go Go.Ab Go.Ab.W
abbrev Pv:=@Hp.dF
abbrev Pp:=@Hp.bS
end
end
