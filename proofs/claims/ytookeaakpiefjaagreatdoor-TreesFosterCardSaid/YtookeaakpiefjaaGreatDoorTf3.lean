/- A part of the proof. -/
import Derived.Test.YtookeaakpiefjaaGreatDoorTf2
import Derived.ChangeStays
import Derived.ChangeShapes
import Derived.OpenShut
import Derived.RowKit
import Derived.Shelf.Spec.BitsCarry
import Derived.Test.YtookeaakpiefjaaGreatDoorRows
import Derived.Test.YtookeaakpiefjaaGreatDoorTie
import Derived.Test.YtookeaakpiefjaaGreatDoorCards
import Derived.ProofKit
import Derived.LaidMore
import Derived.Stop.Joined
import Derived.SevenTiedAt
section
namespace Go.Ab
open Go
noncomputable def Lm (v:Value) (x:Bool):Bool :=
 Value.rec (motive_1:=fun _=>Bool) (motive_2:=fun _=>Bool) (motive_3:=fun _=>Bool) (fun _=>false) (fun _ _=>false) (fun _ _=>false) (fun _ _ _=>false) (fun _=>false) (fun a=>Option.rec (motive:=fun _=>Bool) false (fun _=>x) a) (fun _ _ _=>false) (fun _=>false) (fun _=>false)
  (fun f _ _ _ _=>Fn.rec (motive:=fun _=>Bool) (fun _=>x) (fun _=>false) (fun _ _=>false) (fun _ _ _ _=>false) (fun _=>x) f) false (fun _ _ _=>false) false (fun _ _=>false) (fun _ _=>false)
  (fun _ _=>false) false (fun _ _ _ _=>false) v
noncomputable def NC (r:Option (List Value)) (K:List Value→Bool):Bool:=Option.rec (motive:=fun _=>Bool) false (fun l=>ri l K) r
theorem uU {r:Option (List Value)} {K:List Value→Bool} (h:NC r K=true):∃l,r=some l∧K l=true:=by
 cases r with
 | none=>cases h
 | some l=>exact⟨l,rfl,by rw[←jA l K]; exact h⟩
noncomputable def sO (kd:IntKind) (a:Int) (es:List (Value × Value)):Nat→(Option (Nat × Value)→Bool)→Bool :=
 List.rec (motive:=fun _=>Nat→(Option (Nat × Value)→Bool)→Bool) (fun _ k=>k none) (fun e _ ih i k=>Prod.rec (motive:=fun _=>Bool) (fun x y=>me x fun kd' b=>eh (ke kd kd') (eh (PX a b) (k (some (i,y))) (fN (Nat.succ i) fun i=>ih i k)) false) e) es
theorem jf {P:Program} {kt:TypeId} {kd0 kd:IntKind} {a:Int} (hu:P.underlying kt=some (.int kd0)):∀{es:List (Value × Value)} {i:Nat} {k:Option (Nat × Value)→Bool},sO kd a es i k=true→∃r,gC P kt (.int kd a) es i=some r∧k r=true
 | [],i,k,h=>⟨none,rfl,h⟩
 | (x,y)::es,i,k,h=>by
  have h':(me x fun kd' b=>eh (ke kd kd') (eh (PX a b) (k (some (i,y))) (fN (Nat.succ i) fun i=>sO kd a es i k)) false)=true:=h;obtain⟨kd',b,e,h1⟩:=cF h';obtain⟨hk,h2⟩:=bz h1;cases ei hk;subst e;have he:iN P Op.maxDepth kt (.int kd a) (.int kd b)=some (a == b):=by
   show iN P (Nat.succ _) kt (.int kd a) (.int kd b)=_
   simp only[iN,hu,if_true]
  rcases cL h2 with⟨h3,h4⟩|⟨h3,h4⟩
  ·rw[xx] at h3;exact⟨_,by simp only[gC,he,h3],h4⟩
  ·rw[xx] at h3;rw[dp] at h4;obtain⟨r,h5,h6⟩:=jf hu h4;exact⟨r,by simp only[gC,he,h3]; exact h5,h6⟩
noncomputable def sP (m:AMem) (x:Value) (k:List (Value × Value)→Bool):Bool:=Kb x fun r=>Option.rec (motive:=fun _=>Bool) (k []) (fun r=>Hg m r k) r
theorem mE {m:AMem} {x:Value} {k:List (Value × Value)→Bool} (h:sP m x k=true):∃es,mapOf m x=some es∧k es=true:=by
 obtain⟨r,e,h1⟩:=pv h;subst e;cases r with
 | none=>exact⟨[],rfl,h1⟩
 | some r =>
  obtain⟨es,hg,h2⟩:=po h1;exact⟨es,by simp only[mapOf,hg],h2⟩
structure Look where
 run:Value→Value→AMem→(Value→Bool)→Bool
noncomputable def FV (P:Program) (ty:TypeId) (ok:Bool):Look :=
 match P.underlying ty with
 | some (.map key elem)=>match P.underlying key,bu P elem with
  | some (.int _),some z=>match bw z,ok with
   | true,true=>⟨fun x n m K=>sP m x fun es=>me n fun kd a=>eh (gQ P key (.int kd a)) (sO kd a es 0 fun r=>Option.rec (motive:=fun _=>Bool) (K (.tuple #[z,.bool false])) (fun iv=>Prod.rec (motive:=fun _=>Bool) (fun _ v=>K (.tuple #[v,.bool true])) iv) r) false⟩
   | true,false=>⟨fun x n m K=>sP m x fun es=>me n fun kd a=>eh (gQ P key (.int kd a)) (sO kd a es 0 fun r=>Option.rec (motive:=fun _=>Bool) (K z) (fun iv=>Prod.rec (motive:=fun _=>Bool) (fun _ v=>K v) iv) r) false⟩
   | false,_=>⟨fun x n m K=>qe (cO P ty x n ok m) K⟩
  | _,_=>⟨fun x n m K=>qe (cO P ty x n ok m) K⟩
 | _=>⟨fun x n m K=>qe (cO P ty x n ok m) K⟩
theorem Is {P:Program} {ty:TypeId} {ok:Bool} {x n:Value} {m:AMem} {K:Value→Bool} (h:(FV P ty ok).run x n m K=true):∃v,cO P ty x n ok m=some v∧K v=true:=by
 unfold FV at h
 split at h
 ·rename_i key elem h1
  split at h
  ·rename_i kd0 z h2 h3
   split at h
   ·rename_i h4
    dsimp only at h
    obtain⟨es,h5,h6⟩:=mE h;obtain⟨kd,a,e,h7⟩:=cF h6;subst e;obtain⟨h8,h9⟩:=bz h7;obtain⟨r,h10,h11⟩:=jf h2 h9;cases r with
    | none=>exact⟨_,by simp only[cO,h1,h5,h3,h8,if_true,h10,h4],h11⟩
    | some iv =>
     obtain⟨i,v⟩:=iv;exact⟨_,by simp only[cO,h1,h5,h3,h8,if_true,h10],h11⟩
   ·rename_i h4
    dsimp only at h
    obtain⟨es,h5,h6⟩:=mE h;obtain⟨kd,a,e,h7⟩:=cF h6;subst e;obtain⟨h8,h9⟩:=bz h7;obtain⟨r,h10,h11⟩:=jf h2 h9;cases r with
    | none=>exact⟨_,by simp only[cO,h1,h5,h3,h8,if_true,h10,h4]; rfl,h11⟩
    | some iv =>
     obtain⟨i,v⟩:=iv;exact⟨_,by simp only[cO,h1,h5,h3,h8,if_true,h10]; rfl,h11⟩
   ·exact bS h
  ·exact bS h
 ·exact bS h
noncomputable def I1 (P:Program) (kt:TypeId) (x key value:Value) (m:AMem) (K:AMem→Bool):Bool :=
 Kb x fun r=>Option.rec (motive:=fun _=>Bool) false (fun r=>Hg m r fun es=>me key fun kd a=>eh (gQ P kt (.int kd a))
  (sO kd a es 0 fun f=>Option.rec (motive:=fun _=>Bool) (kV es [(.int kd a,value)] fun es=>cZ m r (.map es) K) (fun iv=>Prod.rec (motive:=fun _=>Bool) (fun i _=>eh (gZ es i (.int kd a)) (ri (jQ es i (.int kd a) value) fun es=>cZ m r (.map es) K) false) iv) f) false) r
noncomputable def Mc (P:Program) (kt:TypeId) (x key value:Value) (m:AMem) (K:AMem→Bool):Bool :=
 Kb x fun r=>Option.rec (motive:=fun _=>Bool) false (fun r=>Hg m r fun es=>eh (gQ P kt key)
  (Option.rec (motive:=fun _=>Bool) false (fun f=>Option.rec (motive:=fun _=>Bool) (kV es [(key,value)] fun es=>cZ m r (.map es) K) (fun iv=>Prod.rec (motive:=fun _=>Bool) (fun i _=>eh (gZ es i key) (ri (jQ es i key value) fun es=>cZ m r (.map es) K) false) iv) f) (gC P kt key es 0)) false) r
structure MapUp where
 run:Value→Value→Value→AMem→(AMem→Bool)→Bool
noncomputable def w5 (P:Program) (ty:TypeId):MapUp :=
 match P.underlying ty with
 | some (.map kt _)=>match P.underlying kt with
  | some (.int _)=>⟨fun x k v m K=>I1 P kt x k v m K⟩
  | _=>⟨fun x k v m K=>Mc P kt x k v m K⟩
 | _=>⟨fun _ _ _ _ _=>false⟩
theorem uB {P:Program} {ty:TypeId} {x k v:Value} {m:AMem} {K:AMem→Bool} (h:(w5 P ty).run x k v m K=true):∃m',cJ P ty x k v m=some m'∧K m'=true:=by
 unfold w5 at h
 split at h
 ·rename_i kt vt h1
  split at h
  ·rename_i kd0 h2;obtain⟨r,e,h3⟩:=pv h;subst e;cases r with
   | none=>cases h3
   | some r =>
    obtain⟨es,hg,h4⟩:=po h3;obtain⟨kd,a,e,h5⟩:=cF h4;subst e;obtain⟨h6,h7⟩:=bz h5;obtain⟨f,h8,h9⟩:=jf h2 h7;cases f with
    | none =>
     have h10:(kV es [(.int kd a,v)] fun es=>cZ m r (.map es) K)=true:=h9;rw[fA,cU] at h10;exact⟨_,by simp only[cJ,h1,hg,h6,if_true,h8],h10⟩
    | some iv =>
     obtain⟨i,w⟩:=iv;obtain⟨h10,h11⟩:=bz h9;rw[jA,cU] at h11;exact⟨_,by simp only[cJ,h1,hg,h6,if_true,h8,h10],h11⟩
  have g:=pv h; clear h; obtain⟨r,rfl,h⟩:=g;cases r with
  | none=>cases h
  | some r =>
   have g:=po h; clear h; obtain⟨es,hg,h⟩:=g;have g:=bz h; clear h; obtain⟨h2,h⟩:=g;cases hf:gC P kt k es 0 with
   | none=>rw[hf] at h; cases h
   | some f =>
    rw[hf] at h;cases f with
    | none =>
     rw[show(Option.rec (motive:=fun _=>Bool) false (fun f=>Option.rec (motive:=fun _=>Bool) (kV es [(k,v)] fun es=>cZ m r (.map es) K) (fun iv=>Prod.rec (motive:=fun _=>Bool) (fun i _=>eh (gZ es i k) (ri (jQ es i k v) fun es=>cZ m r (.map es) K) false) iv) f) (some (none:Option (Nat × Value))))=kV es [(k,v)] fun es=>cZ m r (.map es) K from rfl,fA,cU] at h
     exact⟨_,by simp only[cJ,h1,hg,h2,if_true,hf],h⟩
    | some iv =>
     obtain⟨i,w⟩:=iv;have g:=bz h; clear h; obtain⟨h3,h⟩:=g;rw[jA,cU] at h;exact⟨_,by simp only[cJ,h1,hg,h2,if_true,hf,h3],h⟩
 ·cases h
noncomputable def Qo (E:Env) (o:Op):OpSem :=
 match o with
 | .move x=>⟨fun t m K=>(dw E x).run t fun v=>K v m⟩
 | .assign x=>⟨fun t m K=>(dw E x).run t fun v=>K v m⟩
 | .pick c a b=>⟨fun t m K=>(dw E c).run t fun v=>sA v (fun c=>eh c ((dw E a).run t fun v=>K v m) ((dw E b).run t fun v=>K v m)) false⟩
 | .alloc elem =>
  match bu E.P elem with
  | some z=>match bw z with
   | true=>⟨fun _ m K=>dk m (.cells z.cells.toList .own) fun b m=>K (ptr b 0) m⟩
   | false=>su
  | none=>su
 | .box _ x=>⟨fun t m K=>(dw E x).run t fun v=>BA v fun cs=>dk m (.cells cs .own) fun b m=>K (ptr b 0) m⟩
 | .build ty parts =>
  match bu E.P ty with
  | some z=>match bw z with
   | true=>⟨fun t m K=>(vn E parts.toList).run t fun ps=>qe (j6 E.P ty ps) fun v=>K v m⟩
   | false=>su
  | none=>su
 | .buildSlice ty len parts =>
  match E.P.underlying ty with
  | some (.slice elem) =>
   match !(known E.P elem) || decide (len*al E.P elem>2 ^ 24),ef E.P elem len with
   | false,some zs=>match zs.all aw with
    | true=>⟨fun t m K=>(vn E parts.toList).run t fun ps=>NC (gV (fun i=>some (i*al E.P elem,al E.P elem)) zs ps) fun cs=>dk m (.cells cs .own) fun b m=>K (.slice (some ⟨b,0,none⟩) len len) m⟩
    | false=>su
   | _,_=>su
  | _=>su
 | .load ty a=>⟨fun t m K=>(dw E a).run t fun p=>(B4 E.P ty).run p m fun v=>K v m⟩
 | .store ty a x=>⟨fun t m K=>(dw E a).run t fun p=>(dw E x).run t fun v=>(BM E.P ty).run p v m fun m=>K undef m⟩
 | .nilCheck x=>⟨fun t m K=>(dw E x).run t fun v=>Lm v (K v m)⟩
 | .binOp op xt x y _=>⟨fun t m K=>(dw E x).run t fun a=>(dw E y).run t fun b=>(Nz op xt E.P).run a b fun v=>K v m⟩
 | .unOp op _ x=>⟨fun t m K=>(dw E x).run t fun a=>(Q5 op).run a fun v=>K v m⟩
 | .convert src dst x=>⟨fun t m K=>(dw E x).run t fun a=>(G2 E.P src dst).run a fun v=>K v m⟩
 | .makeFunc fn first captured =>
  match fn with
  | .func f=>⟨fun t m K=>(Ag E first.toList).run t fun fs=>(Ag E captured.toList).run t fun cs=>K (.func (.func f) ⟨fs⟩ ⟨cs⟩) m⟩
  | _=>su
 | .makeMap _ r =>
  match r with
  | none=>⟨fun _ m K=>dk m (.map []) fun b m=>K (.map (some b)) m⟩
  | some _=>su
 | .makeSlice ty len cap =>
  match E.P.underlying ty with
  | some (.slice elem)=>⟨fun t m K=>(dw E len).run t fun lv=>(dw E cap).run t fun cv=>me lv fun lk l=>me cv fun ck c=>eh (ke lk .i64) (eh (ke ck .i64)
    (eh (decide (0≤l∧l≤c∧(E.P.info? elem).any (fun i=>i.bytes*c≤2 ^ 40 && i.bytes != 0)∧known E.P elem)) (fN c.toNat fun cn=>NC (ef E.P elem cn) fun zs=>eh (zs.all aw) (fN l.toNat fun ln=>dk m (.cells zs .own) fun b m=>K (.slice (some ⟨b,0,none⟩) ln cn) m) false) false) false) false⟩
  | _=>su
 | .slice ty x lo hi mx=>⟨fun t m K=>(dw E x).run t fun v=>(G0 E lo).run t fun l=>(G0 E hi).run t fun h=>(G0 E mx).run t fun k=>qe (cl E.P ty v l h k m) fun v=>K v m⟩
 | .fieldAddr s x f=>⟨fun t m K=>(dw E x).run t fun v=>(nk E.P s f).run v fun v=>K v m⟩
 | .field ty x f=>⟨fun t m K=>(dw E x).run t fun v=>(Bo E.P ty f).run v fun v=>K v m⟩
 | .indexAddr ty x i=>⟨fun t m K=>(dw E x).run t fun v=>(dw E i).run t fun n=>(ng E.P ty).run v n fun v=>K v m⟩
 | .index ty x i=>⟨fun t m K=>(dw E x).run t fun v=>(dw E i).run t fun n=>qe (fJ E.P ty v n) fun v=>K v m⟩
 | .lookup ty x i ok=>⟨fun t m K=>(dw E x).run t fun v=>(dw E i).run t fun n=>(FV E.P ty ok).run v n m fun v=>K v m⟩
 | .mapUpdate ty x k v=>⟨fun t m K=>(dw E x).run t fun x=>(dw E k).run t fun k=>(dw E v).run t fun v=>(w5 E.P ty).run x k v m fun m=>K undef m⟩
 | .insert ty x k v=>⟨fun t m K=>(dw E x).run t fun x=>(dw E k).run t fun k=>(dw E v).run t fun v=>(w5 E.P ty).run x k v m fun m=>K undef m⟩
 | .extract x i=>⟨fun t m K=>(dw E x).run t fun v=>Ge v fun vs=>zR i vs.toList fun v=>K v m⟩
 | .call c =>
  match c.callee,c.args.toList with
  | .builtin .len,[x]=>match Mx E.P c.argTypes[0]? with
   | some S=>⟨fun t m K=>(dw E x).run t fun v=>S.run v fun v=>K v m⟩
   | none=>yi E o
  | .builtin .append,[s,x]=>match c.argTypes[0]? with
   | some ty=>⟨fun t m K=>(dw E s).run t fun s=>(dw E x).run t fun x=>(MZ E.P ty c.argTypes[1]?).run s x m K⟩
   | none=>su
  | _,_=>yi E o
 | o=>yi E o
theorem Bq {v:Value} {x:Bool} (h:Lm v x=true):x=true∧((∃a,v = .pointer (some a))∨(∃f a b,v = .func (.func f) a b)∨(∃f a b,v = .func (.yield f) a b)):=by
 cases v with
 | pointer a=>cases a with
  | none=>cases h
  | some a=>exact⟨h,.inl ⟨a,rfl⟩⟩
 | func f a b=>cases f with
  | func f=>exact⟨h,.inr (.inl ⟨f,a,b,rfl⟩)⟩
  | yield f=>exact⟨h,.inr (.inr ⟨f,a,b,rfl⟩)⟩
  | _=>cases h
 | _=>cases h
theorem Ia {E:Env} (o:Op):Pp E (Qo E o) o:=by
 intro t m K h;unfold Qo at h
 split at h
 ·have g:=aW h; clear h; obtain⟨v,h1,h⟩:=g;exact⟨v,m,by simp only[cM,h1,Option.map_some],h⟩
 ·have g:=aW h; clear h; obtain⟨v,h1,h⟩:=g;exact⟨v,m,by simp only[cM,h1,Option.map_some],h⟩
 ·have g:=aW h; clear h; obtain⟨v,h1,h⟩:=g;have g:=jW h; clear h; obtain⟨b,rfl,h⟩:=g;have g:=cL h; clear h; rcases g with⟨rfl,h⟩|⟨rfl,h⟩
  ·have g:=aW h; clear h; obtain⟨v,h2,h⟩:=g;exact⟨v,m,by simp only[cM,h1,h2,Option.map_some],h⟩
  ·have g:=aW h; clear h; obtain⟨v,h2,h⟩:=g;exact⟨v,m,by simp only[cM,h1,h2,Option.map_some],h⟩
 ·split at h
  ·rename_i z hz
   split at h
   ·rename_i hp;simp only[cd] at h;exact⟨_,_,by simp only[cM,hz,if_pos hp],h⟩
   ·cases h
  ·cases h
 ·have g:=aW h; clear h; obtain⟨v,h1,h⟩:=g;rw[uo,cd] at h;exact⟨_,_,by simp only[cM,h1,Option.map_some],h⟩
 ·split at h
  ·rename_i z hz
   split at h
   ·rename_i hp;have g:=pC h; clear h; obtain⟨ps,h1,h⟩:=g;have g:=bS h; clear h; obtain⟨v,h2,h⟩:=g;exact⟨v,m,by simp only[cM,h1,hz,if_pos hp,h2,Option.map_some],h⟩
   ·cases h
  ·cases h
 ·split at h
  ·rename_i elem hu
   split at h
   ·rename_i zs hk hz
    split at h
    ·rename_i hp;have g:=pC h; clear h; obtain⟨ps,h1,h⟩:=g;have g:=uU h; clear h; obtain⟨cs,h2,h⟩:=g;rw[cd] at h;exact⟨_,_,by simp only[cM,hu,h1,hz,if_pos hp,h2,Option.map_some]; rw[if_neg (by rw[hk]; exact Bool.false_ne_true)],h⟩
    ·cases h
   ·cases h
  ·cases h
 ·have g:=aW h; clear h; obtain⟨p,h1,h⟩:=g;have g:=Af h; clear h; obtain⟨v,h2,h⟩:=g;exact⟨v,m,by simp only[cM,h1,h2,Option.map_some],h⟩
 ·have g:=aW h; clear h; obtain⟨p,h1,h⟩:=g;have g:=aW h; clear h; obtain⟨v,h2,h⟩:=g;have g:=D3 h; clear h; obtain⟨m',h3,h⟩:=g;exact⟨_,_,by simp only[cM,h1,h2,h3,Option.map_some],h⟩
 ·have g:=aW h; clear h; obtain⟨p,h1,h⟩:=g;have g:=Bq h; clear h; obtain⟨h,⟨a,rfl⟩|⟨f,a,b,rfl⟩|⟨f,a,b,rfl⟩⟩:=g
  ·exact⟨_,_,by simp only[cM,h1],h⟩
  ·exact⟨_,_,by simp only[cM,h1],h⟩
  ·exact⟨_,_,by simp only[cM,h1],h⟩
 ·have g:=aW h; clear h; obtain⟨a,h1,h⟩:=g;have g:=aW h; clear h; obtain⟨b,h2,h⟩:=g;have g:=KJ h; clear h; obtain⟨v,h3,h⟩:=g;exact⟨_,_,by simp only[cM,h1,h2,h3,Option.map_some],h⟩
 ·have g:=aW h; clear h; obtain⟨a,h1,h⟩:=g;have g:=MI h; clear h; obtain⟨v,h3,h⟩:=g;exact⟨_,_,by simp only[cM,h1,h3,Option.map_some],h⟩
 ·have g:=aW h; clear h; obtain⟨a,h1,h⟩:=g;have g:=GW h; clear h; obtain⟨v,h3,h⟩:=g;exact⟨_,_,by simp only[cM,h1,h3,Option.map_some],h⟩
 ·split at h
  ·have g:=nz h; clear h; obtain⟨fs,h1,h⟩:=g;have g:=nz h; clear h; obtain⟨cs,h2,h⟩:=g;exact⟨_,_,by simp only[cM,h1,h2],h⟩
  ·cases h
 ·split at h
  ·simp only[cd] at h;exact⟨_,_,by simp only[cM],h⟩
  ·cases h
 ·split at h
  ·rename_i elem hu;have g:=aW h; clear h; obtain⟨lv,h1,h⟩:=g;have g:=aW h; clear h; obtain⟨cv,h2,h⟩:=g;have g:=cF h; clear h; obtain⟨lk,l,rfl,h⟩:=g;have g:=cF h; clear h; obtain⟨ck,c,rfl,h⟩:=g;have g:=bz h; clear h; obtain⟨e1,h⟩:=g;have g:=bz h; clear h; obtain⟨e2,h⟩:=g;cases ei e1;cases ei e2;have g:=bz h; clear h; obtain⟨h3,h⟩:=g;rw[dp] at h;have g:=uU h; clear h; obtain⟨zs,h4,h⟩:=g;have g:=bz h; clear h; obtain⟨h5,h⟩:=g;rw[dp,cd] at h;exact⟨_,_,by simp only[cM,hu,h1,h2,h4,if_pos (of_decide_eq_true h3),if_pos h5],h⟩
  ·cases h
 ·have g:=aW h; clear h; obtain⟨v,h1,h⟩:=g;have g:=vG h; clear h; obtain⟨l,h2,h⟩:=g;have g:=vG h; clear h; obtain⟨hh,h3,h⟩:=g;have g:=vG h; clear h; obtain⟨k,h4,h⟩:=g;have g:=bS h; clear h; obtain⟨w,h5,h⟩:=g;exact⟨_,_,by simp only[cM,h1,h2,h3,h4,h5,Option.map_some],h⟩
 ·have g:=aW h; clear h; obtain⟨v,h1,h⟩:=g;have g:=tM h; clear h; obtain⟨w,h2,h⟩:=g;exact⟨_,_,by simp only[cM,h1,h2,Option.map_some],h⟩
 ·have g:=aW h; clear h; obtain⟨v,h1,h⟩:=g;have g:=EF h; clear h; obtain⟨w,h2,h⟩:=g;exact⟨_,_,by simp only[cM,h1,h2,Option.map_some],h⟩
 ·have g:=aW h; clear h; obtain⟨v,h1,h⟩:=g;have g:=aW h; clear h; obtain⟨n,h2,h⟩:=g;have g:=tL h; clear h; obtain⟨w,h3,h⟩:=g;exact⟨_,_,by simp only[cM,h1,h2,h3,Option.map_some],h⟩
 ·have g:=aW h; clear h; obtain⟨v,h1,h⟩:=g;have g:=aW h; clear h; obtain⟨n,h2,h⟩:=g;have g:=bS h; clear h; obtain⟨w,h3,h⟩:=g;exact⟨_,_,by simp only[cM,h1,h2,h3,Option.map_some],h⟩
 ·have g:=aW h; clear h; obtain⟨v,h1,h⟩:=g;have g:=aW h; clear h; obtain⟨n,h2,h⟩:=g;have g:=Is h; clear h; obtain⟨w,h3,h⟩:=g;exact⟨_,_,by simp only[cM,h1,h2,h3,Option.map_some],h⟩
 ·have g:=aW h; clear h; obtain⟨x,h1,h⟩:=g;have g:=aW h; clear h; obtain⟨k,h2,h⟩:=g;have g:=aW h; clear h; obtain⟨v,h3,h⟩:=g;have g:=uB h; clear h; obtain⟨m',h4,h⟩:=g;exact⟨_,_,by simp only[cM,h1,h2,h3,h4,Option.map_some],h⟩
 ·have g:=aW h; clear h; obtain⟨x,h1,h⟩:=g;have g:=aW h; clear h; obtain⟨k,h2,h⟩:=g;have g:=aW h; clear h; obtain⟨v,h3,h⟩:=g;have g:=uB h; clear h; obtain⟨m',h4,h⟩:=g;exact⟨_,_,by simp only[cM,h1,h2,h3,h4,Option.map_some],h⟩
 ·rename_i x i;have g:=aW h; clear h; obtain⟨v,h1,h⟩:=g;have g:=yu h; clear h; obtain⟨vs,rfl,h⟩:=g;have g:=fS h; clear h; obtain⟨w,h2,h⟩:=g;have h2':vs[i]? = some w:=by simpa using h2
  exact⟨_,_,by simp only[cM,h1,h2',Option.map_some],h⟩
 ·rename_i c
  split at h
  ·rename_i x hc ha
   split at h
   ·rename_i S hS;have g:=aW h; clear h; obtain⟨v,h1,h⟩:=g;have g:=Kk (m:=m) hS h; clear h; obtain⟨w,h2,h⟩:=g;exact⟨_,_,by simp only[cM,hc,ha,bq,h1,h2],h⟩
   ·exact sJ h
  ·rename_i s x hc ha
   split at h
   ·rename_i ty hty;have g:=aW h; clear h; obtain⟨v,h1,h⟩:=g;have g:=aW h; clear h; obtain⟨w,h2,h⟩:=g;have g:=Ks h; clear h; obtain⟨r,m',h3,h⟩:=g;exact⟨_,_,by simp only[cM,hc,ha,bq,h1,h2,aI,hty,h3],h⟩
   ·cases h
  ·exact sJ h
 ·exact sJ h
structure Hand where
 call:FuncId→List Value→AMem→(Value→AMem→Bool)→Bool
 round:Nat→List Value→AMem→(Value→AMem→Bool)→Bool
def IM (E:Env) (H:Hand):Prop :=
 (∀{f:FuncId} {args:List Value} {m:AMem} {K:Value→AMem→Bool},H.call f args m K=true→aB E f args m fun v m'=>K v m'=true) ∧
 (∀{l:Nat} {args:List Value} {m:AMem} {K:Value→AMem→Bool},H.round l args m K=true→rR E l args m fun v m'=>K v m'=true)
structure OperSem where
 run:Hand→Tm→AMem→(Value→AMem→Bool)→Bool
noncomputable def Qw (H:Hand) (fn:Fn) (first captured:Array Value) (args:List Value) (m:AMem) (K:Value→AMem→Bool):Bool :=
 Fn.rec (motive:=fun _=>Bool) (fun g=>kV first.toList args fun l=>kV l captured.toList fun l=>H.call g l m K) (fun _=>false) (fun _ _=>false) (fun _ _ _ _=>false) (fun l=>kV first.toList args fun ars=>H.round l ars m K) fn
noncomputable def pK (E:Env) (o:Op):OperSem :=
 match o with
 | .call c=>match c.callee with
  | .value f=>⟨fun H t m K=>(dw E f).run t fun fv=>Fl fv fun fn first captured=>(Ag E c.args.toList).run t fun args=>Qw H fn first captured args m K⟩
  | _=>⟨fun _ t m K=>(Qo E o).run t m K⟩
 | _=>⟨fun _ t m K=>(Qo E o).run t m K⟩
theorem nK {E:Env} {H:Hand} (hH:IM E H) {o:Op} {t:Tm} {m:AMem} {K:Value→AMem→Bool} (h:(pK E o).run H t m K=true):jy E t m o fun v m'=>K v m'=true:=by
 unfold pK at h
 split at h
 ·rename_i c
  split at h
  ·rename_i f hc;have g:=aW h; clear h; obtain⟨fv,h1,h⟩:=g;have g:=td h; clear h; obtain⟨fn,first,captured,rfl,h⟩:=g
   have g:=nz h; clear h; obtain⟨args,h2,h⟩:=g;cases fn with
   | func g =>
    have h':(kV first.toList args fun l=>kV l captured.toList fun l=>H.call g l m K)=true:=h
    rw[fA,fA] at h';exact .call hc h1 h2 (hH.1 h')
   | yield l =>
    have h':(kV first.toList args fun ars=>H.round l ars m K)=true:=h
    rw[fA] at h';exact .round hc h1 h2 (hH.2 h')
   | _=>cases h
  ·obtain⟨v,m',h1,h2⟩:=Ia _ h;exact .plain h1 h2
 ·obtain⟨v,m',h1,h2⟩:=Ia _ h;exact .plain h1 h2
noncomputable def mN (n:Nat) (dst:Option Tmp):IK :=
 match dst with
 | none=>⟨fun t _ k=>k t⟩
 | some d=>match Nat.blt d n,Nat.blt d 512 with
  | true,true=>BZ d
  | _,_=>⟨fun _ _ _=>false⟩
theorem iR {n:Nat} {dst:Option Tmp} {t:Tm} {v:Value} {k:Tm→Bool} (h:(mN n dst).run t v k=true):Gw n t dst v fun t=>k t=true:=by
 unfold mN at h
 split at h
 ·exact⟨t,rfl,h⟩
 ·rename_i d
  split at h
  ·rename_i h1 h2;rw[zW d (by simpa using h2)] at h
   exact⟨_,by simp only[iE,h1],h⟩
  ·cases h
noncomputable def zY (d:Nat):Get:=if d<512 then Mb d else⟨fun _ _=>false⟩
theorem sI {d:Nat} {t:Tm} {k:Value→Bool} (h:(zY d).run t k=true):k (t.at d)=true:=by
 unfold zY at h
 split at h
 ·rename_i hd; rw[Dz d hd] at h; exact h
 ·cases h
noncomputable def Ra (a b:Bool):Bool:=Bool.rec (motive:=fun _=>Bool) (not b) b a
theorem G9 (a b:Bool):Ra a b=(a == b):=by cases a<;>cases b<;>rfl
theorem B5 {t:Tm} {d:Nat} {b:Bool} (h:t.at d = .bool b):t.get d=some (.bool b):=by
 unfold Tm.at at h;cases hg:Trie.get t d with
 | none=>rw[hg] at h; cases h
 | some v=>rw[hg] at h; exact congrArg some h
theorem Ax {t:Tm} {d:Nat} (h:∀b,t.at d≠.bool b) (b:Bool):t.get d≠some (.bool b):=by
 intro e; exact h b (by unfold Tm.at; rw[e]; rfl)
structure Guard where
 run:Tm→Bool→Bool→Bool
noncomputable def oV (ops:Array Oper) (o:Oper):Guard :=
 match o.guard with
 | none=>⟨fun _ x _=>x⟩
 | some (j,want)=>match (ops[j]?).bind (·.dst) with
  | some d=>⟨fun t x y=>(zY d).run t fun v=>sA v (fun b=>eh (Ra b want) x y) y⟩
  | none=>⟨fun _ _ y=>y⟩
theorem lQ {ops:Array Oper} {o:Oper} {t:Tm} {x y:Bool} (h:(oV ops o).run t x y=true):(bp ops o t=true∧x=true)∨(bp ops o t=false∧y=true):=by
 unfold oV at h
 split at h
 ·rename_i hg; exact .inl ⟨by simp only[bp,hg],h⟩
 ·rename_i j want hg
  split at h
  ·rename_i d hd;have g:=sI h; clear h;rcases zC g with⟨b,hb,h⟩|⟨hb,h⟩
   ·have hy:cX ops t j=some b:=by simp only[cX,hd,B5 hb]
    rcases cL h with⟨h1,h⟩|⟨h1,h⟩
    ·exact .inl ⟨by simp only[bp,hg,hy]; rw[←G9]; exact h1,h⟩
    ·exact .inr ⟨by simp only[bp,hg,hy]; rw[←G9]; exact h1,h⟩
   ·have hy:cX ops t j=none:=by
     simp only[cX,hd];have:=Ax hb
     split
     ·rename_i b e; exact absurd e (this b)
     ·rfl
    exact .inr ⟨by simp only[bp,hg,hy],h⟩
  ·rename_i hd;exact .inr ⟨by simp only[bp,hg,cX,hd],h⟩
structure RegSem where
 run:Hand→Tm→AMem→(Tm→AMem→Bool)→Bool
noncomputable def D6 (E:Env) (n:Nat) (ops:Array Oper):List Oper→RegSem
 | []=>⟨fun _ t m K=>K t m⟩
 | o::os=>match o.guard with
  | none=>⟨fun H t m K=>(pK E o.op).run H t m fun v m=>(mN n o.dst).run t v fun t=>(D6 E n ops os).run H t m K⟩
  | some _=>⟨fun H t m K=>(oV ops o).run t ((pK E o.op).run H t m fun v m=>(mN n o.dst).run t v fun t=>(D6 E n ops os).run H t m K) ((mN n o.dst).run t undef fun t=>(D6 E n ops os).run H t m K)⟩
theorem qF {E:Env} {H:Hand} (hH:IM E H) {n:Nat} {ops:Array Oper} {K:Tm→AMem→Bool}:∀{os:List Oper} {t:Tm} {m:AMem},(D6 E n ops os).run H t m K=true→rB E n ops (fun t m=>K t m=true) os t m
 | [],t,m,h=>h
 | o::os,t,m,h=>by
  unfold D6 at h;simp only[rB]
  split at h
  ·rename_i hg;have hw:bp ops o t=true:=by simp only[bp,hg]
   rw[if_pos hw];refine(nK hH h).mono fun v m' h=>?_;obtain⟨t',hp,h⟩:=iR h;exact⟨t',hp,qF hH h⟩
  ·rcases lQ h with⟨hw,h⟩|⟨hw,h⟩
   ·rw[if_pos hw];refine(nK hH h).mono fun v m' h=>?_;obtain⟨t',hp,h⟩:=iR h;exact⟨t',hp,qF hH h⟩
   ·rw[if_neg (by rw[hw]; exact Bool.false_ne_true)]
    obtain⟨t',hp,h⟩:=iR h;exact⟨t',hp,qF hH h⟩
noncomputable def Hi (E:Env) (t:Tm) (m:AMem) (o:Op):Bool :=
 Option.rec (motive:=fun _=>Bool) true (fun b=>Nat.blt b m.next) (aE E t o)
noncomputable def vo (o:Op):Bool :=
 match o with
 | .load _ _ | .lookup _ _ _ _ | .slice _ _ _ _ _=>true
 | .call c=>match c.callee with
  | .builtin .len | .builtin .cap=>true
  | _=>false
 | _=>false
theorem vA {E:Env} {t:Tm} {o:Op} (h:vo o=false):aE E t o=none:=by
 cases o with
 | load a b=>cases h
 | lookup a b c d=>cases h
 | slice a b c d e=>cases h
 | call c =>
  simp only[aE];simp only[vo] at h;cases hc:c.callee with
  | value f=>rfl
  | invoke r n=>rfl
  | builtin b =>
   rw[hc] at h;cases b<;>first | (exact absurd h (by decide)) | rfl
 | _=>rfl
noncomputable def jJ (E:Env) (n:Nat) (ops:Array Oper):List Oper→RegSem
 | []=>⟨fun _ t m K=>K t m⟩
 | o::os =>
  match vo o.op with
  | false=>⟨fun H t m K=>(oV ops o).run t (sw m fun m0=>(pK E o.op).run H t m0 fun v m'=>(mN n o.dst).run t v fun t=>nN m m' fun m=>(jJ E n ops os).run H t m K) ((mN n o.dst).run t undef fun t=>(jJ E n ops os).run H t m K)⟩
  | true=>⟨fun H t m K=>(oV ops o).run t (eh (Hi E t m o.op) (sw m fun m0=>(pK E o.op).run H t m0 fun v m'=>(mN n o.dst).run t v fun t=>nN m m' fun m=>(jJ E n ops os).run H t m K) false) ((mN n o.dst).run t undef fun t=>(jJ E n ops os).run H t m K)⟩
theorem Jb {ns:List Note} (h:ns.all dh=true):ns.reverse.all dh=true:=by simpa using h
theorem oS {E:Env} {H:Hand} (hH:IM E H) {n:Nat} {ops:Array Oper} {K:Tm→AMem→Bool}:∀{os:List Oper} {t:Tm} {m:AMem} {ns:List Note},(jJ E n ops os).run H t m K=true→ns.all dh=true→dB E n ops (fun t m ns=>ns.all dh=true∧K t m=true) os t m ns
 | [],t,m,ns,h,hn=>⟨Jb hn,h⟩
 | o::os,t,m,ns,h,hn=>by
  have key:((bp ops o t=true∧dh { read:=aE E t o.op,wl:=0,next:=m.next,wrote:=none,kept:=fun _=>false}=true∧(sw m fun m0=>(pK E o.op).run H t m0 fun v m'=>(mN n o.dst).run t v fun t=>nN m m' fun m=>(jJ E n ops os).run H t m K)=true))∨(bp ops o t=false∧((mN n o.dst).run t undef fun t=>(jJ E n ops os).run H t m K)=true):=by
   unfold jJ at h
   split at h
   ·rename_i hr;rcases lQ h with⟨hw,h⟩|⟨hw,h⟩
    ·exact .inl ⟨hw,by rw[vA hr]; rfl,h⟩
    ·exact .inr ⟨hw,h⟩
   ·rcases lQ h with⟨hw,h⟩|⟨hw,h⟩
    ·obtain⟨h1,h⟩:=bz h;refine .inl ⟨hw,?_,h⟩;unfold Hi at h1;unfold dh;simp only;cases hr:aE E t o.op with
     | none=>rfl
     | some b=>rw[hr] at h1; exact h1
    ·exact .inr ⟨hw,h⟩
  simp only[dB];rcases key with⟨hw,h1,h⟩|⟨hw,h⟩
  ·rw[if_pos hw];rw[uH] at h;refine(nK hH h).mono fun v m' h=>?_;obtain⟨t',hp,h⟩:=iR h;rw[rS] at h;refine⟨t',hp,oS hH h ?_⟩;rw[List.all_cons,hn,Bool.and_true];exact h1
  ·rw[if_neg (by rw[hw]; exact Bool.false_ne_true)]
   obtain⟨t',hp,h⟩:=iR h;refine⟨t',hp,oS hH h ?_⟩;rw[List.all_cons,hn]; rfl
structure NoteSem where
 run:Hand→Tm→AMem→List Note→(Tm→AMem→List Note→Bool)→Bool
noncomputable def sG (E:Env) (n:Nat) (ops:Array Oper):List Oper→NoteSem
 | []=>⟨fun _ t m ns K=>K t m ns.reverse⟩
 | o::os=>⟨fun H t m ns K=>(oV ops o).run t
   (sw m fun m0=>(pK E o.op).run H t m0 fun v m'=>(mN n o.dst).run t v fun t'=>nN m m' fun m''=>(sG E n ops os).run H t' m'' ({ read:=aE E t o.op,wl:=m'.wl,next:=m.next,wrote:=dO E t o.op,kept:=ja m m'}::ns) K)
   ((mN n o.dst).run t undef fun t=>(sG E n ops os).run H t m ({ read:=none,wl:=m.next,next:=m.next,wrote:=none,kept:=fun _=>false}::ns) K)⟩
theorem oF {E:Env} {H:Hand} (hH:IM E H) {n:Nat} {ops:Array Oper} {K:Tm→AMem→List Note→Bool}:∀{os:List Oper} {t:Tm} {m:AMem} {ns:List Note},(sG E n ops os).run H t m ns K=true→dB E n ops (fun t m ns=>K t m ns=true) os t m ns
 | [],t,m,ns,h=>h
 | o::os,t,m,ns,h=>by
  unfold sG at h;simp only[dB];rcases lQ h with⟨hw,h⟩|⟨hw,h⟩
  ·rw[if_pos hw];rw[uH] at h;refine(nK hH h).mono fun v m' h=>?_;obtain⟨t',hp,h⟩:=iR h;rw[rS] at h;exact⟨t',hp,oF hH h⟩
  ·rw[if_neg (by rw[hw]; exact Bool.false_ne_true)]
   obtain⟨t',hp,h⟩:=iR h;exact⟨t',hp,oF hH h⟩
noncomputable def N5 (E:Env) (n:Nat) (ops:Array Oper) (draw:Bool):RegSem :=
 match draw with
 | false=>D6 E n ops ops.toList
 | true=>match jd ops with
  | none=>⟨fun _ _ _ _=>false⟩
  | some []=>jJ E n ops ops.toList
  | some ps=>⟨fun H t m K=>(sG E n ops ops.toList).run H t m [] fun t m ns=>eh (ps.all (ej ns ops) && ns.all dh) (K t m) false⟩
theorem iW {E:Env} {n:Nat} {ops:Array Oper} {K K':Tm→AMem→List Note→Prop} (hk:∀t m ns,K t m ns→K' t m ns):∀{os:List Oper} {t:Tm} {m:AMem} {ns:List Note},dB E n ops K os t m ns→dB E n ops K' os t m ns
 | [],t,m,ns,h=>hk _ _ _ h
 | o::os,t,m,ns,h=>by
  simp only[dB] at h ⊢
  split at h
  ·rename_i hw;rw[if_pos hw];refine h.mono fun v m' h=>?_;obtain⟨t',hp,h⟩:=h;exact⟨t',hp,iW hk h⟩
  ·rename_i hw;rw[if_neg hw];obtain⟨t',hp,h⟩:=h;exact⟨t',hp,iW hk h⟩
theorem J0 {E:Env} {H:Hand} (hH:IM E H) {n:Nat} {fn:FuncId} {ro:Option Nat} {id:Nat} {ops:Array Oper} {draw:Bool} {Q:AExit→Tm→AMem→Prop} {t:Tm} {m:AMem} {K:Tm→AMem→Bool} (hQ:∀t m,K t m=true→Q .normal t m) (h:(N5 E n ops draw).run H t m K=true):aT E n fn ro (.region id ops draw) Q t m:=by
 unfold N5 at h
 split at h
 ·exact(aT.region (Q:=fun e t m=>e = .normal∧K t m=true) (by
   have:=qF hH h;have mono:∀{os:List Oper} {t:Tm} {m:AMem},rB E n ops (fun t m=>K t m=true) os t m→rB E n ops (fun t m=>AExit.normal = .normal∧K t m=true) os t m:=by
    intro os t m h; simpa using h
   exact mono this)).mono fun e t m h=>by obtain⟨rfl,h⟩:=h; exact hQ _ _ h
 ·split at h
  ·cases h
  ·rename_i hp;refine aT.draw hp (iW (fun t m ns h=>?_) (oS hH h rfl));exact⟨by rw[h.1]; rfl,hQ _ _ h.2⟩
  ·rename_i ps _ hp;refine aT.draw hp (iW (fun t m ns h=>?_) (oF hH h));obtain⟨h1,h2⟩:=bz h;exact⟨h1,hQ _ _ h2⟩
structure Sem where
 run:Hand→Option Nat→Tm→AMem→(AExit→Tm→AMem→Bool)→Bool
noncomputable def ji (e:AExit) (a:Bool) (b:Nat→Bool) (c:Bool):Bool:=AExit.rec (motive:=fun _=>Bool) a b c e
noncomputable def HT (S:Sem):Nat→Hand→Option Nat→Tm→AMem→(AExit→Tm→AMem→Bool)→Bool :=
 Nat.rec (fun _ _ _ _ _=>false) fun _ ih H ro t m K=>S.run H ro t m fun e t m=>ji e (ih H ro t m K) (fun id=>K (.exit id) t m) (K .ret t m)
noncomputable def qL (s:LoopState) (ready busy other:Bool):Bool:=LoopState.rec (motive:=fun _=>Bool) ready busy other other s
noncomputable def sj (ro:Option Nat) (m:AMem) (x:Bool):Bool:=Option.rec (motive:=fun _=>Bool) x (fun l=>qV m l fun _=>x) ro
noncomputable def Kc {α:Type} (o:Option α):Bool:=Option.rec (motive:=fun _=>Bool) true (fun _=>false) o
noncomputable def MK (E:Env) (H:Hand) (f:Fn) (first captured:Array Value) (l:Nat) (m:AMem) (K:Value→AMem→Bool):Bool :=
 Fn.rec (motive:=fun _=>Bool) (fun g=>eh (Kc (E.cV g)) (kV first.toList [.func (.yield l) #[] #[]] fun ars=>kV ars captured.toList fun ars=>H.call g ars m K) false) (fun _=>false) (fun _ _=>false) (fun _ _ _ _=>false) (fun _=>false) f
noncomputable def kA (E:Env) (n:Nat) (fn:FuncId):Code→Sem
 | .skip=>⟨fun _ _ t m K=>K .normal t m⟩
 | .label _=>⟨fun _ _ t m K=>K .normal t m⟩
 | .exit id=>⟨fun _ _ t m K=>K (.exit id) t m⟩
 | .ret=>⟨fun _ _ t m K=>K .ret t m⟩
 | .seq a b=>⟨fun H ro t m K=>(kA E n fn a).run H ro t m fun e t m=>ji e ((kA E n fn b).run H ro t m K) (fun id=>K (.exit id) t m) (K .ret t m)⟩
 | .cond x a b=>⟨fun H ro t m K=>(dw E x).run t fun v=>sA v (fun c=>eh c ((kA E n fn a).run H ro t m K) ((kA E n fn b).run H ro t m K)) false⟩
 | .block id a=>⟨fun H ro t m K=>(kA E n fn a).run H ro t m fun e t m=>ji e (K .normal t m) (fun id'=>eh (Nat.beq id' id) (K .normal t m) (K (.exit id') t m)) (K .ret t m)⟩
 | .scope a=>⟨fun H ro t m K=>(kA E n fn a).run H ro t m K⟩
 | .loop a=>⟨fun H ro t m K=>HT (kA E n fn a) 1000000 H ro t m K⟩
 | .region _ ops draw=>⟨fun H _ t m K=>(N5 E n ops draw).run H t m fun t m=>K .normal t m⟩
 | .rangeFunc f params assign body=>⟨fun H ro t m K=>sj ro m ((dw E f).run t fun fv=>Fl fv fun g first captured =>
   dk m (.loop { state:=.ready,pending:=none,fn:=fn,tmps:=t,n:=n,params:=params,assign:=assign,body:=body}) fun l m1=>MK E H g first captured l m1 fun _ m2 =>
    qV m2 l fun r=>ALoop.rec (motive:=fun _=>Bool) (fun state pending fn' tmps' n' params' assign' body'=>qL state
     (cZ m2 l (.loop ⟨.exhausted,pending,fn',tmps',n',params',assign',body'⟩) fun m3=>Option.rec (motive:=fun _=>Bool) (K .normal t m3) (fun c=>Code.rec (motive:=fun _=>Bool) false (fun _ _ _=>false) (fun _ _ _ _=>false) (fun _ _ _ _ _=>false) (fun _ _ _=>false) (fun _ _=>false) (fun _ _ _ _ _ _=>false) (fun id=>K (.exit id) t m3) (fun _ _=>false) (fun _=>false) (fun _=>false) (K .ret t m3) (fun _=>false) c) pending)
     false
     (cZ m2 l (.loop ⟨.exhausted,pending,fn',tmps',n',params',assign',body'⟩) fun m3=>Option.rec (motive:=fun _=>Bool) (K .normal t m3) (fun c=>Code.rec (motive:=fun _=>Bool) false (fun _ _ _=>false) (fun _ _ _ _=>false) (fun _ _ _ _ _=>false) (fun _ _ _=>false) (fun _ _=>false) (fun _ _ _ _ _ _=>false) (fun id=>K (.exit id) t m3) (fun _ _=>false) (fun _=>false) (fun _=>false) (K .ret t m3) (fun _=>false) c) pending)) r)⟩
 | .goto _=>⟨fun _ _ _ _ _=>false⟩
 | .refuse _=>⟨fun _ _ _ _ _=>false⟩
section
variable {E : Env} {n : Nat} {fn : FuncId} {ro : Option Nat} {Q : AExit → Tm → AMem → Prop} {t : Tm} {m : AMem}
def NS (E:Env) (n:Nat) (fn:FuncId) (ro:Option Nat) (t:Tm) (l:Nat) (Q:AExit→Tm→AMem→Prop) (m2:AMem):Prop :=
 ∃r,m2.get l=some (.loop r)∧r.state≠.busy∧((r.pending=none∧Q .normal t (m2.set l (.loop { r with state:=.exhausted})))∨(∃c,r.pending=some c∧aT E n fn ro c Q t (m2.set l (.loop { r with state:=.exhausted}))))
theorem aT.rangeFunc {f:Operand} {params:Array Tmp} {assign body:Code} {g:FuncId} {first captured:Array Value} (hf:aj E t f=some (.func (.func g) first captured)) (ha:gy E ⟨t,n,fn,ro⟩ m f=true)
  (h:aB E g (first.toList++[.func (.yield m.next) #[] #[]]++captured.toList) (m.alloc (.loop { state:=.ready,pending:=none,fn:=fn,tmps:=t,n:=n,params:=params,assign:=assign,body:=body})) (fun _ m2=>NS E n fn ro t m.next Q m2)) :
  aT E n fn ro (.rangeFunc f params assign body) Q t m:=by
 obtain⟨v,m2,⟨k1,h1⟩,r,hr,hb,hq⟩:=h;rcases hq with⟨hp,hq⟩|⟨c,hp,e,t',m',⟨k2,h2⟩,hq⟩
 ·refine⟨_,_,_,aQ (k:=k1) ?_,hq⟩;cases hs:r.state with
  | busy=>exact absurd hs hb
  | _=>simp only[step,hf,ha,h1,hr,hs,hp]
 ·refine⟨_,_,_,aQ (k:=max k1 k2) ?_,hq⟩;obtain⟨state,pending,fn',tmps',n',params',assign',body'⟩:=r;have hp':pending=some c:=hp;subst hp';have h2':=fO (Nat.le_max_right k1 k2) h2;cases state with
  | busy=>exact absurd rfl hb
  | _=>simp only[step,hf,ha,fO (Nat.le_max_left k1 k2) h1,hr,h2']
def Ro (ro:Option Nat) (m:AMem):Bool :=
 match ro with
 | none=>true
 | some l=>match m.get l with
  | some (.loop _)=>true
  | _=>false
theorem p7 {x:Bool} (h:sj ro m x=true):x=true∧Ro ro m=true:=by
 cases ro with
 | none=>exact⟨h,rfl⟩
 | some l =>
  obtain⟨r,h1,h2⟩:=ij h;exact⟨h2,by simp only[Ro,h1]⟩
theorem fg {e:AExit} {a:Bool} {b:Nat→Bool} {c:Bool} (h:ji e a b c=true):(e = .normal∧a=true)∨(∃id,e = .exit id∧b id=true)∨(e = .ret∧c=true):=by
 cases e with
 | normal=>exact .inl ⟨rfl,h⟩
 | exit id=>exact .inr (.inl ⟨id,rfl,h⟩)
 | ret=>exact .inr (.inr ⟨rfl,h⟩)
theorem yM {H:Hand} {a:Code} {S:Sem} (hS:∀{t:Tm} {m:AMem} {K:AExit→Tm→AMem→Bool},S.run H ro t m K=true→aT E n fn ro a (fun e t m=>K e t m=true) t m) {K:AExit→Tm→AMem→Bool} :
  ∀(k:Nat) {t:Tm} {m:AMem},HT S k H ro t m K=true→mF E n fn ro a (fun e t m=>K e t m=true) t m
 | 0,t,m,h=>by cases h
 | k+1,t,m,h=>by
  have h':(S.run H ro t m fun e t m=>ji e (HT S k H ro t m K) (fun id=>K (.exit id) t m) (K .ret t m))=true:=h;refine .round ((hS h').mono fun e t m h=>?_);rcases fg h with⟨rfl,h⟩|⟨id,rfl,h⟩|⟨rfl,h⟩
  ·exact yM hS k h
  ·exact h
  ·exact h
theorem AO {c:Code} {a:Nat→Bool} {b:Bool} (h:Code.rec (motive:=fun _=>Bool) false (fun _ _ _=>false) (fun _ _ _ _=>false) (fun _ _ _ _ _=>false) (fun _ _ _=>false) (fun _ _=>false) (fun _ _ _ _ _ _=>false) a (fun _ _=>false) (fun _=>false) (fun _=>false) b (fun _=>false) c=true) :
  (∃id,c = .exit id∧a id=true)∨(c = .ret∧b=true):=by
 cases c<;>first|exact .inl ⟨_,rfl,h⟩|exact .inr ⟨rfl,h⟩|cases h
theorem sD {H:Hand} (hH:IM E H):∀(c:Code) {ro:Option Nat} {t:Tm} {m:AMem} {K:AExit→Tm→AMem→Bool},(kA E n fn c).run H ro t m K=true→aT E n fn ro c (fun e t m=>K e t m=true) t m:=by
 intro c
 induction c with
 | skip=>intro ro t m K h; exact .skip h
 | label l=>intro ro t m K h; exact .label h
 | exit id=>intro ro t m K h; exact .exit h
 | ret=>intro ro t m K h; exact .ret h
 | seq a b iha ihb =>
  intro ro t m K h;refine .seq ((iha (K:=fun e t m=>ji e ((kA E n fn b).run H ro t m K) (fun id=>K (.exit id) t m) (K .ret t m)) h).mono fun e t m h=>?_);rcases fg h with⟨rfl,h⟩|⟨id,rfl,h⟩|⟨rfl,h⟩
  ·exact ihb h
  ·exact h
  ·exact h
 | cond x a b iha ihb =>
  intro ro t m K h;obtain⟨v,h1,h⟩:=aW (x:=x) h;obtain⟨c,rfl,h⟩:=jW h;refine .cond h1 (fun hc=>?_) (fun hc=>?_)
  ·subst hc; exact iha h
  ·subst hc; exact ihb h
 | block id a ih =>
  intro ro t m K h;refine .block ((ih (K:=fun e t m=>ji e (K .normal t m) (fun id'=>eh (Nat.beq id' id) (K .normal t m) (K (.exit id') t m)) (K .ret t m)) h).mono fun e t m h=>?_);rcases fg h with⟨rfl,h⟩|⟨id',rfl,h⟩|⟨rfl,h⟩
  ·exact h
  ·simp only[dW];rcases cL h with⟨h1,h⟩|⟨h1,h⟩
   ·rw[if_pos (Nat.eq_of_beq_eq_true h1)]; exact h
   ·rw[if_neg (Nat.ne_of_beq_eq_false h1)]; exact h
  ·exact h
 | scope a ih=>intro ro t m K h; exact .scope (ih h)
 | loop a ih=>intro ro t m K h; exact .loop (yM (fun h=>ih h) 1000000 h)
 | region id ops draw=>intro ro t m K h; exact J0 hH (fun t m h=>h) h
 | rangeFunc f params assign body iha ihb =>
  intro ro t m K h;obtain⟨h,hro⟩:=p7 h;obtain⟨fv,h1,h⟩:=aW (x:=f) h;have g:=td h; clear h; obtain⟨g,first,captured,rfl,h⟩:=g
  rw[cd] at h;cases g with
  | func g =>
   have g':=bz h; clear h; obtain⟨hp,h⟩:=g';rw[fA,fA] at h;have hp':(E.cV g).isNone=true:=by cases hg:E.cV g with
    | none=>rfl
    | some p=>rw[hg] at hp; cases hp
   have hro':gy E ⟨t,n,fn,ro⟩ m f=true:=by
    unfold gy;simp only[h1,hp',Bool.true_and];exact hro
   refine .rangeFunc h1 hro' ((hH.1 h).mono fun v m2 h=>?_);obtain⟨r,hr,h⟩:=ij h;refine⟨r,hr,?_⟩;obtain⟨state,pending,fn',tmps',n',params',assign',body'⟩:=r;have key:∀{x:Bool},(x=cZ m2 m.next (.loop ⟨.exhausted,pending,fn',tmps',n',params',assign',body'⟩) fun m3=>Option.rec (motive:=fun _=>Bool) (K .normal t m3) (fun c=>Code.rec (motive:=fun _=>Bool) false (fun _ _ _=>false) (fun _ _ _ _=>false) (fun _ _ _ _ _=>false) (fun _ _ _=>false) (fun _ _=>false) (fun _ _ _ _ _ _=>false) (fun id=>K (.exit id) t m3) (fun _ _=>false) (fun _=>false) (fun _=>false) (K .ret t m3) (fun _=>false) c) pending)→x=true →
     ((pending=none∧K .normal t (m2.set m.next (.loop ⟨.exhausted,pending,fn',tmps',n',params',assign',body'⟩))=true)∨(∃c,pending=some c∧aT E n fn ro c (fun e t m=>K e t m=true) t (m2.set m.next (.loop ⟨.exhausted,pending,fn',tmps',n',params',assign',body'⟩)))):=by
    intro x hx hx';rw[hx,cU] at hx';cases pending with
    | none=>exact .inl ⟨rfl,hx'⟩
    | some c =>
     rcases AO hx' with⟨id,rfl,h⟩|⟨rfl,h⟩
     ·exact .inr ⟨_,rfl,.exit h⟩
     ·exact .inr ⟨_,rfl,.ret h⟩
   cases state with
   | busy=>cases h
   | ready=>exact⟨(by intro e; cases e),key rfl h⟩
   | done=>exact⟨(by intro e; cases e),key rfl h⟩
   | exhausted=>exact⟨(by intro e; cases e),key rfl h⟩
  | _=>cases h
 | goto l=>intro ro t m K h; cases h
 | refuse w=>intro ro t m K h; cases h
end
structure ResSem where
 run:Tm→AMem→(List Value→Bool)→Bool
noncomputable def F2 (E:Env):List ResultVar→ResSem
 | []=>⟨fun _ _ k=>k []⟩
 | .tmp i::rs=>⟨fun t m k=>(zY i).run t fun v=>(F2 E rs).run t m fun vs=>k (v::vs)⟩
 | .cell a ty::rs=>⟨fun t m k=>(zY a).run t fun p=>(B4 E.P ty).run p m fun v=>(F2 E rs).run t m fun vs=>k (v::vs)⟩
theorem qo {E:Env} {t:Tm} {m:AMem}:∀{rs:List ResultVar} {k:List Value→Bool},(F2 E rs).run t m k=true→∃vs,bP E t m rs=some vs∧k vs=true
 | [],k,h=>⟨[],rfl,h⟩
 | .tmp i::rs,k,h=>by
  have h':=sI (d:=i) h;obtain⟨vs,h1,h2⟩:=qo h';exact⟨_,by simp only[bP,h1,Option.map_some],h2⟩
 | .cell a ty::rs,k,h=>by
  have h':=sI (d:=a) h;obtain⟨v,h1,h'⟩:=Af h';obtain⟨vs,h2,h3⟩:=qo h';exact⟨_,by simp only[bP,h1,h2],h3⟩
noncomputable def Ob (vs:List Value) (k:Value→Bool):Bool :=
 List.rec (motive:=fun _=>Bool) (k (.tuple #[])) (fun v rest _=>List.rec (motive:=fun _=>Bool) (k v) (fun w rest' _=>k (.tuple ⟨v::w::rest'⟩)) rest) vs
theorem CM (vs:List Value) (k:Value→Bool):Ob vs k=k (e9 vs):=by
 match vs with
 | []=>rfl
 | [v]=>rfl
 | v::w::rest=>rfl
noncomputable def Bb (args:List Value):Nat→Tm→(Tm→Bool)→Bool :=
 List.rec (motive:=fun _=>Nat→Tm→(Tm→Bool)→Bool) (fun _ t k=>k t) (fun v _ ih i t k=>(BZ i).run t v fun t=>fN (Nat.succ i) fun i=>ih i t k) args
theorem uh:∀(args:List Value) (i:Nat) (t:Tm) (k:Tm→Bool),i+args.length≤512→Bb args i t k=k (Trie.ofList args i t)
 | [],i,t,k,_=>rfl
 | v::vs,i,t,k,h=>by
  have hi:i<512:=by simp at h; omega
  show(BZ i).run t v (fun t=>fN (Nat.succ i) fun i=>Bb vs i t k)=_
  rw[zW i hi,dp,uh vs (i+1) _ k (by simp at h; omega)]
  rfl
structure FunSem where
 run:Hand→List Value→AMem→(Value→AMem→Bool)→Bool
structure PSem where
 run:List Value→AMem→(Value→AMem→Bool)→Bool
def O8 (E:Env) (F:FuncId→Option PSem):Prop:=∀{f:FuncId} {S:PSem},F f=some S→∃p,E.cV f=some p∧∀{args:List Value} {m:AMem} {K:Value→AMem→Bool},S.run args m K=true→∃v m',p.run args m=some (v,m')∧K v m'=true
noncomputable def DB (E:Env) (f:FuncId):FunSem :=
 match E.P.funcs[f]? with
 | some fn=>match fn.body,Nat.ble fn.ntmps 512 with
  | some c,true=>⟨fun H args m K=>eh (Nat.ble args.length fn.ntmps) (Bb args 0 .nil fun t=>(kA E fn.ntmps f c).run H none t m fun e t m=>ji e ((F2 E fn.results.toList).run t m fun vs=>Ob vs fun v=>K v m) (fun _=>false) ((F2 E fn.results.toList).run t m fun vs=>Ob vs fun v=>K v m)) false⟩
  | _,_=>⟨fun _ _ _ _=>false⟩
 | none=>⟨fun _ _ _ _=>false⟩
noncomputable def NI (E:Env) (F:FuncId→Option PSem) (f:FuncId):FunSem :=
 match F f with
 | some S=>⟨fun _ args m K=>S.run args m K⟩
 | none=>match E.cV f with
  | some p=>⟨fun H args m K=>Option.rec (motive:=fun _=>Bool) ((DB E f).run H args m K) (fun r=>Prod.rec (motive:=fun _=>Bool) (fun v m'=>fV v fun v=>fM m' fun m'=>K v m') r) (p.run args m)⟩
  | none=>DB E f
theorem aB.cV {E:Env} {f:FuncId} {p:Prim} {args:List Value} {m m':AMem} {v:Value} {R:Value→AMem→Prop} (hp:E.cV f=some p) (h:p.run args m=some (v,m')) (hR:R v m'):aB E f args m R:=by
 have hpa:mA E f args m=some (v,m'):=by
  unfold mA;rw[hp];exact h
 exact⟨v,m',aQ (k:=0) (by simp only[step,hpa]),hR⟩
theorem yk {E:Env} {H:Hand} (hH:IM E H) {f:FuncId} {args:List Value} {m:AMem} (hpa:mA E f args m=none) {K:Value→AMem→Bool} (h:(DB E f).run H args m K=true):aB E f args m fun v m'=>K v m'=true:=by
 unfold DB at h
 split at h
 ·rename_i F hf
  split at h
  ·rename_i c hb hn;have g:=bz h; clear h; obtain⟨h1,h⟩:=g;have hle:=Nat.le_of_ble_eq_true h1;have hn':=Nat.le_of_ble_eq_true hn;rw[uh args 0 _ _ (by omega)] at h
   have hmax:max args.length F.ntmps=F.ntmps:=Nat.max_eq_right hle;refine .MO hpa hf hb ?_;rw[hmax];refine(sD hH c h).mono fun e t m h=>?_;rcases fg h with⟨rfl,h⟩|⟨id,rfl,h⟩|⟨rfl,h⟩
   ·obtain⟨vs,h2,h⟩:=qo h;rw[CM] at h;exact⟨fun id e=>(by cases e),vs,h2,h⟩
   ·cases h
   ·obtain⟨vs,h2,h⟩:=qo h;rw[CM] at h;exact⟨fun id e=>(by cases e),vs,h2,h⟩
  ·cases h
 ·cases h
theorem Ki {E:Env} {F:FuncId→Option PSem} (hF:O8 E F) {H:Hand} (hH:IM E H) {f:FuncId} {args:List Value} {m:AMem} {K:Value→AMem→Bool} (h:(NI E F f).run H args m K=true):aB E f args m fun v m'=>K v m'=true:=by
 unfold NI at h
 split at h
 ·rename_i S hS;obtain⟨p,hp,hS'⟩:=hF hS;obtain⟨v,m',h1,h2⟩:=hS' h;exact .cV hp h1 h2
 split at h
 ·rename_i p hp;simp only at h;cases he:p.run args m with
  | none =>
   rw[he] at h;exact yk hH (by unfold mA; rw[hp]; exact he) h
  | some r =>
   obtain⟨v,m'⟩:=r;rw[he] at h;simp only[BW,GM] at h;exact .cV hp he h
 ·rename_i hp;exact yk hH (by unfold mA; rw[hp]; rfl) h
noncomputable def jM (n:Nat):List Tmp→List Value→Tm→(Tm→Bool)→Bool
 | p::ps,v::vs,t,k=>(mN n (some p)).run t v fun t=>jM n ps vs t k
 | _,_,t,k=>k t
theorem oi {n:Nat}:∀{ps:List Tmp} {vs:List Value} {t:Tm} {k:Tm→Bool},jM n ps vs t k=true→∃t',dR n t ps vs=some t'∧k t'=true
 | p::ps,v::vs,t,k,h=>by
  have h':((mN n (some p)).run t v fun t=>jM n ps vs t k)=true:=by rw[jM] at h; exact h
  obtain⟨t',hp,h2⟩:=iR h';obtain⟨t'',h3,h4⟩:=oi h2;refine⟨t'',?_,h4⟩;unfold dR;unfold iE at hp;simp only at hp
  split at hp
  ·rename_i hb; cases hp; exact h3
  ·cases hp
 | [],vs,t,k,h=>⟨t,by unfold dR; rfl,by rw[jM] at h; exact h; intros; simp_all⟩
 | p::ps,[],t,k,h=>⟨t,by unfold dR; rfl,by rw[jM] at h; exact h; intros; simp_all⟩
noncomputable def GV (E:Env) (H:Hand) (l:Nat) (args:List Value) (m:AMem) (K:Value→AMem→Bool):Bool :=
 qV m l fun r=>ALoop.rec (motive:=fun _=>Bool) (fun state pending fn tmps n params assign body=>qL state
  (eh (Nat.beq args.length params.size) (jM n params.toList args tmps fun t0=>(kA E n fn assign).run H (some l) t0 m fun e t1 m1=>ji e
   (qV m1 l fun r1=>ALoop.rec (motive:=fun _=>Bool) (fun state1 pending1 fn1 tmps1 n1 params1 assign1 body1=>qL state1
    (cZ m1 l (.loop ⟨.busy,pending1,fn1,tmps1,n1,params1,assign1,body1⟩) fun m1'=>(kA E n fn body).run H (some l) t1 m1' fun e m2t m2=>qV m2 l fun r2=>ALoop.rec (motive:=fun _=>Bool) (fun _ _ fn2 tmps2 n2 params2 assign2 body2 =>
     ji e (cZ m2 l (.loop ⟨.ready,none,fn2,tmps2,n2,params2,assign2,body2⟩) fun m3=>K (.bool true) m3)
      (fun id=>cZ m2 l (.loop ⟨.done,some (.exit id),fn2,tmps2,n2,params2,assign2,body2⟩) fun m3=>K (.bool false) m3)
      (cZ m2 l (.loop ⟨.done,some .ret,fn2,tmps2,n2,params2,assign2,body2⟩) fun m3=>K (.bool false) m3)) r2)
    false false) r1)
   (fun _=>false) false) false)
  false false) r
theorem mC {s:LoopState} {a:Bool} (h:qL s a false false=true):s = .ready∧a=true:=by
 cases s<;>first|exact⟨rfl,h⟩|cases h
theorem EU {E:Env} {H:Hand} (hH:IM E H) {l:Nat} {args:List Value} {m:AMem} {K:Value→AMem→Bool} (h:GV E H l args m K=true):rR E l args m fun v m'=>K v m'=true:=by
 obtain⟨r,hr,h⟩:=ij h;obtain⟨state,pending,fn,tmps,n,params,assign,body⟩:=r;have g:=mC h; clear h; obtain⟨rfl,h⟩:=g;obtain⟨h1,h⟩:=bz h;obtain⟨t0,h2,h⟩:=oi h;obtain⟨e,t1,m1,⟨k1,h3⟩,h⟩:=sD hH assign h;rcases fg h with⟨rfl,h⟩|⟨id,rfl,h⟩|⟨rfl,h⟩
 ·obtain⟨r1,hr1,h⟩:=ij h;obtain⟨state1,pending1,fn1,tmps1,n1,params1,assign1,body1⟩:=r1;have g:=mC h; clear h; obtain⟨rfl,h⟩:=g;rw[cU] at h;obtain⟨e,t2,m2,⟨k2,h4⟩,h⟩:=sD hH body h;obtain⟨r2,hr2,h⟩:=ij h;obtain⟨state2,pending2,fn2,tmps2,n2,params2,assign2,body2⟩:=r2;have hlen:¬args.length≠params.size:=by have:=Nat.eq_of_beq_eq_true h1; omega
  have hb:step E (run E (max k1 k2)) (.round l args m)=some (.val (.bool (fy e).isNone) (m2.set l (.loop ⟨if (fy e).isNone then .ready else .done,fy e,fn2,tmps2,n2,params2,assign2,body2⟩))):=by
   simp only[step,hr,if_neg hlen,h2,fO (Nat.le_max_left k1 k2) h3,hr1,fO (Nat.le_max_right k1 k2) h4,hr2]
  rcases fg h with⟨rfl,hz⟩|⟨id,rfl,hz⟩|⟨rfl,hz⟩
  ·rw[cU] at hz;exact⟨_,_,aQ (k:=max k1 k2) hb,hz⟩
  ·rw[cU] at hz;exact⟨_,_,aQ (k:=max k1 k2) hb,hz⟩
  ·rw[cU] at hz;exact⟨_,_,aQ (k:=max k1 k2) hb,hz⟩
 ·cases h
 ·cases h
noncomputable def hand (E:Env) (F:FuncId→Option PSem):Nat→Hand :=
 Nat.rec ⟨fun _ _ _ _=>false,fun _ _ _ _=>false⟩ fun _ ih=>⟨fun f args m K=>(NI E F f).run ih args m K,fun l args m K=>GV E ih l args m K⟩
theorem xq {E:Env} {F:FuncId→Option PSem} (hF:O8 E F):∀n,IM E (hand E F n)
 | 0=>⟨fun h=>(by cases h),fun h=>(by cases h)⟩
 | n+1=>⟨fun h=>Ki hF (xq hF n) h,fun h=>EU (xq hF n) h⟩
theorem xh {E:Env} {F:FuncId→Option PSem} (hF:O8 E F) {n:Nat} {f:FuncId} {args:List Value} {m:AMem} {K:Value→AMem→Bool} (h:(hand E F n).call f args m K=true):∃fuel v m',run E fuel (.call f args m)=some (.val v m')∧K v m'=true:=by
 obtain⟨v,m',⟨k,h1⟩,h2⟩:=(xq hF n).1 h;exact⟨k,v,m',h1,h2⟩
noncomputable def PB (n:Nat) (v:Value) (m:AMem):Bool:=sA v (fun b=>eh b (Nat.ble n m.wl) false) false
theorem xF {E:Env} {F:FuncId→Option PSem} (hF:O8 E F) {n g:Nat} {f:FuncId} {args:List Value} {m:AMem} (h:(hand E F n).call f args m (PB g)=true):∃fuel m',run E fuel (.call f args m)=some (.val (.bool true) m')∧g≤m'.wl:=by
 obtain⟨k,v,m',h1,h2⟩:=xh hF h;obtain⟨b,rfl,h2⟩:=jW h2;obtain⟨rfl,h2⟩:=bz h2;exact⟨k,m',h1,Nat.le_of_ble_eq_true h2⟩
section
variable {E : Env} {n : Nat} {t : Tm} {m : AMem} {K : Tm → AMem → Prop} {ops : Array Oper} {os : List Oper} {ty : TypeId} {p : String} {af : Array Edge} {d : Nat}
theorem iU {o:Op} {g:Option (Nat × Bool)} {v:Value} {m':AMem} (hw:bp ops ⟨some d,o,ty,p,af,g⟩ t=true) (h:∀K',aZ E t m o K'=K' v m') (hd:d<n) (k:jO E n ops K os (t.set d v) m'):jO E n ops K (⟨some d,o,ty,p,af,g⟩::os) t m:=by
 simp only[jO,hw,if_true,h,fT,if_pos hd]; exact k
theorem nL {a b:Nat} (h:Nat.blt a b=true):a<b:=by rwa[Nat.blt_eq] at h
variable {L : Tm → AMem → List Note → Prop} {ns : List Note}
variable {a b r v : Value} {x y : Operand} {e e' : TypeId}
theorem xp (h:aj E t x=some v) (K':Value→AMem→Prop):aZ E t m (.move x) K'=K' v m:=by rw[Kt,h]; rfl
theorem oh (h:aj E t x=some v) (K':Value→AMem→Prop):aZ E t m (.assign x) K'=K' v m:=by rw[DP,h]; rfl
theorem La {c:Operand} (hc:aj E t c=some (.bool true)) (h:aj E t x=some v) (K':Value→AMem→Prop):aZ E t m (.pick c x y) K'=K' v m:=by rw[Cq,hc,Aq,h]; rfl
theorem Kl {c:Operand} (hc:aj E t c=some (.bool false)) (h:aj E t y=some v) (K':Value→AMem→Prop):aZ E t m (.pick c x y) K'=K' v m:=by rw[Cq,hc,zS,h]; rfl
theorem OZ (h:aj E t x=some v) (K':Value→AMem→Prop):aZ E t m (.box e x) K'=K' (ptr m.next 0) (m.alloc (.cells v.cells.toList .own)):=by rw[MM,h]; rfl
theorem zf {op:BinOp} (h:aj E t x=some a) (h':aj E t y=some b) (hr:aY op e E.P a b=some r) (K':Value→AMem→Prop):aZ E t m (.binOp op e x y e') K'=K' r m:=by rw[Hj,h,dz,h',dz,hr]; rfl
theorem II {op:UnOp} (h:aj E t x=some a) (hr:zu op a=some r) (K':Value→AMem→Prop):aZ E t m (.unOp op e x) K'=K' r m:=by rw[Js,h,dz,hr]; rfl
theorem Ir (h:aj E t x=some a) (hr:eK E.P e e' a=some r) (K':Value→AMem→Prop):aZ E t m (.convert e e' x) K'=K' r m:=by rw[Au,h,dz,hr]; rfl
theorem vf (h:aj E t x=some a) (hr:dc E.P e a m=some r) (K':Value→AMem→Prop):aZ E t m (.load e x) K'=K' r m:=by rw[Kh,h,dz,hr]; rfl
theorem wU {m':AMem} (h:aj E t x=some a) (h':aj E t y=some b) (hr:dE E.P e a b m=some m') (K':Value→AMem→Prop):aZ E t m (.store e x y) K'=K' undef m':=by rw[Gu,h,dz,h',dz,hr]; rfl
theorem xZ {f:Nat} (h:aj E t x=some a) (hr:aH E.P e a f=some r) (K':Value→AMem→Prop):aZ E t m (.fieldAddr e x f) K'=K' r m:=by rw[wV,h,dz,hr]; rfl
theorem Ke {f:Nat} (h:aj E t x=some a) (hr:eC E.P e a f=some r) (K':Value→AMem→Prop):aZ E t m (.field e x f) K'=K' r m:=by rw[IG,h,dz,hr]; rfl
theorem pS (h:aj E t x=some a) (h':aj E t y=some b) (hr:bB E.P e a b=some r) (K':Value→AMem→Prop):aZ E t m (.indexAddr e x y) K'=K' r m:=by rw[vD,h,dz,h',dz,hr]; rfl
theorem Kq (h:aj E t x=some a) (h':aj E t y=some b) (hr:fJ E.P e a b=some r) (K':Value→AMem→Prop):aZ E t m (.index e x y) K'=K' r m:=by rw[HX,h,dz,h',dz,hr]; rfl
theorem EI {i:Nat} {vs:Array Value} (h:aj E t x=some (.tuple vs)) (hr:vs[i]? = some r) (K':Value→AMem→Prop):aZ E t m (.extract x i) K'=K' r m:=by rw[BC h,hr]; rfl
theorem vF {l h k:Option Operand} {l' h' k':Option Value} (h1:aj E t x=some a) (h2:dx E t l=some l') (h3:dx E t h=some h') (h4:dx E t k=some k') (hr:cl E.P e a l' h' k' m=some r) (K':Value→AMem→Prop):aZ E t m (.slice e x l h k) K'=K' r m:=by rw[Fy h1 h2 h3 h4,hr]; rfl
theorem Ji {z:Value} (hz:bu E.P e=some z) (hp:bw z=true) (K':Value→AMem→Prop):aZ E t m (.alloc e) K'=K' (ptr m.next 0) (m.alloc (.cells z.cells.toList .own)):=by
 rw[Hw]; simp only[cM,hz,hp,if_true]; rfl
theorem dA {bi:Builtin} {ars:Array Operand} {ts:Array TypeId} {vs:List Value} {m':AMem} (h:bq E t ars.toList=some vs) (hr:aI E.P bi ts vs m=some (r,m')) (K':Value→AMem→Prop):aZ E t m (.call ⟨.builtin bi,ars,ts⟩) K'=K' r m':=by rw[AI,h,dz,hr]; rfl
theorem H5 {op:Op} {m':AMem} (hc:iD op=none) (hr:cM E t m op=some (r,m')) (K':Value→AMem→Prop):aZ E t m op K'=K' r m':=by
 unfold aZ; rw[hc]; simp only[hr]; rfl
theorem e7 (t:Tm) (d:Nat) (v:Value):Tm.at (Trie.set t d v) d=v:=by rw[at_set,if_pos rfl]
theorem dM {t:Tm} {i d:Nat} {v w:Value} (h:Nat.beq i d=false) (k:t.at i=v):Tm.at (Trie.set t d w) i=v:=by rw[at_set,if_neg (Nat.ne_of_beq_eq_false h)]; exact k
theorem QR {ops:Array Oper} {t:Tm} {dst:Option Tmp} {o:Op} {ty:TypeId} {p:String} {a:Array Edge} {j d:Nat} {b c:Bool} (hd:(ops[j]?).bind (·.dst)=some d) (h:t.at d = .bool c):bp ops ⟨dst,o,ty,p,a,some (j,b)⟩ t=(c == b):=by
 rw[IC]; unfold cX; rw[hd]; simp only[B5 h]
theorem ig {i:Nat} (h:t.at i=v):aj E t (.tmp i)=some v:=by rw[MP,h]
end
section
variable {E : Env} {n : Nat} {fn : FuncId} {ro : Option Nat} {Q : AExit → Tm → AMem → Prop} {t : Tm} {m : AMem} {w : Nat}
def gU (E:Env) (n:Nat) (ops:Array Oper) (K:Tm→AMem→Prop):List Oper→Tm→AMem→Nat→Prop
 | [],t,m,w=>K t (m.ww w)
 | o::os,t,m,w =>
  if bp ops o t then(∀b,aE E t o.op=some b→b<m.next)∧aZ E t (m.ww m.next) o.op fun v m'=>Ff (iE n t o.dst v) fun t'=>gU E n ops K os t' m' (min w m'.wl)
  else Ff (iE n t o.dst undef) fun t'=>gU E n ops K os t' m w
theorem ug {r:Option Nat} {x y:Nat} {z:Option Nat} {u:Nat→Bool} (h:∀b,r=some b→b<y):dh { read:=r,wl:=x,next:=y,wrote:=z,kept:=u}=true:=by
 cases r with
 | none=>rfl
 | some b =>
  have:=h b rfl
  show Nat.blt b y=true
  rw[Nat.blt_eq]; exact this
theorem nf {ops:Array Oper} {K:Tm→AMem→Prop}:∀{os:List Oper} {t:Tm} {m:AMem} {w:Nat} {ns:List Note},gU E n ops K os t m w→ns.all dh=true→dB E n ops (fun t m ns=>ns.all dh=true∧K t m) os t (m.ww w) ns
 | [],t,m,w,ns,h,hn=>⟨by simpa using hn,h⟩
 | o::os,t,m,w,ns,h,hn=>by
  simp only[gU] at h;simp only[dB]
  split at h
  ·rename_i hw;rw[if_pos hw];obtain⟨h1,h2⟩:=h;refine h2.A.mono fun v m' hv=>?_;obtain⟨t',hp,h3⟩:=hv.A;refine⟨t',hp,?_⟩;have:=nf (ns:={ read:=aE E t o.op,wl:=m'.wl,next:=m.next,wrote:=dO E t o.op,kept:=ja m m'}::ns) h3 (by rw[List.all_cons,hn,Bool.and_true]; exact ug h1)
   exact this
  ·rename_i hw;rw[if_neg hw];obtain⟨t',hp,h2⟩:=h.A;exact⟨t',hp,nf h2 (by rw[List.all_cons,hn]; rfl)⟩
theorem aT.P2 {id:Nat} {ops:Array Oper} (hp:jd ops=some []) (h:∀K:Tm→AMem→Prop,(∀t m,Q .normal t m→K t m)→gU E n ops K ops.toList t m m.wl):aT E n fn ro (.region id ops true) Q t m:=by
 refine .draw hp ?_;have h1:=nf (ns:=[]) (h (fun t m=>Q .normal t m) fun _ _ h=>h) rfl;have mono:∀{os:List Oper} {t:Tm} {m:AMem} {ns:List Note},dB E n ops (fun t m ns=>ns.all dh=true∧Q .normal t m) os t m ns→dB E n ops (fun t m ns=>(([]:List (Nat × Nat)).all (ej ns ops) && ns.all dh)=true∧Q .normal t m) os t m ns:=by
  intro os t m ns h
  simpa using h
 exact mono h1
variable {K : Tm → AMem → Prop} {ops : Array Oper} {os : List Oper} {ty : TypeId} {p : String} {af : Array Edge} {d : Nat} {g : Option (Nat × Bool)} {v a b r : Value} {x y : Operand} {e : TypeId}
theorem Ext.ww {m M:AMem} (h:Ext m M) {w:Nat} (hw:min m.wl m.next≤w):Ext m (M.ww w):=⟨h.next,h.same,hw⟩
theorem Kj {xs:List Operand} {vs:List Value} (h:aj E t x=some v) (hs:bq E t xs=some vs):bq E t (x::xs)=some (v::vs):=by simp only[bq,h,hs]
end
end Go.Ab
end

section
namespace Go.Ab.W
open Go Go.Ab
abbrev Fs:=List (Nat × Value)
def lk:Fs→Nat→Option Value
 | [],_=>none
 | p::l,i=>match Nat.beq p.1 i with
  | true=>some p.2
  | false=>lk l i
def Fr (t:Tm) (fs:Fs):Prop:=∀i v,lk fs i=some v→t.at i=v
theorem Fr.nil (t:Tm):Fr t []:=fun i v h=>by cases h
theorem Fr.set {t:Tm} {fs:Fs} {d:Nat} {v:Value} (h:Fr t fs):Fr (Trie.set t d v) ((d,v)::fs):=by
 intro i x hx;unfold lk at hx;rw[at_set]
 split at hx
 ·rename_i e;have:d=i:=Nat.eq_of_beq_eq_true e;rw[if_pos this.symm]; exact Option.some.inj hx
 ·rename_i e;have:d≠i:=Nat.ne_of_beq_eq_false e;rw[if_neg (Ne.symm this)]; exact h i x hx
def sub (fs:Fs):Fs→Prop
 | []=>True
 | p::l=>lk fs p.1=some p.2∧sub fs l
theorem Fr.sub {t:Tm} {fs:Fs}:∀{fs':Fs},Fr t fs→sub fs fs'→Fr t fs'
 | [],_,_=>Fr.nil t
 | p::l,h,hs=>by
  intro i v hv;unfold lk at hv
  split at hv
  ·rename_i e;have:p.1=i:=Nat.eq_of_beq_eq_true e;subst this;cases hv;exact h _ _ hs.1
  ·exact Fr.sub h hs.2 i v hv
theorem sub.refl (fs:Fs) (h:∀p ∈ fs,lk fs p.1=some p.2):Go.Ab.W.sub fs fs:=by
 have:∀l:Fs,(∀p ∈ l,lk fs p.1=some p.2)→Go.Ab.W.sub fs l:=by
  intro l
  induction l with
  | nil=>intro _; trivial
  | cons p l ih=>intro h; exact⟨h p (by simp),ih fun q hq=>h q (by simp[hq])⟩
 exact this fs h
def ev (E:Env) (fs:Fs):Operand→Option Value
 | .tmp i=>lk fs i
 | .const v=>match bw v with
  | true=>some v
  | false=>none
 | .global g=>match Nat.blt g E.glob with
  | true=>some (ptr g 0)
  | false=>none
 | .func f=>some (.func (.func f) #[] #[])
def gT (E:Env) (fs:Fs):List Operand→Option (List Value)
 | []=>some []
 | x::xs=>match ev E fs x with
  | some v=>match gT E fs xs with
   | some vs=>some (v::vs)
   | none=>none
  | none=>none
def Am (E:Env) (fs:Fs):Option Operand→Option (Option Value)
 | none=>some none
 | some x=>match ev E fs x with
  | some v=>some (some v)
  | none=>none
def IJ (E:Env) (fs:Fs):List (Nat × Operand)→Option (List (Nat × Value))
 | []=>some []
 | x::xs=>match ev E fs x.2 with
  | some v=>match IJ E fs xs with
   | some vs=>some ((x.1,v)::vs)
   | none=>none
  | none=>none
section
variable {E : Env} {t : Tm} {fs : Fs}
theorem Fr.ev (h:Fr t fs):∀{x:Operand} {v:Value},ev E fs x=some v→aj E t x=some v
 | .tmp i,v,e=>by show some (t.at i)=some v; rw[h i v e]
 | .const c,v,e=>by
  simp only[Go.Ab.W.ev] at e
  split at e
  ·rename_i hp; cases e; simp only[aj]; rw[if_pos hp]
  ·cases e
 | .global g,v,e=>by
  simp only[Go.Ab.W.ev] at e
  split at e
  ·rename_i hp; cases e; simp only[aj]; rw[if_pos (by rwa[Nat.blt_eq] at hp)]
  ·cases e
 | .func f,v,e=>by simp only[Go.Ab.W.ev] at e; exact e
theorem Fr.gT (h:Fr t fs):∀{xs:List Operand} {vs:List Value},gT E fs xs=some vs→bq E t xs=some vs
 | [],vs,e=>by simp only[Go.Ab.W.gT] at e; exact e
 | x::xs,vs,e=>by
  simp only[Go.Ab.W.gT] at e
  split at e
  ·rename_i v hv
   split at e
   ·rename_i ws hw;cases e;exact Kj (h.ev hv) (Fr.gT h hw)
   ·cases e
  ·cases e
theorem Fr.Am (h:Fr t fs):∀{x:Option Operand} {v:Option Value},Am E fs x=some v→dx E t x=some v
 | none,v,e=>by simp only[Go.Ab.W.Am] at e; exact e
 | some x,v,e=>by
  simp only[Go.Ab.W.Am] at e
  split at e
  ·rename_i w hw; cases e; simp only[dx]; rw[h.ev hw]; rfl
  ·cases e
theorem Fr.IJ (h:Fr t fs):∀{xs:List (Nat × Operand)} {vs:List (Nat × Value)},IJ E fs xs=some vs→dm E t xs=some vs
 | [],vs,e=>by simp only[Go.Ab.W.IJ] at e; exact e
 | x::xs,vs,e=>by
  simp only[Go.Ab.W.IJ] at e
  split at e
  ·rename_i v hv
   split at e
   ·rename_i ws hw;cases e;obtain⟨i,y⟩:=x;unfold dm;rw[h.ev hv,Fr.IJ h hw]
   ·cases e
  ·cases e
end
def tx (m:AMem) (b o w:Nat) (es:List (List Value)):Prop :=
 b<m.next∧∃all tg,m.get b=some (.cells all tg)∧(∀sz,tg = .more sz→sz=w)∧∀i e,es[i]? = some e→(all.drop (o+i*w)).take w=e∧e.length=w
def gE:Option Addr→Option Nat
 | some a=>some a.block
 | none=>none
def Rd (m:AMem) (a:Option Addr) (cap w n:Nat) (es:List (List Value)):Prop :=
 es.length=n∧n≤cap∧((a=none∧n=0)∨(∃b sp,a=some ⟨b,0,some sp⟩∧n=0∧cap=0∧b<m.next)∨∃b o,a=some ⟨b,o,none⟩∧tx m b o w es)
theorem Rd.lt {m:AMem} {a:Option Addr} {cap w n:Nat} {es:List (List Value)} (h:Rd m a cap w n es) {b:Nat} (hb:gE a=some b):b<m.next:=by
 rcases h.2.2 with⟨rfl,_⟩|⟨b',sp,rfl,_,_,h4⟩|⟨b',o,rfl,h4⟩
 ·cases hb
 ·cases hb; exact h4
 ·cases hb; exact h4.1
def An (lo:Nat) (m:AMem) (b w n:Nat) (es:List (List Value)) (tg:Tag):Prop :=
 lo≤b∧b<m.next∧m.get b=some (.cells es.flatten tg)∧es.length=n∧(∀e ∈ es,e.length=w)∧(tg = .own∨tg = .more w)∧0<w
structure GPc where
 ow:Nat→Prop
 rd:Nat→Prop
 P:AMem→Prop
 st:∀m m':AMem,P m→m.next≤m'.next→(∀b,ow b∨rd b→b<m.next→m'.get b=m.get b)→P m'
 lt:∀(m:AMem) b,P m→ow b∨rd b→b<m.next
 fr:Bool:=false
inductive Pc
 | obj (b:Nat) (o:AObj)
 | arr (b w n:Nat) (es:List (List Value)) (tg:Tag)
 | sl (a:Option Addr) (w n:Nat) (es:List (List Value))
 | rd (a:Option Addr) (cap w n:Nat) (es:List (List Value))
 | ro (b o w n:Nat) (es:List (List Value))
 | gen (g:GPc)
def Pc.qG:Pc→Option Nat
 | .obj b _=>some b
 | .arr b _ _ _ _=>some b
 | .sl a _ _ _=>gE a
 | .rd a _ _ _ _=>gE a
 | .ro b _ _ _ _=>some b
 | .gen _=>none
def Pc.own:Pc→Bool
 | .obj _ _ | .arr _ _ _ _ _ | .sl _ _ _ _=>true
 | _=>false
def Pc.Rq:Pc→Nat→Prop
 | .gen g=>g.ow
 | _=>fun _=>False
def Pc.DK:Pc→Nat→Prop
 | .gen g=>fun b=>g.ow b∨g.rd b
 | _=>fun _=>False
def Pc.ow (p:Pc) (b:Nat):Prop:=(p.own=true∧p.qG=some b)∨p.Rq b
def Pc.any (p:Pc) (b:Nat):Prop:=p.qG=some b∨p.DK b
theorem Pc.nm {p:Pc} {b:Nat} (h:p.ow b):p.any b:=by
 rcases h with h|h
 ·exact .inl h.2
 ·cases p with
  | gen g=>exact .inr (.inl h)
  | _=>exact h.elim
theorem Pc.Pr {p:Pc} {b:Nat} (ho:p.own=true) (hb:p.qG=some b):p.ow b:=.inl ⟨ho,hb⟩
theorem Pc.AD {p:Pc} {b:Nat} (ho:p.own=true) (h:p.any b):p.qG=some b:=by
 rcases h with h|h
 ·exact h
 ·cases p with
  | gen g=>cases ho
  | _=>exact h.elim
def Pc.ok (lo:Nat) (m:AMem):Pc→Prop
 | .obj b o=>lo≤b∧b<m.next∧m.get b=some o
 | .arr b w n es tg=>An lo m b w n es tg
 | .sl a w n es=>(n=0∧es = []∧a=none∧0<w)∨∃b tg,a=some ⟨b,0,none⟩∧An lo m b w n es tg
 | .rd a cap w n es=>Rd m a cap w n es
 | .ro b o w n es=>es.length=n∧tx m b o w es
 | .gen g=>g.P m∧(g.fr=false→∀b,g.ow b→lo≤b)
def Pc.bound:Pc→Bool
 | .gen g=>!g.fr
 | _=>true
def Pc.apart (p q:Pc):Prop:=(∀b,p.ow b→q.any b→False)∧∀b,q.ow b→p.any b→False
structure Hp (m0 m:AMem) (ps:List Pc):Prop where
 ext:Ext m0 m
 ok:∀p ∈ ps,p.ok m0.next m
 apart:ps.Pairwise Pc.apart
def pk:List Pc→Nat→Option Pc
 | [],_=>none
 | p::_,0=>some p
 | _::l,k+1=>pk l k
def cG:List Pc→Nat→Pc→List Pc
 | [],_,_=>[]
 | _::l,0,p=>p::l
 | q::l,k+1,p=>q::cG l k p
theorem iZ (p:Pc) (l:List Pc):pk (p::l) 0=some p:=rfl
theorem gX (p:Pc) (l:List Pc) (k:Nat):pk (p::l) (k+1)=pk l k:=rfl
theorem j5:∀{ps:List Pc} {k:Nat} {p:Pc},pk ps k=some p→p ∈ ps:=by
 intro ps
 induction ps with
 | nil=>intro k p h; simp[pk] at h
 | cons q l ih =>
  intro k p h;cases k with
  | zero=>rw[iZ] at h; have:=Option.some.inj h; simp[this]
  | succ k=>rw[gX] at h; have:=ih h; simp[this]
theorem ib (q:Pc) (l:List Pc) (p:Pc):cG (q::l) 0 p=p::l:=rfl
theorem jz (q:Pc) (l:List Pc) (k:Nat) (p:Pc):cG (q::l) (k+1) p=q::cG l k p:=rfl
theorem D1:∀{l:List Pc} {k:Nat} {p r:Pc},r ∈ cG l k p→r ∈ l∨r=p:=by
 intro l
 induction l with
 | nil=>intro k p r h; simp[cG] at h
 | cons a l ih =>
  intro k p r h;cases k with
  | zero =>
   rw[ib,List.mem_cons] at h;rcases h with h|h
   ·exact .inr h
   ·exact .inl (by simp[h])
  | succ k =>
   rw[jz,List.mem_cons] at h;rcases h with h|h
   ·exact .inl (by simp[h])
   ·rcases ih h with h1|h1
    ·exact .inl (by simp[h1])
    ·exact .inr h1
theorem tx.dV {m m':AMem} {b o w:Nat} {es:List (List Value)} (h:tx m b o w es) (hn:m.next≤m'.next) (hg:m'.get b=m.get b):tx m' b o w es:=by
 obtain⟨h1,all,tg,h2,h3⟩:=h;exact⟨by omega,all,tg,by rw[hg]; exact h2,h3⟩
theorem An.dV {lo:Nat} {m m':AMem} {b w n:Nat} {es:List (List Value)} {tg:Tag} (h:An lo m b w n es tg) (hn:m.next≤m'.next) (hg:m'.get b=m.get b):An lo m' b w n es tg:=by
 obtain⟨h1,h2,h3,h4⟩:=h;exact⟨h1,by omega,by rw[hg]; exact h3,h4⟩
theorem Rd.dV {m m':AMem} {a:Option Addr} {cap w n:Nat} {es:List (List Value)} (h:Rd m a cap w n es) (hn:m.next≤m'.next) (hg:∀b,gE a=some b→b<m.next→m'.get b=m.get b):Rd m' a cap w n es:=by
 obtain⟨h1,h2,h4⟩:=h;refine⟨h1,h2,?_⟩;rcases h4 with h4|⟨b,sp,rfl,a1,a2,a3⟩|⟨b,o,rfl,h⟩
 ·exact .inl h4
 ·exact .inr (.inl ⟨b,sp,rfl,a1,a2,Nat.lt_of_lt_of_le a3 hn⟩)
 ·exact .inr (.inr ⟨b,o,rfl,h.dV hn (hg b rfl h.1)⟩)
theorem Pc.fU {lo:Nat} {m m':AMem} {p:Pc} (h:p.ok lo m) (hn:m.next≤m'.next) (hg:∀b,p.any b→b<m.next→m'.get b=m.get b):p.ok lo m':=by
 cases p with
 | obj b o=>exact⟨h.1,by have:=h.2.1; omega,by rw[hg b (.inl rfl) h.2.1]; exact h.2.2⟩
 | arr b w n es tg=>exact An.dV h hn (hg b (.inl rfl) h.2.1)
 | sl a w n es =>
  rcases h with h|⟨b,tg,rfl,h⟩
  ·exact .inl h
  ·exact .inr ⟨b,tg,rfl,h.dV hn (hg b (.inl rfl) h.2.1)⟩
 | rd a cap w n es=>exact Rd.dV h hn fun b hb=>hg b (.inl hb)
 | ro b o w n es=>exact⟨h.1,h.2.dV hn (hg b (.inl rfl) h.2.1)⟩
 | gen g=>exact⟨g.st m m' h.1 hn fun b hb=>hg b (.inr hb),h.2⟩
theorem Pc.jh {lo:Nat} {m:AMem} {p:Pc} (h:p.ok lo m) {b:Nat} (hb:p.any b):b<m.next:=by
 cases p with
 | obj b' o=>rcases hb with hb|hb; cases hb; exact h.2.1; exact hb.elim
 | arr b' w n es tg=>rcases hb with hb|hb; cases hb; exact h.2.1; exact hb.elim
 | sl a w n es =>
  rcases hb with hb|hb
  ·rcases h with⟨_,_,rfl,_⟩|⟨b',tg,rfl,h⟩
   ·cases hb
   ·cases hb; exact h.2.1
  ·exact hb.elim
 | rd a cap w n es=>rcases hb with hb|hb; exact Rd.lt h hb; exact hb.elim
 | ro b' o w n es=>rcases hb with hb|hb; cases hb; exact h.2.1; exact hb.elim
 | gen g=>rcases hb with hb|hb; cases hb; exact g.lt m b h.1 hb
theorem Pc.MD {lo:Nat} {m:AMem} {p:Pc} (h:p.ok lo m) {b:Nat} (hb:p.qG=some b):b<m.next:=Pc.jh h (.inl hb)
theorem Pc.nW {lo:Nat} {m:AMem} {p:Pc} (h:p.ok lo m) (hf:p.bound=true) {b:Nat} (hb:p.ow b):lo≤b:=by
 rcases hb with⟨ho,hb⟩|hb
 ·cases p with
  | obj b' o=>cases hb; exact h.1
  | arr b' w n es tg=>cases hb; exact h.1
  | sl a w n es =>
   rcases h with⟨_,_,rfl,_⟩|⟨b',tg,rfl,h⟩
   ·cases hb
   ·cases hb; exact h.1
  | rd a cap w n es=>cases ho
  | ro b' o w n es=>cases ho
  | gen g=>cases ho
 ·cases p with
  | gen g=>exact h.2 (by simpa [Pc.bound] using hf) b hb
  | _=>exact hb.elim
theorem Pc.HO {lo:Nat} {m:AMem} {p:Pc} (h:p.ok lo m) (ho:p.own=true) {b:Nat} (hb:p.qG=some b):lo≤b:=Pc.nW h (by cases p<;>first|rfl|cases ho) (.inl ⟨ho,hb⟩)
section
variable {m0 m m' : AMem} {ps : List Pc}
theorem Hp.get (h:Hp m0 m ps) {k:Nat} {p:Pc} (hp:pk ps k=some p):p.ok m0.next m:=h.ok p (j5 hp)
theorem Pc.j9 {p r:Pc} (h:Pc.apart p r):Pc.apart r p:=⟨h.2,h.1⟩
theorem ft:∀{ps:List Pc} {k:Nat} {p p':Pc},pk ps k=some p→(∀r ∈ ps,Pc.apart p r→Pc.apart p' r)→ps.Pairwise Pc.apart→(cG ps k p').Pairwise Pc.apart:=by
 intro ps
 induction ps with
 | nil=>intro k p p' hk; simp[pk] at hk
 | cons q l ih =>
  intro k p p' hk hr h;rw[List.pairwise_cons] at h;cases k with
  | zero =>
   rw[iZ] at hk;have hk:=Option.some.inj hk;subst hk;rw[ib];exact List.pairwise_cons.2 ⟨fun r hm=>hr r (by simp[hm]) (h.1 r hm),h.2⟩
  | succ k =>
   rw[gX] at hk;rw[jz];refine List.pairwise_cons.2 ⟨fun r hm=>?_,ih hk (fun r hm=>hr r (by simp[hm])) h.2⟩
   rcases D1 hm with hm|hm
   ·exact h.1 r hm
   ·rw[hm]; exact Pc.j9 (hr q (by simp) (Pc.j9 (h.1 p (j5 hk))))
theorem oC:∀{ps:List Pc} {k:Nat} {p p' r:Pc},pk ps k=some p→ps.Pairwise Pc.apart→r ∈ cG ps k p'→r=p'∨(r ∈ ps∧Pc.apart r p):=by
 intro ps
 induction ps with
 | nil=>intro k p p' r hk; simp[pk] at hk
 | cons q l ih =>
  intro k p p' r hk h hr;rw[List.pairwise_cons] at h;cases k with
  | zero =>
   rw[iZ] at hk;have hk:=Option.some.inj hk;subst hk;rw[ib,List.mem_cons] at hr;rcases hr with hr|hr
   ·exact .inl hr
   ·exact .inr ⟨by simp[hr],Pc.j9 (h.1 r hr)⟩
  | succ k =>
   rw[gX] at hk;rw[jz,List.mem_cons] at hr;rcases hr with hr|hr
   ·rw[hr]; exact .inr ⟨by simp,h.1 p (j5 hk)⟩
   ·rcases ih hk h.2 hr with h1|⟨h1,h2⟩
    ·exact .inl h1
    ·exact .inr ⟨by simp[h1],h2⟩
theorem Hp.QW (h:Hp m0 m ps) {k:Nat} {p p':Pc} (hp:pk ps k=some p) (how:∀b,p'.ow b→p.ow b∨m.next≤b) (hany:∀b,p'.any b→p.any b∨m.next≤b) (hn:m.next≤m'.next) (hext:Ext m0 m')
  (hok:p'.ok m0.next m') (hg:∀b,¬p.ow b→b<m.next→m'.get b=m.get b):Hp m0 m' (cG ps k p') where
 ext:=hext
 apart:=ft hp (fun r hr ha=>⟨fun b a c=>(how b a).elim (fun a=>ha.1 b a c) fun a=>by have:=Pc.jh (h.ok r hr) c; omega,fun b a c=>(hany b c).elim (fun c=>ha.2 b a c) fun c=>by have:=Pc.jh (h.ok r hr) (Pc.nm a); omega⟩) h.apart
 ok:=fun r hr=>by
  rcases oC hp h.apart hr with rfl|⟨h1,h2⟩
  ·exact hok
  ·exact Pc.fU (h.ok r h1) hn fun b hb' hlt=>hg b (fun e=>h2.2 b e hb') hlt
theorem Hp.put (h:Hp m0 m ps) {k:Nat} {p p':Pc} (hp:pk ps k=some p) (ho:p.own=true) (hb:p'.qG=p.qG) (ho':p'.own=true) (hn:m.next≤m'.next) (hext:Ext m0 m')
  (hok:p'.ok m0.next m') (hg:∀b,p.qG≠some b→b<m.next→m'.get b=m.get b):Hp m0 m' (cG ps k p') :=
 h.QW hp (fun b a=>.inl (.inl ⟨ho,by rw[←hb]; exact Pc.AD ho' (Pc.nm a)⟩)) (fun b a=>.inl (.inl (by rw[←hb]; exact Pc.AD ho' a))) hn hext hok fun b hb' hlt=>hg b (fun e=>hb' (.inl ⟨ho,e⟩)) hlt
theorem Hp.OJ (h:Hp m0 m ps) {p:Pc} (hn:m.next≤m'.next) (hext:Ext m0 m') (hsame:∀b,b<m.next→m'.get b=m.get b) (hp:p.ok m0.next m') (hb:∀b,p.any b→m.next≤b):Hp m0 m' (p::ps) where
 ext:=hext
 ok:=fun q hq=>by
  rcases List.mem_cons.1 hq with rfl|hq
  ·exact hp
  ·exact Pc.fU (h.ok q hq) hn fun b hb' hlt=>hsame b hlt
 apart:=List.pairwise_cons.2 ⟨fun q hq=>⟨fun b h1 h2=>by
  have:=Pc.jh (h.ok q hq) h2;have:=hb b (Pc.nm h1);omega,fun b h1 h2=>by
  have:=Pc.jh (h.ok q hq) (Pc.nm h1);have:=hb b h2;omega⟩,h.apart⟩
theorem Hp.cons (h:Hp m0 m ps) {p:Pc} (hn:m.next≤m'.next) (hext:Ext m0 m') (hsame:∀b,b<m.next→m'.get b=m.get b) (hp:p.ok m0.next m') (hb:∀b,p.qG=some b→m.next≤b) (hng:∀b,¬p.DK b:=by exact fun _ h=>h):Hp m0 m' (p::ps) :=
 h.OJ hn hext hsame hp fun b hb'=>hb'.elim (hb b) fun h=>absurd h (hng b)
def az (ps:List Pc):List Nat→Option (List Pc)
 | []=>some []
 | k::ks=>match pk ps k with
  | some p=>match az ps ks with
   | some qs=>some (p::qs)
   | none=>none
  | none=>none
def jL:List Nat→Bool
 | []=>true
 | k::ks=>!(ks.any (Nat.beq k)) && jL ks
theorem pA:∀{ks:List Nat} {qs:List Pc},az ps ks=some qs→∀q ∈ qs,∃k ∈ ks,pk ps k=some q:=by
 intro ks
 induction ks with
 | nil=>intro qs h q hq; simp only[az,Option.some.injEq] at h; subst h; cases hq
 | cons k ks ih =>
  intro qs h q hq;simp only[az] at h
  split at h
  ·rename_i p hp
   split at h
   ·rename_i qs' hqs;simp only[Option.some.injEq] at h;subst h;rcases List.mem_cons.1 hq with rfl|hq
    ·exact⟨k,by simp,hp⟩
    ·obtain⟨k',h1,h2⟩:=ih hqs q hq;exact⟨k',by simp[h1],h2⟩
   ·cases h
  ·cases h
theorem gv:∀{ps:List Pc} {i j:Nat} {p q:Pc},ps.Pairwise Pc.apart→pk ps i=some p→pk ps j=some q→i≠j→Pc.apart p q:=by
 intro ps
 induction ps with
 | nil=>intro i j p q _ h; simp[pk] at h
 | cons r l ih =>
  intro i j p q h hi hj hne;rw[List.pairwise_cons] at h;cases i with
  | zero =>
   cases j with
   | zero=>exact absurd rfl hne
   | succ j =>
    rw[iZ] at hi;rw[gX] at hj;rw[←Option.some.inj hi];exact h.1 q (j5 hj)
  | succ i =>
   cases j with
   | zero =>
    rw[iZ] at hj;rw[gX] at hi;rw[←Option.some.inj hj];exact Pc.j9 (h.1 p (j5 hi))
   | succ j=>rw[gX] at hi hj; exact ih h.2 hi hj (fun e=>hne (by rw[e]))
theorem mP:∀{ps:List Pc} {r:Pc},r ∈ ps→∃k,pk ps k=some r:=by
 intro ps
 induction ps with
 | nil=>intro r h; cases h
 | cons p l ih =>
  intro r h;rcases List.mem_cons.1 h with rfl|h
  ·exact⟨0,rfl⟩
  ·obtain⟨k,hk⟩:=ih h; exact⟨k+1,hk⟩
theorem Hp.PD (h:Hp m0 m ps) {k:Nat} {p q:Pc} (hp:pk ps k=some p) (hpo:∀b,¬p.ow b) (hq:q.ok m0.next m) (hqo:∀b,¬q.ow b) (hb:∀b,q.any b→p.any b):Hp m0 m (q::ps) where
 ext:=h.ext
 ok:=fun r hr=>by
  rcases List.mem_cons.1 hr with rfl|hr
  ·exact hq
  ·exact h.ok r hr
 apart:=List.pairwise_cons.2 ⟨fun r hr=>⟨fun b h1 _=>hqo b h1,fun b h1 h2=>by
  obtain⟨k',hk'⟩:=mP hr;have hne:k≠k':=fun e=>by
   rw[←e,hp] at hk';exact hpo b (by rw[Option.some.inj hk']; exact h1)
  exact(gv h.apart hp hk' hne).2 b h1 (hb b h2)⟩,h.apart⟩
theorem Hp.more (h:Hp m0 m ps) {k:Nat} {p q:Pc} (hp:pk ps k=some p) (hpo:p.own=false) (hq:q.ok m0.next m) (hqo:q.own=false) (hb:∀b,q.qG=some b→p.qG=some b) (hpg:∀b,¬p.Rq b:=by exact fun _ h=>h) (hqg:∀b,¬q.DK b:=by exact fun _ h=>h):Hp m0 m (q::ps) :=
 h.PD hp (fun b h=>h.elim (fun h=>by rw[hpo] at h; cases h.1) (hpg b)) hq (fun b h=>h.elim (fun h=>by rw[hqo] at h; cases h.1) fun h=>hqg b (by cases q with|gen g=>exact .inl h|_=>exact h)) fun b h=>h.elim (fun h=>.inl (hb b h)) fun h=>absurd h (hqg b)
theorem zr (h:ps.Pairwise Pc.apart):∀{ks:List Nat} {qs:List Pc},jL ks=true→az ps ks=some qs→qs.Pairwise Pc.apart:=by
 intro ks
 induction ks with
 | nil=>intro qs _ e; simp only[az,Option.some.injEq] at e; subst e; exact .nil
 | cons k ks ih =>
  intro qs hnd e;simp only[jL,Bool.and_eq_true,Bool.not_eq_true',List.any_eq_false] at hnd;simp only[az] at e
  split at e
  ·rename_i p hp
   split at e
   ·rename_i qs' hqs;simp only[Option.some.injEq] at e;subst e;refine List.pairwise_cons.2 ⟨fun q hq=>?_,ih hnd.2 hqs⟩;obtain⟨k',h1,h2⟩:=pA hqs q hq;exact gv h hp h2 fun e=>hnd.1 k' h1 (by rw[e]; exact Nat.beq_refl _)
   ·cases e
  ·cases e
theorem Hp.az (h:Hp m0 m ps) (ks:List Nat) {qs:List Pc} (hnd:jL ks=true) (e:W.az ps ks=some qs):Hp m0 m qs where
 ext:=h.ext
 ok:=fun q hq=>by
  obtain⟨k,_,hk⟩:=pA e q hq;exact h.ok q (j5 hk)
 apart:=zr h.apart hnd e
theorem Pc.LN {lo lo':Nat} {m:AMem} {p:Pc} (h:p.ok lo m) (hle:lo'≤lo):p.ok lo' m:=by
 have up:∀{b w n es tg},An lo m b w n es tg→An lo' m b w n es tg:=fun ho=>⟨Nat.le_trans hle ho.1,ho.2⟩;cases p with
 | obj b o=>exact⟨Nat.le_trans hle h.1,h.2⟩
 | arr b w n es tg=>exact up h
 | sl a w n es =>
  rcases h with h1|⟨b,tg,e,h1⟩
  ·exact .inl h1
  ·exact .inr ⟨b,tg,e,up h1⟩
 | rd a cap w n es=>exact h
 | ro b o w n es=>exact h
 | gen g=>exact⟨h.1,fun hf b hb=>Nat.le_trans hle (h.2 hf b hb)⟩
theorem Hp.N3 (h:Hp m0 m ps) {new:List Pc} (h':Hp m m' new) (hbd:∀p ∈ new,p.bound=true) (hro:∀p ∈ new,∀b,p.any b→m.next≤b∨(¬p.ow b∧∃q ∈ ps,(∀b,¬q.ow b)∧q.any b)):Hp m0 m' (new++ps) where
 ext:=h.ext.trans h'.ext
 ok:=fun q hq=>by
  rcases List.mem_append.1 hq with hq|hq
  ·exact Pc.LN (h'.ok q hq) h.ext.next
  ·exact Pc.fU (h.ok q hq) h'.ext.next fun b _ hlt=>h'.ext.same b hlt
 apart:=List.pairwise_append.2 ⟨h'.apart,h.apart,fun p hp q hq=>⟨fun b h1 h2=>by
  have:=Pc.nW (h'.ok p hp) (hbd p hp) h1;have:=Pc.jh (h.ok q hq) h2;omega,fun b h1 h2=>by
  rcases hro p hp b h2 with h3|⟨_,r,hr,hr1,hr2⟩
  ·have:=Pc.jh (h.ok q hq) (Pc.nm h1);omega
  ·obtain⟨i,hi⟩:=mP hq;obtain⟨j,hj⟩:=mP hr;have hne:i≠j:=fun e=>by
    rw[e,hj] at hi;exact hr1 b (by rw[Option.some.inj hi]; exact h1)
   exact(gv h.apart hi hj hne).1 b h1 hr2⟩⟩
theorem Hp.after (h:Hp m0 m ps) {new:List Pc} (h':Hp m m' new) (hro:∀p ∈ new,p.own=true):Hp m0 m' (new++ps) :=
 h.N3 h' (fun p hp=>by have:=hro p hp; cases p<;>first|rfl|cases this) fun p hp b hb=>.inl (Pc.HO (h'.ok p hp) (hro p hp) (Pc.AD (hro p hp) hb))
def wG (ps:List Pc) (b:Nat):Prop:=∃p ∈ ps,p.ow b
theorem Hp.aC (h:Hp m0 m ps):∀b,wG ps b→b<m.next:=fun b ⟨p,hp,hb⟩=>Pc.jh (h.ok p hp) (Pc.nm hb)
def oE (H:Nat→Prop):GPc:={ ow:=H,rd:=fun _=>False,P:=fun m=>∀b,H b→b<m.next,fr:=true,st:=fun m m' h hn _ b hb=>Nat.lt_of_lt_of_le (h b hb) hn,lt:=fun m b h hb=>hb.elim (h b) fun h=>h.elim}
theorem Hp.dZ (m:AMem) {H:Nat→Prop} (hH:∀b,H b→b<m.next):Hp m m [.gen (oE H)]:=⟨.refl m,fun p h=>by rw[List.mem_singleton.1 h]; exact⟨hH,fun h=>by cases h⟩,List.pairwise_singleton ..⟩
theorem Hp.GU (h:Hp m0 m ps) {new:List Pc} (h':Hp m m' (new++[.gen (oE (wG ps))])) (hbd:∀p ∈ new,p.bound=true):Hp m0 m' (new++ps) where
 ext:=h.ext.trans h'.ext
 ok:=fun q hq=>by
  rcases List.mem_append.1 hq with hq|hq
  ·exact Pc.LN (h'.ok q (List.mem_append_left _ hq)) h.ext.next
  ·exact Pc.fU (h.ok q hq) h'.ext.next fun b _ hlt=>h'.ext.same b hlt
 apart:=List.pairwise_append.2 ⟨(List.pairwise_append.1 h'.apart).1,h.apart,fun p hp q hq=>⟨fun b h1 h2=>by
  have:=Pc.nW (h'.ok p (List.mem_append_left _ hp)) (hbd p hp) h1;have:=Pc.jh (h.ok q hq) h2;omega,fun b h1 h2=>((List.pairwise_append.1 h'.apart).2.2 p hp _ (List.mem_singleton.2 rfl)).2 b (.inr ⟨q,hq,h1⟩) h2⟩⟩
theorem Hp.PI (h:Hp m0 m ps) {k cap w n:Nat} {a:Option Addr} {es:List (List Value)} (hp:pk ps k=some (.rd a cap w n es)):∀b,gE a=some b→¬wG ps b:=fun b hb ⟨q,hq,h1⟩=>by
 obtain⟨i,hi⟩:=mP hq;have hne:i≠k:=fun e=>by
  rw[e,hp] at hi;cases hi;exact h1.elim (fun h=>by cases h.1) fun h=>h.elim
 exact(gv h.apart hi hp hne).1 b h1 (.inl hb)
end
structure TyI (P:Program) (ty:TypeId) (ag:Bool) (sz:Nat):Prop where
 known:known P ty=true
 agg:cS P ty=ag
 size:al P ty=sz
structure SlT (P:Program) (ty elem:TypeId) (w:Nat):Prop where
 und:P.underlying ty=some (.slice elem)
 known:known P elem=true
 size:al P elem=w
 pos:0<w
 zero:(bu P elem).any (fun z=>z.cells.size == w && z.cells.toList.all aw)=true
 bytes:∃i,P.info? elem=some i∧i.bytes≠0∧i.bytes≤1024
structure ArT (P:Program) (ty elem:TypeId) (len w:Nat):Prop where
 und:P.underlying ty=some (.array len elem)
 known:known P elem=true
 size:al P elem=w
def PO (P:Program) (ty elem:TypeId) (w:Nat):Bool :=
 (match P.underlying ty with|some (.slice e)=>Nat.beq e elem|_=>false) && known P elem && Nat.beq (al P elem) w && Nat.blt 0 w && (bu P elem).any (fun z=>z.cells.size == w && z.cells.toList.all aw) && (match P.info? elem with|some i=>!(Nat.beq i.bytes 0) && Nat.ble i.bytes 1024|none=>false)
theorem SlT.of {P:Program} {ty elem:TypeId} {w:Nat} (h:PO P ty elem w=true):SlT P ty elem w:=by
 simp only[PO,Bool.and_eq_true] at h;obtain⟨⟨⟨⟨⟨h1,h2⟩,h3⟩,h4⟩,h5⟩,h6⟩:=h;refine⟨?_,h2,Nat.eq_of_beq_eq_true h3,by rwa[Nat.blt_eq] at h4,h5,?_⟩
 ·split at h1
  ·rename_i e he; rw[he,Nat.eq_of_beq_eq_true h1]
  ·cases h1
 ·split at h6
  ·rename_i i hi;simp only[Bool.and_eq_true,Bool.not_eq_true'] at h6;exact⟨i,hi,Nat.ne_of_beq_eq_false h6.1,Nat.le_of_ble_eq_true h6.2⟩
  ·cases h6
section
variable {E : Env} {n : Nat} {m0 : AMem} {fs : Fs} {ps : List Pc}
def Od (E:Env) (m0:AMem) (fs:Fs) (ps:List Pc) (o:Op) (v:Value) (ps':List Pc):Prop :=
 ∀t m,Fr t fs→Hp m0 m ps→(∀b,aE E t o=some b→b<m.next)∧∀K:Value→AMem→Prop,(∀m',Hp m0 m' ps'→K v m')→aZ E t m o K
def Ox (E:Env) (m0:AMem) (fs:Fs) (ps:List Pc) (o:Op) {α:Type} (V:α→Value) (N:α→List Pc):Prop :=
 ∀t m,Fr t fs→Hp m0 m ps→(∀b,aE E t o=some b→b<m.next)∧∀K:Value→AMem→Prop,(∀x m',Hp m0 m' (N x)→K (V x) m')→aZ E t m o K
theorem Od.pure {o:Op} {v:Value} (hr:∀t,aE E t o=none) (h:∀t m,Fr t fs→∀K,aZ E t m o K=K v m):Od E m0 fs ps o v ps :=
 fun t m hf hp=>⟨fun b hb=>(by rw[hr] at hb; cases hb),fun K hK=>by rw[h t m hf]; exact hK m hp⟩
variable {x y z : Operand} {a b r v : Value} {ty ty' : TypeId}
theorem bC (h:ev E fs x=some v):Od E m0 fs ps (.move x) v ps:=.pure (fun _=>rfl) fun _ _ hf=>Go.Ab.xp (hf.ev h)
theorem nr (h:ev E fs x=some v):Od E m0 fs ps (.assign x) v ps:=.pure (fun _=>rfl) fun _ _ hf=>Go.Ab.oh (hf.ev h)
theorem HK {c:Operand} (hc:ev E fs c=some (.bool true)) (h:ev E fs x=some v):Od E m0 fs ps (.pick c x y) v ps:=.pure (fun _=>rfl) fun _ _ hf=>Go.Ab.La (hf.ev hc) (hf.ev h)
theorem OW {c:Operand} (hc:ev E fs c=some (.bool false)) (h:ev E fs y=some v):Od E m0 fs ps (.pick c x y) v ps:=.pure (fun _=>rfl) fun _ _ hf=>Go.Ab.Kl (hf.ev hc) (hf.ev h)
theorem aN {op:BinOp} (h:ev E fs x=some a) (h':ev E fs y=some b) (hr:aY op ty E.P a b=some r):Od E m0 fs ps (.binOp op ty x y ty') r ps:=.pure (fun _=>rfl) fun _ _ hf=>Go.Ab.zf (hf.ev h) (hf.ev h') hr
theorem II {op:UnOp} (h:ev E fs x=some a) (hr:zu op a=some r):Od E m0 fs ps (.unOp op ty x) r ps:=.pure (fun _=>rfl) fun _ _ hf=>Go.Ab.II (hf.ev h) hr
theorem tB (h:ev E fs x=some a) (hr:eK E.P ty ty' a=some r):Od E m0 fs ps (.convert ty ty' x) r ps:=.pure (fun _=>rfl) fun _ _ hf=>Go.Ab.Ir (hf.ev h) hr
theorem fa {f:Nat} (h:ev E fs x=some a) (hr:aH E.P ty a f=some r):Od E m0 fs ps (.fieldAddr ty x f) r ps:=.pure (fun _=>rfl) fun _ _ hf=>Go.Ab.xZ (hf.ev h) hr
theorem KD {f:Nat} (h:ev E fs x=some a) (hr:eC E.P ty a f=some r):Od E m0 fs ps (.field ty x f) r ps:=.pure (fun _=>rfl) fun _ _ hf=>Go.Ab.Ke (hf.ev h) hr
theorem Aw (h:ev E fs x=some a) (h':ev E fs y=some b) (hr:bB E.P ty a b=some r):Od E m0 fs ps (.indexAddr ty x y) r ps:=.pure (fun _=>rfl) fun _ _ hf=>Go.Ab.pS (hf.ev h) (hf.ev h') hr
theorem QA (h:ev E fs x=some a) (h':ev E fs y=some b) (hr:fJ E.P ty a b=some r):Od E m0 fs ps (.index ty x y) r ps:=.pure (fun _=>rfl) fun _ _ hf=>Go.Ab.Kq (hf.ev h) (hf.ev h') hr
theorem wj {i:Nat} {vs:Array Value} (h:ev E fs x=some (.tuple vs)) (hr:vs[i]? = some r):Od E m0 fs ps (.extract x i) r ps:=.pure (fun _=>rfl) fun _ _ hf=>Go.Ab.EI (hf.ev h) hr
theorem ta {f:FuncId} {xs ys:Array Operand} {vs ws:List Value} (h:gT E fs xs.toList=some vs) (h':gT E fs ys.toList=some ws):Od E m0 fs ps (.makeFunc (.func f) xs ys) (.func (.func f) vs.toArray ws.toArray) ps :=
 .pure (fun _=>rfl) fun _ _ hf K=>by rw[Go.Ab.yh,hf.gT h,Go.Ab.dz,hf.gT h',Go.Ab.dz]
theorem EA {bi:Builtin} {ars:Array Operand} {ts:Array TypeId} {vs:List Value} (h:gT E fs ars.toList=some vs) (hn:(match bi with | .len | .cap=>false|_=>true)=true) (hr:∀m,aI E.P bi ts vs m=some (r,m)):Od E m0 fs ps (.call ⟨.builtin bi,ars,ts⟩) r ps :=
 .pure (fun _=>by cases bi<;>first|rfl|cases hn) fun _ _ hf K=>Go.Ab.dA (hf.gT h) (hr _) K
theorem eB {parts:Array (Nat × Operand)} {vs:List (Nat × Value)} {z:Value} (h:IJ E fs parts.toList=some vs) (hz:bu E.P ty=some z) (hpz:bw z=true) (hr:j6 E.P ty vs=some r):Od E m0 fs ps (.build ty parts) r ps :=
 .pure (fun _=>rfl) fun t m hf K=>by
  have:cM E t m (.build ty parts)=some (r,m):=by simp only[cM,hf.IJ h,hz,hpz,if_true,hr,Option.map_some]
  exact Go.Ab.H5 rfl this K
def Gy (ag:Bool) (sz:Nat) (cs:List Value) (o:Nat):Option Value :=
 match ag with
 | true=>match Nat.beq ((cs.drop o).take sz).length sz with
  | true=>some (.agg ((cs.drop o).take sz).toArray)
  | false=>none
 | false=>cs[o]?
theorem vW {P:Program} {m:AMem} {ag:Bool} {sz b o:Nat} {cs:List Value} {tg:Tag} (ht:TyI P ty ag sz) (hg:m.get b=some (.cells cs tg)) (h:Gy ag sz cs o=some v):dc P ty (ptr b o) m=some v:=by
 cases ag with
 | false=>exact vY ht.known ht.agg hg h
 | true =>
  simp only[Gy] at h
  split at h
  ·rename_i e;cases h;exact C7 ht.known ht.agg ht.size hg rfl (Nat.eq_of_beq_eq_true e)
  ·cases h
def JJ (ag:Bool) (sz c w:Nat):Bool:=(match ag with|true=>true|false=>Nat.beq sz 1) && Nat.ble (c+sz) w
theorem Ca {ag:Bool} {sz c w:Nat} (h:JJ ag sz c w=true):(ag=false→sz=1)∧c+sz≤w:=by
 simp only[JJ,Bool.and_eq_true] at h;exact⟨fun e=>by subst e; exact Nat.eq_of_beq_eq_true h.1,Nat.le_of_ble_eq_true h.2⟩
theorem Od.load {p:Value} {b o:Nat} (hx:ev E fs x=some (ptr b o)) (h:∀m,Hp m0 m ps→b<m.next∧dc E.P ty (ptr b o) m=some v):Od E m0 fs ps (.load ty x) v ps :=
 fun t m hf hp=>⟨fun b' hb=>by
  simp only[aE,hf.ev hx] at hb;cases hb; exact(h m hp).1,fun K hK=>by
  rw[Go.Ab.vf (hf.ev hx) (h m hp).2]; exact hK m hp⟩
theorem ai {ag:Bool} {sz b o k:Nat} {cs:List Value} {tg:Tag} (ht:TyI E.P ty ag sz) (hx:ev E fs x=some (ptr b o)) (hp:pk ps k=some (.obj b (.cells cs tg))) (hv:Gy ag sz cs o=some v):Od E m0 fs ps (.load ty x) v ps :=
 .load (p:=v) hx fun m h=>⟨(h.get hp).2.1,vW ht (h.get hp).2.2 hv⟩
theorem Kg {ag:Bool} {sz o w c:Nat} {all e:List Value} (he:(all.drop o).take w=e) (hsz:ag=false→sz=1) (hc:c+sz≤w) (h:Gy ag sz e c=some v):Gy ag sz all (o+c)=some v:=by
 subst he;have key:((List.take w (List.drop o all)).drop c).take sz=(all.drop (o+c)).take sz:=by
  rw[List.drop_take,List.take_take,List.drop_drop,Nat.min_eq_left (by omega)]
 cases ag with
 | true=>simp only[Gy,key] at h ⊢; exact h
 | false =>
  simp only[Gy,List.getElem?_take,List.getElem?_drop] at h ⊢
  split at h
  ·exact h
  ·cases h
theorem tZ {P:Program} {m:AMem} {ag:Bool} {sz b o w j c:Nat} {es:List (List Value)} {e:List Value} (ht:TyI P ty ag sz) (hl:tx m b o w es) (he:es[j]? = some e) (hv:Gy ag sz e c=some v) (hsz:ag=false→sz=1) (hc:c+sz≤w):dc P ty (ptr b (o+j*w+c)) m=some v:=by
 obtain⟨_,all,tg,hg,_,h⟩:=hl;exact vW ht hg (Kg (h j e he).1 hsz hc hv)
theorem Di {w:Nat}:∀{es:List (List Value)} {j:Nat} {e:List Value},(∀e ∈ es,e.length=w)→es[j]? = some e→(es.flatten.drop (j*w)).take w=e:=by
 intro es
 induction es with
 | nil=>intro j e _ h; simp at h
 | cons x es ih =>
  intro j e hw h;have hx:=hw x (by simp)
  cases j with
  | zero =>
   simp only[List.getElem?_cons_zero,Option.some.injEq] at h;subst h;rw[List.flatten_cons,Nat.zero_mul,List.drop_zero,List.take_left' hx]
  | succ j =>
   rw[List.getElem?_cons_succ] at h;rw[List.flatten_cons,Nat.succ_mul,Nat.add_comm,←List.drop_drop,List.drop_left' hx];exact ih (fun e he=>hw e (by simp[he])) h
theorem An.OU {lo:Nat} {m:AMem} {b w n:Nat} {es:List (List Value)} {tg:Tag} (h:An lo m b w n es tg):tx m b 0 w es :=
 ⟨h.2.1,_,tg,h.2.2.1,fun sz e=>(by rcases h.2.2.2.2.2.1 with h1|h1<;>rw[h1] at e<;>cases e; rfl),fun i e he=>⟨by rw[Nat.zero_add]; exact Di h.2.2.2.2.1 he,h.2.2.2.2.1 e (List.mem_of_getElem? he)⟩⟩
theorem eA {ag:Bool} {sz b w n j c k:Nat} {es:List (List Value)} {tg:Tag} {e:List Value} (ht:TyI E.P ty ag sz) (hx:ev E fs x=some (ptr b (j*w+c))) (hp:pk ps k=some (.arr b w n es tg)) (he:es[j]? = some e) (hv:Gy ag sz e c=some v) (hs:JJ ag sz c w=true):Od E m0 fs ps (.load ty x) v ps:=by
 have hs:=Ca hs;refine .load (p:=v) hx fun m h=>⟨(h.get hp).2.1,?_⟩;have:=tZ (P:=E.P) ht (An.OU (h.get hp)) he hv hs.1 hs.2;rwa[Nat.zero_add] at this
theorem de {ag:Bool} {sz b o w n j c k:Nat} {es:List (List Value)} {e:List Value} (ht:TyI E.P ty ag sz) (hx:ev E fs x=some (ptr b (o+j*w+c))) (hp:pk ps k=some (.ro b o w n es)) (he:es[j]? = some e) (hv:Gy ag sz e c=some v) (hs:JJ ag sz c w=true):Od E m0 fs ps (.load ty x) v ps:=by
 have hs:=Ca hs;exact .load (p:=v) hx fun m h=>⟨(h.get hp).2.1,tZ (P:=E.P) ht (h.get hp).2 he hv hs.1 hs.2⟩
theorem Lu {elem:TypeId} {b o w n cap:Nat} {i:Int} {kd:IntKind} (ht:SlT E.P ty elem w) (hx:ev E fs x=some (.slice (some ⟨b,o,none⟩) n cap)) (hy:ev E fs y=some (.int kd i)) (hi:0≤i∧i.toNat<n):Od E m0 fs ps (.indexAddr ty x y) (ptr b (o+i.toNat*w+0)) ps:=by
 refine Aw hx hy ?_;have hd:decide ((0:Int)≤i∧i<(n:Nat))=true:=by simp; omega
 simp only[bB,ht.und,ht.known,hd,Bool.and_self,if_true,ht.size,Nat.add_zero]
theorem dQ {elem:TypeId} {b w n cap:Nat} {i:Int} {kd:IntKind} (ht:SlT E.P ty elem w) (hx:ev E fs x=some (.slice (some ⟨b,0,none⟩) n cap)) (hy:ev E fs y=some (.int kd i)) (hi:0≤i∧i.toNat<n):Od E m0 fs ps (.indexAddr ty x y) (ptr b (i.toNat*w+0)) ps:=by
 have:=Lu (m0:=m0) (ps:=ps) ht hx hy hi;rwa[Nat.zero_add] at this
theorem Hp.write {m:AMem} (h:Hp m0 m ps) {k b:Nat} {p p':Pc} {o':AObj} (hp:pk ps k=some p) (ho:p.own=true) (hb:p.qG=some b) (hb':p'.qG=some b) (ho':p'.own=true) (hok:p'.ok m0.next (m.set b o')):Hp m0 (m.set b o') (cG ps k p') :=
 h.put hp ho (hb'.trans hb.symm) ho' (Nat.le_refl _) (h.ext.set (Pc.HO (h.get hp) ho hb) _) hok fun x hx _=>by
  rw[AMem.bD,if_neg (fun e=>hx (by rw[e]; exact hb))]
def LB (cs:List Value) (o:Nat) (v:Value) (sz:Nat):Option (List Value) :=
 match Nat.beq v.cells.toList.length sz && Nat.blt 0 sz && aG v.cells.toList && Nat.ble (o+sz) cs.length with
 | true=>some (au cs o v.cells.toList)
 | false=>none
theorem iy:∀(cs:List Value) (o:Nat) (vs:List Value),o+vs.length≤cs.length→(au cs o vs).length=cs.length
 | cs,0,[],_=>by cases cs<;>rfl
 | [],0,v::vs,h=>by simp at h
 | c::cs,0,v::vs,h=>by simp only[au,List.length_cons]; rw[iy cs 0 vs (by simpa using h)]
 | [],o+1,vs,h=>by simp at h
 | c::cs,o+1,vs,h=>by simp only[au,List.length_cons]; rw[iy cs o vs (by simp at h; omega)]
theorem yN {P:Program} {m:AMem} {ag:Bool} {sz b o:Nat} {cs cs':List Value} {tg:Tag} (ht:TyI P ty ag sz) (hg:m.get b=some (.cells cs tg)) (htg:tg≠.ro) (h:LB cs o v sz=some cs'):dE P ty (ptr b o) v m=some (m.set b (.cells cs' tg)):=by
 simp only[LB] at h
 split at h
 ·rename_i e;cases h;simp only[Bool.and_eq_true] at e;obtain⟨⟨⟨h1,h2⟩,h3⟩,h4⟩:=e;have h1:=Nat.eq_of_beq_eq_true h1;have h2:0<sz:=by rwa[Nat.blt_eq] at h2
  have h4:=Nat.le_of_ble_eq_true h4;have hs:(v.cells.size == al P ty)=true:=by rw[ht.size,←h1]; simp
  simp only[dE,ptr,ht.known,hs,h3,Bool.and_self,if_true,AMem.cc];cases hc:v.cells.toList with
  | nil=>rw[hc] at h1; simp at h1; omega
  | cons x xs =>
   rw[hc] at h1;simp only[hg];cases tg with
   | ro=>exact absurd rfl htg
   | own=>rw[if_pos (by rw[h1]; exact h4)]
   | more s=>rw[if_pos (by rw[h1]; exact h4)]
 ·cases h
theorem Od.store {bk o:Nat} {p':List Pc} (hx:ev E fs x=some (ptr bk o)) (hy:ev E fs y=some v) (h:∀m,Hp m0 m ps→∃m',dE E.P ty (ptr bk o) v m=some m'∧Hp m0 m' p'):Od E m0 fs ps (.store ty x y) undef p' :=
 fun t m hf hp=>⟨fun b hb=>by simp[aE] at hb,fun K hK=>by
  obtain⟨m',h1,h2⟩:=h m hp;rw[Go.Ab.wU (hf.ev hx) (hf.ev hy) h1]; exact hK m' h2⟩
def zM:Tag→Bool
 | .ro=>false
 | _=>true
theorem aM {ag:Bool} {sz b o k:Nat} {cs cs':List Value} {tg:Tag} (ht:TyI E.P ty ag sz) (hx:ev E fs x=some (ptr b o)) (hy:ev E fs y=some v) (hp:pk ps k=some (.obj b (.cells cs tg))) (htg:zM tg=true) (hv:LB cs o v sz=some cs'):Od E m0 fs ps (.store ty x y) undef (cG ps k (.obj b (.cells cs' tg))) :=
 .store hx hy fun m h=>⟨_,yN ht (h.get hp).2.2 (fun e=>by rw[e] at htg; cases htg) hv,h.write hp rfl rfl rfl rfl ⟨(h.get hp).1,(h.get hp).2.1,by rw[AMem.bD,if_pos rfl]⟩⟩
theorem AW:∀(l r vs:List Value) (c:Nat),c+vs.length≤l.length→au (l++r) c vs=au l c vs++r:=by
 intro l r
 induction l with
 | nil =>
  intro vs c h;have h0:c+vs.length≤0:=h;have h1:c=0:=by omega
  have h2:vs = []:=List.length_eq_zero_iff.1 (by omega)
  subst h1 h2;cases r<;>rfl
 | cons a l ihl =>
  intro vs c h;cases c with
  | zero=>cases vs with
   | nil=>rfl
   | cons v vs=>simp only[List.cons_append,au]; rw[ihl vs 0 (by simpa using h)]
  | succ c=>simp only[List.cons_append,au]; rw[ihl vs c (by simp at h; omega)]
theorem yJ:∀(l r vs:List Value) (o:Nat),au (l++r) (l.length+o) vs=l++au r o vs:=by
 intro l r vs
 induction l with
 | nil=>intro o; simp
 | cons a l ihl=>intro o; rw[List.cons_append,List.length_cons,show l.length+1+o=(l.length+o)+1 by omega,au,ihl o]; rfl
theorem xP {w c:Nat} {vs:List Value}:∀{es:List (List Value)} {j:Nat} {e:List Value},(∀e ∈ es,e.length=w)→es[j]? = some e→c+vs.length≤w→au es.flatten (j*w+c) vs=(es.set j (au e c vs)).flatten:=by
 intro es
 induction es with
 | nil=>intro j e _ h; simp at h
 | cons x es ih =>
  intro j e hw h hc;have hx:=hw x (by simp)
  cases j with
  | zero =>
   simp only[List.getElem?_cons_zero,Option.some.injEq] at h;subst h;rw[List.flatten_cons,Nat.zero_mul,Nat.zero_add,AW _ _ _ _ (by omega)]
   simp[List.flatten_cons]
  | succ j =>
   rw[List.getElem?_cons_succ] at h;rw[List.flatten_cons,Nat.succ_mul,show j*w+w+c=x.length+(j*w+c) by omega,yJ,ih (fun e he=>hw e (by simp[he])) h hc]
   simp[List.flatten_cons]
theorem OV {ag:Bool} {sz b w n j c k:Nat} {es:List (List Value)} {e e':List Value} {tg:Tag} (ht:TyI E.P ty ag sz) (hx:ev E fs x=some (ptr b (j*w+c))) (hy:ev E fs y=some v) (hp:pk ps k=some (.arr b w n es tg)) (he:es[j]? = some e) (hv:LB e c v sz=some e'):Od E m0 fs ps (.store ty x y) undef (cG ps k (.arr b w n (es.set j e') tg)):=by
 refine .store hx hy fun m h=>?_;obtain⟨g1,g2,g3,g4,g5,g6,g7⟩:=h.get hp;have hew:=g5 e (List.mem_of_getElem? he);simp only[LB] at hv
 split at hv
 ·rename_i e1;cases hv;simp only[Bool.and_eq_true] at e1;obtain⟨⟨⟨h1,h2⟩,h3⟩,h4⟩:=e1;have h1:=Nat.eq_of_beq_eq_true h1;have h2':0<sz:=by rwa[Nat.blt_eq] at h2
  have h4:=Nat.le_of_ble_eq_true h4;have hj:j<es.length:=(List.getElem?_eq_some_iff.1 he).1;have hfl:∀(l:List (List Value)),(∀e ∈ l,e.length=w)→l.flatten.length=l.length*w:=by
   intro l
   induction l with
   | nil=>intro _; simp
   | cons x l ih=>intro hl; rw[List.flatten_cons,List.length_append,ih (fun e he=>hl e (by simp[he])),hl x (by simp),List.length_cons,Nat.succ_mul]; omega
  have hmul:(j+1)*w≤es.length*w:=Nat.mul_le_mul_right w hj;rw[Nat.succ_mul] at hmul;have hst:LB es.flatten (j*w+c) v sz=some (au es.flatten (j*w+c) v.cells.toList):=by
   have:(Nat.beq v.cells.toList.length sz && Nat.blt 0 sz && aG v.cells.toList && Nat.ble (j*w+c+sz) es.flatten.length)=true:=by
    simp only[Bool.and_eq_true];exact⟨⟨⟨by rw[h1]; exact Nat.beq_refl _,h2⟩,h3⟩,Nat.ble_eq_true_of_le (by rw[hfl es g5]; omega)⟩
   simp only[LB,this]
  refine⟨_,yN ht g3 (by rcases g6 with rfl|rfl<;>simp) hst,h.write hp rfl rfl rfl rfl ?_⟩
  refine⟨g1,g2,?_,by simpa using g4,fun e'' he''=>?_,g6,g7⟩
  ·rw[AMem.bD,if_pos rfl,xP g5 he (by omega)]
  ·rcases List.mem_or_eq_of_mem_set he'' with h5|h5
   ·exact g5 _ h5
   ·rw[h5,iy _ _ _ (by omega)]; exact hew
 ·cases hv
theorem Ox.made {o:Op} {ob:Nat→AObj} {p:Nat→Pc} {V:Nat→Value} (hr:∀t,aE E t o=none) (h:∀t m,Fr t fs→∀K,aZ E t m o K=K (V m.next) (m.alloc (ob m.next)))
  (hb:∀b,(p b).qG=some b) (hp:∀lo m b,lo≤b→b<m.next→m.get b=some (ob b)→(p b).ok lo m) (hpg:∀b x,¬(p b).DK x:=by exact fun _ _ h=>h):Ox E m0 fs ps o V (fun b=>p b::ps) :=
 fun t m hf hm=>⟨fun b hb=>(by rw[hr] at hb; cases hb),fun K hK=>by
  rw[h t m hf];refine hK m.next _ (hm.cons (Nat.le_succ _) (hm.ext.alloc _) (fun b hlt=>by rw[AMem.bF,if_neg (by omega)]) (hp _ _ _ hm.ext.next (Nat.lt_succ_self _) (by rw[AMem.bF,if_pos rfl])) (fun b' h'=>?_) (hpg _))
  rw[hb] at h'; cases h'; exact Nat.le_refl _⟩
theorem Pm {z:Value} (hz:bu E.P ty=some z) (hp:bw z=true):Ox E m0 fs ps (.alloc ty) (fun b=>ptr b 0) (fun b=>.obj b (.cells z.cells.toList .own)::ps) :=
 .made (ob:=fun _=>.cells z.cells.toList .own) (p:=fun b=>.obj b (.cells z.cells.toList .own)) (fun _=>rfl) (fun _ _ _ K=>Go.Ab.Ji hz hp K) (fun _=>rfl) fun _ _ _ h1 h2 h3=>⟨h1,h2,h3⟩
theorem QD (h:ev E fs x=some v):Ox E m0 fs ps (.box ty x) (fun b=>ptr b 0) (fun b=>.obj b (.cells v.cells.toList .own)::ps) :=
 .made (ob:=fun _=>.cells v.cells.toList .own) (p:=fun b=>.obj b (.cells v.cells.toList .own)) (fun _=>rfl) (fun _ _ hf K=>Go.Ab.OZ (hf.ev h) K) (fun _=>rfl) fun _ _ _ h1 h2 h3=>⟨h1,h2,h3⟩
theorem IE:Ox E m0 fs ps (.makeMap ty none) (fun b=>.map (some b)) (fun b=>.obj b (.map [])::ps) :=
 .made (ob:=fun _=>.map []) (p:=fun b=>.obj b (.map [])) (fun _=>rfl) (fun _ _ _ _=>Go.Ab.AN) (fun _=>rfl) fun _ _ _ h1 h2 h3=>⟨h1,h2,h3⟩
def Ql (P:Program) (elem:TypeId) (w len:Nat) (vs:List (Nat × Value)):Option (List Value) :=
 match ef P elem len with
 | some zs=>match zs.all aw && Nat.ble (len*w) 16777216 with
  | true=>gV (fun i=>some (i*w,w)) zs vs
  | false=>none
 | none=>none
def PF (w:Nat) (es:List (List Value)):Bool:=es.all fun e=>Nat.beq e.length w
theorem Ko {w:Nat} {es:List (List Value)} (h:PF w es=true):∀e ∈ es,e.length=w:=fun e he=>Nat.eq_of_beq_eq_true (List.all_eq_true.1 h e he)
theorem Ae {elem:TypeId} {w len:Nat} {parts:Array (Nat × Operand)} {vs:List (Nat × Value)} {es:List (List Value)} (ht:SlT E.P ty elem w) (h:IJ E fs parts.toList=some vs) (hf:Ql E.P elem w len vs=some es.flatten) (hl:Nat.beq es.length len=true) (hw:PF w es=true) :
  Ox E m0 fs ps (.buildSlice ty len parts) (fun b=>.slice (some ⟨b,0,none⟩) len len) (fun b=>.arr b w len es .own::ps):=by
 refine .made (ob:=fun _=>.cells es.flatten .own) (p:=fun b=>.arr b w len es .own) (fun _=>rfl) (fun t m hfr K=>?_) (fun _=>rfl) fun _ _ _ h1 h2 h3=>⟨h1,h2,h3,Nat.eq_of_beq_eq_true hl,Ko hw,.inl rfl,ht.pos⟩;simp only[Ql] at hf
 split at hf
 ·rename_i zs hz
  split at hf
  ·rename_i hc;simp only[Bool.and_eq_true] at hc;have:cM E t m (.buildSlice ty len parts)=some (.slice (some ⟨m.next,0,none⟩) len len,m.alloc (.cells es.flatten .own)):=by
    have h2:¬(len*w>2 ^ 24):=by have:=Nat.le_of_ble_eq_true hc.2; omega
    simp only[cM,ht.und,hfr.IJ h,ht.known,ht.size,hz,hc.1,hf,Bool.not_true,Bool.false_or,decide_eq_false h2,if_true,Option.map_some]
    rfl
   exact Go.Ab.H5 rfl this K
  ·cases hf
 ·cases hf
def mj (n:Nat):Bool:=Nat.ble n 1073741824
theorem pE {z:List Value}:∀n,bQ z n=(List.replicate n z).flatten
 | 0=>rfl
 | n+1=>by rw[bQ,pE n,List.replicate_succ,List.flatten_cons]
theorem Oa {elem:TypeId} {w n:Nat} {i:Int} {z:Value} (ht:SlT E.P ty elem w) (hx:ev E fs x=some (.int .i64 i)) (hi:i=(n:Int)) (hl:mj n=true) (hz:bu E.P elem=some z) (hp:z.cells.toList.all aw=true) :
  Ox E m0 fs ps (.makeSlice ty x x) (fun b=>.slice (some ⟨b,0,none⟩) n n) (fun b=>.arr b w n (List.replicate n z.cells.toList) .own::ps):=by
 subst hi;have hzs:z.cells.size=w:=by have:=ht.zero; rw[hz] at this; simp only[Option.any_some,Bool.and_eq_true,beq_iff_eq] at this; exact this.1
 refine .made (ob:=fun _=>.cells (List.replicate n z.cells.toList).flatten .own) (p:=fun b=>.arr b w n (List.replicate n z.cells.toList) .own) (fun _=>rfl) (fun t m hfr K=>?_) (fun _=>rfl) fun _ _ _ h1 h2 h3=>⟨h1,h2,h3,by simp,fun e he=>by rw[List.eq_of_mem_replicate he]; simpa using hzs,.inl rfl,ht.pos⟩
 have hln:n≤1073741824:=Nat.le_of_ble_eq_true hl;obtain⟨inf,hi1,hi2,hi3⟩:=ht.bytes;have hzz:ef E.P elem n=some (List.replicate n z.cells.toList).flatten:=by
  simp only[ef,hz,ht.size];rw[if_pos hzs,pE]
 have ha:(List.replicate n z.cells.toList).flatten.all aw=true:=by
  rw[List.all_eq_true];intro v hv;obtain⟨l,h1,h2⟩:=List.mem_flatten.1 hv;rw[List.eq_of_mem_replicate h1] at h2;exact List.all_eq_true.1 hp v h2
 have hmul:inf.bytes*n≤1024*1073741824:=Nat.mul_le_mul hi3 hln;have:cM E t m (.makeSlice ty x x)=some (.slice (some ⟨m.next,0,none⟩) n n,m.alloc (.cells (List.replicate n z.cells.toList).flatten .own)):=by
  have hc:(0:Int)≤(n:Int)∧(n:Int)≤(n:Int)∧(E.P.info? elem).any (fun i=>i.bytes*(n:Int)≤2 ^ 40 && i.bytes != 0)=true∧known E.P elem=true:=by
   refine⟨by omega,by omega,?_,ht.known⟩
   rw[hi1];have h5:((inf.bytes*n:Nat):Int)≤(1024*1073741824:Nat):=Int.ofNat_le.2 hmul;have h6:((inf.bytes*n:Nat):Int)=(inf.bytes:Int)*(n:Int):=Int.natCast_mul _ _;simp only[Option.any_some,Bool.and_eq_true,decide_eq_true_eq,bne_iff_ne,ne_eq];exact⟨by rw[←h6]; omega,hi2⟩
  simp only[cM,ht.und,hfr.ev hx,Int.toNat_natCast,hzz];rw[if_pos hc,if_pos ha]
 exact Go.Ab.H5 rfl this K
end
end Go.Ab.W
end

section
namespace Go.Ab.W
open Go Go.Ab
attribute [local irreducible] Tm.at Trie.set Trie.get AMem.get AMem.set AMem.alloc AMem.ww AMem.kill
section
variable {E : Env} {n : Nat} {m0 m m' : AMem} {fs : Fs} {ps : List Pc} {x y : Operand} {v : Value} {ty : TypeId}
theorem An.rd {lo b w n:Nat} {es:List (List Value)} {tg:Tag} (h:An lo m b w n es tg):Rd m (some ⟨b,0,none⟩) n w n es :=
 ⟨h.2.2.2.1,Nat.le_refl _,.inr (.inr ⟨b,0,rfl,h.OU⟩)⟩
inductive IsRd:Pc→Option Addr→Nat→Nat→Nat→List (List Value)→Prop
 | arr (b w n:Nat) (es:List (List Value)) (tg:Tag):IsRd (.arr b w n es tg) (some ⟨b,0,none⟩) n w n es
 | sl (a:Option Addr) (w n:Nat) (es:List (List Value)):IsRd (.sl a w n es) a n w n es
 | rd (a:Option Addr) (cap w n:Nat) (es:List (List Value)):IsRd (.rd a cap w n es) a cap w n es
 | nil {p:Pc} (w:Nat):IsRd p none 0 w 0 []
theorem Pc.P1 {p:Pc} {a:Option Addr} {lo cap w n:Nat} {es:List (List Value)} (h:p.ok lo m) (hi:IsRd p a cap w n es):Rd m a cap w n es:=by
 cases hi with
 | arr b w n es tg=>exact An.rd h
 | sl a w n es =>
  rcases h with⟨rfl,rfl,rfl,_⟩|⟨b,tg,rfl,h⟩
  ·exact⟨rfl,Nat.le_refl _,.inl ⟨rfl,rfl⟩⟩
  ·exact h.rd
 | rd a cap w n es=>exact h
 | nil w=>exact⟨rfl,Nat.le_refl _,.inl ⟨rfl,rfl⟩⟩
theorem Hp.rd (h:Hp m0 m ps) {k:Nat} {p:Pc} {a:Option Addr} {cap w n:Nat} {es:List (List Value)} (hp:pk ps k=some p) (hi:IsRd p a cap w n es):Rd m a cap w n es:=Pc.P1 (h.get hp) hi
theorem Rd.nil (m:AMem) (w:Nat):Rd m none 0 w 0 []:=⟨rfl,Nat.le_refl _,.inl ⟨rfl,rfl⟩⟩
theorem Rd.cells {a:Option Addr} {cap w n:Nat} {es:List (List Value)} (h:Rd m a cap w n es):bU w (.slice a n cap) n m=some es.flatten:=by
 obtain⟨h1,h2,h4⟩:=h
 by_cases hn:n=0
 ·subst hn;have:es = []:=List.length_eq_zero_iff.1 h1;subst this;cases a with
  | none=>rfl
  | some a=>obtain⟨b,o,sp⟩:=a; cases sp<;>rfl
 ·rcases h4 with h4|⟨b,sp,rfl,h4,_⟩|⟨b,o,rfl,_,all,tg,hg,_,hl⟩
  ·exact absurd h4.2 hn
  ·exact absurd h4 hn
  ·simp only[bU,if_neg hn,AMem.du,hg];have key:∀(es:List (List Value)) (k:Nat),(∀i e,es[i]? = some e→(all.drop (o+(k+i)*w)).take w=e∧e.length=w)→(all.drop (o+k*w)).take (es.length*w)=es.flatten∧es.flatten.length=es.length*w:=by
    intro es
    induction es with
    | nil=>intro k _; simp
    | cons e es ih =>
     intro k hk;obtain⟨a1,a2⟩:=hk 0 e rfl;obtain⟨b1,b2⟩:=ih (k+1) fun i e' he'=>by
      have:=hk (i+1) e' (by simpa using he')
      rwa[show k+(i+1)=k+1+i by omega] at this
     rw[Nat.add_zero] at a1;refine⟨?_,by rw[List.flatten_cons,List.length_append,a2,b2,List.length_cons,Nat.succ_mul]; omega⟩
     rw[List.length_cons,Nat.succ_mul,Nat.add_comm,List.take_add,a1,List.drop_drop,List.flatten_cons,←b1,Nat.succ_mul,Nat.add_assoc]
   have:=key es 0 (fun i e he=>by rw[Nat.zero_add]; exact hl i e he)
   rw[Nat.zero_mul,Nat.add_zero,h1] at this;rw[this.1,if_pos this.2]
theorem Hp.renew (h:Hp m0 m ps) {k:Nat} {p p':Pc} (hp:pk ps k=some p) (hn:m.next≤m'.next) (hext:Ext m0 m') (hok:p'.ok m0.next m') (hb:∀b,p'.qG=some b→m.next≤b) (hpo:p.own=true) (hg:∀b,p.qG≠some b→b<m.next→m'.get b=m.get b) (hng:∀b,¬p'.DK b:=by exact fun _ h=>h):Hp m0 m' (cG ps k p') :=
 h.QW hp (fun b a=>.inr ((Pc.nm a).elim (hb b) fun h=>absurd h (hng b))) (fun b a=>.inr (a.elim (hb b) fun h=>absurd h (hng b))) hn hext hok fun b hb' hlt=>hg b (fun e=>hb' (.inl ⟨hpo,e⟩)) hlt
def jl (es:List (List Value)):Prop:=∀e ∈ es,e.all mL=true
theorem AZ {α:Type} {f:α→List Value} (h:∀x,(f x).all mL=true) (xs:List α):jl (xs.map f):=fun e he=>by
 obtain⟨x,_,rfl⟩:=List.mem_map.1 he; exact h x
theorem ye {es:List (List Value)} (h:jl es):aG es.flatten=true:=by
 unfold aG;rw[List.all_eq_true];intro v hv;obtain⟨l,h1,h2⟩:=List.mem_flatten.1 hv;exact List.all_eq_true.1 (h l h1) v h2
theorem yf {w:Nat}:∀{l:List (List Value)},(∀e ∈ l,e.length=w)→l.flatten.length=l.length*w:=by
 intro l
 induction l with
 | nil=>intro _; simp
 | cons x l ih=>intro hl; rw[List.flatten_cons,List.length_append,ih (fun e he=>hl e (by simp[he])),hl x (by simp),List.length_cons,Nat.succ_mul]; omega
theorem uI {P:Program} {elem ty2:TypeId} {w k n1 c1:Nat} {a a0:Option Addr} {es e0:List (List Value)} (ht:SlT P ty elem w) (h2:∃e1,P.underlying ty2=some (.slice e1)) (h:Hp m0 m ps) (hp:pk ps k=some (.sl a w n es)) (hr:Rd m a0 c1 w n1 e0) (h1:∀e ∈ e0,e.length=w) (ho:jl e0) (hl:mj (n+n1)=true) :
  ∃a' m',cD P ty (some ty2) (.slice a n n) (.slice a0 n1 c1) m=some (.slice a' (n+n1) (n+n1),m')∧Hp m0 m' (cG ps k (.sl a' w (n+n1) (es++e0))):=by
 obtain⟨e1,h3⟩:=h2;obtain⟨inf,h4,h5,h6⟩:=ht.bytes;have hln:n+n1≤1073741824:=Nat.le_of_ble_eq_true hl;have hc:=hr.cells;have hlen2:e0.flatten.length=n1*w:=by rw[yf h1,hr.1]
 have hnew:fo P elem (some ty2) (.slice a0 n1 c1) m=some (n1,e0.flatten):=by
  simp only[fo,Option.bind_some,h3,ht.size];have:bU w (.slice a0 n1 c1) n1 m=some e0.flatten:=hc;rw[this]; rfl
 have hfit:(P.info? elem).any (fun i=>ep i.bytes (n+n1) && i.bytes != 0)=true:=by
  rw[h4];have hmul:(2*(n+n1)+2000)*inf.bytes≤(2*1073741824+2000)*1024:=Nat.mul_le_mul (by omega) h6
  simp only[Option.any_some,ep,Bool.and_eq_true,decide_eq_true_eq,bne_iff_ne,ne_eq];exact⟨by omega,h5⟩
 have hzero:(bu P elem).any (fun z=>z.cells.size == w && z.cells.toList.all aw)=true:=ht.zero;have hpos:=ht.pos;have h7:(w == 0)=false:=by simp; omega
 have hguard:(!(known P elem) || al P elem == 0 || !aG e0.flatten || !(P.info? elem).any (fun i=>ep i.bytes (n+n1) && i.bytes != 0) || e0.flatten.length != n1*al P elem || !(bu P elem).any (fun z=>z.cells.size == al P elem && z.cells.toList.all aw))=false:=by
  rw[ht.size,ht.known,hfit,hzero,ye ho,h7,hlen2]; simp
 have hres:∀a',(∃m',(.slice a' (n+n1) (n+n1),m')=((.slice a' (n+n1) (n+n1),m'):Value × AMem)):=fun a'=>⟨m,rfl⟩;have hpc:=h.get hp;have hext:=h.ext;rcases hpc with⟨rfl,rfl,rfl,_⟩|⟨b,tg,rfl,hb⟩
 ·
  by_cases h0:n1=0
  ·subst h0;have hes:e0 = []:=List.length_eq_zero_iff.1 hr.1;subst hes;refine⟨none,m,?_,?_⟩
   ·unfold cD;simp only[ht.und,hnew];rw[if_neg (by rw[hguard]; exact Bool.false_ne_true)]
    rfl
   ·have:cG ps k (.sl none w (0+0) ([]++[]))=ps:=by
     have:∀(l:List Pc) (k:Nat) (p:Pc),pk l k=some p→cG l k p=l:=by
      intro l
      induction l with
      | nil=>intro k p h; simp[pk] at h
      | cons q l ih =>
       intro k p h;cases k with
       | zero=>rw[iZ] at h; rw[ib,Option.some.inj h]
       | succ k=>rw[gX] at h; rw[jz,ih k p h]
     exact this ps k _ hp
    rw[this]; exact h
  ·refine⟨some ⟨m.next,0,none⟩,m.alloc (.cells e0.flatten (.more w)),?_,?_⟩
   ·unfold cD;simp only[ht.und,hnew];rw[if_neg (by rw[hguard]; exact Bool.false_ne_true)]
    simp only[ht.size];rw[if_neg (by simp),if_neg h0,Nat.zero_add]
   ·refine h.renew hp (by simp only[AMem.next_alloc,AMem.next_kill]; omega) (hext.alloc _) (.inr ⟨m.next,.more w,rfl,hext.next,(by rw[AMem.next_alloc]; omega),?_,?_,?_,.inr rfl,hpos⟩) (fun b' hb'=>?_) rfl fun b' _ hlt=>?_
    ·rw[AMem.bF,if_pos rfl,List.nil_append]
    ·rw[List.nil_append,hr.1,Nat.zero_add]
    ·rw[List.nil_append]; exact h1
    ·cases hb'; exact Nat.le_refl _
    ·rw[AMem.bF,if_neg (by omega)]
 ·obtain⟨g4,g5,g0,g1,g2,g3,g6⟩:=hb;have hlen:es.flatten.length=n*w:=by rw[yf g2,g1]
  by_cases h0:n1=0
  ·subst h0;have hes:e0 = []:=List.length_eq_zero_iff.1 hr.1;subst hes;refine⟨some ⟨b,0,none⟩,m,?_,?_⟩
   ·unfold cD;simp only[ht.und,hnew];rw[if_neg (by rw[hguard]; exact Bool.false_ne_true)]
    simp only[g0];rw[if_pos (Nat.le_of_eq (Nat.add_zero n))];simp[AMem.cc]
   ·rw[List.append_nil,Nat.add_zero];have:cG ps k (.sl (some ⟨b,0,none⟩) w n es)=ps:=by
     have:∀(l:List Pc) (k:Nat) (p:Pc),pk l k=some p→cG l k p=l:=by
      intro l
      induction l with
      | nil=>intro k p h; simp[pk] at h
      | cons q l ih =>
       intro k p h;cases k with
       | zero=>rw[iZ] at h; rw[ib,Option.some.inj h]
       | succ k=>rw[gX] at h; rw[jz,ih k p h]
     exact this ps k _ hp
    rw[this]; exact h
  ·have hcap:¬(n+n1≤n):=by omega
   have htake:es.flatten.take (n*w)=es.flatten:=List.take_of_length_le (by omega)
   have hok:∀(mm:AMem),m.next≤mm.next→Pc.ok m0.next (mm.alloc (.cells (es.flatten++e0.flatten) (.more w))) (.sl (some ⟨mm.next,0,none⟩) w (n+n1) (es++e0)):=fun mm hmm =>
    .inr ⟨mm.next,.more w,rfl,Nat.le_trans hext.next hmm,(by rw[AMem.next_alloc]; omega),by rw[AMem.bF,if_pos rfl,List.flatten_append],by rw[List.length_append,g1,hr.1],fun e he=>by
     rcases List.mem_append.1 he with he|he
     ·exact g2 e he
     ·exact h1 e he,.inr rfl,hpos⟩
   rcases g3 with rfl|rfl
   ·refine⟨some ⟨m.next,0,none⟩,m.alloc (.cells (es.flatten++e0.flatten) (.more w)),?_,?_⟩
    ·unfold cD;simp only[ht.und,hnew];rw[if_neg (by rw[hguard]; exact Bool.false_ne_true)]
     simp only[ht.size,g0];rw[if_neg hcap];have hld:m.du b 0 (n*w)=some es.flatten:=by
      simp only[AMem.du,g0,List.drop_zero,htake];rw[if_pos hlen]
     simp only[hld]
    ·refine h.renew hp (by simp only[AMem.next_alloc,AMem.next_kill]; omega) (hext.alloc _) (hok m (Nat.le_refl _)) (fun b' hb'=>?_) rfl fun b' _ hlt=>?_
     ·cases hb'; exact Nat.le_refl _
     ·rw[AMem.bF,if_neg (by omega)]
   ·refine⟨some ⟨(m.kill b).next,0,none⟩,(m.kill b).alloc (.cells (es.flatten++e0.flatten) (.more w)),?_,?_⟩
    ·unfold cD;simp only[ht.und,hnew];rw[if_neg (by rw[hguard]; exact Bool.false_ne_true)]
     simp only[ht.size,g0];rw[if_neg hcap];simp only[and_self,if_true,htake,hlen,AMem.next_kill]
    ·have hk:Ext m0 (m.kill b):=⟨by rw[AMem.next_kill]; exact hext.next,fun x hx=>by rw[AMem.eJ,if_neg (by omega)]; exact hext.same x hx,by
      rw[AMem.wl_kill];have:=hext.wl; omega⟩
     refine h.renew hp (by simp only[AMem.next_alloc,AMem.next_kill]; omega) (hk.alloc _) (hok (m.kill b) (by rw[AMem.next_kill]; exact Nat.le_refl _)) (fun b' hb'=>?_) rfl fun b' hb' hlt=>?_
     ·cases hb'; rw[AMem.next_kill]; exact Nat.le_refl _
     ·rw[AMem.bF,if_neg (by simp; omega),AMem.eJ,if_neg (fun e=>hb' (by rw[e]; rfl))]
theorem Qy {elem ty2:TypeId} {w k k2 n1 c1:Nat} {a a0:Option Addr} {es e0:List (List Value)} {ars:Array Operand} {p1:Pc} (ht:SlT E.P ty elem w) (h0:∃e1,E.P.underlying ty2=some (.slice e1)) (ha:gT E fs ars.toList=some [.slice a n n,.slice a0 n1 c1]) (hp:pk ps k=some (.sl a w n es)) (h1:pk ps k2=some p1) (hr:IsRd p1 a0 c1 w n1 e0) (h2:∀e ∈ e0,e.length=w) (ho:jl e0) (hl:mj (n+n1)=true) :
  Ox E m0 fs ps (.call ⟨.builtin .append,ars,#[ty,ty2]⟩) (fun a':Option Addr=>.slice a' (n+n1) (n+n1)) (fun a'=>cG ps k (.sl a' w (n+n1) (es++e0))) :=
 fun t m hf h=>⟨fun b hb=>(by simp[aE] at hb),fun K hK=>by
  obtain⟨a',m',h3,h4⟩:=uI (n:=n) ht h0 h hp (h.rd h1 hr) h2 ho hl;have:aI E.P .append #[ty,ty2] [.slice a n n,.slice a0 n1 c1] m=some (.slice a' (n+n1) (n+n1),m'):=h3;rw[Go.Ab.dA (hf.gT ha) this];exact hK a' m' h4⟩
theorem Ku {k cap:Nat} {a:Option Addr} {ars:Array Operand} {p:Pc} {elem:TypeId} (hu:E.P.underlying ty=some (.slice elem)) (ha:gT E fs ars.toList=some [.slice a n cap]) (hp:pk ps k=some p) (hb:gE a=p.qG∨a=none) :
  Od E m0 fs ps (.call ⟨.builtin .len,ars,#[ty]⟩) (.int .i64 (n:Int)) ps :=
 fun t m hf h=>⟨fun b hb'=>by
  simp only[aE,hf.gT ha] at hb';have hab:eu (.slice a n cap)=gE a:=by cases a<;>rfl
  rw[hab] at hb';exact hb.elim (fun hb=>Pc.MD (h.get hp) (hb ▸ hb')) (fun hb=>by rw[hb] at hb'; exact nomatch hb'),fun K hK=>by
  have:aI E.P .len #[ty] [.slice a n cap] m=some (.int .i64 (n:Int),m):=by
   have ht:(#[ty]:Array TypeId)[0]? = some ty:=rfl;simp only[aI,ht,Option.bind_some,hu]
  rw[Go.Ab.dA (hf.gT ha) this]; exact hK m h⟩
theorem pw {n cap lo hi:Nat} (h1:lo≤hi) (h2:hi≤cap) {l h:Option Value} (hl:l=none∧lo=0∨∃k,l=some (.int k (lo:Int))) (hh:h=none∧hi=n∨∃k,h=some (.int k (hi:Int))):cm n cap l h none=some (lo,hi,cap):=by
 have hb:∀(k:IntKind) (x y:Nat),x≤y→iK (.int k (x:Int)) y=some x:=fun k x y hxy=>by
  simp only[iK]; rw[if_pos ⟨by omega,by omega⟩,Int.toNat_natCast]
 rcases hl with⟨rfl,rfl⟩|⟨k1,rfl⟩<;>rcases hh with⟨rfl,rfl⟩|⟨k2,rfl⟩<;>(unfold cm; simp only[hb _ _ _ h1,hb _ _ _ h2])
theorem tx.drop {b o w:Nat} {es:List (List Value)} (h:tx m b o w es) (lo k:Nat):tx m b (o+lo*w) w ((es.drop lo).take k):=by
 obtain⟨h1,all,tg,h2,hs,h3⟩:=h;refine⟨h1,all,tg,h2,hs,fun i e he=>?_⟩;rw[List.getElem?_take] at he
 split at he
 ·rw[List.getElem?_drop] at he;have:=h3 (lo+i) e he;rwa[Nat.add_mul,←Nat.add_assoc] at this
 ·cases he
theorem IB {P:Program} {elem:TypeId} {cap w lo hi:Nat} {a:Option Addr} {es:List (List Value)} {l h:Option Value} (ht:SlT P ty elem w) (hr:Rd m a cap w n es) (h1:lo≤hi) (h2:hi≤n) (hl:l=none∧lo=0∨∃k,l=some (.int k (lo:Int))) (hh:h=none∧hi=n∨∃k,h=some (.int k (hi:Int))) :
  ∃a' cap',cl P ty (.slice a n cap) l h none m=some (.slice a' (hi-lo) cap')∧Rd m a' cap' w (hi-lo) ((es.drop lo).take (hi-lo))∧(gE a'=gE a):=by
 obtain⟨r1,r2,r4⟩:=hr;have hlen:((es.drop lo).take (hi-lo)).length=hi-lo:=by rw[List.length_take,List.length_drop,r1]; omega
 have hb:=pw (n:=n) (cap:=cap) h1 (Nat.le_trans h2 r2) hl hh;rcases r4 with⟨rfl,rfl⟩|⟨b,sp,rfl,rfl,rfl,hlt⟩|⟨b,o,rfl,hli⟩
 ·refine⟨none,cap-lo,?_,⟨hlen,by omega,.inl ⟨rfl,by omega⟩⟩,rfl⟩
  simp only[cl,ht.und,ht.known,if_true,hb]
 ·have e1:lo=0:=by omega
  have e2:hi=0:=by omega
  subst e1 e2;refine⟨some ⟨b,0,some sp⟩,0,?_,⟨hlen,Nat.le_refl _,.inr (.inl ⟨b,sp,rfl,rfl,rfl,hlt⟩)⟩,rfl⟩;simp only[cl,ht.und,ht.known,if_true,hb,Nat.sub_zero]
 ·have hli':=hli.drop lo (hi-lo);obtain⟨hlt,all,tg,hg,hs,hall⟩:=hli;have plain:(∀sz,tg≠.more sz)→∃a' cap',cl P ty (.slice (some ⟨b,o,none⟩) n cap) l h none m=some (.slice a' (hi-lo) cap')∧Rd m a' cap' w (hi-lo) ((es.drop lo).take (hi-lo))∧(gE a'=gE (some ⟨b,o,none⟩)):=by
   intro hne;have:cl P ty (.slice (some ⟨b,o,none⟩) n cap) l h none m=some (.slice (some (if cap=lo then⟨b,o,none⟩ else⟨b,o+lo*w,none⟩)) (hi-lo) (cap-lo)):=by
    cases tg with
    | more sz=>exact absurd rfl (hne sz)
    | ro=>simp only[cl,ht.und,ht.known,if_true,hg,hb,ht.size]
    | own=>simp only[cl,ht.und,ht.known,if_true,hg,hb,ht.size]
   by_cases hc:cap=lo
   ·rw[if_pos hc] at this;have e0:hi-lo=0:=by omega
    refine⟨_,_,this,⟨hlen,by omega,.inr (.inr ⟨b,o,rfl,hlt,all,tg,hg,hs,fun i e he=>?_⟩)⟩,rfl⟩
    rw[e0,List.take_zero] at he; simp at he
   ·rw[if_neg hc] at this;exact⟨_,_,this,⟨hlen,by omega,.inr (.inr ⟨b,_,rfl,hli'⟩)⟩,rfl⟩
  cases tg with
  | ro=>exact plain fun sz e=>(by cases e)
  | own=>exact plain fun sz e=>(by cases e)
  | more sz =>
   have hsz:=hs sz rfl;subst hsz;have hb':=pw (n:=n) (cap:=cap) h1 (Nat.le_trans h2 r2) hl hh
   by_cases hc:cap=lo
   ·have e0:hi-lo=0:=by omega
    have e1:((es.drop lo).take (hi-lo)) = []:=by rw[e0]; rfl
    refine⟨some ⟨b,0,some 0⟩,0,?_,⟨hlen,by omega,.inr (.inl ⟨b,0,rfl,e0,rfl,hlt⟩)⟩,rfl⟩
    simp only[cl,ht.und,ht.known,if_true,hg,hb',ht.size,ne_eq,not_true_eq_false,if_false,e0,gP];rw[if_pos hc]
   ·refine⟨some ⟨b,o+lo*sz,none⟩,cap-lo,?_,⟨hlen,by omega,.inr (.inr ⟨b,_,rfl,hli'⟩)⟩,rfl⟩
    simp only[cl,ht.und,ht.known,if_true,hg,hb',ht.size,hc,ne_eq,not_true_eq_false,if_false]
theorem QF {elem:TypeId} {k cap w lo hi:Nat} {a:Option Addr} {es:List (List Value)} {x:Operand} {lx hx:Option Operand} {l h:Option Value} (ht:SlT E.P ty elem w) (hv:ev E fs x=some (.slice a n cap)) (e1:Am E fs lx=some l) (e2:Am E fs hx=some h) (hp:pk ps k=some (.rd a cap w n es)) (h1:lo≤hi) (h2:hi≤n) (hl:l=none∧lo=0∨∃k,l=some (.int k (lo:Int))) (hh:h=none∧hi=n∨∃k,h=some (.int k (hi:Int))) :
  Ox E m0 fs ps (.slice ty x lx hx none) (fun r:Option Addr × Nat=>.slice r.1 (hi-lo) r.2) (fun r=>.rd r.1 r.2 w (hi-lo) ((es.drop lo).take (hi-lo))::ps) :=
 fun t m hf hm=>by
  obtain⟨a',cap',s1,s2,s3⟩:=IB ht (hm.get hp) h1 h2 hl hh;refine⟨fun b hb=>?_,fun K hK=>?_⟩
  ·have hab:eu (.slice a n cap)=gE a:=by cases a<;>rfl
   simp only[aE,hf.ev hv,Option.bind_some,hab] at hb;exact Rd.lt (hm.get hp) hb
  ·rw[Go.Ab.vF (hf.ev hv) (hf.Am e1) (hf.Am e2) rfl s1];exact hK (a',cap') m (hm.more hp rfl s2 rfl fun b hb=>by
    have:gE a'=some b:=hb;rw[s3] at this; exact this)
def vZ (ps:List Pc):Bool:=ps.all Pc.own
theorem fH {α:Type} {V:α→Value} {N:α→List Pc} {f:Operand} {g:FuncId} {first cap:Array Value} {ars:Array Operand} {ts:Array TypeId} {args:List Value} (hf:ev E fs f=some (.func (.func g) first cap)) (ha:gT E fs ars.toList=some args) (hc:∀m,Hp m0 m ps→aB E g (first.toList++args++cap.toList) m (fun v m'=>∃x,v=V x∧Hp m0 m' (N x))):Ox E m0 fs ps (.call ⟨.value f,ars,ts⟩) V N :=
 fun t m hfr hm=>⟨fun b hb=>(by simp[aE] at hb),fun K hK=>by
  have hev:aj E t f=some (.func (.func g) first cap):=by
   cases f with
   | tmp i=>exact hfr.ev hf
   | const c=>exact hfr.ev hf
   | global g=>exact hfr.ev hf
   | func g=>exact hfr.ev hf
  show kv E (aj E t f) (bq E t ars.toList) m _
  rw[hev,hfr.gT ha]
  show aB E g (first.toList++args++cap.toList) m K
  exact(hc m hm).mono fun v m' ⟨x,e,h⟩=>by rw[e]; exact hK x m' h⟩
theorem QE {α:Type} {V:α→Value} {N:α→List Pc} {f:Operand} {g:FuncId} {ars:Array Operand} {ts:Array TypeId} {args:List Value} (hf:ev E fs f=some (.func (.func g) #[] #[])) (ha:gT E fs ars.toList=some args) (hc:∀m,Hp m0 m ps→aB E g args m (fun v m'=>∃x,v=V x∧Hp m m' (N x))) (ho:∀x,vZ (N x)=true):Ox E m0 fs ps (.call ⟨.value f,ars,ts⟩) V (fun x=>N x++ps) :=
 fH hf ha fun m hm=>by
  simp only[List.nil_append,List.append_nil];exact(hc m hm).mono fun v m' ⟨x,e,h⟩=>⟨x,e,hm.after h fun p hp=>List.all_eq_true.1 (ho x) p hp⟩
end
theorem Ext.RN {m0 m:AMem} (h:Ext m0 m) {w:Nat} (hw:min m0.wl m0.next≤w):Ext m0 (m.ww w):=⟨by rw[AMem.next_ww]; exact h.next,fun b hb=>by rw[AMem.get_ww]; exact h.same b hb,by rw[AMem.wl_ww]; exact hw⟩
theorem Hp.ww {m0 m:AMem} {ps:List Pc} (h:Hp m0 m ps) {w:Nat} (hw:min m0.wl m0.next≤w):Hp m0 (m.ww w) ps :=
 ⟨Ext.RN h.ext hw,fun p hp=>Pc.fU (h.ok p hp) (by rw[AMem.next_ww]; exact Nat.le_refl _) (fun b _ _=>by rw[AMem.get_ww]),h.apart⟩
section
variable {E : Env} {n : Nat} {m0 : AMem} {fs : Fs} {ps ps' : List Pc} {ops : Array Oper} {os : List Oper} {K : Tm → AMem → Prop} {dr : Bool}
def Wo (dr:Bool) (E:Env) (n:Nat) (ops:Array Oper) (K:Tm→AMem→Prop) (os:List Oper) (m0:AMem) (fs:Fs) (ps:List Pc):Prop :=
 match dr with
 | false=>∀t m,Fr t fs→Hp m0 m ps→jO E n ops K os t m
 | true=>∀t m w,Fr t fs→Hp m0 m ps→min m0.wl m0.next≤w→gU E n ops K os t m w
variable {ty : TypeId} {p : String} {af : Array Edge} {d : Nat} {o : Op} {g : Option (Nat × Bool)} {v : Value}
def qp (ops:Array Oper) (fs:Fs) (g:Option (Nat × Bool)) (b:Bool):Prop:=∀t d o ty p af,Fr t fs→bp ops ⟨d,o,ty,p,af,g⟩ t=b
theorem gn:qp ops fs none true:=fun _ _ _ _ _ _ _=>rfl
theorem gg {j d:Nat} {b c r:Bool} (hd:(ops[j]?).bind (·.dst)=some d) (h:lk fs d=some (.bool c)) (hr:(c == b)=r):qp ops fs (some (j,b)) r:=fun t d' o ty p af hf=>by
 rw[←hr]; exact QR hd (hf d _ h)
theorem Wo.x {α:Type} {V:α→Value} {N:α→List Pc} (h:Ox E m0 fs ps o V N) (hg:qp ops fs g true) (hd:Nat.blt d n=true) (k:∀x,Wo dr E n ops K os m0 ((d,V x)::fs) (N x)):Wo dr E n ops K (⟨some d,o,ty,p,af,g⟩::os) m0 fs ps:=by
 have hd':d<n:=by rwa[Nat.blt_eq] at hd
 cases dr with
 | false =>
  intro t m hf hm;simp only[jO,hg t _ _ _ _ _ hf,if_true];refine(h t m hf hm).2 _ fun x m' hm'=>?_;rw[fT,if_pos hd'];exact k x _ m' hf.set hm'
 | true =>
  intro t m w hf hm hw;simp only[gU,hg t _ _ _ _ _ hf,if_true];have hx:=hm.ext.next
  have hm':Hp m0 (m.ww m.next) ps:=hm.ww (by omega)
  refine⟨fun b hb=>?_,?_⟩
  ·have:=(h t _ hf hm').1 b hb;rwa[AMem.next_ww] at this
  ·refine(h t _ hf hm').2 _ fun x m' hm''=>?_;rw[fT,if_pos hd'];have:=hm''.ext.wl;exact k x _ m' _ hf.set hm'' (by omega)
theorem Wo.x0 {α:Type} {V:α→Value} {N:α→List Pc} (h:Ox E m0 fs ps o V N) (hg:qp ops fs g true) (k:∀x,Wo dr E n ops K os m0 fs (N x)):Wo dr E n ops K (⟨none,o,ty,p,af,g⟩::os) m0 fs ps:=by
 cases dr with
 | false =>
  intro t m hf hm;simp only[jO,hg t _ _ _ _ _ hf,if_true];refine(h t m hf hm).2 _ fun x m' hm'=>?_;exact k x _ m' hf hm'
 | true =>
  intro t m w hf hm hw;simp only[gU,hg t _ _ _ _ _ hf,if_true];have hx:=hm.ext.next
  have hm':Hp m0 (m.ww m.next) ps:=hm.ww (by omega)
  refine⟨fun b hb=>?_,?_⟩
  ·have:=(h t _ hf hm').1 b hb;rwa[AMem.next_ww] at this
  ·refine(h t _ hf hm').2 _ fun x m' hm''=>?_;have:=hm''.ext.wl;exact k x _ m' _ hf hm'' (by omega)
theorem Od.x (h:Od E m0 fs ps o v ps'):Ox E m0 fs ps o (fun _:Unit=>v) (fun _=>ps'):=fun t m hf hm=>⟨(h t m hf hm).1,fun K hK=>(h t m hf hm).2 K fun m' hm'=>hK () m' hm'⟩
theorem Wo.od (h:Od E m0 fs ps o v ps') (hd:Nat.blt d n=true) (k:Wo dr E n ops K os m0 ((d,v)::fs) ps'):Wo dr E n ops K (⟨some d,o,ty,p,af,none⟩::os) m0 fs ps:=Wo.x h.x gn hd fun _=>k
theorem Wo.o0 (h:Od E m0 fs ps o v ps') (k:Wo dr E n ops K os m0 fs ps'):Wo dr E n ops K (⟨none,o,ty,p,af,none⟩::os) m0 fs ps:=Wo.x0 h.x gn fun _=>k
theorem Wo.og (h:Od E m0 fs ps o v ps') (hg:qp ops fs g true) (hd:Nat.blt d n=true) (k:Wo dr E n ops K os m0 ((d,v)::fs) ps'):Wo dr E n ops K (⟨some d,o,ty,p,af,g⟩::os) m0 fs ps:=Wo.x h.x hg hd fun _=>k
theorem Wo.s (hg:qp ops fs g false) (hd:Nat.blt d n=true) (k:Wo dr E n ops K os m0 ((d,undef)::fs) ps):Wo dr E n ops K (⟨some d,o,ty,p,af,g⟩::os) m0 fs ps:=by
 have hd':d<n:=by rwa[Nat.blt_eq] at hd
 cases dr with
 | false =>
  intro t m hf hm;simp only[jO,hg t _ _ _ _ _ hf,Bool.false_eq_true,if_false];rw[fT,if_pos hd'];exact k _ m hf.set hm
 | true =>
  intro t m w hf hm hw;simp only[gU,hg t _ _ _ _ _ hf,Bool.false_eq_true,if_false];rw[fT,if_pos hd'];exact k _ m w hf.set hm hw
theorem Wo.s0 (hg:qp ops fs g false) (k:Wo dr E n ops K os m0 fs ps):Wo dr E n ops K (⟨none,o,ty,p,af,g⟩::os) m0 fs ps:=by
 cases dr with
 | false =>
  intro t m hf hm;simp only[jO,hg t _ _ _ _ _ hf,Bool.false_eq_true,if_false];exact k _ m hf hm
 | true =>
  intro t m w hf hm hw;simp only[gU,hg t _ _ _ _ _ hf,Bool.false_eq_true,if_false];exact k _ m w hf hm hw
def ak (m0:AMem) (ps:List Pc) (qs:List Pc):Prop:=∀m,Hp m0 m ps→Hp m0 m qs
theorem Wo.md (h:ak m0 ps ps') (k:Wo dr E n ops K os m0 fs ps'):Wo dr E n ops K os m0 fs ps:=by
 cases dr with
 | false=>exact fun t m hf hm=>k t m hf (h m hm)
 | true=>exact fun t m w hf hm hw=>k t m w hf (h m hm) hw
theorem Wo.open {k w l:Nat} {a:Option Addr} {es:List (List Value)} (hp:pk ps k=some (.sl a w l es)) (hl:0<l) (h:∀b tg,a=some ⟨b,0,none⟩→zM tg=true→Wo dr E n ops K os m0 fs (cG ps k (.arr b w l es tg))):Wo dr E n ops K os m0 fs ps:=by
 have key:∀m,Hp m0 m ps→∃b tg,a=some ⟨b,0,none⟩∧zM tg=true∧Hp m0 m (cG ps k (.arr b w l es tg)):=by
  intro m hm;have h0:=hm.get hp;rcases h0 with⟨h1,_⟩|⟨b,tg,rfl,h1⟩
  ·omega
  ·refine⟨b,tg,rfl,by rcases h1.2.2.2.2.2.1 with rfl|rfl<;>rfl,hm.put hp rfl rfl rfl (Nat.le_refl _) hm.ext h1 fun _ _ _=>rfl⟩
 cases dr with
 | false=>intro t m hf hm; obtain⟨b,tg,h1,h2,h3⟩:=key m hm; exact h b tg h1 h2 t m hf h3
 | true=>intro t m w' hf hm hw; obtain⟨b,tg,h1,h2,h3⟩:=key m hm; exact h b tg h1 h2 t m w' hf h3 hw
theorem Wo.dK {k w l cap:Nat} {a:Option Addr} {es:List (List Value)} (hp:pk ps k=some (.rd a cap w l es)) (hl:0<l) (h:∀b o,a=some ⟨b,o,none⟩→Wo dr E n ops K os m0 fs (.ro b o w l es::ps)):Wo dr E n ops K os m0 fs ps:=by
 have key:∀m,Hp m0 m ps→∃b o,a=some ⟨b,o,none⟩∧Hp m0 m (.ro b o w l es::ps):=by
  intro m hm;obtain⟨h1,h2,h3⟩:=hm.get hp;rcases h3 with⟨_,h3⟩|⟨_,_,_,h3,_⟩|⟨b,o,rfl,h3⟩
  ·omega
  ·omega
  ·exact⟨b,o,rfl,hm.more hp rfl ⟨h1,h3⟩ rfl fun b' hb=>hb⟩
 cases dr with
 | false=>intro t m hf hm; obtain⟨b,o,h1,h3⟩:=key m hm; exact h b o h1 t m hf h3
 | true=>intro t m w' hf hm hw; obtain⟨b,o,h1,h3⟩:=key m hm; exact h b o h1 t m w' hf h3 hw
theorem ak.refl:ak m0 ps ps:=fun _ h=>h
theorem ak.trans {ps'':List Pc} (h:ak m0 ps ps') (h':ak m0 ps' ps''):ak m0 ps ps'':=fun m hm=>h' m (h m hm)
theorem ak.az (ks:List Nat) (hnd:jL ks=true) (e:W.az ps ks=some ps'):ak m0 ps ps':=fun _ h=>h.az ks hnd e
theorem ak.close {k b w l:Nat} {es:List (List Value)} {tg:Tag} (hp:pk ps k=some (.arr b w l es tg)):ak m0 ps (cG ps k (.sl (some ⟨b,0,none⟩) w l es)):=fun m h =>
 h.put hp rfl rfl rfl (Nat.le_refl _) h.ext (.inr ⟨b,tg,rfl,h.get hp⟩) fun _ _ _=>rfl
theorem ak.nil (w:Nat) (hw:Nat.blt 0 w=true):ak m0 ps (.sl none w 0 []::ps):=fun m h =>
 h.cons (Nat.le_refl _) h.ext (fun _ _=>rfl) (.inl ⟨rfl,rfl,rfl,by rwa[Nat.blt_eq] at hw⟩) fun b hb=>(by cases hb)
theorem tD {ps:List Pc} {k:Nat} {p p':Pc} (hk:pk ps k=some p) (ho:p'.own=false) (hb:∀b,p'.qG=some b→p.qG=some b∧p.own=true) (h:ps.Pairwise Pc.apart) (hng:∀b,¬p'.DK b:=by exact fun _ h=>h):(cG ps k p').Pairwise Pc.apart :=
 ft hk (fun r _ ha=>⟨fun b a c=>a.elim (fun a=>by rw[ho] at a; cases a.1) fun a=>hng b (by cases p' with|gen g=>exact .inl a|_=>exact a),fun b a c=>ha.2 b a (c.elim (fun c=>.inl (hb b c).1) fun c=>absurd c (hng b))⟩) h
theorem ak.freeze {k w l:Nat} {a:Option Addr} {es:List (List Value)} (hp:pk ps k=some (.sl a w l es)):ak m0 ps (cG ps k (.rd a l w l es)):=fun m h =>
 ⟨h.ext,fun q hq=>by
  rcases oC hp h.apart hq with rfl|⟨h1,_⟩
  ·exact Pc.P1 (h.get hp) (.sl a w l es)
  ·exact h.ok q h1,tD hp rfl (fun b hb=>⟨hb,rfl⟩) h.apart⟩
variable {fn : FuncId} {ro : Option Nat} {Q : AExit → Tm → AMem → Prop}
def Wk (E:Env) (n:Nat) (fn:FuncId) (ro:Option Nat) (c:Code) (Q:AExit→Tm→AMem→Prop) (m0:AMem) (fs:Fs) (ps:List Pc):Prop:=∀t m,Fr t fs→Hp m0 m ps→aT E n fn ro c Q t m
def At (Q:AExit→Tm→AMem→Prop) (e:AExit) (m0:AMem) (fs:Fs) (ps:List Pc):Prop:=∀t m,Fr t fs→Hp m0 m ps→Q e t m
variable {a b c : Code} {id id' : Nat}
theorem Wk.seq (h:Wk E n fn ro a (mz (aT E n fn ro b Q) Q) m0 fs ps):Wk E n fn ro (.seq a b) Q m0 fs ps:=fun t m hf hm=>.seq (h t m hf hm)
theorem Wk.skip (h:At Q .normal m0 fs ps):Wk E n fn ro .skip Q m0 fs ps:=fun t m hf hm=>.skip (h t m hf hm)
theorem Wk.exit (h:At Q (.exit id) m0 fs ps):Wk E n fn ro (.exit id) Q m0 fs ps:=fun t m hf hm=>.exit (h t m hf hm)
theorem Wk.ret (h:At Q .ret m0 fs ps):Wk E n fn ro .ret Q m0 fs ps:=fun t m hf hm=>.ret (h t m hf hm)
theorem Wk.cond {x:Operand} {r:Bool} (hx:ev E fs x=some (.bool r)) (ht:r=true→Wk E n fn ro a Q m0 fs ps) (hf:r=false→Wk E n fn ro b Q m0 fs ps):Wk E n fn ro (.cond x a b) Q m0 fs ps:=fun t m hfr hm=>.cond (hfr.ev hx) (fun h=>ht h t m hfr hm) (fun h=>hf h t m hfr hm)
theorem Wk.kX {x:Operand} {r:Bool} (hx:ev E fs x=some (.bool r)) (hr:r=true) (ht:Wk E n fn ro a Q m0 fs ps):Wk E n fn ro (.cond x a b) Q m0 fs ps:=.cond hx (fun _=>ht) (fun h=>by rw[hr] at h; cases h)
theorem Wk.LA {x:Operand} {r:Bool} (hx:ev E fs x=some (.bool r)) (hr:r=false) (ht:Wk E n fn ro b Q m0 fs ps):Wk E n fn ro (.cond x a b) Q m0 fs ps:=.cond hx (fun h=>by rw[hr] at h; cases h) (fun _=>ht)
theorem Wk.block (h:Wk E n fn ro a (dW id Q) m0 fs ps):Wk E n fn ro (.block id a) Q m0 fs ps:=fun t m hf hm=>.block (h t m hf hm)
theorem Wk.scope (h:Wk E n fn ro a Q m0 fs ps):Wk E n fn ro (.scope a) Q m0 fs ps:=fun t m hf hm=>.scope (h t m hf hm)
theorem Wk.region (h:Wo false E n ops (Q .normal) ops.toList m0 fs ps):Wk E n fn ro (.region id ops false) Q m0 fs ps:=fun t m hf hm=>.vh (h t m hf hm)
theorem AQ {t:Tm} {m:AMem} {o:Op} {K K':Value→AMem→Prop} (h:aZ E t m o K) (hk:∀v m',K v m'→K' v m'):aZ E t m o K':=by
 unfold aZ at h ⊢;cases hc:iD o with
 | some p =>
  obtain⟨f,ars⟩:=p;rw[hc] at h;simp only at h ⊢;cases hf:aj E t f with
  | none=>rw[hf] at h; exact h.elim
  | some v =>
   cases ha:bq E t ars with
   | none=>rw[hf,ha] at h; unfold kv at h; split at h<;>first | (rename_i h1 h2; cases h2) | exact h.elim
   | some vs =>
    rw[hf,ha] at h;unfold kv at h ⊢
    split at h
    ·rename_i h1 h2;cases h1; cases h2;exact h.mono hk
    ·rename_i h1 h2;cases h1; cases h2;obtain⟨v,m',h5,hv⟩:=h;exact⟨v,m',h5,hk v m' hv⟩
    ·exact h.elim
 | none =>
  rw[hc] at h;simp only at h ⊢;cases he:cM E t m o with
  | none=>rw[he] at h; exact h.elim
  | some r=>rw[he] at h; exact hk r.1 r.2 h
theorem BT {K K':Tm→AMem→Prop} (hK:∀t m,K t m→K' t m):∀(os:List Oper) (t:Tm) (m:AMem) (w:Nat),gU E n ops K os t m w→gU E n ops K' os t m w:=by
 intro os
 induction os with
 | nil=>intro t m w hk; exact hK _ _ hk
 | cons o os ih =>
  intro t m w hk;simp only[gU] at hk ⊢
  split at hk
  ·rename_i hw;rw[if_pos hw];refine⟨hk.1,AQ hk.2 fun v m' hv=>?_⟩;obtain⟨t',e,h4⟩:=hv.A
   show Ff (iE n t o.dst v) fun t'=>gU E n ops K' os t' m' (min w m'.wl)
   rw[e]; exact ih _ _ _ h4
  ·rename_i hw;rw[if_neg hw];obtain⟨t',e,h4⟩:=hk.A;rw[e]; exact ih _ _ _ h4
theorem Wk.draw (hp:jd ops=some []) (h:Wo true E n ops (Q .normal) ops.toList m0 fs ps):Wk E n fn ro (.region id ops true) Q m0 fs ps:=fun t m hf hm=>.P2 hp fun K hK=>by
 exact BT hK _ _ _ _ (h t m m.wl hf hm hm.ext.wl)
theorem Wo.nil (h:At Q .normal m0 fs ps):Wo dr E n ops (Q .normal) [] m0 fs ps:=by
 cases dr with
 | false=>exact fun t m hf hm=>h t m hf hm
 | true=>exact fun t m w hf hm hw=>h t _ hf (hm.ww hw)
theorem At.tn (h:Wk E n fn ro b Q m0 fs ps):At (mz (aT E n fn ro b Q) Q) .normal m0 fs ps:=h
theorem At.te {K:Tm→AMem→Prop} (h:At Q (.exit id) m0 fs ps):At (mz K Q) (.exit id) m0 fs ps:=h
theorem At.tr {K:Tm→AMem→Prop} (h:At Q .ret m0 fs ps):At (mz K Q) .ret m0 fs ps:=h
theorem At.bn (h:At Q .normal m0 fs ps):At (dW id Q) .normal m0 fs ps:=h
theorem At.be (h:At Q .normal m0 fs ps):At (dW id Q) (.exit id) m0 fs ps:=fun t m hf hm=>by rw[CC,if_pos rfl]; exact h t m hf hm
theorem At.bx (hne:Nat.beq id' id=false) (h:At Q (.exit id') m0 fs ps):At (dW id Q) (.exit id') m0 fs ps:=fun t m hf hm=>by rw[CC,if_neg (Nat.ne_of_beq_eq_false hne)]; exact h t m hf hm
theorem At.br (h:At Q .ret m0 fs ps):At (dW id Q) .ret m0 fs ps:=h
theorem Wk.qa {fs':Fs} (hs:sub fs fs') (h:ak m0 ps ps') (k:Wk E n fn ro c Q m0 fs' ps'):Wk E n fn ro c Q m0 fs ps:=fun t m hf hm=>k t m (hf.sub hs) (h m hm)
structure En where
 e:AExit
 fs:Fs
 ps:List Pc
def o6 (m0:AMem) {γ:Type} (G:γ→En) (e:AExit) (t:Tm) (m:AMem):Prop:=∃g,e=(G g).e∧Fr t (G g).fs∧Hp m0 m (G g).ps
theorem At.en {γ:Type} {G:γ→En} {e:AExit} (g:γ) (he:e=(G g).e) (hs:sub fs (G g).fs) (ht:ak m0 ps (G g).ps):At (o6 m0 G) e m0 fs ps:=fun t m hf hm=>⟨g,he,hf.sub hs,ht m hm⟩
theorem Wk.cut {γ:Type} {G:γ→En} (h:Wk E n fn ro c (o6 m0 G) m0 fs ps) (k:∀g,At Q (G g).e m0 (G g).fs (G g).ps):Wk E n fn ro c Q m0 fs ps:=fun t m hf hm =>
 (h t m hf hm).mono fun e t' m' ⟨g,h1,h2,h3⟩=>by rw[h1]; exact k g t' m' h2 h3
def bV {σ ρ:Type} (body:σ→Option (σ ⊕ ρ)):Nat→σ→Option ρ
 | 0,_=>none
 | k+1,s=>match body s with
  | some (.inl s')=>bV body k s'
  | some (.inr r)=>some r
  | none=>none
theorem Wk.loop {σ ρ γ:Type} {δ:ρ→Type} (body:σ→Option (σ ⊕ ρ)) (I:σ→γ→En) (X:(r:ρ)→δ r→En)
  (hb:∀s g r,body s=some r→Wk E n fn ro c (match r with | .inl s'=>o6 m0 (I s') | .inr r=>o6 m0 (X r)) m0 (I s g).fs (I s g).ps)
  (hn:∀s g,(I s g).e = .normal) (hx:∀r g,(X r g).e≠.normal) :
  ∀(N:Nat) (s:σ) (r:ρ),bV body N s=some r→∀g,Wk E n fn ro (.loop c) (o6 m0 (X r)) m0 (I s g).fs (I s g).ps:=by
 intro N
 induction N with
 | zero=>intro s r h; cases h
 | succ N ih =>
  intro s r h g t m hf hm;refine .loop (.round ?_);simp only[bV] at h
  split at h
  ·rename_i s' hs;refine(hb s g _ hs t m hf hm).mono fun e t' m' ⟨g',h1,h2,h3⟩=>?_;rw[h1,hn];have:=ih s' r h g' t' m' h2 h3;obtain⟨e2,t2,m2,⟨k2,hk2⟩,q2⟩:=this;cases k2 with
   | zero=>cases hk2
   | succ k2=>exact⟨e2,t2,m2,⟨k2,hk2⟩,q2⟩
  ·rename_i r' hs;simp only[Option.some.injEq] at h;subst h;refine(hb s g _ hs t m hf hm).mono fun e t' m' ⟨g',h1,h2,h3⟩=>?_;have hq:o6 m0 (X r') e t' m':=⟨g',h1,h2,h3⟩;cases he:e with
   | normal=>rw[h1] at he; exact absurd he (hx _ _)
   | exit id=>rw[he] at hq; exact hq
   | ret=>rw[he] at hq; exact hq
  ·cases h
def zL:List Value→Nat→Fs→Fs
 | [],_,fs=>fs
 | v::vs,i,fs=>zL vs (i+1) ((i,v)::fs)
theorem Fr.args:∀(vs:List Value) (i:Nat) (fs:Fs) (t:Tm),Fr t fs→Fr (Trie.ofList vs i t) (zL vs i fs)
 | [],_,_,_,h=>h
 | v::vs,i,fs,t,h=>Fr.args vs (i+1) _ _ h.set
theorem bN {f:FuncId} {F:Func} {c:Code} {args:List Value} {rs:List ResultVar} {N:Nat} {R:Value→AMem→Prop} (hp:E.cV f=none) (hf:E.P.funcs[f]? = some F) (hb:F.body=some c) (hrs:F.results.toList=rs) (hN:max args.length F.ntmps=N)
  {m:AMem} (hm:Hp m0 m ps) (h:Wk E N f none c (rY E rs R) m0 (zL args 0 []) ps):aB E f args m R :=
 aB.Ho hp hf hb hrs hN (h _ m (Fr.args args 0 [] _ (Fr.nil _)) hm)
theorem Hp.start (m:AMem):Hp m m []:=⟨.refl m,fun p h=>(by cases h),.nil⟩
theorem Hp.in {m0 m:AMem} {ps:List Pc} {a:Option Addr} {cap w l:Nat} {es:List (List Value)} (h:Hp m0 m ps) (ho:∀p ∈ ps,∀b,¬p.ow b) (hr:Rd m a cap w l es):Hp m0 m (.rd a cap w l es::ps) :=
 ⟨h.ext,fun p hp=>by
  rcases List.mem_cons.1 hp with rfl|hp
  ·exact hr
  ·exact h.ok p hp,List.pairwise_cons.2 ⟨fun q hq=>⟨fun b a=>a.elim (fun a=>by cases a.1) fun a=>a.elim,fun b a=>absurd a (ho q hq b)⟩,h.apart⟩⟩
def Pc.J8:Pc→Bool
 | .gen _=>false
 | p=>!p.own
theorem Pc.Dg {p:Pc} (h:p.J8=true) (b:Nat):¬p.ow b:=by
 cases p with
 | gen g=>cases h
 | obj b o=>cases h
 | arr b w n es tg=>cases h
 | sl a w n es=>cases h
 | rd a cap w n es=>exact fun a=>a.elim (fun a=>by cases a.1) fun a=>a.elim
 | ro b o w n es=>exact fun a=>a.elim (fun a=>by cases a.1) fun a=>a.elim
inductive Res1 (E:Env) (fs:Fs) (ps:List Pc):List ResultVar→List Value→Prop
 | nil:Res1 E fs ps [] []
 | tmp {i:Nat} {v:Value} {rs:List ResultVar} {vs:List Value} (h:lk fs i=some v) (k:Res1 E fs ps rs vs):Res1 E fs ps (.tmp i::rs) (v::vs)
 | cell {i k b o sz:Nat} {ty:TypeId} {v:Value} {rs:List ResultVar} {vs:List Value} {cs:List Value} {tg:Tag} {ag:Bool} (ht:TyI E.P ty ag sz) (h:lk fs i=some (ptr b o)) (hp:pk ps k=some (.obj b (.cells cs tg))) (hv:Gy ag sz cs o=some v) (k:Res1 E fs ps rs vs):Res1 E fs ps (.cell i ty::rs) (v::vs)
theorem Res1.ok {fs:Fs} {ps:List Pc} {t:Tm} {m:AMem} (hf:Fr t fs) (hm:Hp m0 m ps):∀{rs:List ResultVar} {vs:List Value},Res1 E fs ps rs vs→bP E t m rs=some vs:=by
 intro rs vs h
 induction h with
 | nil=>rfl
 | tmp h _ ih=>simp only[bP,ih,hf _ _ h,Option.map_some]
 | cell ht h hp hv _ ih=>simp only[bP,hf _ _ h,vW ht (hm.get hp).2.2 hv,ih,Option.map_some]
theorem At.ret {rs:List ResultVar} {vs:List Value} {R:Value→AMem→Prop} (h:Res1 E fs ps rs vs) (k:∀m,Hp m0 m ps→R (e9 vs) m):At (rY E rs R) .ret m0 fs ps:=fun t m hf hm=>by
 rw[Ba,h.ok hf hm]; exact k m hm
theorem At.fin {rs:List ResultVar} {vs:List Value} {R:Value→AMem→Prop} (h:Res1 E fs ps rs vs) (k:∀m,Hp m0 m ps→R (e9 vs) m):At (rY E rs R) .normal m0 fs ps:=fun t m hf hm=>by
 rw[Ei,h.ok hf hm]; exact k m hm
end
end Go.Ab.W
end

section
namespace Go.Ab.W
open Go Go.Ab
def ob {α β:Type} (o:Option α) (f:α→Option β):Option β :=
 match o with
 | some x=>f x
 | none=>none
def gd {β:Type} (b:Bool) (k:Option β):Option β :=
 match b with
 | true=>k
 | false=>none
def br {β:Type} (b:Bool) (k l:Option β):Option β :=
 match b with
 | true=>k
 | false=>l
section
variable {α β : Type}
theorem J {o:Option α} {f:α→Option β} {r:β} (h:ob o f=some r):∃x,o=some x∧f x=some r:=by
 cases o with
 | none=>cases h
 | some x=>exact⟨x,rfl,h⟩
theorem ax {b:Bool} {k:Option β} {r:β} (h:gd b k=some r):b=true∧k=some r:=by
 cases b with
 | false=>cases h
 | true=>exact⟨rfl,h⟩
theorem aa {b:Bool} {k l:Option β} {r:β} (h:br b k l=some r):(b=true∧k=some r)∨(b=false∧l=some r):=by
 cases b with
 | false=>exact .inr ⟨rfl,h⟩
 | true=>exact .inl ⟨rfl,h⟩
def cg (i:Int) (n:Nat):Bool:=decide (0≤i∧i.toNat<n)
theorem zo {i:Int} {n:Nat} (h:cg i n=true):0≤i∧i.toNat<n:=of_decide_eq_true h
theorem aR {f:α→β} {xs:List α} {i:Nat} {x:α} (h:xs[i]? = some x):(xs.map f)[i]? = some (f x):=by
 rw[List.getElem?_map,h]; rfl
theorem bK {i:Int} {n:Nat} (h:0≤i∧i.toNat<n):0<n:=by omega
def okB (lo hi:Int) (n:Nat):Bool:=decide (0≤lo∧lo≤hi∧hi≤(n:Int))
theorem GZ {lo hi:Int} {n:Nat} (h:okB lo hi n=true):0≤lo∧lo≤hi∧hi≤(n:Int):=of_decide_eq_true h
end
def eI (k:IntKind) (x:Int):List Value:=[.int k x]
def eN (k:IntKind) (x:Nat):List Value:=[.int k (x:Int)]
def eP {α β:Type} (f:α→List Value) (g:β→List Value) (p:α × β):List Value:=f p.1++g p.2
structure Enc {α:Type} (f:α→List Value) (w:Nat):Prop where
 len:∀x,(f x).length=w
 one:∀x,(f x).all mL=true
theorem Oi (k:IntKind):Enc (eI k) 1:=⟨fun _=>rfl,fun _=>rfl⟩
theorem pM (k:IntKind):Enc (eN k) 1:=⟨fun _=>rfl,fun _=>rfl⟩
theorem xI {α β:Type} {f:α→List Value} {g:β→List Value} {w v:Nat} (h:Enc f w) (h':Enc g v):Enc (eP f g) (w+v) :=
 ⟨fun x=>by simp[eP,h.len,h'.len],fun x=>by simp only[eP,List.all_append,h.one,h'.one,Bool.and_self]⟩
theorem Enc.vL {α:Type} {f:α→List Value} {w:Nat} (h:Enc f w) (xs:List α):∀e ∈ xs.map f,e.length=w:=fun e he=>by
 obtain⟨x,_,rfl⟩:=List.mem_map.1 he; exact h.len x
theorem Enc.jl {α:Type} {f:α→List Value} {w:Nat} (h:Enc f w) (xs:List α):W.jl (xs.map f):=AZ h.one xs
theorem Kf {α:Type} {f:α→List Value} {xs:List α} {i:Nat} {x:α}:(xs.map f).set i (f x)=(xs.set i x).map f:=(List.map_set).symm
theorem Jx {α:Type} {f:α→List Value} {xs:List α} {i k:Nat}:((xs.map f).drop i).take k=((xs.drop i).take k).map f:=by rw[←List.map_drop,←List.map_take]
theorem Jt {α:Type} {f:α→List Value} {n:Nat} {x:α}:List.replicate n (f x)=(List.replicate n x).map f:=by simp
def uM (k:IntKind):Nat:=2 ^ k.bits
def uw (k:IntKind) (n:Nat):Nat:=n%uM k
def ui (k:IntKind) (i:Int):Nat:=(i%(uM k:Int)).toNat
def cA (k:IntKind) (a b:Nat):Nat:=uw k (a+(uM k-uw k b))
def AE (k:IntKind) (a:Nat):Nat:=uw k (uM k-uw k a)
def bY (k:IntKind) (a b:Nat):Nat:=uw k (a*2 ^ (min b k.bits))
def bL (k:IntKind) (a b:Nat):Nat:=a/2 ^ (min b k.bits)
def iJ (k:IntKind) (a b:Nat):Nat:=uw k (uw k a ^^^ (uw k a &&& uw k b))
def mi {α:Type} [LT α] [DecidableRel (α:=α) (· < ·)] (a b:α):α:=if b<a then b else a
def ma {α:Type} [LT α] [DecidableRel (α:=α) (· < ·)] (a b:α):α:=if a<b then b else a
theorem Hs (k:IntKind):0<uM k:=Nat.two_pow_pos _
theorem OQ (k:IntKind) (n:Nat):uw k n<uM k:=Nat.mod_lt _ (Hs k)
theorem sL {k:IntKind} (h:k.signed=false) (n:Int):k.wrap n=((ui k n:Nat):Int):=by
 have h0:(0:Int)≤n%(uM k:Int):=Int.emod_nonneg _ (by have:=Hs k; omega)
 simp only[IntKind.wrap,h,Bool.false_and,Bool.false_eq_true,if_false,ui];rw[Int.toNat_of_nonneg h0];simp[uM]
theorem G5 (k:IntKind) (n:Nat):ui k (n:Int)=uw k n:=by
 unfold ui uw;rw[←Int.natCast_emod,Int.toNat_natCast]
theorem iu {k:IntKind} (h:k.signed=false) (n:Nat):k.wrap (n:Int)=((uw k n:Nat):Int):=by rw[sL h,G5]
section
variable {k kd : IntKind} {ty : TypeId} {P : Program}
theorem oK (h:k.signed=false) (a b:Nat):aY .add ty P (.int k (a:Int)) (.int k (b:Int))=some (.int k ((uw k (a+b):Nat):Int)):=by
 rw[lM,←Int.natCast_add,iu h]
theorem eF (h:k.signed=false) (a b:Nat):aY .mul ty P (.int k (a:Int)) (.int k (b:Int))=some (.int k ((uw k (a*b):Nat):Int)):=by
 rw[wR,←Int.natCast_mul,iu h]
theorem xd (h:k.signed=false) (a b:Nat):aY .sub ty P (.int k (a:Int)) (.int k (b:Int))=some (.int k ((cA k a b:Nat):Int)):=by
 rw[qu,sL h];have hlt:=OQ k b;have e:((a:Int)-(b:Int))%(uM k:Int)=(((a+(uM k-uw k b)):Nat):Int)%(uM k:Int):=by
  have h1:(b:Int)=(uM k:Int)*((b/uM k:Nat):Int)+((uw k b:Nat):Int):=by
   have:=Nat.div_add_mod b (uM k);unfold uw;rw[←Int.natCast_mul,←Int.natCast_add]; exact congrArg Int.ofNat this.symm
  have h2:(((a+(uM k-uw k b)):Nat):Int)=((a:Int)-(b:Int))+(uM k:Int)*(1+((b/uM k:Nat):Int)):=by
   rw[Int.natCast_add,Int.natCast_sub (Nat.le_of_lt hlt),Int.mul_add]; omega
  rw[h2,Int.add_mul_emod_self_left]
 have e2:ui k ((a:Int)-(b:Int))=cA k a b:=by
  unfold ui;rw[e,←Int.natCast_emod,Int.toNat_natCast]; rfl
 rw[e2]
theorem BR (h:k.signed=false) (a b:Nat) (hb:(0<b)):aY .quo ty P (.int k (a:Int)) (.int k (b:Int))=some (.int k ((uw k (a/b):Nat):Int)):=by
 rw[Cy _ _ _ (by omega),Int.tdiv_eq_ediv_of_nonneg (Int.natCast_nonneg _),←Int.natCast_ediv,iu h]
theorem Ay (a b:Nat) (hb:0<b):aY .rem ty P (.int k (a:Int)) (.int k (b:Int))=some (.int k ((a%b:Nat):Int)):=by
 rw[Cf _ _ _ (by omega),Int.tmod_eq_emod_of_nonneg (Int.natCast_nonneg _),←Int.natCast_emod]
theorem jx (k:IntKind) (a:Nat):(BitVec.ofInt k.bits (a:Int)).toNat=uw k a:=by simp[uw,uM]
theorem lC (h:k.signed=false) (a b:Nat):aY .and ty P (.int k (a:Int)) (.int k (b:Int))=some (.int k ((uw k (uw k a &&& uw k b):Nat):Int)):=by
 simp only[aY,if_true]; rw[BitVec.toNat_and,jx,jx,iu h]
theorem zg (h:k.signed=false) (a b:Nat):aY .or ty P (.int k (a:Int)) (.int k (b:Int))=some (.int k ((uw k (uw k a ||| uw k b):Nat):Int)):=by
 simp only[aY,if_true]; rw[BitVec.toNat_or,jx,jx,iu h]
theorem KP (h:k.signed=false) (a b:Nat):aY .andNot ty P (.int k (a:Int)) (.int k (b:Int))=some (.int k ((iJ k a b:Nat):Int)):=by
 simp only[aY,if_true];rw[iu h]
 congr 3
 unfold iJ
 congr 1
 have e:(BitVec.ofInt k.bits (a:Int) &&& ~~~ BitVec.ofInt k.bits (b:Int))=BitVec.ofInt k.bits (a:Int) ^^^ (BitVec.ofInt k.bits (a:Int) &&& BitVec.ofInt k.bits (b:Int)):=by
  apply BitVec.eq_of_getElem_eq;intro i hi;simp only[BitVec.getElem_and,BitVec.getElem_not,BitVec.getElem_xor];cases(BitVec.ofInt k.bits (a:Int))[i]<;>cases(BitVec.ofInt k.bits (b:Int))[i]<;>rfl
 rw[e,BitVec.toNat_xor,BitVec.toNat_and,jx,jx]
theorem M4 (a b:Nat):aY .lss ty P (.int k (a:Int)) (.int k (b:Int))=some (.bool (decide (a<b))):=by rw[wN]; congr 2; exact decide_eq_decide.2 Int.ofNat_lt
theorem NY (a b:Nat):aY .leq ty P (.int k (a:Int)) (.int k (b:Int))=some (.bool (decide (a≤b))):=by rw[wg]; congr 2; exact decide_eq_decide.2 Int.ofNat_le
theorem NG (a b:Nat):aY .gtr ty P (.int k (a:Int)) (.int k (b:Int))=some (.bool (decide (b<a))):=by rw[oo]; congr 2; exact decide_eq_decide.2 Int.ofNat_lt
theorem Nf (a b:Nat):aY .geq ty P (.int k (a:Int)) (.int k (b:Int))=some (.bool (decide (b≤a))):=by rw[xc]; congr 2; exact decide_eq_decide.2 Int.ofNat_le
theorem Be (a b:Nat):aY .eql ty P (.int k (a:Int)) (.int k (b:Int))=some (.bool (decide (a=b))):=by rw[wY]; congr 2; exact decide_eq_decide.2 Int.ofNat_inj
theorem NV (a b:Nat):aY .neq ty P (.int k (a:Int)) (.int k (b:Int))=some (.bool (!decide (a=b))):=by
 rw[CB]; congr 2
 by_cases h:a=b
 ·simp[h]
 ·have:¬((a:Int)=(b:Int)):=by omega
  simp[h,this]
theorem sC (a b:Int):aY .neq ty P (.int k a) (.int k b)=some (.bool (!decide (a=b))):=by
 rw[CB]; congr 2; by_cases h:a=b<;>simp[h]
theorem js (h:k.signed=false) (a:Nat) (b:Int) (hb:decide (0≤b)=true):aY .shl ty P (.int k (a:Int)) (.int kd b)=some (.int k ((bY k a b.toNat:Nat):Int)):=by
 have h0:¬(b<0):=by have:=of_decide_eq_true hb; omega
 simp only[aY,if_neg h0];have h2:((a:Int)*2 ^ (min b.toNat k.bits))=((a*2 ^ (min b.toNat k.bits):Nat):Int):=by simp
 rw[h2,iu h]; rfl
theorem cC (a:Nat) (b:Int) (hb:decide (0≤b)=true):aY .shr ty P (.int k (a:Int)) (.int kd b)=some (.int k ((bL k a b.toNat:Nat):Int)):=by
 have h0:¬(b<0):=by have:=of_decide_eq_true hb; omega
 simp only[aY,if_neg h0,bL]
 congr 2
 have h2:((2:Int) ^ (min b.toNat k.bits))=((2 ^ (min b.toNat k.bits):Nat):Int):=by simp
 rw[h2,Int.fdiv_eq_ediv_of_nonneg _ (Int.natCast_nonneg _)];exact(Int.natCast_ediv a _).symm
theorem rG (a b:Int) (h:decide (b≠0)=true):aY .quo ty P (.int k a) (.int k b)=some (.int k (k.wrap (a.tdiv b))):=Cy k a b (of_decide_eq_true h)
theorem kq (a b:Int) (h:decide (b≠0)=true):aY .rem ty P (.int k a) (.int k b)=some (.int k (a.tmod b)):=Cf k a b (of_decide_eq_true h)
theorem Mn (h:k.signed=false) (a:Nat):zu .neg (.int k (a:Int))=some (.int k ((AE k a:Nat):Int)):=by
 have:=xd (ty:=0) (P:=default) h 0 a;rw[qu] at this;simp only[zu];have e:cA k 0 a=AE k a:=by unfold cA AE; rw[Nat.zero_add]
 rw[e] at this; exact this
theorem BJ {s d:TypeId} {x:Int} (hs:(P.underlying s).isSome=true) (hd:P.underlying d=some (.int k)):eK P s d (.int kd x)=some (.int k (k.wrap x)):=by
 cases h:P.underlying s with
 | none=>rw[h] at hs; cases hs
 | some u=>simp only[eK,h,hd]
theorem K4 {s d:TypeId} {x:Int} (hs:(P.underlying s).isSome=true) (hd:P.underlying d=some (.int k)) (hk:k.signed=false):eK P s d (.int kd x)=some (.int k ((ui k x:Nat):Int)):=by
 rw[BJ hs hd,sL hk]
theorem OF {s d:TypeId} {x:Nat} (hs:(P.underlying s).isSome=true) (hd:P.underlying d=some (.int k)) (hk:k.signed=false):eK P s d (.int kd (x:Int))=some (.int k ((uw k x:Nat):Int)):=by
 rw[K4 hs hd hk,G5]
theorem Dq (a b:Int) {ts:Array TypeId} (m:AMem):aI P .min ts [.int k a,.int k b] m=some (.int k (mi a b),m):=rfl
theorem Lr (a b:Int) {ts:Array TypeId} (m:AMem):aI P .max ts [.int k a,.int k b] m=some (.int k (ma a b),m):=rfl
theorem PZ {a b:Bool} (hu:P.underlying ty=some .bool):aY .eql ty P (.bool a) (.bool b)=some (.bool (a == b)):=by
 simp only[aY,Op.maxDepth,iN,hu,Option.map_some]
theorem Dk {a b:Bool} (hu:P.underlying ty=some .bool):aY .neq ty P (.bool a) (.bool b)=some (.bool (!(a == b))):=by
 simp only[aY,Op.maxDepth,iN,hu,Option.map_some]
end
theorem oQ {c:Bool} (h:c=true):(c == true)=true:=by rw[h]; rfl
theorem gH {c:Bool} (h:c=false):(c == false)=true:=by rw[h]; rfl
theorem pR {c:Bool} (h:c=true):(c == false)=false:=by rw[h]; rfl
theorem Rs {c:Bool} (h:c=false):(c == true)=false:=by rw[h]; rfl
section
variable {E : Env} {n : Nat} {m0 : AMem} {fs : Fs} {ps : List Pc} {x y : Operand} {v : Value} {ty : TypeId}
theorem Eo {c:Operand} {b:Bool} (hc:ev E fs c=some (.bool b)) (hb:b=true) (h:ev E fs x=some v):Od E m0 fs ps (.pick c x y) v ps:=HK (by rw[hc,hb]) h
theorem Eu {c:Operand} {b:Bool} (hc:ev E fs c=some (.bool b)) (hb:b=false) (h:ev E fs y=some v):Od E m0 fs ps (.pick c x y) v ps:=OW (by rw[hc,hb]) h
theorem CN {α:Type} {f:α→List Value} {elem ty2:TypeId} {w k k2 c1 l l1:Nat} {a a0:Option Addr} {xs ys:List α} {ars:Array Operand} {p1:Pc} (he:Enc f w) (ht:SlT E.P ty elem w) (h3:∃e0,E.P.underlying ty2=some (.slice e0)) (ha:gT E fs ars.toList=some [.slice a l l,.slice a0 l1 c1]) (hp:pk ps k=some (.sl a w l (xs.map f))) (h1:pk ps k2=some p1) (hr:IsRd p1 a0 c1 w l1 (ys.map f)) (hl:mj (xs++ys).length=true) :
  Ox E m0 fs ps (.call ⟨.builtin .append,ars,#[ty,ty2]⟩) (fun a':Option Addr=>.slice a' (xs++ys).length (xs++ys).length) (fun a'=>cG ps k (.sl a' w (xs++ys).length ((xs++ys).map f))):=by
 intro t m hf hm;have h0:l=xs.length:=by
  have:=hm.get hp;rcases this with⟨h4,h0,_⟩|⟨b,tg,_,h0⟩
  ·rw[h4,List.map_eq_nil_iff.1 h0]; rfl
  ·have:=h0.2.2.2.1; rw[List.length_map] at this; exact this.symm
 have h2:l1=ys.length:=by
  have:=(hm.rd h1 hr).1; rw[List.length_map] at this; exact this.symm
 have:=Qy (m0:=m0) ht h3 ha hp h1 hr (he.vL ys) (he.jl ys) (by rw[h0,h2,←List.length_append]; exact hl) t m hf hm
 have e1:xs.map f++ys.map f=(xs++ys).map f:=List.map_append.symm;have e0:l+l1=(xs++ys).length:=by rw[h0,h2,List.length_append]
 rw[e1,e0] at this;exact this
theorem Lw {α:Type} {f:α→List Value} {elem:TypeId} {k cap w l:Nat} {lo hi:Int} {a:Option Addr} {xs:List α} {lx hx:Option Operand} {lv hv:Option Value} (ht:SlT E.P ty elem w) (hv':ev E fs x=some (.slice a l cap)) (e1:Am E fs lx=some lv) (e2:Am E fs hx=some hv) (hp:pk ps k=some (.rd a cap w l (xs.map f))) (hb:okB lo hi l=true) (hl:lv=none∧lo=0∨∃k,lv=some (.int k lo)) (hh:hv=none∧hi=(l:Int)∨∃k,hv=some (.int k hi)) :
  Ox E m0 fs ps (.slice ty x lx hx none) (fun r:Option Addr × Nat=>.slice r.1 ((xs.drop lo.toNat).take (hi.toNat-lo.toNat)).length r.2) (fun r=>.rd r.1 r.2 w ((xs.drop lo.toNat).take (hi.toNat-lo.toNat)).length (((xs.drop lo.toNat).take (hi.toNat-lo.toNat)).map f)::ps):=by
 intro t m hf hm;obtain⟨b1,b2,b3⟩:=GZ hb;have h1:xs.length=l:=by have:=(hm.get hp).1; rw[List.length_map] at this; exact this
 have elo:((lo.toNat:Nat):Int)=lo:=Int.toNat_of_nonneg b1;have ehi:((hi.toNat:Nat):Int)=hi:=Int.toNat_of_nonneg (by omega)
 have hlen:((xs.drop lo.toNat).take (hi.toNat-lo.toNat)).length=hi.toNat-lo.toNat:=by rw[List.length_take,List.length_drop,h1]; omega
 have:=QF (m0:=m0) (lo:=lo.toNat) (hi:=hi.toNat) ht hv' e1 e2 hp (by omega) (by omega) (by
  rcases hl with⟨h,h'⟩|⟨k,h⟩
  ·exact .inl ⟨h,by omega⟩
  ·exact .inr ⟨k,by rw[elo]; exact h⟩) (by
  rcases hh with⟨h,h'⟩|⟨k,h⟩
  ·exact .inl ⟨h,by omega⟩
  ·exact .inr ⟨k,by rw[ehi]; exact h⟩) t m hf hm
 rw[Jx] at this;rw[hlen];exact this
theorem sF {α:Type} {f:α→List Value} {z0:α} {elem:TypeId} {w:Nat} {i:Int} {z:Value} (ht:SlT E.P ty elem w) (hx:ev E fs x=some (.int .i64 i)) (hi:decide (0≤i)=true) (hl:mj i.toNat=true) (hz:bu E.P elem=some z) (hp:z.cells.toList.all aw=true) (hzf:z.cells.toList=f z0) :
  Ox E m0 fs ps (.makeSlice ty x x) (fun b=>.slice (some ⟨b,0,none⟩) i.toNat i.toNat) (fun b=>.arr b w i.toNat ((List.replicate i.toNat z0).map f) .own::ps):=by
 have:=Oa (m0:=m0) (ps:=ps) ht hx (Int.toNat_of_nonneg (of_decide_eq_true hi)).symm hl hz hp;rw[hzf,Jt] at this;exact this
theorem iA {α:Type} {f:α→List Value} {ag:Bool} {sz b w l j c k:Nat} {xs:List α} {x1 x2:α} {tg:Tag} (ht:TyI E.P ty ag sz) (hx:ev E fs x=some (ptr b (j*w+c))) (hy:ev E fs y=some v) (hp:pk ps k=some (.arr b w l (xs.map f) tg)) (he:xs[j]? = some x1) (hv:LB (f x1) c v sz=some (f x2)):Od E m0 fs ps (.store ty x y) undef (cG ps k (.arr b w l ((xs.set j x2).map f) tg)):=by
 have:=OV (m0:=m0) ht hx hy hp (aR he) hv;rwa[Kf] at this
end
theorem ak.len {m0:AMem} {ps:List Pc} {α:Type} {f:α→List Value} {k w l:Nat} {a:Option Addr} {xs:List α} (hp:pk ps k=some (.sl a w l (xs.map f))) (h:∀m,Hp m0 m ps→Hp m0 m (cG ps k (.sl a w xs.length (xs.map f)))):ak m0 ps (cG ps k (.sl a w xs.length (xs.map f))):=h
def Cp:Tag→Bool
 | .more _=>false
 | _=>true
def NQ:Tag→Bool
 | .own=>true
 | _=>false
theorem sn {fs:Fs}:sub fs []:=trivial
theorem sc {fs l:Fs} {i:Nat} {v:Value} (h:lk fs i=some v) (k:sub fs l):sub fs ((i,v)::l):=⟨h,k⟩
theorem cI {k:IntKind} {e y:Int} (h:some e=some y):some (Value.int k e)=some (.int k y):=by rw[Option.some.inj h]
theorem cN {k:IntKind} {e y:Nat} (h:some e=some y):some (Value.int k (e:Int))=some (.int k (y:Int)):=by rw[Option.some.inj h]
theorem nn (b:Nat):decide (0≤(b:Int))=true:=decide_eq_true (Int.natCast_nonneg b)
section
variable {P : Program} {ty el : TypeId} {w len : Nat}
theorem Ed (h:ArT P ty el len w) {b o i:Nat} {kd:IntKind} (hi:i<len):bB P ty (ptr b o) (.int kd (i:Int))=some (ptr b (o+i*w)):=Hk h.und h.known h.size hi
theorem w9 {cs:Array Value} {off sz:Nat} {v:Value} (h:TyI P ty false sz) (hv:cs[off]? = some v):dS P ty cs off=some v:=by
 simp only[dS,h.known,h.agg,Bool.not_true,Bool.false_eq_true,if_false,hv]
structure BdT (P:Program) (ty:TypeId) (z:Value) (offs:List (Nat × Nat)):Prop where
 bd:∀parts,(parts.all fun p=>Nat.blt p.1 offs.length)=true→j6 P ty parts=(gV (fun i=>offs[i]?) z.cells.toList parts).map fun cs=>.agg cs.toArray
def RL (P:Program) (ty:TypeId) (z:Value) (offs:List (Nat × Nat)):Prop :=
 bu P ty=some z∧match P.underlying ty with
  | some (.struct fields)=>fields.toList.all (fun f=>known P f.type)=true∧fields.toList.map (fun f=>(f.offset,al P f.type))=offs
  | some (.array n elem)=>known P elem=true∧(List.range n).map (fun i=>(i*al P elem,al P elem))=offs
  | _=>False
theorem lz {p q:Nat→Option (Nat × Nat)} {n:Nat} (h:∀i,i<n→p i=q i):∀(parts:List (Nat × Value)) (cs:List Value),(parts.all fun p=>Nat.blt p.1 n)=true→gV p cs parts=gV q cs parts
 | [],_,_=>rfl
 | (i,v)::rest,cs,hp=>by
  rw[List.all_cons,Bool.and_eq_true] at hp;have hi:i<n:=by have:=hp.1; rwa[Nat.blt_eq] at this
  simp only[gV,h i hi];cases q i with
  | none=>rfl
  | some r=>simp only[]; split; rfl; exact lz h rest _ hp.2
theorem BdT.of {z:Value} {offs:List (Nat × Nat)} (h:RL P ty z offs):BdT P ty z offs:=⟨fun parts hp=>by
 obtain⟨hz,h⟩:=h;unfold j6;rw[hz];cases hu:P.underlying ty with
 | none=>rw[hu] at h; exact h.elim
 | some u =>
  rw[hu] at h;cases u with
  | struct fields =>
   simp only at h ⊢;rw[if_pos h.1]
   congr 1
   refine lz (n:=offs.length) (fun i hi=>?_) parts _ hp;rw[←h.2,List.getElem?_map]; simp
  | array n elem =>
   simp only at h ⊢;rw[if_pos h.1]
   congr 1
   refine lz (n:=offs.length) (fun i hi=>?_) parts _ hp;have hl:offs.length=n:=by rw[←h.2]; simp
   rw[←h.2,List.getElem?_map,List.getElem?_range (by omega)]; rfl
  | _=>exact h.elim⟩
def Rb (P:Program) (ty:TypeId) (offs:List (Nat × Nat)):Bool :=
 match P.underlying ty with
 | some (.struct fields)=>fields.toList.all (fun f=>known P f.type) && decide (fields.toList.map (fun f=>(f.offset,al P f.type))=offs)
 | some (.array n elem)=>known P elem && decide ((List.range n).map (fun i=>(i*al P elem,al P elem))=offs)
 | _=>false
theorem BdT.mk' {z:Value} {offs:List (Nat × Nat)} (hz:bu P ty=some z) (h:Rb P ty offs=true):BdT P ty z offs:=by
 refine .of ⟨hz,?_⟩;unfold Rb at h;cases hu:P.underlying ty with
 | none=>rw[hu] at h; cases h
 | some u =>
  rw[hu] at h;cases u with
  | struct fields=>simp only[Bool.and_eq_true,decide_eq_true_eq] at h ⊢; exact h
  | array n elem=>simp only[Bool.and_eq_true,decide_eq_true_eq] at h ⊢; exact h
  | _=>cases h
theorem eE {z r:Value} {offs:List (Nat × Nat)} {parts:List (Nat × Value)} {cs:List Value} (h:BdT P ty z offs) (hp:(parts.all fun p=>Nat.blt p.1 offs.length)=true) (hr:gV (fun i=>offs[i]?) z.cells.toList parts=some cs) (e:Value.agg cs.toArray=r):j6 P ty parts=some r:=by
 rw[h.bd parts hp,hr]; exact congrArg some e
theorem za {n:Nat} {vs:List (Nat × Value)} {z:Value} {cs:List Value} (ht:SlT P ty el w) (hz:bu P el=some z) (h1:((bQ z.cells.toList n).all aw && Nat.ble (n*w) 16777216)=true) (hr:gV (fun i=>some (i*w,w)) (bQ z.cells.toList n) vs=some cs):Ql P el w n vs=some cs:=by
 have hzs:z.cells.size=w:=by have:=ht.zero; rw[hz] at this; simp only[Option.any_some,Bool.and_eq_true,beq_iff_eq] at this; exact this.1
 have:ef P el n=some (bQ z.cells.toList n):=by simp only[ef,hz,ht.size]; rw[if_pos hzs]
 simp only[Ql,this,h1]; exact hr
theorem ue {xs ys:Array Value} {b:Bool} (h:P.eqGuardType P.depth ty=false) (hb:iN P Op.maxDepth ty (.agg xs) (.agg ys)=some b):aY .eql ty P (.agg xs) (.agg ys)=some (.bool b):=by
 simp only[aY,h,Bool.false_eq_true,if_false,hb,Option.map_some]
theorem Lp {k:IntKind} (hu:P.underlying ty=some (.array 2 el)) (hk:known P el=true) (hs:al P el=1) (ha:cS P el=false) (he:P.underlying el=some (.int k)) (a b c d:Int):iN P Op.maxDepth ty (.agg #[.int k a,.int k b]) (.agg #[.int k c,.int k d])=some (decide (a=c) && decide (b=d)):=by
 have e1:∀x y:Int,iN P 9999 el (.int k x) (.int k y)=some (decide (x=y)):=fun x y=>by
  simp only[iN,he,if_true]; rfl
 have p0:∀x y:Int,dS P el #[.int k x,.int k y] 0=some (.int k x):=fun x y=>by simp only[dS,hk,ha]; rfl
 have p1:∀x y:Int,dS P el #[.int k x,.int k y] 1=some (.int k y):=fun x y=>by simp only[dS,hk,ha]; rfl
 show iN P (9999+1) ty _ _=_
 unfold iN;simp only[hu,hk,if_true,hs]
 show fC (iN P 9999) P _ _ [(el,0*1),(el,1*1)]=_
 simp only[fC,Nat.zero_mul,Nat.one_mul,p0,p1,e1]
 by_cases h:a=c
 ·simp only[h,decide_true,Bool.true_and]
  by_cases h2:b=d<;>simp[h2]
 ·simp[h]
end
section
variable {E : Env} {n : Nat} {m0 : AMem} {fs : Fs} {ps : List Pc} {x y : Operand} {v : Value} {ty : TypeId}
theorem KY {el:TypeId} {len w b o k:Nat} {cs:List Value} {tg:Tag} (ht:ArT E.P ty el len w) (hx:ev E fs x=some (ptr b o)) (hp:pk ps k=some (.obj b (.cells cs tg))) (htg:Cp tg=true) (hlen:Nat.blt 0 len=true):Od E m0 fs ps (.slice ty x none none none) (.slice (some ⟨b,o,none⟩) len len) ps :=
 fun t m hf h=>⟨fun b' hb=>by
  have:eu (ptr b o)=some b:=rfl;simp only[aE,hf.ev hx,Option.bind_some,this] at hb;cases hb; exact(h.get hp).2.1,fun K hK=>by
  have hg:=(h.get hp).2.2;have hb:cm len len none none none=some (0,len,len):=pw (Nat.zero_le _) (Nat.le_refl _) (.inl ⟨rfl,rfl⟩) (.inl ⟨rfl,rfl⟩);have hl:len≠0:=by rw[Nat.blt_eq] at hlen; omega
  have:cl E.P ty (ptr b o) none none none m=some (.slice (some ⟨b,o,none⟩) len len):=by
   cases tg with
   | more s=>cases htg
   | ro=>simp only[cl,ptr,ht.und,ht.known,if_true,hg,hb,Nat.sub_zero,if_neg hl,Nat.zero_mul,Nat.add_zero]
   | own=>simp only[cl,ptr,ht.und,ht.known,if_true,hg,hb,Nat.sub_zero,if_neg hl,Nat.zero_mul,Nat.add_zero]
  rw[Go.Ab.vF (hf.ev hx) rfl rfl rfl this]; exact hK m h⟩
variable {ops : Array Oper} {os : List Oper} {K : Tm → AMem → Prop} {dr : Bool}
theorem Wo.len {α:Type} {f:α→List Value} {k w l:Nat} {a:Option Addr} {xs:List α} (hp:pk ps k=some (.sl a w l (xs.map f))) (h:l=xs.length→Wo dr E n ops K os m0 fs ps):Wo dr E n ops K os m0 fs ps:=by
 have key:∀m,Hp m0 m ps→l=xs.length:=fun m hm=>by
  rcases hm.get hp with⟨h0,h1,_⟩|⟨b,tg,_,h1⟩
  ·rw[h0,List.map_eq_nil_iff.1 h1]; rfl
  ·have:=h1.2.2.2.1; rw[List.length_map] at this; exact this.symm
 cases dr with
 | false=>exact fun t m hf hm=>h (key m hm) t m hf hm
 | true=>exact fun t m w hf hm hw=>h (key m hm) t m w hf hm hw
end
theorem Hp.eG {m0 m:AMem} {ps:List Pc} {a:Option Addr} {cap w l:Nat} {es:List (List Value)} (h:Hp m0 m ps) (ho:(ps.all Pc.J8)=true) (hr:Rd m a cap w l es):Hp m0 m (.rd a cap w l es::ps) :=
 h.in (fun p hp b=>Pc.Dg (List.all_eq_true.1 ho p hp) b) hr
theorem Hp.QT {m0 m:AMem} {ps:List Pc} {α:Type} {xs:List α} {f:α→List Value} {k b o w l:Nat} {cs:List Value} {tg:Tag} (h:Hp m0 m ps) (hp:pk ps k=some (.obj b (.cells cs tg))) (htg:NQ tg=true) (hl:Nat.beq xs.length l=true) (hc:(cs.drop o).take (l*w)=(xs.map f).flatten) (he:Enc f w):Rd m (some ⟨b,o,none⟩) l w l (xs.map f):=by
 have hl:=Nat.eq_of_beq_eq_true hl;have hnm:∀sz,tg = .more sz→sz=w:=fun sz e=>by rw[e] at htg; cases htg
 have hg:=(h.get hp).2.2;refine⟨by rw[List.length_map]; exact hl,Nat.le_refl _,.inr (.inr ⟨b,o,rfl,(h.get hp).2.1,cs,tg,hg,hnm,fun i e hi=>?_⟩)⟩
 have hw:=he.vL xs;have h1:=Di hw hi;have hlt:i<l:=by have:=(List.getElem?_eq_some_iff.1 hi).1; rw[List.length_map,hl] at this; exact this
 refine⟨?_,hw e (List.mem_of_getElem? hi)⟩;rw[←hc] at h1;rw[←h1,List.drop_take,List.take_take,List.drop_drop];have:w≤l*w-i*w:=by
  have:(i+1)*w≤l*w:=Nat.mul_le_mul_right w hlt;rw[Nat.succ_mul] at this; omega
 rw[Nat.min_eq_left this]
theorem gu {ops:Array Oper} {fs:Fs} {j d:Nat} {b:Bool} (hd:(ops[j]?).bind (·.dst)=some d) (h:lk fs d=some undef):qp ops fs (some (j,b)) false:=fun t d' o ty p af hf=>by
 rw[IC];have hat:=hf d _ h;unfold cX;rw[hd];unfold Tm.at at hat;cases hg:Trie.get t d with
 | none=>simp only[hg]
 | some v=>rw[hg] at hat; have hv:v=undef:=hat; subst hv; simp only[hg]; rfl
def FX (k:IntKind) (a b:Int):Int:=k.wrap (BitVec.ofInt k.bits a &&& BitVec.ofInt k.bits b).toNat
section
variable {P : Program} {ty : TypeId} {k : IntKind}
theorem M8 (a b:Int):aY .and ty P (.int k a) (.int k b)=some (.int k (FX k a b)):=by simp only[aY,if_true,FX]
end
section
variable {E : Env} {n : Nat} {m0 : AMem} {fs : Fs} {ps : List Pc} {x y : Operand} {v : Value} {ty : TypeId}
theorem O0 {s:ByteArray} {kd:IntKind} {i:Int} {b:Nat} (tab:List Nat) (hu:E.P.underlying ty=some .string) (hx:ev E fs x=some (.string s)) (hs:s.data.toList.map (·.toNat)=tab) (hy:ev E fs y=some (.int kd i)) (hi:cg i tab.length=true) (hb:tab[i.toNat]? = some b):Od E m0 fs ps (.index ty x y) (.int .u8 (b:Int)) ps:=by
 refine QA hx hy ?_;have h0:=(zo hi).1;simp only[fJ,hu];rw[if_pos h0];subst hs;rw[List.getElem?_map] at hb;have:s[i.toNat]? = s.data.toList[i.toNat]?:=by
  cases hs:s.data.toList[i.toNat]? with
  | none =>
   have:=List.getElem?_eq_none_iff.1 hs;exact getElem?_neg s i.toNat (by have e:s.size=s.data.toList.length:=Array.length_toList.symm; omega)
  | some u =>
   obtain⟨h1,h2⟩:=List.getElem?_eq_some_iff.1 hs;have h3:i.toNat<s.size:=by have e:s.size=s.data.toList.length:=Array.length_toList.symm; omega
   rw[getElem?_pos s i.toNat h3]
   congr 1
 rw[this];cases hs:s.data.toList[i.toNat]? with
 | none=>rw[hs] at hb; cases hb
 | some u=>rw[hs] at hb; simp only[Option.map_some,Option.some.injEq] at hb ⊢; rw[hb]
end
end Go.Ab.W
end

section
namespace Go.Ab
open Go Go.Ab.W
theorem Qn (j:aJ) (u:Value):∃v,VR j v u:=by
 match h:u with
 | .agg cs =>
  have:∀i (hi:i<cs.size),∃v,VR j v cs[i]:=fun i hi=>Qn j cs[i];refine⟨.agg (Array.ofFn fun i:Fin cs.size=>Classical.choose (this i.1 i.2)),.agg (by simp) fun i a b=>?_⟩
  have hi:i<cs.size:=b;have:=Classical.choose_spec (this i hi)
  simpa using this
 | .tuple cs =>
  have:∀i (hi:i<cs.size),∃v,VR j v cs[i]:=fun i hi=>Qn j cs[i];refine⟨.tuple (Array.ofFn fun i:Fin cs.size=>Classical.choose (this i.1 i.2)),.tuple (by simp) fun i a b=>?_⟩
  have hi:i<cs.size:=b;have:=Classical.choose_spec (this i hi)
  simpa using this
 | .bool b=>exact⟨_,.bool b⟩
 | .int k n=>exact⟨_,.int k n⟩
 | .float k b=>exact⟨_,.junk rfl⟩
 | .complex k a b=>exact⟨_,.junk rfl⟩
 | .string s=>exact⟨_,.string s⟩
 | .pointer none=>exact⟨_,.pnil⟩
 | .pointer (some a)=>exact⟨_,.junk rfl⟩
 | .slice none l c=>exact⟨_,.snil l c⟩
 | .slice (some a) l c=>exact⟨_,.junk rfl⟩
 | .map none=>exact⟨_,.mnil⟩
 | .map (some r)=>exact⟨_,.junk rfl⟩
 | .chan r=>exact⟨_,.junk rfl⟩
 | .func f a b=>exact⟨_,.junk rfl⟩
 | .nilFunc=>exact⟨_,.nilFunc⟩
 | .iface t v=>exact⟨_,.junk rfl⟩
 | .nilIface=>exact⟨_,.nilIface⟩
termination_by SizeOf.sizeOf u
decreasing_by
 all_goals
  subst h;have:=Array.sizeOf_getElem cs i hi;simp only[Value.agg.sizeOf_spec,Value.tuple.sizeOf_spec];omega
noncomputable def seen (j:aJ) (v':Value):Value:=if aw v' then v' else Classical.choose (Qn j v')
theorem Jd (j:aJ) (v':Value):VR j (seen j v') v':=by
 unfold seen
 split
 ·rename_i h; exact .aw h
 ·exact Classical.choose_spec (Qn j v')
theorem AR {j:aJ} {v':Value} (h:aw v'=true):seen j v'=v':=by unfold seen; rw[if_pos h]
def gO (W:World):aJ:=fun b=>if b<W.heap.size then some ⟨b,none⟩ else none
noncomputable def eZ (W:World):AMem:={ next:=W.heap.size,wl:=W.heap.size,objs:=.nil,base:=fun b=>match W.heap[b]? with
 | some (.cells c _ _)=>some (.cells (c.toList.map (seen (gO W))) .ro)
 | _=>none}
theorem sB (W:World) (b:Nat):(eZ W).get b=match W.heap[b]? with
 | some (.cells c _ _)=>some (.cells (c.toList.map (seen (gO W))) .ro)
 | _=>none:=by
 simp[AMem.get,eZ,Heap.get_nil]
theorem nG {W:World} {b:Nat} {c:Array Value} {t:TypeId} {fz:Nat × Nat} (h:W.heap[b]? = some (.cells c t fz)):(eZ W).get b=some (.cells (c.toList.map (seen (gO W))) .ro):=by
 rw[sB,h]
theorem Mk {E:Env} {W:World} (hg:E.glob≤W.heap.size):MR E (gO W) (eZ W) W:=by
 have hj:∀b k,gO W b=some k→b<W.heap.size∧k=⟨b,none⟩:=by
  intro b k h;unfold gO at h
  split at h
  ·rename_i hb; cases h; exact⟨hb,rfl⟩
  ·cases h
 refine⟨fun b k h=>?_,fun b o k ho h=>?_,fun b b' k k' h h' _ _ hc=>?_,fun g hgl=>?_⟩
 ·obtain⟨h1,rfl⟩:=hj b k h;exact⟨h1,h1⟩
 ·obtain⟨h1,rfl⟩:=hj b k h;rw[sB] at ho
  split at ho
  ·rename_i c t fz hc;cases ho;refine⟨_,hc,⟨rfl,by simp⟩,fun i v hi=>?_⟩
   rw[List.getElem?_map] at hi;obtain⟨x,hx,rfl⟩:=Option.map_eq_some_iff.1 hi;exact⟨x,by simpa using hx,Jd _ _⟩
  ·cases ho
 ·obtain⟨_,rfl⟩:=hj b k h;obtain⟨_,rfl⟩:=hj b' k' h';exact hc
 ·unfold gO;rw[if_pos (by omega)]
inductive Lf where
 | int (k:IntKind)
 | bool
 | sl (e:TypeId)
 deriving DecidableEq
def CL (G7:TypeId→Option (List Lf)) (P:Program):List Field→Nat→Option (List Lf)
 | [],_=>some []
 | f::fs,off=>match G7 f.type,CL G7 P fs (off+P.cellsOf f.type) with
  | some l,some r=>if f.offset=off∧l.length=P.cellsOf f.type then some (l++r) else none
  | _,_=>none
def G7 (P:Program):Nat→TypeId→Option (List Lf)
 | 0,_=>none
 | d+1,t=>match P.underlying t with
  | some (.int k)=>some [.int k]
  | some .bool=>some [.bool]
  | some (.slice e)=>some [.sl e]
  | some (.array n e)=>match G7 P d e with
   | some l=>if l.length=P.cellsOf e∧P.cellsOf t=n*P.cellsOf e then some (List.replicate n l).flatten else none
   | none=>none
  | some (.struct fs)=>match CL (G7 P d) P fs.toList 0 with
   | some l=>if l.length=P.cellsOf t then some l else none
   | none=>none
  | _=>none
def sM {H:Type} (enc:TypeId × Value→H) (P:Program) (W:World) (base:Nat) (sp:Nat→Bool) (held:Bool):Lf→Value→Prop
 | .int k,v=>∃n,v = .int k n∧(Lit.int k n).wf=true
 | .bool,v=>∃b,v = .bool b
 | .sl e,v=>(v = .slice none 0 0)∨∃(a:Addr) (len cap:Nat) (n:Nat),v = .slice (some a) len cap∧len≤cap∧cap≤maxLen∧base≤a.block ∧
   ∀i,i<len→∃cs x,W.cells? base (a.add (i*P.cellsOf e)) (P.cellsOf e)=some cs∧DataW.trod enc P W base sp held n e cs=some x
inductive All2 {α β:Type} (R:α→β→Prop):List α→List β→Prop
 | nil:All2 R [] []
 | cons {a:α} {b:β} {l:List α} {r:List β} (h:R a b) (t:All2 R l r):All2 R (a::l) (b::r)
theorem All2.length {α β:Type} {R:α→β→Prop} {l:List α} {r:List β} (h:All2 R l r):l.length=r.length:=by
 induction h with
 | nil=>rfl
 | cons _ _ ih=>simp[ih]
theorem All2.append {α β:Type} {R:α→β→Prop} {l l':List α} {r r':List β} (h:All2 R l r) (h':All2 R l' r'):All2 R (l++l') (r++r'):=by
 induction h with
 | nil=>exact h'
 | cons h _ ih=>exact .cons h ih
theorem All2.mono {α β:Type} {R S:α→β→Prop} (hRS:∀a b,R a b→S a b) {l:List α} {r:List β} (h:All2 R l r):All2 S l r:=by
 induction h with
 | nil=>exact .nil
 | cons h _ ih=>exact .cons (hRS _ _ h) ih
section
variable {H : Type} {enc : TypeId × Value → H} {P : Program} {W : World} {base : Nat} {sp : Nat → Bool} {held : Bool}
theorem tS {R:Lf→Value→Prop} {l:List Lf}:∀(n w:Nat) (cs:List Value),cs.length=n*w→(∀i,i<n→All2 R l ((cs.drop (i*w)).take w))→All2 R (List.replicate n l).flatten cs
 | 0,w,cs,hl,_=>by
  have:cs = []:=List.length_eq_zero_iff.1 (by simpa using hl)
  subst this; exact .nil
 | n+1,w,cs,hl,h=>by
  rw[List.replicate_succ,List.flatten_cons];have h0:=h 0 (by omega)
  simp only[Nat.zero_mul,List.drop_zero] at h0;have hw:w≤cs.length:=by rw[hl,Nat.add_mul]; omega
  rw[←List.take_append_drop w cs];refine All2.append h0 (tS n w _ (by rw[List.length_drop,hl,Nat.add_mul]; omega) fun i hi=>?_)
  have:=h (i+1) (by omega)
  rw[List.drop_drop];have e:w+i*w=(i+1)*w:=by rw[Nat.add_mul]; omega
  rw[e]; exact this
theorem yr:∀(d:Nat) (t:TypeId) (L:List Lf),G7 P d t=some L→∀(n:Nat) (cs:List Value) (x:DataW H × List MemPlace),DataW.trod enc P W base sp held n t cs=some x→All2 (sM enc P W base sp held) L cs:=by
 intro d
 induction d with
 | zero=>intro t L h; cases h
 | succ d ih =>
  intro t L hL n cs x hx;unfold G7 at hL
  split at hL
  ·rename_i k hu;cases hL;obtain⟨m,rfl,_,hwf⟩:=DataW.trod_int hu hx;exact .cons ⟨m,rfl,hwf⟩ .nil
  ·rename_i hu;cases hL;obtain⟨b,rfl,_⟩:=DataW.trod_bool hu hx;exact .cons ⟨b,rfl⟩ .nil
  ·rename_i e hu;cases hL;rcases DataW.trod_slice hu hx with⟨rfl,_⟩|⟨a,len,cap,elems,rest,m,rfl,rfl,_,hb,h1,h2,h3,h4,_⟩
   ·exact .cons (.inl rfl) .nil
   ·refine .cons (.inr ⟨a,len,cap,m,rfl,h1,h2,hb,fun i hi=>?_⟩) .nil;have:=h4 i hi;have hi':i<elems.length:=by omega
    rw[List.getElem?_eq_getElem hi'] at this;obtain⟨cs,h5,h6⟩:=Option.bind_eq_some_iff.1 this;exact⟨cs,_,h5,h6⟩
  ·rename_i m e hu
   split at hL
   ·rename_i l hl
    split at hL
    ·rename_i hc;cases hL;obtain⟨xs,m',rfl,_,hcl,hxl,hel⟩:=DataW.trod_array hu hx;refine tS m (P.cellsOf e) cs (hcl.trans hc.2) fun i hi=>?_;have:=hel i hi;rw[List.getElem?_eq_getElem (by omega)] at this
     exact ih e l hl m' _ _ this
    ·cases hL
   ·cases hL
  ·rename_i fs hu
   split at hL
   ·rename_i l hl
    split at hL
    ·rename_i hc;cases hL;obtain⟨xs,m',rfl,_,hcl,hxl,hel⟩:=DataW.trod_struct hu hx;have hfield:∀f ∈ fs.toList,∃y,DataW.trod enc P W base sp held m' f.type ((cs.drop f.offset).take (P.cellsOf f.type))=some y:=by
      intro f hf;obtain⟨i,hi,hif⟩:=List.getElem_of_mem hf;have hi':i<fs.size:=by simpa using hi
      have:=hel i f (by rw[←hif]; simp[hi'])
      rw[List.getElem?_eq_getElem (by omega)] at this
      exact⟨_,this⟩
     have key:∀(l1:List Field) (off:Nat) (r:List Lf),CL (G7 P d) P l1 off=some r→(∀f ∈ l1,∃y,DataW.trod enc P W base sp held m' f.type ((cs.drop f.offset).take (P.cellsOf f.type))=some y)→All2 (sM enc P W base sp held) r ((cs.drop off).take r.length):=by
      intro l1
      induction l1 with
      | nil=>intro off r hr _; cases hr; simp only[List.length_nil,List.take_zero]; exact .nil
      | cons f l1 ih1 =>
       intro off r hr hf;unfold CL at hr
       split at hr
       ·rename_i l2 r2 hl2 hr2
        split at hr
        ·rename_i ho;cases hr;obtain⟨y,hy⟩:=hf f (by simp)
         have h1:=ih f.type l2 hl2 m' _ _ hy;have h2:=ih1 _ _ hr2 fun g hg=>hf g (by simp[hg])
         rw[ho.1,←ho.2] at h1;rw[←ho.2] at h2;have:=All2.append h1 h2;rw[List.length_append,List.take_add,List.drop_drop];exact this
        ·cases hr
       ·cases hr
     have:=key fs.toList 0 _ hl hfield;rw[List.drop_zero,hc,←hcl,List.take_length] at this;exact this
    ·cases hL
   ·cases hL
  ·cases hL
end
end Go.Ab
end

section
namespace Go.Ab
open Go Go.Ab.W Go.ChangeShapes Go.WideShapes Go.RowKit
section
variable {H : Type} {enc : TypeId × Value → H} {P : Program} {W : World} {sp : Nat → Bool} {held : Bool}
theorem zp {a:Addr} (h:a.spot=none) (n:Nat):a.add n=⟨a.block,a.off+n,none⟩:=by
 unfold Addr.add
 split
 ·rename_i e; subst e; cases a; cases h; rfl
 ·rfl
theorem pB {W:World} {a:Addr} {v:Value} (h:W.cell? a=some v):a.spot=none∧∃c t fz,W.heap[a.block]? = some (.cells c t fz)∧c[a.off]? = some v:=by
 unfold World.cell? at h
 split at h
 ·rename_i c t fz hc
  split at h
  ·cases h
  ·rename_i hs;refine⟨by simpa using hs,c,t,fz,hc,h⟩
 ·cases h
theorem Nw {α:Type} {f:α→List Value} {R:α→Prop} {e w:Nat} (hw:P.cellsOf e=w) (hw0:0<w) (hsz:0<W.heap.size) (hf:∀p,(f p).all aw=true)
  (hdec:∀n cs x,DataW.trod enc P W 0 sp held n e cs=some x→∃p,cs=f p∧R p) {v:Value} (h:sM enc P W 0 sp held (.sl e) v) :
  ∃(a:Option Addr) (cap:Nat) (l:List α),VR (gO W) (.slice a l.length cap) v∧Rd (eZ W) a cap w l.length (l.map f)∧(∀p ∈ l,R p)∧l.length≤maxLen:=by
 rcases h with rfl|⟨a,len,cap,n,rfl,h1,h2,_,h3⟩
 ·exact⟨none,0,[],.snil 0 0,Rd.nil _ _,fun p hp=>(by cases hp),Nat.zero_le _⟩
 ·by_cases h0:len=0
  ·subst h0;exact⟨some ⟨0,0,some 0⟩,0,[],.gP,⟨rfl,Nat.le_refl _,.inr (.inl ⟨0,0,rfl,rfl,rfl,hsz⟩)⟩,fun p hp=>(by cases hp),Nat.zero_le _⟩
  ·rw[hw] at h3;have hg:∀i:Fin len,∃p,W.cells? 0 (a.add (i.1*w)) w=some (f p)∧R p:=by
    intro i;obtain⟨cs,x,h4,h5⟩:=h3 i.1 i.2;obtain⟨p,rfl,hR⟩:=hdec _ _ _ h5;exact⟨p,h4,hR⟩
   obtain⟨g,hg⟩:∃g:Fin len→α,∀i,W.cells? 0 (a.add (i.1*w)) w=some (f (g i))∧R (g i):=⟨fun i=>Classical.choose (hg i),fun i=>Classical.choose_spec (hg i)⟩;have hat:∀(i:Fin len) (k:Nat),k<w→W.cell? ((a.add (i.1*w)).add k)=(f (g i))[k]?:=fun i k hk=>(World.cells?_some (hg i).1).2.2 k hk;have hfl:∀i,(f (g i)).length=w:=fun i=>(World.cells?_some (hg i).1).2.1;have hsm:∀(i:Fin len) (k:Nat),k<w→∃x,(f (g i))[k]? = some x:=fun i k hk=>⟨_,List.getElem?_eq_getElem (by rw[hfl]; exact hk)⟩
   have hspot:a.spot=none:=by
    obtain⟨x,hx⟩:=hsm ⟨0,by omega⟩ 0 hw0
    have:=hat ⟨0,by omega⟩ 0 hw0
    rw[hx] at this;have:=(pB this).1
    simpa [Addr.add] using this
   obtain⟨c,t,fz,hc⟩:∃c t fz,W.heap[a.block]? = some (.cells c t fz):=by
    obtain⟨x,hx⟩:=hsm ⟨0,by omega⟩ 0 hw0
    have:=hat ⟨0,by omega⟩ 0 hw0
    rw[hx] at this;obtain⟨_,c,t,fz,hc,_⟩:=pB this;refine⟨c,t,fz,?_⟩
    simpa [Addr.add] using hc
   have hcell:∀(i:Fin len) (k:Nat),k<w→c[a.off+i.1*w+k]? = (f (g i))[k]?:=by
    intro i k hk;obtain⟨x,hx⟩:=hsm i k hk;have:=hat i k hk;rw[hx] at this;rw[hx];rw[zp hspot,zp rfl] at this;obtain⟨_,c',t',fz',hc',h6⟩:=pB this;rw[hc] at hc';cases hc';exact h6
   have hb:a.block<W.heap.size:=by
    rcases Nat.lt_or_ge a.block W.heap.size with h|h
    ·exact h
    ·rw[Array.getElem?_eq_none h] at hc; cases hc
   have ha:a=⟨a.block,a.off,none⟩:=by cases a; cases hspot; rfl
   refine⟨some a,cap,List.ofFn g,?_,?_,fun p hp=>?_,?_⟩
   ·rw[List.length_ofFn,ha];exact .slice (k:=⟨a.block,none⟩) (by unfold gO; rw[if_pos hb]) rfl
   ·refine⟨by simp,by simpa using h1,.inr (.inr ⟨a.block,a.off,by rw[←ha],hb,_,_,nG hc,fun sz e=>(by cases e),fun i e he=>?_⟩)⟩
    rw[List.getElem?_map] at he;obtain⟨p,hp,rfl⟩:=Option.map_eq_some_iff.1 he;have hi:i<len:=by
     have:=(List.getElem?_eq_some_iff.1 hp).1
     simpa using this
    have hpg:p=g ⟨i,hi⟩:=by
     rw[List.getElem?_ofFn] at hp;simp[hi] at hp;exact hp.symm
    subst hpg;refine⟨?_,hfl _⟩;apply List.ext_getElem?;intro k
    by_cases hk:k<w
    ·rw[List.getElem?_take_of_lt hk,List.getElem?_drop,List.getElem?_map];have h7:=hcell ⟨i,hi⟩ k hk;obtain⟨x,hx⟩:=hsm ⟨i,hi⟩ k hk;rw[hx] at h7 ⊢;have h8:c.toList[a.off+i*w+k]? = some x:=by simpa using h7
     rw[h8];simp only[Option.map_some];rw[AR (List.all_eq_true.1 (hf _) x (List.mem_of_getElem? hx))]
    ·rw[List.getElem?_eq_none (by rw[List.length_take]; omega),List.getElem?_eq_none (by rw[hfl]; omega)]
   ·obtain⟨i,hi,rfl⟩:=List.getElem_of_mem hp;simp only[List.getElem_ofFn];exact(hg _).2
   ·rw[List.length_ofFn]; omega
theorem wD {base:Nat} {v:Value} (h:sM enc P W base sp held (.int .u8) v):∃n:Nat,v = .int .u8 (n:Int)∧n<256:=by
 obtain⟨n,rfl,hw⟩:=h;have:=bounds_u8 hw;exact⟨n.toNat,by rw[Int.toNat_of_nonneg this.1],by omega⟩
theorem KK {base:Nat} {v:Value} (h:sM enc P W base sp held (.int .u16) v):∃n:Nat,v = .int .u16 (n:Int)∧n<65536:=by
 obtain⟨n,rfl,hw⟩:=h;have:=bounds_u16 hw;exact⟨n.toNat,by rw[Int.toNat_of_nonneg this.1],by omega⟩
theorem J2 {base:Nat} {v:Value} (h:sM enc P W base sp held (.int .u64) v):∃n:Nat,v = .int .u64 (n:Int)∧n<2 ^ 64:=by
 obtain⟨n,rfl,hw⟩:=h;have:=bounds_u64 hw;exact⟨n.toNat,by rw[Int.toNat_of_nonneg this.1],by omega⟩
theorem hY {α β:Type} {R:α→β→Prop} {a:α} {l:List α} {r:List β} (h:All2 R (a::l) r):∃b r',r=b::r'∧R a b∧All2 R l r':=by
 cases h with
 | cons h t=>exact⟨_,_,rfl,h,t⟩
theorem Al {α β:Type} {R:α→β→Prop} {r:List β} (h:All2 R [] r):r = []:=by cases h; rfl
theorem Bw {base d t n:Nat} {cs:Array Value} {L:List Lf} {x:DataW H × List MemPlace} (hl:G7 P d t=some L) (h:DataW.trod enc P W base sp held n t (Value.agg cs).cells.toList=some x):All2 (sM enc P W base sp held) L cs.toList:=yr d t L hl n _ x h
theorem M7 {j:aJ} {l:List Value} {cs:Array Value} (h:LR j l cs.toList):VR j (.agg l.toArray) (.agg cs):=.Ew (by simpa using h)
theorem mI {T:TypeId→Prop} (K:Kids P T) (hsz:∀{t e:TypeId},T t→P.underlying t=some (.slice e)→0<P.cellsOf e) {W':World} {sp':Nat→Bool}:∀{ts:List TypeId} {vs:List Value} {ds:List (DataW H)} {ps:List MemPlace},
  (∀t ∈ ts,T t)→DataW.TrodAll enc P W 0 (fun _=>true) true ts vs ds ps→(∀p ∈ ps,W.sameAt W' p)→(∀p ∈ ps,sp' p.block=true)→DataW.TrodAll enc P W' 0 sp' true ts vs ds ps
 | [],[],[],_,_,h,_,_=>h
 | t::ts,v::vs,d::ds,_,hT,⟨p,q,⟨n,hn⟩,hs,e⟩,h1,h2=>by
  subst e;refine⟨p,q,⟨n,DataW.trod_stays K hsz (fun h=>(by cases h)) (hT t (by simp)) hn (fun x hx=>h1 x (by simp[hx])) fun x hx=>h2 x (by simp[hx])⟩,mI K hsz (fun t' ht'=>hT t' (by simp[ht'])) hs (fun x hx=>h1 x (by simp[hx])) (fun x hx=>h2 x (by simp[hx])),rfl⟩
theorem D5 {w w':World} {p:MemPlace} (h:w'.heap[p.block]? = w.heap[p.block]?):w.sameAt w' p:=by
 cases p with
 | cell b o=>simp only[World.sameAt,World.cell?]; rw[show w'.heap[b]? = w.heap[b]? from h]
 | map b=>simp only[World.sameAt]; rw[show w'.heap[b]? = w.heap[b]? from h]
def sizedB (P:Program):Bool:=(List.range P.types.size).all fun t=>match P.underlying t with
 | some (.slice e)=>decide (0<P.cellsOf e)
 | _=>true
theorem EW (h:sizedB P=true) {t e:TypeId} (ht:t<P.types.size) (hu:P.underlying t=some (.slice e)):0<P.cellsOf e:=by
 have:=List.all_eq_true.1 h t (by simpa using ht)
 rw[hu] at this
 simpa using this
theorem HH {f:Func} {s:ChangeSpec} {W':World} {args:Array Value} {ds:List (DataW H)} {before:List MemPlace} {tb:TypeId} {fresh handsOn:Bool} (hlo:laidOutB P=true) (hm:mapsRowed P=true) (hsz:sizedB P=true)
  (hvars:s.vars = []) (hres:f.resultTypes.toList = [tb]) (hrs:f.resultTypes.size=1) (htb:P.underlying tb=some .bool) (hpt:∀t ∈ f.params.toList,t<P.types.size) (hfn:s.fn H ds = { results:=[.lit (.bool true)],args:=ds,vars:=[]})
  (hW:DataW.Whole enc P f.params.toList s.vars false W args.toList ds [] before) (hcalm:Calm W W') (hg:∀c,c<W.heap.size→W'.heap[c]? = W.heap[c]?) :
  s.post enc P f false fresh handsOn false W args (.bool true) W':=by
 have hW':=hW;obtain⟨p,q,hA,hV,rfl,_,_⟩:=hW;rw[hvars] at hV;obtain⟨_,rfl⟩:=trodVars_none hV;have hlt:=hW'.lt;refine⟨ds,[],_,[],p,[],hW',?_,?_,?_,p9 hcalm hg _,fun h=>by cases h⟩
 ·rw[List.append_nil,hfn,hres]
  show DataW.TrodAll enc P W' _ _ handsOn [tb] ((Value.bool true).resultList f.resultTypes.size) [.lit (.bool true)] []
  rw[hrs];exact trodAll_mk1 (shut_bool htb true)
 ·rw[List.append_nil,hfn];refine mI (kids_rows hlo hm) (fun ht hu=>EW hsz ht hu) hpt hA (fun x hx=>D5 (hg _ (hlt x (by simp[hx])))) fun x hx=>by
   have:=hlt x (by simp[hx])
   simpa using this
 ·rw[List.append_nil,hfn,hvars];exact rfl
end
end Go.Ab
end

section
namespace Go.Ab
open Go
def zA (x y c:Nat):Value:=.tuple #[.int .u64 (.ofNat ((x+y+c)%18446744073709551616)),.int .u64 (.ofNat ((x+y+c)/18446744073709551616))]
def w8 (x y c:Nat):Value:=.tuple #[.int .u64 (.ofNat ((x+18446744073709551616-y-c)%18446744073709551616)),.int .u64 (.ofNat (if x<y+c then 1 else 0))]
def ee (V:Nat→Nat→Nat→Value) (args:List Value) (m:AMem):Option (Value × AMem) :=
 match args with
 | [.int .u64 (.ofNat x),.int .u64 (.ofNat y),.int .u64 (.ofNat c)]=>if Nat.ble c 1 then some (V x y c,m) else none
 | _=>none
theorem tw {V:Nat→Nat→Nat→Value} {args:List Value} {m m':AMem} {v:Value} (h:ee V args m=some (v,m')) :
  ∃x y c:Nat,args = [.int .u64 x,.int .u64 y,.int .u64 c]∧c≤1∧v=V x y c∧m'=m:=by
 unfold ee at h
 split at h
 ·rename_i x y c
  split at h
  ·rename_i hc;cases h;exact⟨x,y,c,rfl,Nat.le_of_ble_eq_true hc,rfl,rfl⟩
  ·cases h
 ·cases h
section
variable {E : Env} {j : aJ} {m : AMem} {w : World}
theorem LR.JX:∀{l l':List Value},l.all Ab.aw=true→LR j l l'→l'=l:=by
 intro l
 induction l with
 | nil=>intro l' _ h; exact h.dy
 | cons v l ih =>
  intro l' hp h;obtain⟨v1,vs,rfl,h1,h2⟩:=h.cons_inv;rw[List.all_cons,Bool.and_eq_true] at hp;rw[dG hp.1 h1,ih hp.2 h2]
theorem nQ {V:Nat→Nat→Nat→Value} {f:FuncId} (hV:∀x y c,bw (V x y c)=true) (hrun:∀(x y c:Nat) (w:World),c≤1→(callFunc f #[.int .u64 x,.int .u64 y,.int .u64 c]).run E.P w = .ok (.value (V x y c)) w) (hpr:(E.cV f).isSome=true)
  {args args':List Value} {v:Value} {m':AMem} (he:ee V args m=some (v,m')) (h:MR E j m w) (hl:LR j args args') :
  ir E.P (E.cV f).isSome f args'.toArray w (jI E j m w v m'):=by
 obtain⟨x,y,c,rfl,hc,rfl,rfl⟩:=tw he;rw[LR.JX rfl hl];exact .inr ⟨hpr,V x y c,w,hrun x y c w hc,j,.refl h,.bw (hV x y c)⟩
end
theorem As (x y c:Nat):bw (zA x y c)=true:=rfl
theorem Bu (x y c:Nat):bw (w8 x y c)=true:=rfl
section
variable {P : Program} {f : FuncId} {fn : Func}
theorem KQ (hf : P.funcs[f]? = some fn) (hname : (fn.name == "runtime.NumGoroutine") = false) (hb : fn.body.isNone = true) (hn : Extern.findNext fn = none) (he : Extern.find fn = some add64Entry) (x y c : Nat) (w : World) (hc : c ≤ 1) :
  (callFunc f #[.int .u64 x,.int .u64 y,.int .u64 c]).run P w = .ok (.value (zA x y c)) w:=by
 rw[run_callFunc_extern hf hname hb hn he,run_add64 x y c (by omega) (by omega) (by omega) (by omega)]
 simp only[Result.andThen,zA]
 congr 5
theorem KB (hf : P.funcs[f]? = some fn) (hname : (fn.name == "runtime.NumGoroutine") = false) (hb : fn.body.isNone = true) (hn : Extern.findNext fn = none) (he : Extern.find fn = some Go.Proofs.sub64Entry) (x y c : Nat) (w : World) (hc : c ≤ 1) :
  (callFunc f #[.int .u64 x,.int .u64 y,.int .u64 c]).run P w = .ok (.value (w8 x y c)) w:=by
 rw[run_callFunc_extern hf hname hb hn he,Go.Proofs.run_sub64 x y c hc]
 rfl
end
noncomputable def Jo (v:Value) (k:Nat→Bool):Bool:=me v fun kd z=>eh (ke kd .u64) (DQ z k false) false
theorem oY {v:Value} {k:Nat→Bool} (h:Jo v k=true):∃x:Nat,v = .int .u64 x∧k x=true:=by
 obtain⟨kd,z,rfl,h⟩:=cF h;obtain⟨h1,h⟩:=bz h;cases ei h1;rcases iq h with⟨x,rfl,h⟩|h
 ·exact⟨x,rfl,h⟩
 ·cases h
noncomputable def vp (W:Nat→Nat→Nat→(Value→Bool)→Bool) (args:List Value) (m:AMem) (K:Value→AMem→Bool):Bool :=
 eh (Ip args 3) (zR 0 args fun a=>zR 1 args fun b=>zR 2 args fun d=>Jo a fun x=>Jo b fun y=>Jo d fun c=>eh (Nat.ble c 1) (W x y c fun v=>K v m) false) false
noncomputable def Ns (x y c:Nat) (k:Value→Bool):Bool:=fN ((x+y+c)%18446744073709551616) fun s=>fN ((x+y+c)/18446744073709551616) fun d=>k (.tuple #[.int .u64 (.ofNat s),.int .u64 (.ofNat d)])
noncomputable def NO (x y c:Nat) (k:Value→Bool):Bool:=fN ((x+18446744073709551616-y-c)%18446744073709551616) fun s=>eh (Nat.blt x (y+c)) (k (.tuple #[.int .u64 (.ofNat s),.int .u64 (.ofNat 1)])) (k (.tuple #[.int .u64 (.ofNat s),.int .u64 (.ofNat 0)]))
theorem K8 (x y c:Nat) (k:Value→Bool):Ns x y c k=k (zA x y c):=by unfold Ns zA; rw[dp,dp]
theorem JK (x y c:Nat) (k:Value→Bool):NO x y c k=k (w8 x y c):=by
 unfold NO w8;rw[dp]
 by_cases h:x<y+c
 ·have:Nat.blt x (y+c)=true:=by rw[Nat.blt_eq]; exact h
  rw[this,if_pos h]; rfl
 ·have:Nat.blt x (y+c)=false:=by
   cases hb:Nat.blt x (y+c) with
   | false=>rfl
   | true=>rw[Nat.blt_eq] at hb; exact absurd hb h
  rw[this,if_neg h]; rfl
theorem ud {V:Nat→Nat→Nat→Value} {W:Nat→Nat→Nat→(Value→Bool)→Bool} (hW:∀x y c k,W x y c k=k (V x y c)) {args:List Value} {m:AMem} {K:Value→AMem→Bool} (h:vp W args m K=true):∃v m',ee V args m=some (v,m')∧K v m'=true:=by
 unfold vp at h;obtain⟨hl,h⟩:=bz h;obtain⟨a,ha,h⟩:=fS h;obtain⟨b,hb,h⟩:=fS h;obtain⟨d,hd,h⟩:=fS h;obtain⟨x,ea,h⟩:=oY h;obtain⟨y,eb,h⟩:=oY h;obtain⟨c,ed,h⟩:=oY h;rw[ea] at ha; rw[eb] at hb; rw[ed] at hd;obtain⟨hc,h⟩:=bz h;rw[hW] at h;have hargs:args = [.int .u64 x,.int .u64 y,.int .u64 c]:=by
  have:=lU hl
  match args,this,ha,hb,hd with
  | [p,q,r],_,ha,hb,hd=>cases ha; cases hb; cases hd; rfl
 refine⟨_,_,?_,h⟩;rw[hargs]
 show(if Nat.ble c 1 then some (V x y c,m) else none)=_
 rw[hc]; rfl
end Go.Ab
end

section
namespace Go.Proofs.YtookeaakpiefjaaGreatDoor
open Go.ChangeShapes Go.WideShapes Go.ChangeAt Go.WideMaps Go.WideElems Go.RowKit Go.Ab
theorem OG:ownKnob Tryz.prog.godebug=none:=by kernel_rfl
theorem Q3 : Tryz.prog.globalNamed "math/bits.deBruijn64tab" = some 0 := by kernel_rfl
def eU:List Int:=[0,1,56,2,57,49,28,3,61,58,42,50,38,29,17,4,62,47,59,36,45,43,51,22,53,39,33,30,24,18,12,5,63,55,48,27,60,41,37,16,46,35,44,21,52,32,23,11,54,26,40,15,34,20,31,10,25,14,19,9,13,8,7,6]
abbrev rN : List (String × DataW Unit) := [("math/bits.deBruijn64tab", Rows.laid_math_bits_deBruijn64tab)]
def yH:Nat→Option (List Value):=fun b=>if b=0 then some (eU.map (.int .u8)) else none
def Rh:AMem:=EE 1 yH
def K1 (f:FuncId):Option Prim:=if f=155 then some ⟨ee zA⟩ else if f=148 then some ⟨ee w8⟩ else none
noncomputable def qI:Env:={ P:=Tryz.prog,glob:=1,cV:=K1}
theorem Fc:Ao Tryz.prog=true:=by kernel_rfl
theorem FU:EnvOk qI:=Hu Fc fun f p hp args m v m' hrun j w args' hm hl=>by
 have hp':K1 f=some p:=hp;unfold K1 at hp'
 split at hp'
 ·rename_i hf;subst hf;cases hp';exact nQ (E:=qI) As (fun x y c w hc=>KQ Tryz.func155 (by kernel_rfl) (by kernel_rfl) (by kernel_rfl) (by kernel_rfl) x y c w hc) rfl hrun hm hl
 ·split at hp'
  ·rename_i hf;subst hf;cases hp';exact nQ (E:=qI) Bu (fun x y c w hc=>KB Tryz.func148 (by kernel_rfl) (by kernel_rfl) (by kernel_rfl) (by kernel_rfl) x y c w hc) rfl hrun hm hl
  ·cases hp'
theorem AV (os:Os) (args:Array Value):laidMetH Tryz.prog rN ((World.doorLaid Tryz.prog 400 os).forCall (fun _ _=>0) ⟨#[],args,[]⟩).memory :=
 laidMetH_of_parts3 (fuel:=8) (laidMet_of_run' 8 (by kernel_rfl) (by kernel_rfl)) (by kernel_rfl) (by kernel_rfl)
noncomputable def wS (f:FuncId):Option PSem:=if f=155 then some ⟨vp Ns⟩ else if f=148 then some ⟨vp NO⟩ else none
theorem EX:O8 qI wS:=by
 intro f S hS;unfold wS at hS
 split at hS
 ·rename_i e; cases hS; subst e;exact⟨⟨ee zA⟩,rfl,fun h=>ud K8 h⟩
 ·split at hS
  ·rename_i e; cases hS; subst e;exact⟨⟨ee w8⟩,rfl,fun h=>ud JK h⟩
  ·cases hS
end Go.Proofs.YtookeaakpiefjaaGreatDoor
end

section
namespace Go.Proofs.YtookeaakpiefjaaGreatDoor
open Go Go.Ab
set_option maxRecDepth 100000
set_option maxHeartbeats 0 in
theorem AY:(hand qI wS 1000).call 8 [] Rh (PB 1)=true:=by decide +kernel
end Go.Proofs.YtookeaakpiefjaaGreatDoor
end

section
namespace Go.Ab
open Go
section
variable {E : Env} {j j2 j3 : aJ} {m m3 : AMem} {w w3 : World}
theorem zJ (h:MR E j m w) {b sz:Nat} {k:Blk} (hk:j b=some k) {cs:List Value} (hg:m.get b=some (.cells cs (.more sz))) (hp:cs.all aw=true) :
  ∃zs:List Value,zs.all aw=true∧k.more=some (sz,cs.length,cs.length+zs.length)∧0<sz∧Sim E j m w (j.set m.next ⟨k.c,none⟩) ((m.kill b).alloc (.cells (cs++zs) .own)) w:=by
 obtain⟨c,e,fz,h1,h2,h3⟩:=h.lR hk hg;obtain⟨c4,c5,rfl,c6,c7⟩:k.more=some (sz,cs.length,c.size)∧cs.length≤c.size∧fz=(0,0)∧0<sz∧oL cs.length c:=h2;have hl:(cs++c.toList.drop cs.length).length=c.size:=by simp; omega
 refine⟨c.toList.drop cs.length,List.all_eq_true.2 fun v hv=>?_,by rw[c4]; simp; omega,c6,?_⟩
 ·obtain⟨i,hi⟩:=List.mem_iff_getElem?.1 hv;rw[List.getElem?_drop] at hi;exact c7 (cs.length+i) v (by omega) (by simpa using hi)
 ·have ho:OR j ⟨k.c,none⟩ (.cells (cs++c.toList.drop cs.length) .own) (.cells c e (0,0)):=by
   refine⟨⟨rfl,hl.symm,rfl⟩,fun i v hi=>?_⟩
   by_cases hlt:i<cs.length
   ·rw[List.getElem?_append_left hlt] at hi;exact h3 i v hi
   ·rw[List.getElem?_append_right (by omega),List.getElem?_drop] at hi
    have hi':c[i]? = some v:=by rw[show cs.length+(i-cs.length)=i by omega] at hi; simpa using hi
    exact⟨v,hi',.aw (c7 i v (by omega) hi')⟩
  have s:=mS h hk (by rw[hg]; rfl) ho
  rwa[jg h1] at s
theorem Ej (h:MR E j m w) {b:Nat} {k:Blk} (hk:j b=some k) {cs:List Value} (hg:m.get b=some (.cells cs .own)) (hp:cs.all aw=true) :
  Sim E j m w (j.set m.next ⟨k.c,none⟩) ((m.kill b).alloc (.cells cs .own)) w:=by
 obtain⟨c,e,fz,h1,h2,h3⟩:=h.lR hk hg;obtain⟨c4,c5,rfl⟩:k.more=none∧c.size=cs.length∧fz=(0,0):=h2;have s:=mS h hk (by rw[hg]; rfl) (mo:=none) (show OR j ⟨k.c,none⟩ (.cells cs .own) (.cells c e (0,0)) from⟨⟨rfl,c5,rfl⟩,h3⟩)
 rwa[jg h1] at s
theorem Sim.QB (h:MR E j m w) {b:Nat} {k:Blk} (hk:j b=some k) (hl:(m.get b).isSome=true) {ao:AObj}
  (s:Sim E (j.set m.next ⟨k.c,none⟩) { (m.kill b).alloc ao with wl:=m.next} w j3 m3 w3) (hw:m.next≤m3.wl) {b3:Nat} {k3 k':Blk} (hb:m.next≤b3) (hk3:j3 b3=some k3) (hl3:(m3.get b3).isSome=true) (hc:k'.c=k3.c)
  {no:AObj} (hor:∀o',w3.heap[k3.c]? = some o'→OR (j.set m.next k') k' no o') :
  Sim E j m w (j.set m.next k') ((m.kill b).alloc no) w3:=by
 have hn:j m.next=none:=h.pt
 have hbn:b<m.next:=(h.lt b k hk).1
 have hle:j.le (j.set m.next k'):=aJ.vT _ hn
 have hget:∀x,((m.kill b).alloc no).get x=if x=m.next then some no else if x=b then none else m.get x:=by
  intro x; rw[AMem.bF,AMem.eJ]; rfl
 have hget2:∀x,({ (m.kill b).alloc ao with wl:=m.next}:AMem).get x=if x=m.next then some ao else if x=b then none else m.get x:=by
  intro x
  show((m.kill b).alloc ao).get x=_
  rw[AMem.bF,AMem.eJ]; rfl
 have hj2:∀{x kx},x<m.next→j x=some kx→(j.set m.next ⟨k.c,none⟩) x=some kx:=fun hx e=>by rw[aJ.bZ _ _ (by omega)]; exact e
 have hframe:∀c,c<w.heap.size→c≠k.c→w3.heap[c]? = w.heap[c]?:=fun c hcs hcne=>by
  refine s.frame c hcs fun b' k'' e _ ec=>?_
  by_cases hb':b'=m.next
  ·subst hb'; rw[aJ.cf] at e; cases e; exact absurd ec.symm hcne
  ·rw[aJ.bZ _ _ hb'] at e;exact Nat.lt_of_lt_of_le (h.lt b' k'' e).1 hw
 have hsame3:∀x,x<m.next→x≠b→m3.get x=m.get x:=fun x hx hxb=>by
  have:=s.ext.same x (Nat.lt_succ_of_lt hx) (Nat.lt_of_lt_of_le hx hw);rw[this,hget2,if_neg (by omega),if_neg hxb]
 have hk3lt:=s.mr.lt b3 k3 hk3;refine⟨(AExt.kill m b).trans (AExt.alloc _ no),hle,?_,⟨?_,?_,?_,fun g hg=>hle _ _ (h.glob g hg)⟩,s.size,rO,?_,?_,?_,s.calm⟩
 ·intro x kx hx hnx
  by_cases e:x=m.next
  ·exact Nat.le_of_eq e.symm
  ·rw[aJ.bZ _ _ e,hnx] at hx; cases hx
 ·intro x kx hx
  by_cases e:x=m.next
  ·subst e; rw[aJ.cf] at hx; cases hx;exact⟨Nat.lt_succ_self _,by rw[hc]; exact hk3lt.2⟩
  ·rw[aJ.bZ _ _ e] at hx;have:=h.lt x kx hx;exact⟨Nat.lt_succ_of_lt this.1,Nat.lt_of_lt_of_le this.2 s.size⟩
 ·intro x o kx hg hx;rw[hget] at hg
  by_cases e:x=m.next
  ·subst e;rw[aJ.cf] at hx; cases hx;rw[if_pos rfl] at hg; cases hg;obtain⟨o3,hg3⟩:=Option.isSome_iff_exists.1 hl3;obtain⟨o',h1,_⟩:=s.mr.obj b3 o3 k3 hg3 hk3;exact⟨o',by rw[hc]; exact h1,hor o' h1⟩
  ·rw[aJ.bZ _ _ e] at hx;rw[if_neg e] at hg
   split at hg
   ·cases hg
   ·rename_i hxb;obtain⟨o',h1,h2⟩:=h.obj x o kx hg hx;refine⟨o',?_,h2.mono hle⟩;rw[hframe kx.c (h.lt x kx hx).2 fun hcc=>hxb (h.inj x b kx k hx hk (by rw[hg]; rfl) hl hcc)]
    exact h1
 ·have old:∀{x kx},j x=some kx→(m.get x).isSome=true→x≠b→kx.c≠k'.c:=fun {x kx} e hlx hxb hcc=>by
   have hlt:=(h.lt x kx e).1;have:=s.mr.inj x b3 kx k3 (s.le x kx (hj2 hlt e)) hk3 (by rw[hsame3 x hlt hxb]; exact hlx) hl3 (by rw[hcc,hc])
   omega
  intro x x' k1 k2 hx hx' hl1 hl2 hcc;rw[hget] at hl1 hl2
  by_cases e:x=m.next<;>by_cases e':x'=m.next
  ·rw[e,e']
  ·subst e;rw[aJ.cf] at hx; cases hx;rw[aJ.bZ _ _ e'] at hx';rw[if_neg e'] at hl2
   split at hl2
   ·cases hl2
   ·rename_i hxb;exact absurd hcc.symm (old hx' hl2 hxb)
  ·subst e';rw[aJ.cf] at hx'; cases hx';rw[aJ.bZ _ _ e] at hx;rw[if_neg e] at hl1
   split at hl1
   ·cases hl1
   ·rename_i hxb;exact absurd hcc (old hx hl1 hxb)
  ·rw[aJ.bZ _ _ e] at hx;rw[aJ.bZ _ _ e'] at hx';rw[if_neg e] at hl1;rw[if_neg e'] at hl2
   split at hl1
   ·cases hl1
   ·split at hl2
    ·cases hl2
    ·exact h.inj x x' k1 k2 hx hx' hl1 hl2 hcc
 ·intro x hx hnx;rw[hget,if_neg (by omega),if_neg]
  intro e; subst e; rw[hk] at hnx; cases hnx
 ·intro x kx hx hnx
  by_cases e:x=m.next
  ·subst e; rw[aJ.cf] at hx; cases hx;have hwl:((m.kill b).alloc no).wl≤b:=Nat.min_le_right _ _
   by_cases hb3:b3=m.next
   ·subst hb3;have:=s.le m.next _ (aJ.cf _ _ _)
    rw[hk3] at this; cases this;exact .inr ⟨b,k,hk,hl,by rw[hc],hwl⟩
   ·rcases s.fresh b3 k3 hk3 (by
     rw[aJ.bZ _ _ hb3];cases e:j b3 with
     | none=>rfl
     | some k=>have:=(h.lt b3 k e).1; omega) with hf|⟨b0,k0,a1,_,a3,a4⟩
    ·exact .inl (by rw[hc]; exact hf)
    ·by_cases hb0:b0=m.next
     ·subst hb0; rw[aJ.cf] at a1; cases a1;exact .inr ⟨b,k,hk,hl,by rw[hc]; exact a3,hwl⟩
     ·rw[aJ.bZ _ _ hb0] at a1;have:=(h.lt b0 k0 a1).1;omega
  ·rw[aJ.bZ _ _ e,hnx] at hx; cases hx
 ·intro c hcs hall;refine hframe c hcs fun e=>?_;have:=hall b k hk hl e.symm;have hwl:((m.kill b).alloc no).wl≤b:=Nat.min_le_right _ _;omega
def Hc (E:Env) (f:FuncId) (m:AMem) (b sz n:Nat) (cs:List Value) (rest:List Value) (n3:Nat) (new:List Value):Prop :=
 ∀(zs:List Value) (c:Nat),zs.all aw=true→n≤c→c*sz=cs.length+zs.length →
  aB E f (.slice (some ⟨m.next,0,none⟩) n c::rest) { (m.kill b).alloc (.cells (cs++zs) .own) with wl:=m.next} fun v m3 =>
   m.next≤m3.wl∧∃b3 c3 all tag,v = .slice (some ⟨b3,0,none⟩) n3 c3∧m.next≤b3∧m3.get b3=some (.cells (new++all) tag)∧all.all aw=true∧n3≤c3 ∧
    ((tag = .own∧c3*sz=new.length+all.length)∨(tag = .more sz∧all = []∧c3=n3))
theorem xE (hE:EnvOk E) {f:FuncId} {b sz n n1:Nat} {cs rest new:List Value} {tg:Tag} (hg:m.get b=some (.cells cs tg)) (htg:tg = .own∨tg = .more sz) (hsz:0<sz) (hcl:cs.length=n*sz) (hp:cs.all aw=true) (hn:new.length=n1*sz) (hpn:new.all aw=true)
  (hM:Hc E f m b sz n cs rest n1 new) {args':List Value} (h:MR E j m w) (hl:LR j (.slice (some ⟨b,0,none⟩) n n::rest) args') :
  ir E.P (E.cV f).isSome f args'.toArray w (jI E j m w (.slice (some ⟨m.next,0,none⟩) n1 n1) ((m.kill b).alloc (.cells new (.more sz)))):=by
 obtain⟨v0,vs,rfl,h10,hvs⟩:=hl.cons_inv;obtain⟨k,cap',zs,hj,rfl,hz,hcc,hce,s1⟩:∃(k:Blk) (cap':Nat) (zs:List Value),j b=some k∧v0 = .slice (some ⟨k.c,0,none⟩) n cap'∧zs.all aw=true∧n≤cap'∧cap'*sz=cs.length+zs.length ∧
   Sim E j m w (j.set m.next ⟨k.c,none⟩) ((m.kill b).alloc (.cells (cs++zs) .own)) w:=by
  cases h10 with
  | slice hj hm =>
   rename_i k;rcases htg with rfl|rfl
   ·exact⟨k,n,[],hj,rfl,rfl,Nat.le_refl _,by simp[hcl],by rw[List.append_nil]; exact Ej h hj hg hp⟩
   ·obtain⟨zs,_,h0,_⟩:=zJ h hj hg hp;rw[hm] at h0; cases h0
  | sliceM hj hm e1 e2 hlc hcc =>
   rename_i cap' sz' na nc k;rcases htg with rfl|rfl
   ·have h0:=h.kindOf hj hg;simp only at h0;rw[hm] at h0; cases h0
   ·obtain⟨zs,hz,hmm,_,s1⟩:=zJ h hj hg hp;rw[hm] at hmm;simp only[Option.some.injEq,Prod.mk.injEq] at hmm;obtain⟨rfl,rfl,rfl⟩:=hmm;exact⟨k,cap',zs,hj,rfl,hz,hcc,by omega,s1⟩
 obtain⟨v1,m3,⟨fu,hr⟩,hw,b0,c2,all,tag,rfl,h11,h3,hall,hnc,htag⟩:=hM zs cap' hz hcc hce;obtain⟨_,_,e,hs⟩:=qw hE fu _ _ hr;cases e;have h12:LR (j.set m.next ⟨k.c,none⟩) (.slice (some ⟨m.next,0,none⟩) n cap'::rest) (.slice (some ⟨k.c,0,none⟩) n cap'::vs) :=
  .cons (VR.slice (k:=⟨k.c,none⟩) (aJ.cf _ _ _) rfl) (hvs.mono s1.le)
 refine iX (fun hh=>hh) (hs _ w _ (s1.mr.ur (x:=m.next)) h12) ?_
 intro v' w' ⟨j',s2,hv⟩;have key:∀{k0:Blk} {c1:Nat},j' b0=some k0→(c1*sz=new.length+all.length∧tag = .own∨(∃n2,k0.more=some (sz,new.length,n2)∧c1*sz=n2)∧tag = .more sz∧all = [])→n1≤c1 →
   jI E j m w (.slice (some ⟨m.next,0,none⟩) n1 n1) ((m.kill b).alloc (.cells new (.more sz))) (.slice (some ⟨k0.c,0,none⟩) n1 c1) w':=by
  intro k0 c1 h8 hca h9;have hk':j'.le j':=.refl _;obtain⟨o1,h13,h4⟩:=s2.mr.obj b0 _ k0 h3 h8;cases o1 with
  | cells c3' e0 f0 =>
   have hsame:∀{o'},w'.heap[k0.c]? = some o'→o' = .cells c3' e0 f0:=fun e=>by rw[h13] at e; cases e; rfl
   have hsize:c1*sz=c3'.size∧f0=(0,0)∧oL new.length c3':=by
    rcases hca with⟨h1,rfl⟩|⟨⟨n2,h1,h0⟩,rfl,rfl⟩
    ·have ht:k0.more=none∧c3'.size=(new++all).length∧f0=(0,0):=h4.1;refine⟨by rw[h1,ht.2.1,List.length_append],ht.2.2,fun i v hi hv=>?_⟩
     have hlt:i<(new++all).length:=by rw[←ht.2.1]; exact(Array.getElem?_eq_some_iff.1 hv).1
     obtain⟨v',h6,h7⟩:=h4.2 i (new++all)[i] (List.getElem?_eq_getElem hlt);have hpv:aw (new++all)[i]=true:=by
      have:(new++all).all aw=true:=by rw[List.all_append,hpn,hall]; rfl
      exact List.all_eq_true.1 this _ (List.getElem_mem hlt)
     have:=dG hpv h7;rw[hv] at h6; cases h6;rw[this]; exact hpv
    ·have ht:k0.more=some (sz,(new++[]).length,c3'.size)∧(new++[]).length≤c3'.size∧f0=(0,0)∧0<sz∧oL (new++[]).length c3':=h4.1;rw[List.append_nil] at ht;rw[h1] at ht;have:=ht.1;simp only[Option.some.injEq,Prod.mk.injEq,true_and] at this;exact⟨by omega,ht.2.2.1,ht.2.2.2.2⟩
   have hles:new.length≤c3'.size:=by
    rw[←hsize.1,hn]; exact Nat.mul_le_mul_right _ h9
   refine⟨_,Sim.QB h hj (by rw[hg]; rfl) s2 hw h11 h8 (by rw[h3]; rfl) (k':=⟨k0.c,some (sz,n1*sz,c1*sz)⟩) rfl (no:=.cells new (.more sz)) ?_,
    VR.sliceM (k:=⟨k0.c,some (sz,n1*sz,c1*sz)⟩) (aJ.cf _ _ _) rfl rfl rfl (Nat.le_refl _) h9⟩
   intro o' ho';rw[hsame ho',hsize.2.1];refine⟨⟨by rw[hn,hsize.1],hles,rfl,hsz,hsize.2.2⟩,fun i v hi=>?_⟩
   obtain⟨v',h6,h7⟩:=h4.2 i v (by rw[List.getElem?_append_left (List.getElem?_eq_some_iff.1 hi).1]; exact hi)
   have hpv:=List.all_eq_true.1 hpn v (List.mem_of_getElem? hi);have:=dG hpv h7;subst this;exact⟨_,h6,.aw hpv⟩
  | _=>exact h4.elim
 cases hv with
 | slice h2 h5 =>
  rename_i k0;rcases htag with⟨rfl,h1⟩|⟨rfl,_,_⟩
  ·exact key h2 (.inl ⟨h1,rfl⟩) hnc
  ·have h0:=s2.mr.kindOf h2 h3;simp only at h0;obtain⟨_,h0,_⟩:=h0;rw[h5] at h0; cases h0
 | sliceM h2 h5 f1 f2 h14 h15 =>
  rcases htag with⟨rfl,h1⟩|⟨rfl,rfl,rfl⟩
  ·have:=s2.mr.kindOf h2 h3;simp only at this;rw[h5] at this; cases this
  ·have h0:=s2.mr.kindOf h2 h3;simp only at h0;obtain⟨_,h0,_⟩:=h0;rw[h5] at h0;simp only[Option.some.injEq,Prod.mk.injEq] at h0;obtain⟨rfl,h0,rfl⟩:=h0;rw[List.append_nil] at h0;exact key h2 (.inr ⟨⟨_,by rw[h5,h0],by omega⟩,rfl,rfl⟩) (by omega)
end
end Go.Ab
end

section
namespace Go.Ab.W
open Go Go.Ab
attribute [local irreducible] Tm.at Trie.set Trie.get AMem.get AMem.set AMem.alloc AMem.ww AMem.kill
section
variable {E : Env} {n : Nat} {m0 : AMem} {fs : Fs} {ps ps' : List Pc} {ops : Array Oper} {os : List Oper} {K : Tm → AMem → Prop} {prs : List (Nat × Nat)}
variable {ty : TypeId} {p : String} {af : Array Edge} {d : Nat} {o : Op} {g : Option (Nat × Bool)} {v : Value}
inductive Nk
 | any
 | call
 | rd (b:Nat)
 | wr (b:Nat)
 | low (b:Nat)
 | kp (l:List Nat)
def Nk.of:Nk→Note→Prop
 | .any,_=>True
 | .call,x=>x.next≤x.wl
 | .rd b,x=>x.read=some b
 | .wr b,x=>x.wrote=some b
 | .low b,x=>b<x.wl
 | .kp l,x=>∀b ∈ l,x.kept b=true
def NR:List Nk→List Note→Prop
 | [],[]=>True
 | b::bs,x::xs=>dh x=true∧b.of x∧NR bs xs
 | _,_=>False
theorem NR.at:∀{bs:List Nk} {ns:List Note} {i:Nat} {b:Nk},NR bs ns→bs[i]? = some b→∃x,ns[i]? = some x∧b.of x
 | b::bs,x::xs,0,c,h,e=>by simp only[List.getElem?_cons_zero,Option.some.injEq] at e; subst e; exact⟨x,rfl,h.2.1⟩
 | b::bs,x::xs,i+1,c,h,e=>by rw[List.getElem?_cons_succ] at e ⊢; exact NR.at h.2.2 e
 | [],[],i,c,h,e=>by simp at e
 | [],_::_,_,_,h,_=>h.elim
 | _::_,[],_,_,h,_=>h.elim
theorem NR.all:∀{bs:List Nk} {ns:List Note},NR bs ns→ns.all dh=true
 | [],[],_=>rfl
 | _::_,_::_,h=>by rw[List.all_cons,h.1,NR.all h.2.2]; rfl
 | [],_::_,h=>h.elim
 | _::_,[],h=>h.elim
theorem NR.snoc:∀{bs:List Nk} {ns:List Note} {b:Nk} {x:Note},NR bs ns→dh x=true→b.of x→NR (bs++[b]) (ns++[x])
 | [],[],_,_,_,h1,h2=>⟨h1,h2,trivial⟩
 | _::_,_::_,_,_,h,h1,h2=>⟨h.1,h.2.1,NR.snoc h.2.2 h1 h2⟩
 | [],_::_,_,_,h,_,_=>h.elim
 | _::_,[],_,_,h,_,_=>h.elim
def Nk.OA:Nk→Bool
 | .call=>true
 | _=>false
def Bh (ops:Array Oper) (ss:List Nk) (p:Nat × Nat):Prop :=
 match ss[p.1]?,ss[p.2]? with
  | some (.rd b),some (.wr b')=>b≠b'∧ay (ops.getD p.1 default).op=false
  | some (.wr b),some (.rd b')=>b'≠b∧ay (ops.getD p.2 default).op=false
  | some (.rd b),some (.low b')=>b≤b'∧ay (ops.getD p.1 default).op=false
  | some (.low b),some (.rd b')=>b'≤b∧ay (ops.getD p.2 default).op=false
  | some (.rd b),some (.kp l)=>b ∈ l∧ay (ops.getD p.1 default).op=false
  | some (.kp l),some (.rd b)=>b ∈ l∧ay (ops.getD p.2 default).op=false
  | some a,some b=>((a.OA || !(ay (ops.getD p.1 default).op)) && (b.OA || !(ay (ops.getD p.2 default).op)))=true
  | _,_=>False
def cP (ops:Array Oper) (ss:List Nk):List (Nat × Nat)→Prop
 | []=>True
 | p::ps=>Bh ops ss p∧cP ops ss ps
def K0 (ops:Array Oper) (ss:List Nk):List (Nat × Nat)→Bool
 | []=>true
 | p::ps=>(match ss[p.1]?,ss[p.2]? with
  | some (.rd _),some (.wr _)=>false
  | some (.wr _),some (.rd _)=>false
  | some (.rd _),some (.low _)=>false
  | some (.low _),some (.rd _)=>false
  | some (.rd _),some (.kp _)=>false
  | some (.kp _),some (.rd _)=>false
  | some a,some b=>((a.OA || !(ay (ops.getD p.1 default).op)) && (b.OA || !(ay (ops.getD p.2 default).op)))
  | _,_=>false) && K0 ops ss ps
theorem cP.all {ops:Array Oper} {ss:List Nk}:∀{ps:List (Nat × Nat)},K0 ops ss ps=true→cP ops ss ps
 | [],_=>trivial
 | p::ps,h=>by
  simp only[K0,Bool.and_eq_true] at h;refine⟨?_,cP.all h.2⟩;have h1:=h.1;unfold Bh
  split at h1
  ·cases h1
  ·cases h1
  ·cases h1
  ·cases h1
  ·cases h1
  ·cases h1
  ·rename_i a b ha hb hn1 hn2;exact h1
  ·cases h1
theorem cP.nil {ops:Array Oper} {ss:List Nk}:cP ops ss []:=trivial
section
variable {ops : Array Oper} {ss : List Nk} {ps : List (Nat × Nat)} {i j b b' : Nat} {l : List Nat}
theorem cP.step (h:K0 ops ss [(i,j)]=true) (k:cP ops ss ps):cP ops ss ((i,j)::ps):=⟨(cP.all h).1,k⟩
theorem cP.rw (h1:ss[i]? = some (.rd b)) (h2:ss[j]? = some (.wr b')) (he:ay (ops.getD i default).op=false) (hne:b≠b') (k:cP ops ss ps):cP ops ss ((i,j)::ps):=by
 refine⟨?_,k⟩;simp only[Bh,h1,h2]; exact⟨hne,he⟩
theorem cP.wr (h1:ss[i]? = some (.wr b')) (h2:ss[j]? = some (.rd b)) (he:ay (ops.getD j default).op=false) (hne:b≠b') (k:cP ops ss ps):cP ops ss ((i,j)::ps):=by
 refine⟨?_,k⟩;simp only[Bh,h1,h2]; exact⟨hne,he⟩
theorem cP.rk (h1:ss[i]? = some (.rd b)) (h2:ss[j]? = some (.kp l)) (he:ay (ops.getD i default).op=false) (hm:b ∈ l) (k:cP ops ss ps):cP ops ss ((i,j)::ps):=by
 refine⟨?_,k⟩;simp only[Bh,h1,h2]; exact⟨hm,he⟩
theorem cP.kr (h1:ss[i]? = some (.kp l)) (h2:ss[j]? = some (.rd b)) (he:ay (ops.getD j default).op=false) (hm:b ∈ l) (k:cP ops ss ps):cP ops ss ((i,j)::ps):=by
 refine⟨?_,k⟩;simp only[Bh,h1,h2]; exact⟨hm,he⟩
end
theorem J9 {r e:Note} (h:e.next≤e.wl):Note.ok r e=true:=by
 unfold Note.ok
 split
 ·rfl
 ·rename_i b _
  by_cases hb:b<e.wl
  ·simp[hb]
  ·have:e.next≤b:=by omega
   simp[this]
theorem B8 {r e:Note} {b b':Nat} (h1:r.read=some b) (h2:e.wrote=some b') (hne:b≠b'):Note.ok r e=true:=by
 unfold Note.ok;rw[h1,h2];simp[hne]
theorem yL {r e:Note} {b b':Nat} (h1:r.read=some b) (h2:b'<e.wl) (hne:b≤b'):Note.ok r e=true:=by
 unfold Note.ok;rw[h1];simp[show b<e.wl by omega]
theorem Cr {r e:Note} {b:Nat} {l:List Nat} (h1:r.read=some b) (h2:∀b ∈ l,e.kept b=true) (hm:b ∈ l):Note.ok r e=true:=by
 unfold Note.ok;rw[h1];simp[h2 b hm]
theorem Nk.ok {a b:Nk} {x y:Note} (hx:a.of x) (hy:b.of y) (h:b.OA=true):Note.ok x y=true:=by
 cases b with
 | call=>exact J9 hy
 | _=>cases h
theorem zQ {ops:Array Oper} {ss:List Nk} {ns:List Note} (h:NR ss ns):∀{prs:List (Nat × Nat)},cP ops ss prs→prs.all (ej ns ops)=true
 | [],_=>rfl
 | p::prs,hk=>by
  rw[List.all_cons,zQ h hk.2,Bool.and_true];have h1:=hk.1;unfold Bh at h1
  split at h1
  ·rename_i b b' ha hb;obtain⟨x,hx1,hx2⟩:=h.at ha;obtain⟨y,hy1,hy2⟩:=h.at hb;simp only[ej,hx1,hy1,B8 hx2 hy2 h1.1,h1.2,Bool.or_true,Bool.not_false,Bool.true_or,Bool.and_self]
  ·rename_i b b' ha hb;obtain⟨x,hx1,hx2⟩:=h.at ha;obtain⟨y,hy1,hy2⟩:=h.at hb;simp only[ej,hx1,hy1,B8 hy2 hx2 h1.1,h1.2,Bool.or_true,Bool.not_false,Bool.true_or,Bool.and_self]
  ·rename_i b b' ha hb;obtain⟨x,hx1,hx2⟩:=h.at ha;obtain⟨y,hy1,hy2⟩:=h.at hb;simp only[ej,hx1,hy1,yL hx2 hy2 h1.1,h1.2,Bool.or_true,Bool.not_false,Bool.true_or,Bool.and_self]
  ·rename_i b b' ha hb;obtain⟨x,hx1,hx2⟩:=h.at ha;obtain⟨y,hy1,hy2⟩:=h.at hb;simp only[ej,hx1,hy1,yL hy2 hx2 h1.1,h1.2,Bool.or_true,Bool.not_false,Bool.true_or,Bool.and_self]
  ·rename_i b b' ha hb;obtain⟨x,hx1,hx2⟩:=h.at ha;obtain⟨y,hy1,hy2⟩:=h.at hb;simp only[ej,hx1,hy1,Cr hx2 hy2 h1.1,h1.2,Bool.or_true,Bool.not_false,Bool.true_or,Bool.and_self]
  ·rename_i b b' ha hb;obtain⟨x,hx1,hx2⟩:=h.at ha;obtain⟨y,hy1,hy2⟩:=h.at hb;simp only[ej,hx1,hy1,Cr hy2 hx2 h1.1,h1.2,Bool.or_true,Bool.not_false,Bool.true_or,Bool.and_self]
  ·rename_i a b _ _ _ _ _ _ ha hb;obtain⟨x,hx1,hx2⟩:=h.at ha;obtain⟨y,hy1,hy2⟩:=h.at hb;simp only[Bool.and_eq_true,Bool.or_eq_true,Bool.not_eq_true'] at h1;simp only[ej,hx1,hy1,Bool.and_eq_true,Bool.or_eq_true,Bool.not_eq_true'];refine⟨?_,?_⟩
   ·rcases h1.2 with h2|h2
    ·exact .inr (Nk.ok hx2 hy2 h2)
    ·exact .inl h2
   ·rcases h1.1 with h2|h2
    ·exact .inr (Nk.ok hy2 hx2 h2)
    ·exact .inl h2
  ·exact h1.elim
theorem NR.rev:∀{bs:List Nk} {ns:List Note},NR bs ns→NR bs.reverse ns.reverse
 | [],[],_=>trivial
 | b::bs,x::xs,h=>by
  rw[List.reverse_cons,List.reverse_cons];exact(NR.rev h.2.2).snoc h.1 h.2.1
 | [],_::_,h=>h.elim
 | _::_,[],h=>h.elim
variable {ss : List Nk}
def Wn (E:Env) (n:Nat) (ops:Array Oper) (prs:List (Nat × Nat)) (K:Tm→AMem→Prop) (os:List Oper) (ss:List Nk) (m0:AMem) (fs:Fs) (ps:List Pc):Prop :=
 ∀t m ns,Fr t fs→Hp m0 m ps→NR ss ns→dB E n ops (fun t m ns=>(prs.all (ej ns ops) && ns.all dh)=true∧K t m) os t m ns
theorem Wn.nil {Q:AExit→Tm→AMem→Prop} (hk:∀m,Hp m0 m ps→cP ops ss.reverse prs) (h:At Q .normal m0 fs ps):Wn E n ops prs (Q .normal) [] ss m0 fs ps:=fun t m ns hf hm hn=>by
 refine⟨?_,h t m hf hm⟩;rw[zQ hn.rev (hk m hm),hn.rev.all]; rfl
theorem Wn.xg {α:Type} {V:α→Value} {N:α→List Pc} {c:Nk} (h:∀t m,Fr t fs→Hp m0 m ps→m.wl=m.next→(∀b,aE E t o=some b→b<m.next)∧∀K:Value→AMem→Prop,(∀x m',Hp m0 m' (N x)→c.of { read:=aE E t o,wl:=m'.wl,next:=m.next,wrote:=dO E t o,kept:=ja m m'}→K (V x) m')→aZ E t m o K)
  (hg:qp ops fs g true) (dst:Option Nat) (hd:∀d,dst=some d→Nat.blt d n=true) (k:∀x,Wn E n ops prs K os (c::ss) m0 (match dst with|some d=>(d,V x)::fs|none=>fs) (N x)):Wn E n ops prs K (⟨dst,o,ty,p,af,g⟩::os) ss m0 fs ps:=by
 intro t m ns hf hm hn;simp only[dB,hg t _ _ _ _ _ hf,if_true];have hx:=hm.ext.next
 have hm':Hp m0 (m.ww m.next) ps:=hm.ww (by omega)
 have hwl:(m.ww m.next).wl=(m.ww m.next).next:=by rw[AMem.wl_ww,AMem.next_ww]
 have e0:({ next:=m.next,wl:=m.next,objs:=m.objs,base:=m.base}:AMem)=m.ww m.next:=by unfold AMem.ww; rfl
 rw[e0];obtain⟨h1,h2⟩:=h t _ hf hm' hwl;rw[AMem.next_ww] at h1;refine aZ.A (h2 _ fun x m' hm'' hc=>?_);rw[AMem.next_ww] at hc;have hw:=hm''.ext.wl;have e1:({ next:=m'.next,wl:=min m.wl m'.wl,objs:=m'.objs,base:=m'.base}:AMem)=m'.ww (min m.wl m'.wl):=by unfold AMem.ww; rfl
 have hw0:=hm.ext.wl;have hfin:Hp m0 (m'.ww (min m.wl m'.wl)) (N x):=hm''.ww (by omega)
 have hkp:ja (m.ww m.next) m'=ja m m':=by funext b; simp only[ja,AMem.get_ww]
 rw[hkp] at hc;have hnr:NR (c::ss) ({ read:=aE E t o,wl:=m'.wl,next:=m.next,wrote:=dO E t o,kept:=ja m m'}::ns):=⟨ug h1,hc,hn⟩
 cases dst with
 | none=>exact⟨t,rfl,by rw[e1]; exact k x t _ _ hf hfin hnr⟩
 | some d =>
  have hd':d<n:=by have:=hd d rfl; rwa[Nat.blt_eq] at this
  exact⟨t.set d (V x),by rw[fT,if_pos hd'],by rw[e1]; exact k x _ _ _ hf.set hfin hnr⟩
theorem Wn.x {α:Type} {V:α→Value} {N:α→List Pc} (h:Ox E m0 fs ps o V N) (hg:qp ops fs g true) (hd:Nat.blt d n=true) (k:∀x,Wn E n ops prs K os (.any::ss) m0 ((d,V x)::fs) (N x)):Wn E n ops prs K (⟨some d,o,ty,p,af,g⟩::os) ss m0 fs ps :=
 Wn.xg (c:=.any) (fun t m hf hm _=>⟨(h t m hf hm).1,fun K hK=>(h t m hf hm).2 K fun x m' h1=>hK x m' h1 trivial⟩) hg (some d) (fun d' e=>by cases e; exact hd) k
theorem Wn.x0 {α:Type} {V:α→Value} {N:α→List Pc} (h:Ox E m0 fs ps o V N) (hg:qp ops fs g true) (k:∀x,Wn E n ops prs K os (.any::ss) m0 fs (N x)):Wn E n ops prs K (⟨none,o,ty,p,af,g⟩::os) ss m0 fs ps :=
 Wn.xg (c:=.any) (fun t m hf hm _=>⟨(h t m hf hm).1,fun K hK=>(h t m hf hm).2 K fun x m' h1=>hK x m' h1 trivial⟩) hg none (fun d' e=>by cases e) k
def mU:Value→Bool
 | .int _ _ | .bool _ | .slice _ _ _ | .map _ | .pointer _=>true
 | _=>false
theorem yx {v:Value} (h:mU v=true):m7 v v=true:=by
 cases v<;>simp_all [mU,m7]
theorem kS:∀{l:List Value},l.all mU=true→m6 l l=true
 | [],_=>rfl
 | v::vs,h=>by
  rw[List.all_cons,Bool.and_eq_true] at h;simp only[m6,yx h.1,kS h.2,Bool.and_self]
def xV:Value→Bool
 | .func (.func _) a c=>a.toList.all mU && c.toList.all mU
 | v=>mU v
theorem AF {v:Value} (h:xV v=true):pQ v v=true:=by
 cases v with
 | func fn a c =>
  cases fn with
  | func f =>
   simp only[xV,Bool.and_eq_true] at h;simp only[pQ,Nat.beq_refl,kS h.1,kS h.2,Bool.and_self]
  | _=>cases h
 | _=>simp_all [xV,mU,pQ,m7]
theorem qT:∀{l:List Value},l.all xV=true→tX l l=true
 | [],_=>rfl
 | v::vs,h=>by
  rw[List.all_cons,Bool.and_eq_true] at h;simp only[tX,AF h.1,qT h.2,Bool.and_self]
def yc {α:Type} (ps:List Pc) (N:α→List Pc):List Nat→Prop
 | []=>True
 | b::l=>(∃cs k,pk ps k=some (.obj b (.cells cs .own))∧cs.all xV=true∧∀x,∃k',pk (N x) k'=some (.obj b (.cells cs .own)))∧yc ps N l
theorem yc.kept {α:Type} {N:α→List Pc} {m m':AMem} {x:α} (hm:Hp m0 m ps) (hm':Hp m0 m' (N x)):∀{l:List Nat},yc ps N l→∀b ∈ l,ja m m' b=true
 | [],_,b,hb=>by cases hb
 | c::l,h,b,hb=>by
  rcases List.mem_cons.1 hb with rfl|hb
  ·obtain⟨cs,k,h1,h2,h3⟩:=h.1;obtain⟨k',h4⟩:=h3 x;simp only[ja,(hm.get h1).2.2,(hm'.get h4).2.2,CD,qT h2,decide_true,Bool.and_self]
  ·exact yc.kept hm hm' h.2 b hb
theorem Wn.xk {α:Type} {V:α→Value} {N:α→List Pc} {l:List Nat} (h:Ox E m0 fs ps o V N) (hl:yc ps N l) (hg:qp ops fs g true) (hd:Nat.blt d n=true) (k:∀x,Wn E n ops prs K os (.kp l::ss) m0 ((d,V x)::fs) (N x)):Wn E n ops prs K (⟨some d,o,ty,p,af,g⟩::os) ss m0 fs ps :=
 Wn.xg (c:=.kp l) (fun t m hf hm _=>⟨(h t m hf hm).1,fun K hK=>(h t m hf hm).2 K fun x m' h1=>hK x m' h1 (yc.kept hm h1 hl)⟩) hg (some d) (fun d' e=>by cases e; exact hd) k
theorem Wn.RU {α:Type} {V:α→Value} {N:α→List Pc} {l:List Nat} (h:Ox E m0 fs ps o V N) (hl:yc ps N l) (hg:qp ops fs g true) (k:∀x,Wn E n ops prs K os (.kp l::ss) m0 fs (N x)):Wn E n ops prs K (⟨none,o,ty,p,af,g⟩::os) ss m0 fs ps :=
 Wn.xg (c:=.kp l) (fun t m hf hm _=>⟨(h t m hf hm).1,fun K hK=>(h t m hf hm).2 K fun x m' h1=>hK x m' h1 (yc.kept hm h1 hl)⟩) hg none (fun d' e=>by cases e) k
def Oc (E:Env) (m0:AMem) (fs:Fs) (ps:List Pc) (o:Op) {α:Type} (V:α→Value) (N:α→List Pc):Prop :=
 ∀t m,Fr t fs→Hp m0 m ps→m.wl=m.next→(∀b,aE E t o=some b→b<m.next)∧∀K:Value→AMem→Prop,(∀x m',Hp m0 m' (N x)→m.next≤m'.wl→K (V x) m')→aZ E t m o K
theorem Qt {α:Type} {V:α→Value} {N:α→List Pc} {f:Operand} {g:FuncId} {ars:Array Operand} {ts:Array TypeId} {args:List Value} (hf:ev E fs f=some (.func (.func g) #[] #[])) (ha:gT E fs ars.toList=some args) (hc:∀m,Hp m0 m ps→aB E g args m (fun v m'=>∃x,v=V x∧Hp m m' (N x))) (ho:∀x,vZ (N x)=true):Oc E m0 fs ps (.call ⟨.value f,ars,ts⟩) V (fun x=>N x++ps) :=
 fun t m hfr hm hwl=>⟨fun b hb=>(by simp[aE] at hb),fun K hK=>by
  show kv E (aj E t f) (bq E t ars.toList) m _
  rw[hfr.ev hf,hfr.gT ha,sf];refine(hc m hm).mono fun v m' ⟨x,e,h⟩=>?_;rw[e];refine hK x m' (hm.after h fun p hp=>List.all_eq_true.1 (ho x) p hp) ?_;have:=h.ext.wl;omega⟩
theorem Wn.c {α:Type} {V:α→Value} {N:α→List Pc} (h:Oc E m0 fs ps o V N) (hg:qp ops fs g true) (hd:Nat.blt d n=true) (k:∀x,Wn E n ops prs K os (.call::ss) m0 ((d,V x)::fs) (N x)):Wn E n ops prs K (⟨some d,o,ty,p,af,g⟩::os) ss m0 fs ps :=
 Wn.xg (c:=.call) (fun t m hf hm hw=>⟨(h t m hf hm hw).1,fun K hK=>(h t m hf hm hw).2 K fun x m' h1 h2=>hK x m' h1 h2⟩) hg (some d) (fun d' e=>by cases e; exact hd) k
theorem Wn.od (h:Od E m0 fs ps o v ps') (hd:Nat.blt d n=true) (k:Wn E n ops prs K os (.any::ss) m0 ((d,v)::fs) ps'):Wn E n ops prs K (⟨some d,o,ty,p,af,none⟩::os) ss m0 fs ps:=Wn.x h.x gn hd fun _=>k
theorem Wn.o0 (h:Od E m0 fs ps o v ps') (k:Wn E n ops prs K os (.any::ss) m0 fs ps'):Wn E n ops prs K (⟨none,o,ty,p,af,none⟩::os) ss m0 fs ps:=Wn.x0 h.x gn fun _=>k
theorem Wn.og (h:Od E m0 fs ps o v ps') (hg:qp ops fs g true) (hd:Nat.blt d n=true) (k:Wn E n ops prs K os (.any::ss) m0 ((d,v)::fs) ps'):Wn E n ops prs K (⟨some d,o,ty,p,af,g⟩::os) ss m0 fs ps:=Wn.x h.x hg hd fun _=>k
theorem Wn.Qz {x:Operand} {b off:Nat} {ty':TypeId} (hx:ev E fs x=some (ptr b off)) (h:Od E m0 fs ps (.load ty' x) v ps') (hg:qp ops fs g true) (hd:Nat.blt d n=true) (k:Wn E n ops prs K os (.rd b::ss) m0 ((d,v)::fs) ps'):Wn E n ops prs K (⟨some d,.load ty' x,ty,p,af,g⟩::os) ss m0 fs ps :=
 Wn.xg (V:=fun _:Unit=>v) (N:=fun _=>ps') (c:=.rd b) (fun t m hf hm _=>⟨(h t m hf hm).1,fun K hK=>(h t m hf hm).2 K fun m' h1=>hK () m' h1 (by show aE E t (.load ty' x)=some b; simp only[aE,hf.ev hx]; rfl)⟩) hg (some d) (fun d' e=>by cases e; exact hd) fun _=>k
theorem Wn.Lc {x:Operand} {b off:Nat} {ty':TypeId} (hx:ev E fs x=some (ptr b off)) (h:Od E m0 fs ps (.load ty' x) v ps') (hd:Nat.blt d n=true) (k:Wn E n ops prs K os (.rd b::ss) m0 ((d,v)::fs) ps'):Wn E n ops prs K (⟨some d,.load ty' x,ty,p,af,none⟩::os) ss m0 fs ps:=Wn.Qz hx h gn hd k
theorem Wn.QI {x y:Operand} {b off:Nat} {ty':TypeId} (hx:ev E fs x=some (ptr b off)) (h:Od E m0 fs ps (.store ty' x y) v ps') (hg:qp ops fs g true) (k:Wn E n ops prs K os (.wr b::ss) m0 fs ps'):Wn E n ops prs K (⟨none,.store ty' x y,ty,p,af,g⟩::os) ss m0 fs ps :=
 Wn.xg (V:=fun _:Unit=>v) (N:=fun _=>ps') (c:=.wr b) (fun t m hf hm _=>⟨(h t m hf hm).1,fun K hK=>(h t m hf hm).2 K fun m' h1=>hK () m' h1 (by show dO E t (.store ty' x y)=some b; simp only[dO,hf.ev hx]; rfl)⟩) hg none (fun d' e=>by cases e) fun _=>k
theorem Wn.Rp {x y:Operand} {b off:Nat} {ty':TypeId} (hx:ev E fs x=some (ptr b off)) (h:Od E m0 fs ps (.store ty' x y) v ps') (k:Wn E n ops prs K os (.wr b::ss) m0 fs ps'):Wn E n ops prs K (⟨none,.store ty' x y,ty,p,af,none⟩::os) ss m0 fs ps:=Wn.QI hx h gn k
theorem Wn.s (hg:qp ops fs g false) (hd:Nat.blt d n=true) (k:Wn E n ops prs K os (.call::ss) m0 ((d,undef)::fs) ps):Wn E n ops prs K (⟨some d,o,ty,p,af,g⟩::os) ss m0 fs ps:=by
 have hd':d<n:=by rwa[Nat.blt_eq] at hd
 intro t m ns hf hm hn;simp only[dB,hg t _ _ _ _ _ hf,Bool.false_eq_true,if_false];exact⟨t.set d undef,by rw[fT,if_pos hd'],k _ _ _ hf.set hm ⟨rfl,Nat.le_refl _,hn⟩⟩
theorem Wn.s0 (hg:qp ops fs g false) (k:Wn E n ops prs K os (.call::ss) m0 fs ps):Wn E n ops prs K (⟨none,o,ty,p,af,g⟩::os) ss m0 fs ps:=by
 intro t m ns hf hm hn;simp only[dB,hg t _ _ _ _ _ hf,Bool.false_eq_true,if_false];exact⟨t,rfl,k _ _ _ hf hm ⟨rfl,Nat.le_refl _,hn⟩⟩
theorem Hp.ne {m:AMem} {i j b b':Nat} {x y:Pc} (h:Hp m0 m ps) (hx:pk ps i=some x) (hy:pk ps j=some y) (hb:x.qG=some b) (hb':y.qG=some b') (hne:i≠j) (ho:x.own=true):b≠b':=fun e=>(gv h.apart hx hy hne).1 b (Pc.Pr ho hb) (.inl (by rw[e]; exact hb'))
theorem Wn.md (h:ak m0 ps ps') (k:Wn E n ops prs K os ss m0 fs ps'):Wn E n ops prs K os ss m0 fs ps:=fun t m ns hf hm hn=>k t m ns hf (h m hm) hn
theorem Wn.open {k w l:Nat} {a:Option Addr} {es:List (List Value)} (hp:pk ps k=some (.sl a w l es)) (hl:0<l) (h:∀b tg,a=some ⟨b,0,none⟩→zM tg=true→Wn E n ops prs K os ss m0 fs (cG ps k (.arr b w l es tg))):Wn E n ops prs K os ss m0 fs ps:=by
 intro t m ns hf hm hn;rcases hm.get hp with⟨h1,_⟩|⟨b,tg,rfl,h1⟩
 ·omega
 ·exact h b tg rfl (by rcases h1.2.2.2.2.2.1 with rfl|rfl<;>rfl) t m ns hf (hm.put hp rfl rfl rfl (Nat.le_refl _) hm.ext h1 fun _ _ _=>rfl) hn
theorem Wn.len {α:Type} {f:α→List Value} {k w l:Nat} {a:Option Addr} {xs:List α} (hp:pk ps k=some (.sl a w l (xs.map f))) (h:l=xs.length→Wn E n ops prs K os ss m0 fs ps):Wn E n ops prs K os ss m0 fs ps:=fun t m ns hf hm hn=>by
 refine h ?_ t m ns hf hm hn;rcases hm.get hp with⟨h0,h1,_⟩|⟨b,tg,_,h1⟩
 ·rw[h0,List.map_eq_nil_iff.1 h1]; rfl
 ·have:=h1.2.2.2.1; rw[List.length_map] at this; exact this.symm
theorem Wk.db {fn:FuncId} {ro:Option Nat} {Q:AExit→Tm→AMem→Prop} {id:Nat} (hp:jd ops=some prs) (h:Wn E n ops prs (Q .normal) ops.toList [] m0 fs ps):Wk E n fn ro (.region id ops true) Q m0 fs ps:=fun t m hf hm=>.draw hp (h t m [] hf hm trivial)
end
section
variable {E : Env} {n : Nat} {fn : FuncId} {m0 : AMem} {fs : Fs} {ps : List Pc} {Q : AExit → Tm → AMem → Prop}
def mn (fn:FuncId) (t:Tm) (n:Nat) (params:Array Tmp) (assign body:Code) (s:LoopState) (p:Option Code):AObj:=.loop { state:=s,pending:=p,fn:=fn,tmps:=t,n:=n,params:=params,assign:=assign,body:=body}
structure Rn where
 st:LoopState
 pe:Option Code
 ps:List Pc
theorem Wk.range {f:Operand} {params:Array Tmp} {assign body:Code} {g:FuncId} {first cap:Array Value} {F:Func} {c:Code} {rs:List ResultVar} {N:Nat} {γ:Type} {X:γ→Rn}
  (hf:ev E fs f=some (.func (.func g) first cap)) (hp:E.cV g=none) (hfn:E.P.funcs[g]? = some F) (hb:F.body=some c) (hrs:F.results.toList=rs) (hN:max (first.toList.length+1+cap.toList.length) F.ntmps=N)
  (h:∀t l rc,Fr t fs→rc=mn fn t n params assign body→Wk E N g none c (rY E rs (fun _ m'=>∃y,Hp m0 m' (.obj l (rc (X y).st (X y).pe)::(X y).ps))) m0 (zL (first.toList++[.func (.yield l) #[] #[]]++cap.toList) 0 []) (.obj l (rc .ready none)::ps))
  (hst:∀y,(X y).st≠.busy) (k:∀y,(match (X y).pe with|none=>At Q .normal m0 fs (X y).ps|some c=>Wk E n fn none c Q m0 fs (X y).ps)):Wk E n fn none (.rangeFunc f params assign body) Q m0 fs ps:=by
 intro t m hfr hm;have hl:Hp m0 (m.alloc (mn fn t n params assign body .ready none)) (.obj m.next (mn fn t n params assign body .ready none)::ps) :=
  hm.cons (by rw[AMem.next_alloc]; omega) (hm.ext.alloc _) (fun b hb=>by rw[AMem.bF,if_neg (by omega)]) ⟨hm.ext.next,by rw[AMem.next_alloc]; omega,by rw[AMem.bF,if_pos rfl]⟩ fun b hb=>by cases hb; exact Nat.le_refl _
 have hlen:(first.toList++[Value.func (.yield m.next) #[] #[]]++cap.toList).length=first.toList.length+1+cap.toList.length:=by simp; omega
 obtain⟨v,m2,⟨k1,hk1⟩,y,h2⟩:=bN (N:=N) hp hfn hb hrs (by rw[hlen]; exact hN) hl (h t m.next _ hfr rfl)
 have hg0:=h2.get (k:=0) rfl;have hg:m2.get m.next=some (mn fn t n params assign body (X y).st (X y).pe):=hg0.2.2
 have hlo:m0.next≤m.next:=hm.ext.next
 have h3:Hp m0 (m2.set m.next (mn fn t n params assign body .exhausted (X y).pe)) (X y).ps:=by
  have:=h2.write (k:=0) (o':=mn fn t n params assign body .exhausted (X y).pe) (p':=.obj m.next (mn fn t n params assign body .exhausted (X y).pe)) rfl rfl rfl rfl rfl ⟨hlo,by rw[AMem.next_set]; exact hg0.2.1,by rw[AMem.bD,if_pos rfl]⟩
  refine⟨this.ext,fun p hp=>this.ok p (by simp[cG,hp]),?_⟩
  have hpw:=this.apart;rw[ib,List.pairwise_cons] at hpw;exact hpw.2
 have hev:aj E t f=some (.func (.func g) first cap):=by
  cases f with
  | tmp i=>exact hfr.ev hf
  | const c=>exact hfr.ev hf
  | global g=>exact hfr.ev hf
  | func g=>exact hfr.ev hf
 have hao:gy E ⟨t,n,fn,none⟩ m f=true:=by
  simp only[gy,hev,hp]; rfl
 have hk:=k y;cases hpe:(X y).pe with
 | none =>
  rw[hpe] at hk hg h3;refine⟨.normal,t,_,aQ (k:=k1) ?_,hk t _ hfr h3⟩;have hst':=hst y;simp only[step,hev,hao];have hk1':run E k1 (.call g (first.toList++[Value.func (.yield m.next) #[] #[]]++cap.toList) (m.alloc (.loop { state:=.ready,pending:=none,fn:=fn,tmps:=t,n:=n,params:=params,assign:=assign,body:=body})))=some (.val v m2):=hk1
  rw[hk1'];have hg':m2.get m.next=some (.loop { state:=(X y).st,pending:=none,fn:=fn,tmps:=t,n:=n,params:=params,assign:=assign,body:=body}):=hg
  simp only[hg'];cases hs:(X y).st with
  | busy=>exact absurd hs hst'
  | _=>rfl
 | some c' =>
  rw[hpe] at hk hg h3;obtain⟨e2,t2,m3,⟨k2,hk2⟩,q⟩:=hk t _ hfr h3;refine⟨e2,t2,m3,aQ (k:=max k1 k2) ?_,q⟩;have hst':=hst y;simp only[step,hev,hao];have hk1':run E (max k1 k2) (.call g (first.toList++[Value.func (.yield m.next) #[] #[]]++cap.toList) (m.alloc (.loop { state:=.ready,pending:=none,fn:=fn,tmps:=t,n:=n,params:=params,assign:=assign,body:=body})))=some (.val v m2):=fO (Nat.le_max_left k1 k2) hk1
  rw[hk1'];have hg':m2.get m.next=some (.loop { state:=(X y).st,pending:=some c',fn:=fn,tmps:=t,n:=n,params:=params,assign:=assign,body:=body}):=hg
  simp only[hg'];have hk2':run E (max k1 k2) (.code c' ⟨t,n,fn,none⟩ (m2.set m.next (.loop { state:=.exhausted,pending:=some c',fn:=fn,tmps:=t,n:=n,params:=params,assign:=assign,body:=body})))=some (.code e2 t2 m3):=fO (Nat.le_max_right k1 k2) hk2
  cases hs:(X y).st with
  | busy=>exact absurd hs hst'
  | _=>simp only[hk2']
def Fw:List Tmp→List Value→Fs→Fs
 | p::ps,v::vs,fs=>Fw ps vs ((p,v)::fs)
 | _,_,fs=>fs
def Dd (n:Nat):List Tmp→List Value→Bool
 | p::ps,_::vs=>Nat.blt p n && Dd n ps vs
 | [],[]=>true
 | _,_=>false
theorem DD {n:Nat}:∀{ps:List Tmp} {vs:List Value} {t:Tm} {fs:Fs},Dd n ps vs=true→Fr t fs→∃t',dR n t ps vs=some t'∧Fr t' (Fw ps vs fs)∧ps.length=vs.length
 | p::ps,v::vs,t,fs,h,hf=>by
  simp only[Dd,Bool.and_eq_true] at h;obtain⟨t',h1,h2,h3⟩:=DD (ps:=ps) (vs:=vs) (t:=t.set p v) (fs:=(p,v)::fs) h.2 hf.set;exact⟨t',by simp only[dR,h.1]; exact h1,h2,by simp[h3]⟩
 | [],[],t,fs,_,hf=>⟨t,rfl,hf,rfl⟩
 | [],_::_,_,_,h,_=>by cases h
 | _::_,[],_,_,h,_=>by cases h
theorem FJ {f:Operand} {l:Nat} {first cap:Array Value} {ars:Array Operand} {ts:Array TypeId} {args:List Value} {k k1 fn' n':Nat} {rc:LoopState→Option Code→AObj} {t0:Tm} {params:Array Tmp} {assign body:Code} {f0:Fs} {γA γ:Type} {GA:γA→En} {G:γ→En}
  (hf:ev E fs f=some (.func (.yield l) first cap)) (ha:gT E fs ars.toList=some args) (hp:pk ps k=some (.obj l (rc .ready none))) (hrc:rc=mn fn' t0 n' params assign body) (h3:Fr t0 f0) (hpar:Dd n' params.toList (first.toList++args)=true)
  (hA:Wk E n' fn' (some l) assign (o6 m0 GA) m0 (Fw params.toList (first.toList++args) f0) ps) (hAe:∀y,(GA y).e = .normal) (h0:∀y,pk (GA y).ps k1=some (.obj l (rc .ready none)))
  (hB:∀y,Wk E n' fn' (some l) body (o6 m0 G) m0 (GA y).fs (cG (GA y).ps k1 (.obj l (rc .busy none)))) (hG:∀y,pk (G y).ps 0=some (.obj l (rc .busy none))) :
  Ox E m0 fs ps (.call ⟨.value f,ars,ts⟩) (fun y:γ=>.bool (fy (G y).e).isNone) (fun y=>cG (G y).ps 0 (.obj l (rc (if (fy (G y).e).isNone then .ready else .done) (fy (G y).e)))):=by
 subst hrc;intro t m hfr hm;refine⟨fun b hb=>(by simp[aE] at hb),fun K hK=>?_⟩
 have hev:aj E t f=some (.func (.yield l) first cap):=by
  cases f with
  | tmp i=>exact hfr.ev hf
  | const c=>exact hfr.ev hf
  | global g=>exact hfr.ev hf
  | func g=>exact hfr.ev hf
 show kv E (aj E t f) (bq E t ars.toList) m K
 rw[hev,hfr.gT ha]
 show rR E l (first.toList++args) m K
 obtain⟨t2,hset,h4,hlen⟩:=DD (t:=t0) hpar h3;obtain⟨e1,t1,m1,⟨ka,hka⟩,ya,h2,h5,h3'⟩:=hA t2 m h4 hm;rw[hAe] at h2;subst h2;have h6:m.get l=some (mn fn' t0 n' params assign body .ready none):=(hm.get hp).2.2;have h7:m1.get l=some (mn fn' t0 n' params assign body .ready none):=(h3'.get (h0 ya)).2.2;have hbusy:Hp m0 (m1.set l (mn fn' t0 n' params assign body .busy none)) (cG (GA ya).ps k1 (.obj l (mn fn' t0 n' params assign body .busy none))) :=
  h3'.write (h0 ya) rfl rfl rfl rfl ⟨(h3'.get (h0 ya)).1,by rw[AMem.next_set]; exact(h3'.get (h0 ya)).2.1,by rw[AMem.bD,if_pos rfl]⟩
 obtain⟨e0,t3,m2,⟨kb,hkb⟩,y,h8,h10,h1⟩:=hB ya t1 _ h5 hbusy;have h9:m2.get l=some (mn fn' t0 n' params assign body .busy none):=(h1.get (hG y)).2.2;have hfin:Hp m0 (m2.set l (mn fn' t0 n' params assign body (if (fy e0).isNone then .ready else .done) (fy e0))) (cG (G y).ps 0 (.obj l (mn fn' t0 n' params assign body (if (fy e0).isNone then .ready else .done) (fy e0)))) :=
  h1.write (hG y) rfl rfl rfl rfl ⟨(h1.get (hG y)).1,by rw[AMem.next_set]; exact(h1.get (hG y)).2.1,by rw[AMem.bD,if_pos rfl]⟩
 refine⟨.bool (fy e0).isNone,m2.set l (mn fn' t0 n' params assign body (if (fy e0).isNone then .ready else .done) (fy e0)),aQ (k:=max ka kb) ?_,?_⟩
 ·have hka':run E (max ka kb) (.code assign ⟨t2,n',fn',some l⟩ m)=some (.code .normal t1 m1):=fO (Nat.le_max_left ka kb) hka;have hkb':run E (max ka kb) (.code body ⟨t1,n',fn',some l⟩ (m1.set l (.loop { state:=.busy,pending:=none,fn:=fn',tmps:=t0,n:=n',params:=params,assign:=assign,body:=body})))=some (.code e0 t3 m2):=fO (Nat.le_max_right ka kb) hkb;have hg0':m.get l=some (.loop { state:=.ready,pending:=none,fn:=fn',tmps:=t0,n:=n',params:=params,assign:=assign,body:=body}):=h6;have hg1':m1.get l=some (.loop { state:=.ready,pending:=none,fn:=fn',tmps:=t0,n:=n',params:=params,assign:=assign,body:=body}):=h7;have hg2':m2.get l=some (.loop { state:=.busy,pending:=none,fn:=fn',tmps:=t0,n:=n',params:=params,assign:=assign,body:=body}):=h9;have hsz:¬((first.toList++args).length≠params.size):=by rw[←hlen]; simp
  simp only[step,hg0',if_neg hsz,hset,hka',hg1',hkb',hg2']
  rfl
 ·subst h8;exact hK y _ hfin
end
end Go.Ab.W
end
