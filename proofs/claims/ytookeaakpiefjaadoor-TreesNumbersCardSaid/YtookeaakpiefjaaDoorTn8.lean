/- A part of the proof. -/
import Derived.Test.YtookeaakpiefjaaDoorTn7
import Derived.Lib.Mul64
section
namespace Go.Proofs.YtookeaakpiefjaaDoor
open Go Go.Ab Go.Ab.W Go.Ab.T30
def dz (es:List (Int × Int)) (x:Nat) (k:Int):Bool:=decide (0≤k∧k<(es.length:Int)) && x.testBit (eg es k).1 && x.testBit (eg es k).2
theorem pN {es:List (Int × Int)} {x:Nat} {k:Int} (h:dz es x k=true):Vl es k∧x.testBit (eg es k).1=true∧x.testBit (eg es k).2=true:=by
 simp only[dz,Bool.and_eq_true,decide_eq_true_eq] at h;exact⟨h.1.1,h.1.2,h.2⟩
theorem jn (n x a b:Nat) (hx:x<2 ^ 64) (ha:a<64) (hb:b<64):EB n x (a:Int) (b:Int)=some (x.testBit a && x.testBit b):=by
 unfold EB;rw[decide_eq_true (Int.natCast_nonneg a),decide_eq_true (Int.natCast_nonneg b),aV,aV,Int.toNat_natCast,Int.toNat_natCast,uC hx (by omega),uC hx (by omega)]
 cases x.testBit a<;>rfl
def Bx (es:List (Int × Int)) (x:Nat):Int→List Int→Bool
 | _,[]=>true
 | p,k::l=>dz es x k && decide (p<k) && Bx es x k l
theorem uj {es:List (Int × Int)} {x:Nat}:∀{l:List Int} {p:Int},Bx es x p l=true→∀k ∈ l,dz es x k=true∧p<k
 | [],_,_,k,hk=>by cases hk
 | a::l,p,h,k,hk=>by
  simp only[Bx,Bool.and_eq_true,decide_eq_true_eq] at h;rcases List.mem_cons.1 hk with rfl|hk
  ·exact h.1
  ·have:=uj h.2 k hk;exact⟨this.1,by omega⟩
theorem z2 {es:List (Int × Int)} {x:Nat}:∀{l:List Int} {p:Int},Bx es x p l=true→l.Pairwise (· < ·)
 | [],_,_=>.nil
 | a::l,p,h=>by
  simp only[Bx,Bool.and_eq_true,decide_eq_true_eq] at h;exact List.pairwise_cons.2 ⟨fun k hk=>(uj h.2 k hk).2,z2 h.2⟩
structure Fst (p:List Int) (r:Nat→Nat):Prop where
 len:p.length=64
 at_:∀v,v<64→∃y:Nat,p[v]? = some (y:Int)∧y≤v∧(y=v→r v=v)∧(y≠v→r v=r y)
theorem Fst.root {p:List Int} {r:Nat→Nat} (h:Fst p r) (n0:Nat):∀(v n:Nat),v<64→v<n→cx (jD n0 p) n (v:Int)=some ((r v:Nat):Int):=by
 intro v
 induction v using Nat.strongRecOn with
 | _ v ih =>
  intro n hv hn;obtain⟨n,rfl⟩:∃n',n=n'+1:=⟨n-1,by omega⟩
  obtain⟨y,h1,h2,h3,h4⟩:=h.at_ v hv;have hb:bZ (v:Int) p.length=true:=aC (by rw[h.len]; exact hv)
  by_cases hy:y=v
  ·rw[h3 hy];exact bB (by unfold jD; simp[hb,h1,hy,gd,ob,br])
  ·rw[h4 hy,aR (s':=(y:Int)) (by unfold jD; simp only[hb,aV,Int.toNat_natCast,h1,aq]; rw[decide_eq_false (by omega)]; rfl)]
   exact ih y (by omega) n (by omega) (by omega)
theorem ux {p:List Int} {r:Nat→Nat} (h:Fst p r) (n v:Nat) (hv:v<64) (hn:64<n):GD n p (v:Int)=some ((r v:Nat):Int):=by
 unfold GD;rw[h.root n v n hv (by omega),aq]
theorem Fst.join {p:List Int} {r:Nat→Nat} {E:List (Nat × Nat)} (h:Fst p r) (hr:Rt r E) {e:Nat × Nat} (h1:e.1<64) (h2:e.2<64):Fst (p.set (max (r e.1) (r e.2)) ((min (r e.1) (r e.2):Nat):Int)) (bP r e):=by
 have l1:=hr.le e.1;have l2:=hr.le e.2;have hM:max (r e.1) (r e.2)<64:=by omega
 have hrM:r (max (r e.1) (r e.2))=max (r e.1) (r e.2):=by
  rcases Nat.le_total (r e.1) (r e.2) with g|g
  ·rw[Nat.max_eq_right g,hr.rr]
  ·rw[Nat.max_eq_left g,hr.rr]
 have hrm:r (min (r e.1) (r e.2))=min (r e.1) (r e.2):=by
  rcases Nat.le_total (r e.1) (r e.2) with g|g
  ·rw[Nat.min_eq_left g,hr.rr]
  ·rw[Nat.min_eq_right g,hr.rr]
 refine⟨by rw[List.length_set,h.len],fun v hv=>?_⟩
 simp only[bP]
 by_cases hvM:v=max (r e.1) (r e.2)
 ·subst hvM;refine⟨min (r e.1) (r e.2),by rw[List.getElem?_set_self (by rw[h.len]; exact hM)],by omega,fun hy=>?_,fun hy=>?_⟩
  ·rw[if_pos hrM]; exact hy
  ·rw[if_pos hrM,hrm,if_neg hy]
 ·obtain⟨y,g1,g2,g3,g4⟩:=h.at_ v hv;refine⟨y,by rw[List.getElem?_set_ne (fun e=>hvM e.symm)]; exact g1,g2,fun hy=>?_,fun hy=>?_⟩
  ·rw[g3 hy,if_neg hvM]
  ·rw[g4 hy]
theorem zR (n:Nat) (hn:64<n):∃p,I8 n=some p∧Fst p (fun x=>x):=by
 have:=iJ (body:=vp n) 64 (fun(s:List Int) (v:Int)=>(s,v)) id (fun i s=>s.length=64∧∀v,v<i→s[v]? = some (v:Int)) (fun s i hi hI=>?_) (fun s _=>?_) (n:=n) (s:=List.replicate 64 (0:Int)) ⟨by simp,fun v hv=>absurd hv (Nat.not_lt_zero _)⟩ hn
 ·obtain⟨p,h1,h2,h3⟩:=this;refine⟨p,?_,h2,fun v hv=>⟨v,h3 v hv,Nat.le_refl _,fun _=>rfl,fun h=>absurd rfl h⟩⟩;unfold I8;have e:(List.replicate (64:Int).toNat (0:Int))=List.replicate 64 0:=rfl;rw[e,decide_eq_true (by decide),aV,show oD ((64:Int).toNat)=true from rfl,aV,h1]; rfl
 ·refine⟨s.set i (i:Int),?_,by rw[List.length_set]; exact hI.1,fun v hv=>?_⟩
  ·unfold vp;have e:((64:Int).toNat)=64:=rfl;have hs:s[i]? = some (s[i]'(by rw[hI.1]; exact hi)):=List.getElem?_eq_getElem _
   simp only[e,decide_eq_true (show((i:Nat):Int)<((64:Nat):Int) by omega),dc,aC hi,aV,Int.toNat_natCast,hs,aq,bE (show i<4611686018427387904 by omega)]
  ·by_cases hvi:v=i
   ·subst hvi; rw[List.getElem?_set_self (by rw[hI.1]; exact hi)]
   ·rw[List.getElem?_set_ne (fun e=>hvi e.symm)]; exact hI.2 v (by omega)
 ·unfold vp;simp[br]
def Ja (es:List (Int × Int)) (x:Nat):Int→(Nat→Nat)→List Int→Bool
 | _,_,[]=>true
 | p,r,k::l=>decide (p<k) && dz es x k && !(r (eg es k).1 == r (eg es k).2) && Ja es x k (bP r (eg es k)) l
theorem Cq (es:List (Int × Int)) (x:Nat):∀(l:List Int) (p:Int) (r:Nat→Nat),Ja es x p r l=(Bx es x p l && aU r (l.map (eg es)))
 | [],_,_=>rfl
 | k::l,p,r=>by
  simp only[Ja,Bx,List.map_cons,aU];rw[Cq es x l];cases decide (p<k)<;>cases dz es x k<;>cases(r (eg es k).1 == r (eg es k).2)<;>cases Bx es x k l<;>cases aU (bP r (eg es k)) (l.map (eg es))<;>rfl
theorem I3 {N:Nat} {es:List (Int × Int)} (h:Okay N es) (n0:Nat) (x:Nat) (hx:x<2 ^ 64) (hn0:64<n0) (l:List Int) (hb:l.length<4611686018427387904):∀k i last p r E n,Fst p r→Rt r E→-1≤last→i+k=l.length→k<n→cx (kZ n0 l es x) n (p,p.length,last,(i:Int))=some (if Ja es x last r (l.drop i) then .inr () else .inl ()):=by
 intro k
 induction k with
 | zero =>
  intro i last p r E n hp hr hlast hi hk;obtain⟨n,rfl⟩:∃n',n=n'+1:=⟨n-1,by omega⟩
  rw[List.drop_of_length_le (by omega)]
  exact bB (by unfold kZ; simp only; rw[aX (by omega)]; rfl)
 | succ k ih =>
  intro i last p r E n hp hr hlast hi hk;obtain⟨n,rfl⟩:∃n',n=n'+1:=⟨n-1,by omega⟩
  have a1:i<l.length:=by omega
  have e1:l[((i:Nat):Int).toNat]? = some l[i]:=by simp[a1]
  rw[List.drop_eq_getElem_cons a1];have e2:l[i]? = some (l[i]'a1):=by simp[a1]
  have hih:=fun p r E hp hr hl=>ih (i+1) (l[i]'a1) p r E n hp hr hl (by omega) (by omega)
  generalize l[i]=y at *;unfold Ja
  by_cases h1:last<y
  ·by_cases h2:y<(es.length:Int)
   ·obtain⟨a,b,g1,g2,g3,g4,_,g5⟩:=lh h (k:=y) ⟨by omega,h2⟩
    have ha:a<64:=by omega
    have hin:dz es x y=(x.testBit a && x.testBit b):=by
     simp only[dz,g2];rw[decide_eq_true ⟨by omega,h2⟩,Bool.true_and]
    rw[decide_eq_true h1,Bool.true_and,hin,g2];simp only
    by_cases h3:(x.testBit a && x.testBit b)=true
    ·have hM:max (r a) (r b)<p.length:=by rw[hp.len]; have:=hr.le a; have:=hr.le b; omega
     have hma:ma ((r a:Nat):Int) ((r b:Nat):Int)=((max (r a) (r b):Nat):Int):=by simp only[ma]; omega
     have hmi:mi ((r a:Nat):Int) ((r b:Nat):Int)=((min (r a) (r b):Nat):Int):=by simp only[mi]; omega
     have hpM:p[max (r a) (r b)]? = some (p[max (r a) (r b)]'hM):=List.getElem?_eq_getElem _;have key:kZ n0 l es x (p,p.length,last,(i:Int))=if r a=r b then some (.inr (.inl ())) else some (.inl (p.set (max (r a) (r b)) ((min (r a) (r b):Nat):Int),(p.set (max (r a) (r b)) ((min (r a) (r b):Nat):Int)).length,y,((i+1:Nat):Int))):=by
      unfold kZ;simp only[decide_eq_true (show((i:Nat):Int)<(l.length:Int) by omega),dc,aC a1,aV,e1,e2,aq,decide_eq_false (show ¬y≤last by omega),dO,decide_eq_false (show ¬(es.length:Int)≤y by omega),g5,g1,jn n0 x a b hx ha g4,h3,Bool.not_true,ux hp n0 a ha hn0,ux hp n0 b g4 hn0,hma,hmi,aC hM,Int.toNat_natCast,hpM,bE (show i<4611686018427387904 by omega),List.length_set]
      by_cases h5:r a=r b
      ·rw[if_pos h5,decide_eq_true (by omega)]; rfl
      ·rw[if_neg h5,decide_eq_false (by omega)]; rfl
     by_cases h5:r a=r b
     ·rw[if_pos h5] at key;rw[bB key,h3,h5];simp
     ·rw[if_neg h5] at key;rw[aR key,hih _ _ _ (hp.join hr (e:=(a,b)) ha g4) (hr.join (a,b)) (by omega),h3]
      have:(r a == r b)=false:=by simpa using h5
      rw[this];simp only[Bool.not_false,Bool.true_and]
    ·rw[Bool.not_eq_true] at h3;rw[bB (r:=.inl ()) (by
      unfold kZ;simp only[decide_eq_true (show((i:Nat):Int)<(l.length:Int) by omega),dc,aC a1,aV,e1,aq,decide_eq_false (show ¬y≤last by omega),dO,decide_eq_false (show ¬(es.length:Int)≤y by omega),g5,g1,jn n0 x a b hx ha g4,h3,Bool.not_false]),h3]
     simp
   ·have hin:dz es x y=false:=by
     simp only[dz];rw[decide_eq_false (fun g=>h2 g.2),Bool.false_and,Bool.false_and]
    rw[bB (r:=.inl ()) (by
     unfold kZ;simp only[decide_eq_true (show((i:Nat):Int)<(l.length:Int) by omega),dc,aC a1,aV,e1,aq,decide_eq_false (show ¬y≤last by omega),dO,decide_eq_true (show(es.length:Int)≤y by omega)]),hin]
    simp
  ·rw[bB (r:=.inl ()) (by
    unfold kZ;simp only[decide_eq_true (show((i:Nat):Int)<(l.length:Int) by omega),dc,aC a1,aV,e1,aq,decide_eq_true (show y≤last by omega)]),decide_eq_false h1]
   simp
def F2 (es:List (Int × Int)) (x:Nat) (l:List Int):Bool:=Bx es x (-1) l && decide (l.length+1=rk x 64) && aU (fun v=>v) (l.map (eg es))
def K5 (N:Int) (es:List (Int × Int)) (x:Nat) (l:List Int):Int:=if ra N es then(if x=0∨2 ^ N.toNat≤x then 2 else if F2 es x l then 0 else 300) else 180
theorem size_eq {l:List Int} {x:Nat} (hb:l.length<4611686018427387904) (h0:1≤rk x 64):decide ((l.length:Int)=IntKind.wrap .i64 (((rk x 64:Nat):Int)-1))=decide (l.length+1=rk x 64):=by
 have h1:rk x 64≤64:=oZ _ _;rw[bt (by omega) (by omega)]
 by_cases h:l.length+1=rk x 64
 ·rw[decide_eq_true h,decide_eq_true (by omega)]
 ·rw[decide_eq_false h,decide_eq_false (by omega)]
theorem mz {x:Nat} (hx:x<2 ^ 64) (h0:x≠0):1≤rk x 64:=by
 have:=sP (Nat.pos_of_ne_zero h0) hx;exact Hm this.1 (vV hx this.1)
theorem HL (n:Nat) (N:Int) (es:List (Int × Int)) (x:Nat) (l:List Int) (hx:x<2 ^ 64) (hb:l.length<4611686018427387904) (hl:es.length<4611686018427387904) (hk:es.length<n) (hn:64<n) (hln:l.length<n):GB n N es x l=some (K5 N es x l):=by
 unfold GB GX K5;rw[D9 n N es (by omega) hl hk,aq]
 by_cases hok:ra N es=true
 ·obtain⟨M,rfl,hO⟩:=ue hok;simp only[Jd,hok,if_true,decide_true,Bool.not_true,dO,Int.toNat_natCast]
  by_cases h0:x=0
  ·simp[h0,br,ob]
  ·rw[xJ n x hx];simp only[decide_eq_false h0,dO,aq,h0,false_or]
   by_cases h2:2 ^ M≤x
   ·have:M<bl x:=j9.2 h2;rw[decide_eq_true (show((M:Nat):Int)<((bl x:Nat):Int) by omega),if_pos h2]; rfl
   ·have:¬M<bl x:=fun g=>h2 (j9.1 g);rw[decide_eq_false (show ¬((M:Nat):Int)<((bl x:Nat):Int) by omega),if_neg h2]
    obtain⟨p,hp1,hp2⟩:=zR n hn;have:=I3 hO n x hx hn l hb l.length 0 (-1) p (fun v=>v) [] n hp2 Rt.id (Int.le_refl _) (by omega) hln
    rw[List.drop_zero] at this;simp only[dO,aq,decide_true,decide_false,Bool.not_true,hp1];have t2:cx (kZ n l es x) n (p,p.length,-1,0)=some (if Ja es x (-1) (fun v=>v) l then .inr () else .inl ()):=this
    rw[t2,aq,Cq,Ik n x hx];unfold F2;cases hr:Bx es x (-1) l<;>cases ha:aU (fun v=>v) (l.map (eg es))<;>simp only[Bool.and_true,Bool.and_false,Bool.true_and,Bool.false_and,if_true,Bool.false_eq_true,if_false,aq,decide_false,dO,decide_true,Bool.not_true,size_eq hb (mz hx h0)];cases decide (l.length+1=rk x 64)<;>rfl
 ·rw[Bool.not_eq_true] at hok;simp[Jd,hok,br,ob]
theorem nF (x:Nat):(ec x 64).Nodup:=(zm x 64).imp fun h=>Nat.ne_of_lt h
theorem Dm {N:Nat} {es:List (Int × Int)} (h:Okay N es) {x:Nat} {l:List Int} (hl:∀k ∈ l,dz es x k=true):∀e ∈ l.map (eg es),e.1 ∈ ec x 64∧e.2 ∈ ec x 64:=fun e he=>by
 obtain⟨k,hk,rfl⟩:=List.mem_map.1 he;obtain⟨h1,h2,h3⟩:=pN (hl k hk);obtain⟨a,b,_,g2,g3,g4,_⟩:=lh h h1;rw[g2] at h2 h3 ⊢;exact⟨dM.2 ⟨Nat.lt_trans g3 g4,h2⟩,dM.2 ⟨g4,h3⟩⟩
theorem Cx {N:Nat} {es:List (Int × Int)} (h:Okay N es) {x v:Nat} {l:List Int} (hx:x<2 ^ 64) (hl:∀k ∈ l,dz es x k=true) (hlen:l.length+1=rk x 64) (hv:x.testBit v=true):aU (fun v=>v) (l.map (eg es))=true↔∀j,x.testBit j=true→Cn (l.map (eg es)) v j:=by
 have h0:=vV hx hv;rw[DG (nF x) (Dm h hl) (dM.2 ⟨h0,hv⟩) (by rw[List.length_map]; exact hlen)]
 exact⟨fun g j hj=>g j (dM.2 ⟨vV hx hj,hj⟩),fun g j hj=>g j (dM.1 hj).2⟩
theorem Ge {es:List (Int × Int)} {x:Nat} {l:List Int} (h:F2 es x l=true):(∀k ∈ l,dz es x k=true)∧l.length+1=rk x 64∧aU (fun v=>v) (l.map (eg es))=true∧l.Pairwise (· < ·):=by
 simp only[F2,Bool.and_eq_true,decide_eq_true_eq] at h;exact⟨fun k hk=>(uj h.1.1 k hk).1,h.1.2,h.2,z2 h.1.1⟩
structure Tr (N:Nat) (es:List (Int × Int)) (x:Nat) (l:List Int):Prop where
 ok:Okay N es
 hx:x<2 ^ 64
 h0:x≠0
 dz:∀k ∈ l,dz es x k=true
 len:l.length+1=rk x 64
 all:aU (fun v=>v) (l.map (eg es))=true
 asc:l.Pairwise (· < ·)
section
variable {N : Nat} {es : List (Int × Int)} {x : Nat} {l : List Int} {at_ to : Nat} {k : Int}
theorem Tr.vl (h:Tr N es x l):∀k ∈ l,Vl es k:=fun k hk=>(pN (h.dz k hk)).1
theorem Tr.cn (h:Tr N es x l) {a b:Nat} (ha:x.testBit a=true) (hb:x.testBit b=true):Cn (l.map (eg es)) a b:=(Cx h.ok h.hx h.dz h.len ha).1 h.all b hb
end
section
variable {N : Nat} {es : List (Int × Int)} {x : Nat} {l : List Int} {at_ to : Nat}
end
theorem AR {a i:Nat} (ha:a<2 ^ 64) (hi:i<64):uw .u64 (uw .u64 a ||| uw .u64 (2 ^ i))=a ||| 2 ^ i:=zJ ha (HF hi)
theorem Kz {a i:Nat} (hi:i<64):rk (a ||| 2 ^ i) 64≤rk a 64+1:=by
 have key:∀(l:List Nat),l.Nodup→(l.filter (a ||| 2 ^ i).testBit).length≤(l.filter a.testBit).length+(if i ∈ l then 1 else 0):=by
  intro l
  induction l with
  | nil=>intro _; simp
  | cons b l ih =>
   intro hn;rw[List.nodup_cons] at hn;have ih:=ih hn.2
   by_cases hb:i=b
   ·subst hb;rw[if_neg hn.1] at ih;rw[if_pos (by simp)]
    rw[List.filter_cons_of_pos (by rw[Nat.testBit_or,Cu]; simp)]
    by_cases h1:a.testBit i=true
    ·rw[List.filter_cons_of_pos h1]; simp only[List.length_cons]; omega
    ·rw[List.filter_cons_of_neg h1]; simp only[List.length_cons]; omega
   ·have h2:(a ||| 2 ^ i).testBit b=a.testBit b:=by rw[Nat.testBit_or,Cu,decide_eq_false (fun e=>hb e.symm),Bool.or_false]
    have h3:(if i ∈ b::l then 1 else 0)=(if i ∈ l then 1 else 0):=by
     by_cases h4:i ∈ l
     ·rw[if_pos h4,if_pos (by simp[h4])]
     ·rw[if_neg h4,if_neg (by simp[hb,h4])]
    rw[h3]
    by_cases h1:a.testBit b=true
    ·rw[List.filter_cons_of_pos h1,List.filter_cons_of_pos (by rw[h2]; exact h1)]; simp only[List.length_cons]; omega
    ·rw[List.filter_cons_of_neg h1,List.filter_cons_of_neg (by rw[h2]; exact h1)]; exact ih
 have:=key (List.range 64) List.nodup_range;rw[if_pos (List.mem_range.2 hi)] at this;exact this
def cb:Nat→Nat→Nat
 | _,0=>1
 | 0,_+1=>0
 | e+1,d+1=>cb e d+cb e (d+1)
theorem mS (e:Nat):cb e 0=1:=by cases e<;>rfl
theorem tN (e d:Nat):cb (e+1) (d+1)=cb e d+cb e (d+1):=rfl
theorem E3 {e e':Nat} (h:e≤e') (d:Nat):cb e d≤cb e' d:=by
 induction h with
 | refl=>exact Nat.le_refl _
 | step _ ih =>
  cases d with
  | zero=>rw[mS,mS]; exact Nat.le_refl _
  | succ d=>rw[tN]; omega
def tb:Nat→Nat × Nat × Nat × Nat × Nat × Nat × Nat × Nat
 | 0=>(0,0,0,0,0,0,0,0)
 | e+1=>let (a,b,c,d,f,g,h,i):=tb e; (1+a,a+b,b+c,c+d,d+f,f+g,g+h,h+i)
theorem GH:∀e,tb e=(cb e 1,cb e 2,cb e 3,cb e 4,cb e 5,cb e 6,cb e 7,cb e 8)
 | 0=>rfl
 | e+1=>by
  unfold tb;rw[GH e];simp only[tN,mS]
def Kc:Bool:=match tb 36 with
 | (a,b,c,d,f,g,h,i)=>Nat.ble a 1073741824 && Nat.ble b 1073741824 && Nat.ble c 1073741824 && Nat.ble d 1073741824 && Nat.ble f 1073741824 && Nat.ble g 1073741824 && Nat.ble h 1073741824 && Nat.ble i 1073741824
theorem Ly:Kc=true:=by decide +kernel
theorem qo {e d:Nat} (he:e≤36) (hd:d≤8):cb e d≤1073741824:=by
 refine Nat.le_trans (E3 he d) ?_;have h:=Ly;unfold Kc at h;rw[GH] at h;simp only[Bool.and_eq_true,Nat.ble_eq] at h;have:d=0∨d=1∨d=2∨d=3∨d=4∨d=5∨d=6∨d=7∨d=8:=by omega
 rcases this with rfl|rfl|rfl|rfl|rfl|rfl|rfl|rfl|rfl
 ·rw[mS]; decide
 all_goals omega
def ib (x:Nat) (e:Int × Int):Bool:=x.testBit e.1.toNat && x.testBit e.2.toNat
def inc (es:List (Int × Int)) (x i:Nat):Nat:=((es.drop i).filter (ib x)).length
theorem CJ {es:List (Int × Int)} {x i:Nat} (hi:i<es.length):inc es x i=inc es x (i+1)+(if dz es x (i:Int)=true then 1 else 0):=by
 have e1:dz es x (i:Int)=ib x es[i]:=by
  simp only[dz,ib,eg,Int.toNat_natCast,List.getElem?_eq_getElem hi];rw[decide_eq_true ⟨Int.natCast_nonneg i,by omega⟩,Bool.true_and]
 unfold inc;rw[List.drop_eq_getElem_cons hi,e1]
 by_cases h:ib x es[i]=true
 ·rw[List.filter_cons_of_pos h,if_pos h,List.length_cons]
 ·rw[List.filter_cons_of_neg h,if_neg h]; rfl
theorem inc_le {es:List (Int × Int)} {x:Nat}:∀{i j:Nat},i≤j→inc es x j≤inc es x i:=by
 intro i j h;unfold inc;obtain⟨k,rfl⟩:∃k,j=i+k:=⟨j-i,by omega⟩
 rw[←List.drop_drop];exact(List.Sublist.filter _ (List.drop_sublist _ _)).length_le
theorem rP {α:Type} [DecidableEq α]:∀{l m:List α},l.Nodup→(∀a ∈ l,a ∈ m)→l.length≤m.length
 | [],_,_,_=>Nat.zero_le _
 | a::l,m,hn,h=>by
  rw[List.nodup_cons] at hn;have ha:=h a (by simp)
  have:=rP (l:=l) (m:=m.erase a) hn.2 fun b hb=>(List.mem_erase_of_ne (fun e=>hn.1 (by rw[←e]; exact hb))).2 (h b (by simp[hb]))
  rw[List.length_erase_of_mem ha] at this;have:0<m.length:=List.length_pos_of_mem ha;rw[List.length_cons]; omega
def prs:List Nat→List (Int × Int)
 | []=>[]
 | v::V=>(V.map fun w=>(((v:Nat):Int),((w:Nat):Int)))++prs V
theorem zM:∀{V:List Nat},V.Pairwise (· < ·)→∀{a b:Nat},a ∈ V→b ∈ V→a<b→((a:Int),(b:Int)) ∈ prs V
 | [],_,a,b,ha,_,_=>by cases ha
 | v::V,h,a,b,ha,hb,hab=>by
  rw[List.pairwise_cons] at h;unfold prs;rcases List.mem_cons.1 ha with e1|ha'
  ·rcases List.mem_cons.1 hb with e2|hb'
   ·omega
   ·rw[e1]; exact List.mem_append_left _ (List.mem_map.2 ⟨b,hb',rfl⟩)
  ·rcases List.mem_cons.1 hb with e2|hb'
   ·have:=h.1 a ha'; omega
   ·exact List.mem_append_right _ (zM h.2 ha' hb' hab)
theorem Af:∀(V:List Nat),2*(prs V).length+V.length=V.length*V.length
 | []=>rfl
 | v::V=>by
  have:=Af V;unfold prs;rw[List.length_append,List.length_map,List.length_cons];have h2:(V.length+1)*(V.length+1)=V.length*V.length+2*V.length+1:=by rw[Nat.add_mul,Nat.mul_add]; omega
  omega
theorem ga {N:Nat} {es:List (Int × Int)} {x:Nat} (hok:ra (N:Int) es=true) (h:Okay N es) (hr:rk x 64≤9) (i:Nat):inc es x i≤36:=by
 refine Nat.le_trans (inc_le (Nat.zero_le i)) ?_;have hasc:=EE hok;have hnd:(es.filter (ib x)).Nodup:=((List.Pairwise.filter _ hasc).imp fun {a b} hab e=>by
  subst e; unfold lexLt at hab; omega)
 have hle:=rP (m:=prs (ec x 64)) hnd fun e he=>by
  obtain⟨h1,h2⟩:=List.mem_filter.1 he;obtain⟨a,b,rfl,h3,h4⟩:=h.mem e h1;simp only[ib,Int.toNat_natCast,Bool.and_eq_true] at h2;have:=h.le;exact zM (zm x 64) (dM.2 ⟨by omega,h2.1⟩) (dM.2 ⟨by omega,h2.2⟩) h3
 have hp:=Af (ec x 64);have hV:(ec x 64).length≤9:=hr;unfold inc;rw[List.drop_zero];generalize (ec x 64).length=v at *;have hv:v=0∨v=1∨v=2∨v=3∨v=4∨v=5∨v=6∨v=7∨v=8∨v=9:=by omega
 rcases hv with rfl|rfl|rfl|rfl|rfl|rfl|rfl|rfl|rfl|rfl<;>omega
def DX (N:Int) (es:List (Int × Int)) (x:Nat):Int:=if ra N es then(if x=0∨2 ^ N.toNat≤x then 2 else 0) else 180
def il (es:List (Int × Int)) (x i j:Nat):List Int:=((List.range' i j).filter fun(k:Nat)=>dz es x (k:Int)).map fun(k:Nat)=>(k:Int)
theorem gO (es:List (Int × Int)) (x i j:Nat):il es x i (j+1)=if dz es x (i:Int) then(i:Int)::il es x (i+1) j else il es x (i+1) j:=by
 unfold il;rw[List.range'_succ,List.filter_cons]
 split<;>rfl
theorem wR (es:List (Int × Int)):∀(L:List Int) (d:Nat) (r:Nat→Nat),(gw es L d r).length≤cb L.length d
 | L,0,r=>by cases L<;>simp[gw,mS]
 | [],d+1,r=>Nat.zero_le _
 | k::L,d+1,r=>by
  have h1:=wR es L (d+1) r;simp only[gw,List.length_append,List.length_cons,tN]
  split
  ·simp only[List.length_nil]; omega
  ·have h2:=wR es L d (bP r (eg es k));rw[List.length_map]; omega
theorem np (es:List (Int × Int)) (x:Nat):∀j i,i+j=es.length→(il es x i j).length=inc es x i
 | 0,i,h=>by
  unfold il inc;rw[List.drop_eq_nil_of_le (by omega)]; rfl
 | j+1,i,h=>by
  have ih:=np es x j (i+1) (by omega)
  rw[gO,CJ (by omega)]
  split
  ·rw[List.length_cons,ih]
  ·rw[ih]; rfl
theorem m8 (T:List (Nat × Nat)) (e:Nat × Nat):rep (T++[e])=bP (rep T) e:=by
 unfold rep;rw[List.foldl_append]; rfl
end Go.Proofs.YtookeaakpiefjaaDoor
end

section
namespace Go.Proofs.YtookeaakpiefjaaDoor
open Go Go.Ab Go.Ab.W
def vl:List Nat→Nat
 | []=>0
 | d::l=>d+18446744073709551616*vl l
def Wd (l:List Nat):Prop:=∀d ∈ l,d<18446744073709551616
def wp (k:Nat):Nat:=18446744073709551616 ^ k
theorem tJ:wp 0=1:=rfl
theorem ft (k:Nat):wp (k+1)=18446744073709551616*wp k:=by unfold wp; rw[Nat.pow_succ,Nat.mul_comm]
theorem Hc (a b:Nat):wp (a+b)=wp a*wp b:=Nat.pow_add _ _ _
theorem CD (k:Nat):0<wp k:=Nat.pow_pos (by decide)
theorem kk:vl []=0:=rfl
theorem fp (d:Nat) (l:List Nat):vl (d::l)=d+18446744073709551616*vl l:=rfl
theorem xz (a b:List Nat):vl (a++b)=vl a+wp a.length*vl b:=by
 induction a with
 | nil=>simp[vl,wp]
 | cons d a ih=>rw[List.cons_append,fp,fp,ih,List.length_cons,ft,Nat.mul_add,Nat.mul_assoc,Nat.add_assoc]
theorem rp {l:List Nat} (h:Wd l):vl l<wp l.length:=by
 induction l with
 | nil=>exact Nat.one_pos
 | cons d l ih =>
  have h1:=h d List.mem_cons_self;have h2:=ih fun e he=>h e (List.mem_cons_of_mem _ he);rw[fp,List.length_cons,ft];omega
theorem CV (k:Nat):vl (List.replicate k 0)=0:=by
 induction k with
 | zero=>rfl
 | succ k ih=>rw[List.replicate_succ,fp,ih]
theorem Wd.nil:Wd []:=fun _ h=>nomatch h
theorem Wd.zeros (k:Nat):Wd (List.replicate k 0):=fun d hd=>by rw[List.eq_of_mem_replicate hd]; decide
theorem Wd.app {a b:List Nat} (ha:Wd a) (hb:Wd b):Wd (a++b):=fun d hd=>(List.mem_append.1 hd).elim (ha d) (hb d)
theorem Wd.one {d:Nat} (h:d<18446744073709551616):Wd [d]:=fun e he=>by rw[List.mem_singleton.1 he]; exact h
theorem Wd.at {l:List Nat} (h:Wd l) {i d:Nat} (hi:l[i]? = some d):d<18446744073709551616:=h d (List.mem_of_getElem? hi)
theorem Wd.set {l:List Nat} (h:Wd l) {i d:Nat} (hd:d<18446744073709551616):Wd (l.set i d):=fun e he=>by
 rcases List.mem_or_eq_of_mem_set he with h1|rfl
 ·exact h e h1
 ·exact hd
theorem Wd.take {l:List Nat} (h:Wd l) (k:Nat):Wd (l.take k):=fun d hd=>h d (List.mem_of_mem_take hd)
theorem Wd.drop {l:List Nat} (h:Wd l) (k:Nat):Wd (l.drop k):=fun d hd=>h d (List.mem_of_mem_drop hd)
theorem eR (l:List Nat) (i:Nat) (hi:i≤l.length):vl l=vl (l.take i)+wp i*vl (l.drop i):=by
 have:=xz (l.take i) (l.drop i);rwa[List.take_append_drop,List.length_take,Nat.min_eq_left hi] at this
theorem k6 {l:List Nat} {i d:Nat} (hi:l[i]? = some d):vl (l.drop i)=d+18446744073709551616*vl (l.drop (i+1)):=by
 obtain⟨h1,h2⟩:=List.getElem?_eq_some_iff.1 hi;rw[List.drop_eq_getElem_cons h1,fp,h2]
theorem Cj {l:List Nat} {i d:Nat} (e:Nat) (hi:l[i]? = some d):vl (l.set i e)+wp i*d=vl l+wp i*e:=by
 obtain⟨h1,h2⟩:=List.getElem?_eq_some_iff.1 hi;have a:=eR l i (Nat.le_of_lt h1);have b:=eR (l.set i e) i (by rw[List.length_set]; exact Nat.le_of_lt h1)
 have c:(l.set i e)[i]? = some e:=by rw[List.getElem?_set_self h1]
 rw[k6 hi] at a;rw[k6 c,List.take_set_of_le (Nat.le_refl i),List.drop_set_of_lt (show i<i+1 from Nat.lt_succ_self i)] at b
 rw[a,b,Nat.mul_add,Nat.mul_add];omega
structure Lg (z:Int) (s:Bool) (l:List Nat):Prop where
 wd:Wd l
 last:∀d,l.getLast? = some d→d≠0
 val:z=if s then -(vl l:Int) else(vl l:Int)
 sign:s=true→l≠[]
theorem tG {l:List Nat} (h:∀d,l.getLast? = some d→d≠0) (hl:l≠[]):wp (l.length-1)≤vl l:=by
 obtain⟨a,d,rfl⟩:∃a d,l=a++[d]:=⟨l.dropLast,l.getLast hl,(List.dropLast_concat_getLast hl).symm⟩;have h1:=h d (by simp)
 rw[xz,List.length_append,List.length_singleton,Nat.add_sub_cancel,fp,kk];have:wp a.length*1≤wp a.length*(d+18446744073709551616*0):=Nat.mul_le_mul_left _ (by omega)
 omega
theorem iP {l:List Nat} (h:∀d,l.getLast? = some d→d≠0):vl l=0↔l = []:=by
 refine⟨fun h1=>?_,fun h1=>by rw[h1]; rfl⟩
 by_cases hl:l = []
 ·exact hl
 ·have:=tG h hl;have:=CD (l.length-1);omega
theorem rY {d:Nat} {l:List Nat} (h:∀e,(d::l).getLast? = some e→e≠0):∀e,l.getLast? = some e→e≠0:=by
 intro e he;cases l with
 | nil=>cases he
 | cons a l=>exact h e (by rw[List.getLast?_cons_cons]; exact he)
theorem CY:∀{l k:List Nat},Wd l→Wd k→(∀d,l.getLast? = some d→d≠0)→(∀d,k.getLast? = some d→d≠0)→vl l=vl k→l=k:=by
 intro l
 induction l with
 | nil=>intro k _ _ _ hk h; exact((iP hk).1 h.symm).symm
 | cons d l ih =>
  intro k wl wk hl hk h;cases k with
  | nil=>exact absurd ((iP hl).1 h) (by simp)
  | cons e k =>
   have h1:=wl d List.mem_cons_self;have h2:=wk e List.mem_cons_self;rw[fp,fp] at h;have h3:d=e:=by omega
   have h4:vl l=vl k:=by omega
   rw[h3,ih (fun x hx=>wl x (List.mem_cons_of_mem _ hx)) (fun x hx=>wk x (List.mem_cons_of_mem _ hx)) (rY hl) (rY hk) h4]
theorem Lg.inj {z:Int} {s t:Bool} {l k:List Nat} (h:Lg z s l) (h':Lg z t k):s=t∧l=k:=by
 have a:=h.val;have b:=h'.val;have hz:=iP h.last;have hz':=iP h'.last;have e:vl l=vl k:=by
  cases s<;>cases t<;>simp only[Bool.false_eq_true,if_false,if_true] at a b<;>omega
 have e':=CY h.wd h'.wd h.last h'.last e;refine⟨?_,e'⟩;subst e';cases s<;>cases t<;>simp only[Bool.false_eq_true,if_false,if_true] at a b
 ·rfl
 ·exact absurd (hz.1 (by omega)) (h'.sign rfl)
 ·exact absurd (hz.1 (by omega)) (h.sign rfl)
 ·rfl
def vn (s:Bool) (x:Nat):Int:=if s then -(x:Int) else(x:Int)
theorem Lg.zero:Lg 0 false []:={ wd:=Wd.nil,last:=fun _ h=>(nomatch h),val:=rfl,sign:=fun h=>(nomatch h)}
theorem Lg.small {x:Nat} (h0:x≠0) (h:x<18446744073709551616) (s:Bool):Lg (vn s x) s [x]:=⟨Wd.one h,fun d hd=>by simp at hd; omega,by simp[vn,vl],fun _=>by simp⟩
theorem Lg.Di {z:Int} {s:Bool} {l:List Nat} (h:Lg z s l):s=decide (z<0):=by
 have a:=h.val;have hz:=iP h.last;cases s with
 | false=>simp only[Bool.false_eq_true,if_false] at a; rw[decide_eq_false (by omega)]
 | true =>
  simp only[if_true] at a;have:vl l≠0:=fun e=>h.sign rfl (hz.1 e);rw[decide_eq_true (by omega)]
theorem Lg.abs {z:Int} {s:Bool} {l:List Nat} (h:Lg z s l):vl l=z.natAbs:=by
 have a:=h.val;cases s<;>simp only[Bool.false_eq_true,if_false,if_true] at a<;>omega
theorem Lg.Lc {z:Int} {s:Bool} {l:List Nat} (h:Lg z s l):l = []↔z=0:=by
 rw[←iP h.last,h.abs]; omega
theorem Lg.JA {z:Int} {s:Bool} {l:List Nat} (h:Lg z s l) (hz:z≠0) (hb:z.natAbs<18446744073709551616):l = [z.natAbs]:=by
 have hl:l≠[]:=fun e=>hz (h.Lc.1 e);exact CY h.wd (Wd.one hb) h.last (fun d hd=>by simp at hd; omega) (by rw[h.abs]; simp[vl])
theorem jO {n:Nat} (s:Bool) {l:List Nat} (hl:Wd l) (hb:l.length<4611686018427387904) (hn:l.length<n) :
  ∃t k,uD n s l=some (t,k)∧Lg (vn s (vl l)) t k:=by
 have hL:∀i m,i≤l.length→i<m→vl (l.drop i)=0→∃j,cx (gI n l) m ((i:Nat):Int)=some ((j:Nat):Int)∧j≤l.length∧vl (l.drop j)=0∧∀d,(l.take j).getLast? = some d→d≠0:=by
  intro i
  induction i with
  | zero =>
   intro m _ hm h0;obtain⟨m,rfl⟩:∃m',m=m'+1:=⟨m-1,by omega⟩
   refine⟨0,bB ?_,Nat.zero_le _,h0,fun d hd=>by simp at hd⟩
   unfold gI;rw[aX (by decide)]; rfl
  | succ i ih =>
   intro m hi hm h0;obtain⟨m,rfl⟩:∃m',m=m'+1:=⟨m-1,by omega⟩
   have hi':i<l.length:=hi;have e0:IntKind.wrap .i64 (((i+1:Nat):Int)-1)=((i:Nat):Int):=by rw[bt (by omega) (by omega)]; omega
   have e1:l[((i:Nat):Int).toNat]? = some l[i]:=by simp[hi']
   have e2:l[i]? = some l[i]:=by simp[hi']
   by_cases hz:l[i]=0
   ·have:gI n l ((i+1:Nat):Int)=some (.inl ((i:Nat):Int)):=by
     unfold gI;rw[bm (by omega),e0,aC hi',aV,e1,aq,aq,bm hz]
    rw[aR this];exact ih m (Nat.le_of_lt hi') (by omega) (by rw[k6 e2,hz,h0])
   ·refine⟨i+1,bB ?_,hi,h0,fun d hd=>?_⟩
    ·unfold gI;rw[bm (by omega),e0,aC hi',aV,e1,aq,aq,aX hz]
    ·rw[List.getLast?_eq_getElem?,List.length_take,Nat.min_eq_left hi,Nat.add_sub_cancel,List.getElem?_take_of_lt (Nat.lt_succ_self i),e2] at hd;cases hd;exact hz
 obtain⟨j,h1,h2,h3,h4⟩:=hL l.length n (Nat.le_refl _) hn (by rw[List.drop_length]; rfl)
 have hv:vl l=vl (l.take j):=by rw[eR l j h2,h3]; omega
 have hk:okB 0 ((j:Nat):Int) l.length=true:=decide_eq_true ⟨by omega,by omega,by omega⟩
 have ht:(l.drop (0:Int).toNat).take (((j:Nat):Int).toNat-(0:Int).toNat)=l.take j:=by simp
 have hz:=iP h4;unfold uD;rw[h1,aq];cases s with
 | false =>
  refine⟨false,l.take j,?_,hl.take j,h4,?_,fun h=>nomatch h⟩
  ·rw[dO,hk,aV,ht]
  ·rw[hv]; rfl
 | true =>
  refine⟨decide (0<((j:Nat):Int)),l.take j,?_,hl.take j,h4,?_,fun h e=>?_⟩
  ·rw[dc,hk,aV,ht]
  ·rw[hv]
   by_cases hj:0<((j:Nat):Int)
   ·rw[decide_eq_true hj]; rfl
   ·have:j=0:=by omega
    subst this
    rfl
  ·have h5:=of_decide_eq_true h;have:=congrArg List.length e;rw[List.length_take,Nat.min_eq_left h2] at this;simp at this;omega
theorem rv (l:List Nat) (i:Nat):∃y,vl (l.drop i)=y+18446744073709551616*vl (l.drop (i+1))∧(Wd l→y<18446744073709551616) ∧
  (br (decide (((i:Nat):Int)<(l.length:Int))) (gd (bZ ((i:Nat):Int) l.length) (ob (l[((i:Nat):Int).toNat]?) fun x=>some x)) (some 0))=some y:=by
 by_cases h:i<l.length
 ·have e2:l[i]? = some l[i]:=by simp[h]
  exact⟨l[i],k6 e2,fun w=>w.at e2,by rw[bm (by omega),aC h,aV,Int.toNat_natCast,e2]; rfl⟩
 ·refine⟨0,?_,fun _=>by decide,by rw[aX (by omega)]⟩
  rw[List.drop_eq_nil_of_le (by omega),List.drop_eq_nil_of_le (by omega)]; rfl
theorem uU {a:List Nat} {k e d:Nat}:(a++e::List.replicate k 0).set a.length d=(a++[d])++List.replicate k 0:=by
 rw[List.set_append_right _ _ (Nat.le_refl _),Nat.sub_self,List.set_cons_zero,List.append_assoc]; rfl
theorem oM (a:List Nat) (d:Nat):vl (a++[d])=vl a+wp a.length*d:=by rw[xz,fp,kk]; rfl
theorem IL {n:Nat} {l k:List Nat} (hl:Wd l) (hk:Wd k) (hb:l.length<1073741824) (hb':k.length<1073741824) (hn:l.length<n) (hn':k.length<n) :
  ∃r,KN n l k=some r∧Wd r∧vl r=vl l+vl k∧r.length≤l.length+k.length+1:=by
 have key:∀a b:List Nat,Wd a→Wd b→a.length<1073741824→b.length≤a.length→a.length<n→∃r,(gd (decide (0≤IntKind.wrap .i64 ((a.length:Int)+1))) (gd (oD ((IntKind.wrap .i64 ((a.length:Int)+1)).toNat)) (
   ob (cx (pd n a b) n ((List.replicate (IntKind.wrap .i64 ((a.length:Int)+1)).toNat (0:Nat)),(IntKind.wrap .i64 ((a.length:Int)+1)).toNat,0,0)) fun(l1,n0,v0) =>
   gd (bZ (a.length:Int) n0) (ob (l1[(a.length:Int).toNat]?) fun x3=>some (l1.set ((a.length:Int).toNat) v0)))))=some r∧Wd r∧vl r=vl a+vl b∧r.length=a.length+1:=by
  intro a b ha h4 hba hab hna;have w0:IntKind.wrap .i64 ((a.length:Int)+1)=((a.length+1:Nat):Int):=by rw[bt (by omega) (by omega)]; rfl
  have hL:∀j i m p c,i+j=a.length→j<m→p.length=i→Wd p→c≤1→vl p+wp i*(c+vl (a.drop i)+vl (b.drop i))=vl a+vl b →
    ∃q c',cx (pd n a b) m (p++List.replicate (j+1) 0,a.length+1,c,((i:Nat):Int))=some (q++[0],a.length+1,c')∧q.length=a.length∧Wd q∧c'≤1∧vl q+wp a.length*c'=vl a+vl b:=by
   intro j
   induction j with
   | zero =>
    intro i m p c hij hm hp wp' hc hv;obtain⟨m,rfl⟩:∃m',m=m'+1:=⟨m-1,by omega⟩
    have hi:i=a.length:=by omega
    refine⟨p,c,bB ?_,by omega,wp',hc,?_⟩
    ·unfold pd
     dsimp only
     rw[aX (by omega)]; rfl
    ·subst hi;rw[List.drop_length,List.drop_eq_nil_of_le (by omega),kk] at hv
     simpa using hv
   | succ j ih =>
    intro i m p c hij hm hp wp' hc hv;obtain⟨m,rfl⟩:∃m',m=m'+1:=⟨m-1,by omega⟩
    have hi:i<a.length:=by omega
    obtain⟨x,e0⟩:∃x,a[i]? = some x:=⟨a[i],by simp[hi]⟩
    have hx:=ha.at e0;obtain⟨y,y1,y2,y3⟩:=rv b i;have y2:=y2 h4;have e1:(p++List.replicate (j+1+1) 0)[((i:Nat):Int).toNat]? = some 0:=by
     rw[Int.toNat_natCast,List.getElem?_append_right (by omega),List.getElem?_replicate]; simp; omega
    have st:pd n a b (p++List.replicate (j+1+1) 0,a.length+1,c,((i:Nat):Int))=some (.inl ((p++[(x+y+c)%18446744073709551616])++List.replicate (j+1) 0,a.length+1,(x+y+c)/18446744073709551616,((i+1:Nat):Int))):=by
     unfold pd
     dsimp only
     rw[bm (by omega),aC hi,aV,Int.toNat_natCast,e0,aq]
     rw[Int.toNat_natCast] at y3 e1;rw[y3,aq];unfold AM;rw[cQ hc,aq]
     dsimp only
     rw[aC (show i<a.length+1 by omega),aV,e1,aq,bE (by omega),←hp,List.replicate_succ,uU]
    rw[aR st];refine ih (i+1) m _ _ (by omega) (by omega) (by rw[List.length_append,hp]; rfl) (wp'.app (Wd.one (Nat.mod_lt _ (by decide)))) (by omega) ?_
    rw[←hv,oM,hp,ft,k6 e0,y1];have h1:∀s:Nat,s=s%18446744073709551616+18446744073709551616*(s/18446744073709551616):=fun s=>(Nat.mod_add_div s _).symm;have h0:=h1 (x+y+c);generalize (x+y+c)%18446744073709551616=lo at h0 ⊢;generalize (x+y+c)/18446744073709551616=hi' at h0 ⊢;have h2:c+(x+18446744073709551616*vl (a.drop (i+1)))+(y+18446744073709551616*vl (b.drop (i+1)))=lo+18446744073709551616*(hi'+vl (a.drop (i+1))+vl (b.drop (i+1))):=by omega
    rw[h2,Nat.mul_add (wp i),Nat.mul_left_comm (wp i),←Nat.mul_assoc,Nat.add_assoc,Nat.add_assoc]
  obtain⟨q,c',h1,h0,h2,h3,h5⟩:=hL a.length 0 n [] 0 (by omega) hna rfl Wd.nil (by omega) (by simp[vl,wp])
  refine⟨q++[c'],?_,h2.app (Wd.one (by omega)),by rw[oM,h0,h5],by rw[List.length_append,h0]; rfl⟩
  rw[w0,cQ (by omega)]
  have hlim:oD ((a.length+1:Nat):Int).toNat=true:=ja (by omega)
  rw[hlim,aV,Int.toNat_natCast];rw[show(List.replicate (a.length+1) (0:Nat),a.length+1,(0:Nat),(0:Int))=(([]:List Nat)++List.replicate (a.length+1) 0,a.length+1,0,((0:Nat):Int)) from rfl,h1,aq]
  dsimp only
  rw[aC (Nat.lt_succ_self _),aV,Int.toNat_natCast,←h0,List.getElem?_append_right (Nat.le_refl _),Nat.sub_self];rw[show([0]:List Nat)[0]? = some 0 from rfl,aq,List.set_append_right _ _ (Nat.le_refl _),Nat.sub_self]
  rfl
 unfold KN
 by_cases h:l.length<k.length
 ·rw[bm (by omega),aq]
  obtain⟨r,h1,h0,h2,h3⟩:=key k l hk hl hb' (Nat.le_of_lt h) hn';exact⟨r,h1,h0,by omega,by omega⟩
 ·rw[aX (by omega),aq]
  obtain⟨r,h1,h0,h2,h3⟩:=key l k hl hk hb (by omega) hn
  exact⟨r,h1,h0,h2,by omega⟩
theorem HW {n:Nat} {l k:List Nat} (hl:Wd l) (hk:Wd k) (ll:∀d,l.getLast? = some d→d≠0) (lk:∀d,k.getLast? = some d→d≠0) (hb:l.length<1073741824) (hb':k.length<1073741824) (hn:l.length<n) :
  ∃r:Int,Jj n l k=some r∧(r<0↔vl l<vl k)∧(0<r↔vl k<vl l):=by
 have big:∀a b:List Nat,Wd a→(∀d,b.getLast? = some d→d≠0)→a.length<b.length→vl a<vl b:=by
  intro a b ha hb h;have h1:=rp ha;have h2:=tG hb (by intro e; rw[e] at h; exact Nat.not_lt_zero _ h)
  have h3:wp a.length≤wp (b.length-1):=Nat.pow_le_pow_right (by decide) (by omega)
  omega
 unfold Jj
 by_cases h:l.length=k.length
 ·rw[decide_eq_true (show(l.length:Int)=(k.length:Int) by omega),Bool.not_true,dO]
  have hL:∀i m,i≤l.length→i<m→vl (l.drop i)=vl (k.drop i)→∃r,cx (ov n l k) m ((i:Int)-1)=some r ∧
    ((r = .inl (-1)∧vl l<vl k)∨(r = .inl 1∧vl k<vl l)∨(r = .inr ()∧vl l=vl k)):=by
   intro i
   induction i with
   | zero =>
    intro m _ hm h0;obtain⟨m,rfl⟩:∃m',m=m'+1:=⟨m-1,by omega⟩
    refine⟨.inr (),bB ?_,.inr (.inr ⟨rfl,by simpa using h0⟩)⟩
    unfold ov;rw[aX (by decide)]
   | succ i ih =>
    intro m hi hm h0;obtain⟨m,rfl⟩:∃m',m=m'+1:=⟨m-1,by omega⟩
    obtain⟨x,e2⟩:∃x,l[i]? = some x:=⟨l[i],by simp⟩
    obtain⟨y,e3⟩:∃y,k[i]? = some y:=⟨k[i],by simp⟩
    have a1:=k6 e2;have a2:=k6 e3;have a3:=eR l i (by omega)
    have a4:=eR k i (by omega)
    have t1:=rp (hl.take i);have t2:=rp (hk.take i);rw[List.length_take,Nat.min_eq_left (by omega)] at t1 t2
    have e0:((i+1:Nat):Int)-1=((i:Nat):Int):=by omega
    rw[e0];rcases Nat.lt_trichotomy x y with hxy|hxy|hxy
    ·refine⟨.inl (-1),bB ?_,.inl ⟨rfl,?_⟩⟩
     ·unfold ov;rw[bm (by omega),aC (by omega),aV,Int.toNat_natCast,e2,aq,aC (by omega),aV,e3,aq,bm hxy]
     ·have:wp i*(vl (l.drop i)+1)≤wp i*vl (k.drop i):=Nat.mul_le_mul_left _ (by omega)
      rw[Nat.mul_add] at this;omega
    ·have st:ov n l k ((i:Nat):Int)=some (.inl (((i:Nat):Int)-1)):=by
      unfold ov;rw[bm (by omega),aC (by omega),aV,Int.toNat_natCast,e2,aq,aC (by omega),aV,e3,aq,aX (by omega),aV,aV,aX (by omega),bt (by omega) (by omega)]
     rw[aR st];exact ih m (by omega) (by omega) (by omega)
    ·refine⟨.inl 1,bB ?_,.inr (.inl ⟨rfl,?_⟩)⟩
     ·unfold ov;rw[bm (by omega),aC (by omega),aV,Int.toNat_natCast,e2,aq,aC (by omega),aV,e3,aq,aX (by omega),aV,aV,bm hxy]
     ·have:wp i*(vl (k.drop i)+1)≤wp i*vl (l.drop i):=Nat.mul_le_mul_left _ (by omega)
      rw[Nat.mul_add] at this;omega
  obtain⟨r,h1,h2⟩:=hL l.length n (Nat.le_refl _) hn (by rw[List.drop_length,h,List.drop_length])
  rw[bt (by omega) (by omega),h1,aq]
  rcases h2 with⟨rfl,h2⟩|⟨rfl,h2⟩|⟨rfl,h2⟩
  ·exact⟨-1,rfl,by omega,by omega⟩
  ·exact⟨1,rfl,by omega,by omega⟩
  ·exact⟨0,rfl,by omega,by omega⟩
 ·rw[decide_eq_false (show ¬(l.length:Int)=(k.length:Int) by omega),Bool.not_false,dc]
  refine⟨_,rfl,?_,?_⟩<;>rw[bt (by omega) (by omega)]
  ·refine⟨fun h1=>big l k hl lk (by omega),fun h1=>?_⟩
   by_cases h2:l.length<k.length
   ·omega
   ·have:=big k l hk ll (by omega); omega
  ·refine⟨fun h1=>big k l hk ll (by omega),fun h1=>?_⟩
   by_cases h2:k.length<l.length
   ·omega
   ·have:=big l k hl lk (by omega); omega
theorem BS {n:Nat} {l k:List Nat} (hl:Wd l) (hk:Wd k) (hle:vl k≤vl l) (hlk:k.length≤l.length) (hb:l.length<1073741824) (hn:l.length<n) :
  ∃r,Je n l k=some r∧Wd r∧vl r=vl l-vl k∧r.length=l.length:=by
 have hL:∀j i m p c,i+j=l.length→j<m→p.length=i→Wd p→c≤1→vl p+wp i*vl (l.drop i)+vl k=vl l+wp i*(c+vl (k.drop i)) →
   ∃q c',cx (rN n l k) m (p++List.replicate j 0,c,((i:Nat):Int))=some q∧q.length=l.length∧Wd q∧c'≤1∧vl q+vl k=vl l+wp l.length*c':=by
  intro j
  induction j with
  | zero =>
   intro i m p c hij hm hp wp' hc hv;obtain⟨m,rfl⟩:∃m',m=m'+1:=⟨m-1,by omega⟩
   have hi:i=l.length:=by omega
   refine⟨p,c,bB ?_,by omega,wp',hc,?_⟩
   ·unfold rN
    dsimp only
    rw[aX (by omega),List.replicate_zero,List.append_nil]
   ·subst hi;rw[List.drop_length,List.drop_eq_nil_of_le (by omega),kk] at hv
    simpa using hv
  | succ j ih =>
   intro i m p c hij hm hp wp' hc hv;obtain⟨m,rfl⟩:∃m',m=m'+1:=⟨m-1,by omega⟩
   have hi:i<l.length:=by omega
   obtain⟨x,e2⟩:∃x,l[i]? = some x:=⟨l[i],by simp[hi]⟩
   have hx:=hl.at e2;obtain⟨y,y1,y2,y3⟩:=rv k i;have y2:=y2 hk;have e3:(p++List.replicate (j+1) 0)[((i:Nat):Int).toNat]? = some 0:=by
    rw[Int.toNat_natCast,List.getElem?_append_right (by omega),List.getElem?_replicate]; simp; omega
   have st:rN n l k (p++List.replicate (j+1) 0,c,((i:Nat):Int))=some (.inl ((p++[(x+18446744073709551616-y-c)%18446744073709551616])++List.replicate j 0,if x<y+c then 1 else 0,((i+1:Nat):Int))):=by
    unfold rN
    dsimp only
    rw[bm (by omega),aC hi,aV,Int.toNat_natCast,e2,aq]
    rw[Int.toNat_natCast] at y3 e3;rw[y3,aq];unfold EI;rw[cQ hc,aq]
    dsimp only
    rw[Int.toNat_natCast,aC hi,aV,e3,aq,bE (by omega),←hp,List.replicate_succ,uU]
   rw[aR st];refine ih (i+1) m _ _ (by omega) (by omega) (by rw[List.length_append,hp]; rfl) (wp'.app (Wd.one (Nat.mod_lt _ (by decide)))) (by split<;>omega) ?_
   rw[k6 e2,y1] at hv;rw[oM,hp,ft];have h2:(x+18446744073709551616-y-c)%18446744073709551616+y+c=x+18446744073709551616*(if x<y+c then 1 else 0):=by split<;>omega
   generalize (x+18446744073709551616-y-c)%18446744073709551616=lo at h2 ⊢;generalize (if x<y+c then 1 else 0)=hi' at h2 ⊢
   generalize vl (l.drop (i+1))=A at hv ⊢;generalize vl (k.drop (i+1))=D at hv ⊢;have h3:wp i*(lo+y+c)=wp i*(x+18446744073709551616*hi'):=by rw[h2]
   simp only[Nat.mul_add,Nat.mul_left_comm (wp i) 18446744073709551616,Nat.mul_assoc] at hv h3 ⊢;omega
 obtain⟨q,c',h1,h2,h3,h4,h5⟩:=hL l.length 0 n [] 0 (by omega) hn rfl Wd.nil (by omega) (by simp[vl,wp])
 refine⟨q,?_,h3,?_,h2⟩
 ·unfold Je;rw[cQ (by omega),Int.toNat_natCast,ja (by omega),aV]
  rw[show(List.replicate l.length (0:Nat),(0:Nat),(0:Int))=(([]:List Nat)++List.replicate l.length 0,0,((0:Nat):Int)) from rfl,h1,aq]
 ·have h6:=rp h3;rw[h2] at h6;have:c'=0:=by
   rcases Nat.le_one_iff_eq_zero_or_eq_one.1 h4 with e|e
   ·exact e
   ·rw[e] at h5; omega
  rw[this] at h5;omega
theorem u7 (s:Bool):vn s 0=0:=by cases s<;>rfl
theorem tI {n:Nat} {a b:Int} {s t:Bool} {l k:List Nat} (h:Lg a s l) (h':Lg b t k) (hb:l.length<1000000) (hb':k.length<1000000) (hn:l.length+k.length+1<n) :
  ∃u m,Bn n s l t k=some (u,m)∧Lg (a+b) u m:=by
 have av:=h.val;have bv:=h'.val;unfold Bn
 by_cases e:s=t
 ·subst e;rw[beq_self_eq_true,dc];obtain⟨r,r1,r2,r3,r4⟩:=IL (n:=n) h.wd h'.wd (by omega) (by omega) (by omega) (by omega)
  obtain⟨u,m,m1,m2⟩:=jO (n:=n) s r2 (by omega) (by omega)
  refine⟨u,m,by rw[r1,aq,m1]; rfl,?_⟩
  have:a+b=vn s (vl r):=by rw[av,bv,r3]; unfold vn; cases s<;>simp<;>omega
  rw[this]; exact m2
 ·have:(s == t)=false:=by cases s<;>cases t<;>simp_all
  rw[this,dO];obtain⟨r,r1,r2,r3⟩:=HW (n:=n) h.wd h'.wd h.last h'.last (by omega) (by omega) (by omega)
  have ht:t = !s:=by cases s<;>cases t<;>simp_all
  have longer:∀p q:List Nat,Wd p→Wd q→(∀d,p.getLast? = some d→d≠0)→(∀d,q.getLast? = some d→d≠0)→vl p≤vl q→p.length≤q.length:=by
   intro p q wp1 wq1 lp lq hle;refine Nat.le_of_not_lt fun hlt=>?_;have h1:=rp wq1;have h2:=tG lp (by intro e; rw[e] at hlt; exact Nat.not_lt_zero _ hlt)
   have h3:wp q.length≤wp (p.length-1):=Nat.pow_le_pow_right (by decide) (by omega)
   omega
  rw[r1,aq]
  by_cases hr:r<0
  ·have hv:=r2.1 hr;obtain⟨m,m1,m2,m3,m4⟩:=BS (n:=n) h'.wd h.wd (Nat.le_of_lt hv) (longer _ _ h.wd h'.wd h.last h'.last (Nat.le_of_lt hv)) (by omega) (by omega)
   obtain⟨u,m',u1,u2⟩:=jO (n:=n) t m2 (by omega) (by omega)
   refine⟨u,m',by rw[bm hr,aq]; dsimp only; rw[m1,aq,u1]; rfl,?_⟩
   have:a+b=vn t (vl m):=by rw[av,bv,m3,ht]; unfold vn; cases s<;>simp<;>omega
   rw[this]; exact u2
  ·have hv:vl k≤vl l:=Nat.le_of_not_lt fun h=>hr (r2.2 h);obtain⟨m,m1,m2,m3,m4⟩:=BS (n:=n) h.wd h'.wd hv (longer _ _ h'.wd h.wd h'.last h.last hv) (by omega) (by omega)
   obtain⟨u,m',u1,u2⟩:=jO (n:=n) s m2 (by omega) (by omega)
   refine⟨u,m',by rw[aX hr,aq]; dsimp only; rw[m1,aq,u1]; rfl,?_⟩
   have:a+b=vn s (vl m):=by rw[av,bv,m3,ht]; unfold vn; cases s<;>simp<;>omega
   rw[this]; exact u2
theorem Iv {n:Nat} {a:Int} {s:Bool} {l:List Nat} (h:Lg a s l) (hb:l.length<1000000) (hn:l.length<n):∃u m,JW n s l=some (u,m)∧Lg (-a) u m:=by
 obtain⟨u,m,m1,m2⟩:=jO (n:=n) (!s) h.wd (by omega) hn
 refine⟨u,m,by unfold JW; rw[m1]; rfl,?_⟩
 have : -a=vn (!s) (vl l):=by rw[h.val]; unfold vn; cases s<;>simp
 rw[this]; exact m2
theorem Lg.len {a:Int} {s:Bool} {l:List Nat} (h:Lg a s l) {k:Nat} (hk:a.natAbs<wp k):l.length≤k:=by
 refine Nat.le_of_not_lt fun hlt=>?_;have h2:=tG h.last (by intro e; rw[e] at hlt; exact Nat.not_lt_zero _ hlt)
 have h3:wp k≤wp (l.length-1):=Nat.pow_le_pow_right (by decide) (by omega)
 have:=h.abs;omega
theorem Lg.up {a:Int} {s:Bool} {l:List Nat} (h:Lg a s l):a.natAbs<wp l.length:=by
 rw[←h.abs]; exact rp h.wd
theorem xj {n:Nat} {a b:Int} {s t:Bool} {l k:List Nat} (h:Lg a s l) (h':Lg b t k) (hb:l.length<1000000) (hb':k.length<1000000) (hn:l.length+k.length+1<n) :
  ∃u m,HU n s l t k=some (u,m)∧Lg (a-b) u m:=by
 obtain⟨u,m,m1,m2⟩:=Iv (n:=n) h' hb' (by omega)
 have hm:m.length≤k.length:=m2.len (by rw[Int.natAbs_neg]; exact h'.up)
 obtain⟨v,q,q1,q2⟩:=tI (n:=n) h m2 hb (by omega) (by omega)
 exact⟨v,q,by unfold HU; rw[m1,aq]; dsimp only; rw[q1]; rfl,q2⟩
theorem yx {n:Nat} {a:Int} {s:Bool} {l:List Nat} (h:Lg a s l):∃r,Hs n s l=some r∧(r<0↔a<0)∧(r=0↔a=0):=by
 have h1:=h.Di;have h2:=h.Lc;unfold Hs;cases s with
 | true =>
  have:=of_decide_eq_true h1.symm;exact⟨-1,rfl,by omega,by omega⟩
 | false =>
  have:=of_decide_eq_false h1.symm;rw[dO]
  by_cases hl:l = []
  ·subst hl;have:=h2.1 rfl;exact⟨0,rfl,by omega,by omega⟩
  ·have:¬a=0:=fun e=>hl (h2.2 e);have:¬(l.length:Int)=0:=fun e=>hl (List.eq_nil_of_length_eq_zero (by omega))
   rw[aX this];exact⟨1,rfl,by omega,by omega⟩
theorem wa {a:Nat} (ha:a<18446744073709551616):uw .u64 (uw .u64 a &&& uw .u64 4294967295)=a%4294967296:=by
 rw[wK ha (by decide)]
 exact Nat.and_two_pow_sub_one_eq_mod a 32
theorem BV (a:Nat):bI .u64 a 32=a/4294967296:=rfl
theorem oG {a:Nat} (h:a<18446744073709551616):uw .u64 a=a:=Nat.mod_eq_of_lt h
theorem FN (n:Nat) {x y:Nat} (hx:x<18446744073709551616) (hy:y<18446744073709551616):Ev n x y=some (x*y/18446744073709551616,x*y%18446744073709551616):=by
 obtain⟨b1,b2,b3,hhi⟩:=Lib.mul64_hi x y hx hy;have ba:=Lib.half_mul_le (a:=x/4294967296) (b:=y/4294967296) (by omega) (by omega)
 have bb:=Lib.half_mul_le (a:=x/4294967296) (b:=y%4294967296) (by omega) (by omega)
 have bc:=Lib.half_mul_le (a:=x%4294967296) (b:=y/4294967296) (by omega) (by omega)
 unfold Ev;simp only[wa hx,wa hy,BV,aq];rw[oG b1,oG (a:=x/4294967296*(y%4294967296)) (by omega)]
 rw[oG b2,wa b2,oG (a:=x%4294967296*(y/4294967296)) (by omega),oG b3,oG (a:=x/4294967296*(y/4294967296)) (by omega)]
 rw[oG (a:=x/4294967296*(y/4294967296)+_) (by omega),oG (by omega),hhi]
 rfl
theorem F1 {n:Nat} {k:List Nat} (hk:Wd k) {x i N:Nat} (hx:x<18446744073709551616) (hN:i+k.length<N) (hNb:N<4611686018427387904) {b:List Nat} (hb:Wd b) (hbN:b.length=N) :
  ∀r j m cur c,j+r=k.length→r<m→Wd cur→cur.length=N→c<18446744073709551616→(∀p,i+k.length≤p→cur[p]? = b[p]?) →
   vl cur+wp (i+j)*c+wp (i+j)*(x*vl (k.drop j))=vl b+wp i*(x*vl k) →
   ∃q c',cx (nG n k x (i:Int) N) m (cur,c,((j:Nat):Int))=some (q,c')∧Wd q∧q.length=N∧c'<18446744073709551616∧(∀p,i+k.length≤p→q[p]? = b[p]?)∧vl q+wp (i+k.length)*c'=vl b+wp i*(x*vl k):=by
 intro r
 induction r with
 | zero =>
  intro j m cur c hj hm hw hl hc hp hv;obtain⟨m,rfl⟩:∃m',m=m'+1:=⟨m-1,by omega⟩
  have hj':j=k.length:=by omega
  refine⟨cur,c,bB ?_,hw,hl,hc,hp,?_⟩
  ·unfold nG
   dsimp only
   rw[aX (by omega)]
  ·rw[←hv,hj',List.drop_length,kk]; omega
 | succ r ih =>
  intro j m cur c hj hm hw hl hc hp hv;obtain⟨m,rfl⟩:∃m',m=m'+1:=⟨m-1,by omega⟩
  have hi:j<k.length:=by omega
  obtain⟨y,e2⟩:∃y,k[j]? = some y:=⟨k[j],by simp[hi]⟩
  have hy:=hk.at e2;obtain⟨d,e3⟩:∃d,cur[i+j]? = some d:=⟨cur[i+j]'(by omega),by simp⟩
  have hd:=hw.at e3;have hxy:x*y≤18446744073709551615*18446744073709551615:=Nat.mul_le_mul (by omega) (by omega)
  have w1:IntKind.wrap .i64 ((i:Int)+((j:Nat):Int))=((i+j:Nat):Int):=by rw[bt (by omega) (by omega)]; omega
  have st:nG n k x (i:Int) N (cur,c,((j:Nat):Int))=some (.inl (cur.set (i+j) ((x*y+d+c)%18446744073709551616),(x*y+d+c)/18446744073709551616,((j+1:Nat):Int))):=by
   unfold nG
   dsimp only
   rw[bm (by omega),aC hi,aV,Int.toNat_natCast,e2,aq,FN n hx hy,aq]
   dsimp only
   rw[w1,aC (by omega),aV,Int.toNat_natCast,e3,aq]
   unfold AM;rw[cQ (by omega),aq]
   dsimp only
   rw[cQ (by omega),aq]
   dsimp only
   rw[aV,bE (by omega),oG (a:=x*y/18446744073709551616+_) (by omega),oG (by omega)]
   congr 3
   ·congr 1; omega
   ·congr 1; omega
  rw[aR st];refine ih (j+1) m _ _ (by omega) (by omega) (hw.set (Nat.mod_lt _ (by decide))) (by rw[List.length_set]; exact hl) (by omega) (fun p hp'=>by rw[List.getElem?_set_ne (by omega)]; exact hp p hp') ?_
  rw[k6 e2] at hv;have hs:=Cj ((x*y+d+c)%18446744073709551616) e3;rw[←hv,←Nat.add_assoc i j 1,ft];have h2:(x*y+d+c)%18446744073709551616+18446744073709551616*((x*y+d+c)/18446744073709551616)=x*y+d+c:=Nat.mod_add_div _ _;generalize (x*y+d+c)%18446744073709551616=lo at h2 hs ⊢;generalize (x*y+d+c)/18446744073709551616=hi' at h2 ⊢;generalize vl (k.drop (j+1))=A at hv ⊢;generalize vl (cur.set (i+j) lo)=Z at hs ⊢;have h3:wp (i+j)*(lo+18446744073709551616*hi')=wp (i+j)*(x*y+d+c):=by rw[h2]
  simp only[Nat.mul_add,Nat.mul_left_comm (wp (i+j)) 18446744073709551616,Nat.mul_left_comm x 18446744073709551616,Nat.mul_assoc] at hs h3 ⊢;omega
theorem FU {n:Nat} {l k:List Nat} (hl:Wd l) (hk:Wd k) (hb:l.length<500000000) (hb':k.length<500000000) (hn:l.length<n) (hn':k.length<n) :
  ∃r,Et n l k=some r∧Wd r∧vl r=vl l*vl k∧r.length=l.length+k.length:=by
 have hL:∀r i m b,i+r=l.length→r<m→Wd b→b.length=l.length+k.length→(∀p,i+k.length≤p→p<l.length+k.length→b[p]? = some 0) →
   vl b+wp i*(vl (l.drop i)*vl k)=vl l*vl k →
   ∃q,cx (nB n l k) m (b,l.length+k.length,((i:Nat):Int))=some (q,l.length+k.length)∧Wd q∧q.length=l.length+k.length∧vl q=vl l*vl k:=by
  intro r
  induction r with
  | zero =>
   intro i m b hi hm hw hlen _ hv;obtain⟨m,rfl⟩:∃m',m=m'+1:=⟨m-1,by omega⟩
   have hi':i=l.length:=by omega
   refine⟨b,bB ?_,hw,hlen,?_⟩
   ·unfold nB
    dsimp only
    rw[aX (by omega)]
   ·rw[←hv,hi',List.drop_length,kk]; simp
  | succ r ih =>
   intro i m b hi hm hw hlen hz hv;obtain⟨m,rfl⟩:∃m',m=m'+1:=⟨m-1,by omega⟩
   have hi':i<l.length:=by omega
   obtain⟨x,e2⟩:∃x,l[i]? = some x:=⟨l[i],by simp⟩
   have hx:=hl.at e2;obtain⟨q,c,q1,q2,q3,q4,q5,q6⟩:=F1 (n:=n) (i:=i) hk hx (N:=l.length+k.length) (by omega) (by omega) hw hlen k.length 0 n b 0 (by omega) hn' hw hlen (by decide) (fun _ _=>rfl) (by simp)
   have e3:q[i+k.length]? = some 0:=by rw[q5 _ (Nat.le_refl _)]; exact hz _ (Nat.le_refl _) (by omega)
   have w1:IntKind.wrap .i64 ((i:Int)+(k.length:Int))=((i+k.length:Nat):Int):=by rw[bt (by omega) (by omega)]; omega
   have st:nB n l k (b,l.length+k.length,((i:Nat):Int))=some (.inl (q.set (i+k.length) c,l.length+k.length,((i+1:Nat):Int))):=by
    unfold nB
    dsimp only
    rw[bm (by omega),aC hi',aV,Int.toNat_natCast,e2,aq]
    rw[show((0:Int))=((0:Nat):Int) from rfl,q1,aq]
    dsimp only
    rw[w1,aC (by omega),aV,Int.toNat_natCast,e3,aq,bE (by omega)]
   rw[aR st];refine ih (i+1) m _ (by omega) (by omega) (q2.set q4) (by rw[List.length_set]; exact q3) (fun p h1 h2=>by rw[List.getElem?_set_ne (by omega),q5 p (by omega)]; exact hz p (by omega) h2) ?_
   have hs:=Cj c e3;rw[k6 e2] at hv;rw[←hv,ft];generalize vl (q.set (i+k.length) c)=Z at hs ⊢;generalize vl (l.drop (i+1))=A at hv ⊢;have h4:wp i*((x+18446744073709551616*A)*vl k)=wp i*(x*vl k)+18446744073709551616*wp i*(A*vl k):=by
    simp only[Nat.add_mul,Nat.mul_add,Nat.mul_assoc,Nat.mul_left_comm (wp i) 18446744073709551616]
   rw[h4];omega
 unfold Et;have w1:IntKind.wrap .i64 ((l.length:Int)+(k.length:Int))=((l.length+k.length:Nat):Int):=by rw[bt (by omega) (by omega)]; omega
 obtain⟨q,q1,q2,q3,q4⟩:=hL l.length 0 n (List.replicate (l.length+k.length) 0) (by omega) hn (Wd.zeros _) (by simp) (fun p _ h2=>by rw[List.getElem?_replicate]; simp[h2]) (by rw[CV,tJ]; simp)
 refine⟨q,?_,q2,q4,q3⟩;rw[w1,cQ (by omega),Int.toNat_natCast,ja (by omega),aV]
 rw[show((0:Int))=((0:Nat):Int) from rfl,q1]
 rfl
theorem De {n:Nat} {a b:Int} {s t:Bool} {l k:List Nat} (h:Lg a s l) (h':Lg b t k) (hb:l.length<1000000) (hb':k.length<1000000) (hn:l.length+k.length<n) :
  ∃u m,Jb n s l t k=some (u,m)∧Lg (a*b) u m:=by
 obtain⟨r,r1,r2,r3,r4⟩:=FU (n:=n) h.wd h'.wd (by omega) (by omega) (by omega) (by omega)
 obtain⟨u,m,m1,m2⟩:=jO (n:=n) (!(s == t)) r2 (by omega) (by omega)
 refine⟨u,m,by unfold Jb; rw[r1,aq,m1]; rfl,?_⟩
 have:a*b=vn (!(s == t)) (vl r):=by
  rw[h.val,h'.val,r3]; unfold vn;cases s<;>cases t<;>simp[Int.neg_mul,Int.mul_neg]
 rw[this]; exact m2
theorem tU {a b:Nat} (ha:a<18446744073709551616) (h:b≤a):gK .u64 a b=a-b:=by
 show(a+(18446744073709551616-b%18446744073709551616))%18446744073709551616=a-b
 omega
theorem Bc (n0:Nat) {u y1 y0 d:Nat} (h1:2147483648≤y1) (h1':y1<4294967296) (h0:y0<4294967296) (hd:d<4294967296) {Q:Nat} (le_iff:∀p,p≤Q↔p*y1*4294967296+p*y0≤u*4294967296+d) (hQb:Q<4294967296) :
  ∀k r q m,4294967296≤r+k*2147483648→k<m→q*y1+r=u→Q≤q→q≤4294967297→r<4294967296→cx (eU n0 d y0 y1) m (r,q)=some Q:=by
 intro k
 induction k with
 | zero=>intro r q m hk _ _ _ _ hr; omega
 | succ k ih =>
  intro r q m hk hm hq hQ hqb hr;obtain⟨m,rfl⟩:∃m',m=m'+1:=⟨m-1,by omega⟩
  by_cases hT:4294967296≤q∨4294967296*r+d<q*y0
  ·have hlt:Q<q:=by
    rcases hT with hT|hT
    ·omega
    ·refine Nat.lt_of_not_le fun h=>?_;rw[le_iff] at h;omega
   obtain⟨p,rfl⟩:∃p,q=p+1:=⟨q-1,by omega⟩
   rw[Nat.add_mul,Nat.one_mul] at hq;have test:(br (decide (4294967296≤p+1)) (some true) (some (decide (uw .u64 ((uw .u64 (4294967296*r))+d)<uw .u64 ((p+1)*y0)))))=some true:=by
    by_cases hb:4294967296≤p+1
    ·rw[bm hb]
    ·have h2:(p+1)*y0≤4294967295*4294967295:=Nat.mul_le_mul (by omega) (by omega)
     rw[aX hb,oG (a:=4294967296*r) (by omega),oG (by omega),oG (by omega),decide_eq_true (by omega)]
   have sb:gK .u64 (p+1) 1=p:=tU (by omega) (by omega)
   by_cases hb:4294967296≤r+y1
   ·have st:eU n0 d y0 y1 (r,p+1)=some (.inr p):=by
     unfold eU
     dsimp only
     rw[test,aq,dc,oG (a:=r+y1) (by omega),bm hb,sb]
    rw[bB st];have h2:p*y0≤4294967296*4294967295:=Nat.mul_le_mul (by omega) (by omega)
    have h3:p≤Q:=by rw[le_iff]; omega
    rw[show p=Q by omega]
   ·have st:eU n0 d y0 y1 (r,p+1)=some (.inl (r+y1,p)):=by
     unfold eU
     dsimp only
     rw[test,aq,dc,oG (a:=r+y1) (by omega),aX hb,sb]
    rw[aR st];exact ih (r+y1) p m (by omega) (by omega) (by omega) (by omega) (by omega) (by omega)
  ·have hq2:q<4294967296:=by omega
   have h2:q*y0≤4294967295*4294967295:=Nat.mul_le_mul (by omega) (by omega)
   have st:eU n0 d y0 y1 (r,q)=some (.inr q):=by
    unfold eU
    dsimp only
    rw[aX (by omega),oG (a:=4294967296*r) (by omega),oG (by omega),oG (by omega),aq,aX (by omega)]
   rw[bB st];have h3:q≤Q:=by rw[le_iff]; omega
   rw[show q=Q by omega]
theorem AA (n0 y s y1 y0 d e:Nat):∀m q r,cx (qn n0) m (y,s,y1,y0,d,e,q,r)=(cx (eU n0 d y0 y1) m (r,q)).map fun q=>(y,s,y1,y0,d,e,q):=by
 intro m
 induction m with
 | zero=>intro q r; rfl
 | succ m ih =>
  intro q r;have a:∀b,(br b (br (decide (4294967296≤uw .u64 (r+y1))) (some (.inr (y,s,y1,y0,d,e,gK .u64 q 1))) (some (.inl (y,s,y1,y0,d,e,gK .u64 q 1,uw .u64 (r+y1))))) (some (.inr (y,s,y1,y0,d,e,q))):Option ((Nat × Nat × Nat × Nat × Nat × Nat × Nat × Nat) ⊕ (Nat × Nat × Nat × Nat × Nat × Nat × Nat))) =
   (br b (br (decide (4294967296≤uw .u64 (r+y1))) (some (.inr (gK .u64 q 1))) (some (.inl (uw .u64 (r+y1),gK .u64 q 1)))) (some (.inr q)):Option ((Nat × Nat) ⊕ Nat)).map fun x=>match x with | .inl (r,q)=>.inl (y,s,y1,y0,d,e,q,r) | .inr q=>.inr (y,s,y1,y0,d,e,q):=by
   intro b;cases b
   ·rfl
   ·rw[dc,dc];cases decide (4294967296≤uw .u64 (r+y1))<;>rfl
  have st:qn n0 (y,s,y1,y0,d,e,q,r)=(eU n0 d y0 y1 (r,q)).map fun x=>match x with | .inl (r,q)=>.inl (y,s,y1,y0,d,e,q,r) | .inr q=>.inr (y,s,y1,y0,d,e,q):=by
   unfold qn eU
   dsimp only
   cases(br (decide (4294967296≤q)) (some true) (some (decide (uw .u64 ((uw .u64 (4294967296*r))+d)<uw .u64 (q*y0)))):Option Bool) with
   | none=>rfl
   | some b=>exact a b
  unfold cx;rw[st];cases eU n0 d y0 y1 (r,q) with
  | none=>rfl
  | some x =>
   cases x with
   | inl p=>exact ih p.2 p.1
   | inr p=>rfl
theorem rR {a b:Nat} (h:b≤a) (hr:a-b<18446744073709551616):gK .u64 (uw .u64 a) (uw .u64 b)=a-b:=by
 show(a%18446744073709551616+(18446744073709551616-b%18446744073709551616%18446744073709551616))%18446744073709551616=a-b
 omega
theorem IT {x:Nat} (h0:0<x):2 ^ (bl x-1)≤x∧x<2 ^ bl x∧0<bl x:=by
 have h1:0<bl x:=j9.2 (by simp; omega)
 refine⟨j9.1 (by omega),?_,h1⟩
 exact Nat.lt_of_not_le fun h=>Nat.lt_irrefl _ (j9.2 h)
theorem sT {a s:Nat} (h:s≤64):fc .u64 a s=uw .u64 (a*2 ^ s):=by
 have:min s (IntKind.bits .u64)=s:=Nat.min_eq_left h;unfold fc;rw[this]
theorem zS {a s:Nat} (h:s≤64):bI .u64 a s=a/2 ^ s:=by
 have:min s (IntKind.bits .u64)=s:=Nat.min_eq_left h;unfold bI;rw[this]
theorem Am {n:Nat} (hn:4<n) {u y1 y0 d:Nat} (h1:2147483648≤y1) (h1':y1<4294967296) (h0:y0<4294967296) (hd:d<4294967296) (hu:u<y1*4294967296+y0) :
  cx (eU n d y0 y1) n (gK .u64 u (uw .u64 (uw .u64 (u/y1)*y1)),uw .u64 (u/y1))=some ((u*4294967296+d)/(y1*4294967296+y0)):=by
 have e1:=Nat.div_add_mod u y1;have e2:=Nat.mod_lt u (show 0<y1 by omega)
 rw[Nat.mul_comm] at e1;have hq:u/y1≤4294967297:=by
  have:u/y1<4294967298:=by rw[Nat.div_lt_iff_lt_mul (by omega)]; omega
  omega
 rw[oG (a:=u/y1) (by omega),oG (a:=u/y1*y1) (by omega),tU (by omega) (by omega)]
 have hy:0<y1*4294967296+y0:=by omega
 refine Bc n h1 h1' h0 hd (fun p=>by rw[Nat.le_div_iff_mul_le hy,Nat.mul_add,←Nat.mul_assoc]) (by rw[Nat.div_lt_iff_lt_mul hy]; omega) 2 _ _ n (by omega) (by omega) (by omega) ?_ hq (by omega)
 have:(u*4294967296+d)/(y1*4294967296+y0)<u/y1+1:=by
  rw[Nat.div_lt_iff_lt_mul hy,Nat.add_mul,Nat.one_mul,Nat.mul_add,←Nat.mul_assoc];omega
 omega
theorem FA {U w v A B R1 R0 d1 d0:Nat} (hU:U=w*4294967296) (h6:4294967296*d1+d0=v) (h5:A*4294967296+R1*4294967296=(w+d1)*4294967296) (m3:B+R0=R1*4294967296+d0) :
  U+v=R0+(A*4294967296+B):=by
 omega
theorem JP (u:Nat):u*18446744073709551616=u*4294967296*4294967296:=by rw[Nat.mul_assoc]
theorem Gx {n:Nat} (hn:4<n) {x1 x2 x3:Nat} (h4:x1<x3) (h1:x2<18446744073709551616) (h2:x3<18446744073709551616) :
  Cg n x1 x2 x3=some ((x1*18446744073709551616+x2)/x3,(x1*18446744073709551616+x2)%x3):=by
 unfold Cg;rw[aX (by omega),aX (by omega)]
 by_cases hz:x1=0
 ·subst hz;rw[bm rfl,cQ (by omega),cQ (by omega),oG (Nat.lt_of_le_of_lt (Nat.div_le_self _ _) h1)]
  simp
 ·rw[aX hz];obtain⟨l1,l2,l3⟩:=IT (x:=x3) (by omega)
  have l4:bl x3≤64:=GG h2;obtain⟨s,hs⟩:∃s,bl x3+s=64:=⟨64-bl x3,by omega⟩
  have r0:AJ n x3=some ((s:Nat):Int):=by
   unfold AJ;rw[xJ n x3 h2,aq,bt (by omega) (by omega)]
   congr 1
   omega
  have u0:ui .u64 ((s:Nat):Int)=s:=by
   show(((s:Nat):Int)%((2 ^ 64:Nat):Int)).toNat=s
   omega
  have P0:0<2 ^ s:=Nat.two_pow_pos s;have PP:2 ^ s*2 ^ (64-s)=18446744073709551616:=by rw[←Nat.pow_add,show s+(64-s)=64 by omega]
  have X1:x3*2 ^ s<18446744073709551616:=by
   have:x3*2 ^ s<2 ^ bl x3*2 ^ s:=Nat.mul_lt_mul_of_pos_right l2 P0;rw[←Nat.pow_add,hs] at this;exact this
  have X2:9223372036854775808≤x3*2 ^ s:=by
   have:2 ^ (bl x3-1)*2 ^ s≤x3*2 ^ s:=Nat.mul_le_mul_right _ l1;rw[←Nat.pow_add,show bl x3-1+s=63 by omega] at this
   exact this
  have X3:x1*2 ^ s<x3*2 ^ s:=Nat.mul_lt_mul_of_pos_right h4 P0;have s0:fc .u64 x3 s=x3*2 ^ s:=by
   rw[sT (by omega),oG X1]
  have s1:fc .u64 x1 s=x1*2 ^ s:=by
   rw[sT (by omega),oG (by omega)]
  have s2:fc .u64 x2 s=x2*2 ^ s%18446744073709551616:=by
   rw[sT (by omega)]; rfl
  have t0:bI .u64 x2 (gK .u64 64 s)=x2/2 ^ (64-s):=by
   rw[tU (by decide) (by omega)]
   rw[zS (by omega)]
  have t1:x2/2 ^ (64-s)<2 ^ s:=by rw[Nat.div_lt_iff_lt_mul (Nat.two_pow_pos _),PP]; exact h1
  have t2:x2*2 ^ s/18446744073709551616=x2/2 ^ (64-s):=by rw[←PP,Nat.mul_comm x2,Nat.mul_div_mul_left _ _ P0]
  have hor:uw .u64 (uw .u64 (x1*2 ^ s) ||| uw .u64 (x2/2 ^ (64-s)))=x1*2 ^ s+x2/2 ^ (64-s):=by
   have h0:x2/2 ^ (64-s)≤x2:=Nat.div_le_self _ _;rw[zJ (show x1*2 ^ s<2 ^ 64 by omega) (show x2/2 ^ (64-s)<2 ^ 64 by omega),←Nat.shiftLeft_eq,Nat.shiftLeft_add_eq_or_of_lt t1]
  rw[r0,aq,u0,aq,s0,s1,t0,hor,s2];have key:(x1*2 ^ s+x2/2 ^ (64-s))*18446744073709551616+x2*2 ^ s%18446744073709551616=(x1*18446744073709551616+x2)*2 ^ s:=by
   have:=Nat.div_add_mod (x2*2 ^ s) 18446744073709551616;rw[t2] at this;rw[Nat.add_mul,Nat.add_mul,Nat.mul_right_comm x1];omega
  have hv:x2*2 ^ s%18446744073709551616<18446744073709551616:=Nat.mod_lt _ (by decide)
  have hu:x1*2 ^ s+x2/2 ^ (64-s)<x3*2 ^ s:=by
   have h0:(x1*18446744073709551616+x2)*2 ^ s<(x3*18446744073709551616)*2 ^ s:=Nat.mul_lt_mul_of_pos_right (by omega) P0
   rw[←key,Nat.mul_right_comm x3] at h0;omega
  have r1:(x1*18446744073709551616+x2)/x3=((x1*18446744073709551616+x2)*2 ^ s)/(x3*2 ^ s):=by rw[Nat.mul_div_mul_right _ _ P0]
  have r2:(x1*18446744073709551616+x2)%x3=(((x1*18446744073709551616+x2)*2 ^ s)%(x3*2 ^ s))/2 ^ s:=by rw[Nat.mul_mod_mul_right,Nat.mul_div_cancel _ P0]
  rw[r1,r2,←key];have hss:∀R,bI .u64 R s=R/2 ^ s:=fun R=>zS (by omega)
  clear PP t1 t2 hor key r1 r2 r0 u0 s1 s2 s0 t0 P0 X3 l1 l2 l3 l4 hs;generalize x1*2 ^ s+x2/2 ^ (64-s)=u at hu ⊢;generalize x2*2 ^ s%18446744073709551616=v at hv ⊢;generalize x3*2 ^ s=X at X1 X2 hu ⊢;have hX:X/4294967296*4294967296+X%4294967296=X:=Nat.div_add_mod' _ _;rw[cQ (show 0<bI .u64 X 32 by rw[BV]; omega)]
  simp only[BV,wa X1,wa hv];rw[aq,AA];rw[Am hn (u:=u) (y1:=X/4294967296) (y0:=X%4294967296) (d:=v/4294967296) (by omega) (by omega) (by omega) (by omega) (by omega),hX]
  have q0:(u*4294967296+v/4294967296)/X<4294967296:=by rw[Nat.div_lt_iff_lt_mul (by omega)]; omega
  have m3:=Nat.div_add_mod (u*4294967296+v/4294967296) X;have m2:=Nat.mod_lt (u*4294967296+v/4294967296) (show 0<X by omega)
  rw[Option.map_some,aq]
  dsimp only
  rw[aq,cQ (by omega)]
  have e0:uw .u64 (uw .u64 (u*4294967296)+v/4294967296)=uw .u64 (u*4294967296+v/4294967296):=Nat.mod_add_mod _ _ _;rw[Nat.mul_comm X] at m3;rw[e0,rR (by omega) (by omega)]
  have e1:u*4294967296+v/4294967296-(u*4294967296+v/4294967296)/X*X=(u*4294967296+v/4294967296)%X:=by omega
  rw[e1];obtain⟨Q1,hQ1⟩:∃Q,(u*4294967296+v/4294967296)/X=Q:=⟨_,rfl⟩;obtain⟨R1,hR1⟩:∃R,(u*4294967296+v/4294967296)%X=R:=⟨_,rfl⟩;clear e1;rw[hQ1] at q0 m3 ⊢;rw[hR1] at m3 m2 ⊢;rw[Am hn (u:=R1) (y1:=X/4294967296) (y0:=X%4294967296) (d:=v%4294967296) (by omega) (by omega) (by omega) (by omega) (by omega),hX,aq]
  have q1:(R1*4294967296+v%4294967296)/X<4294967296:=by rw[Nat.div_lt_iff_lt_mul (by omega)]; omega
  have m1:=Nat.div_add_mod (R1*4294967296+v%4294967296) X;have m4:=Nat.mod_lt (R1*4294967296+v%4294967296) (show 0<X by omega)
  rw[Nat.mul_comm X] at m1;have e2:uw .u64 (uw .u64 (R1*4294967296)+v%4294967296)=uw .u64 (R1*4294967296+v%4294967296):=Nat.mod_add_mod _ _ _;rw[e2,aq,rR (by omega) (by omega)]
  have e3:R1*4294967296+v%4294967296-(R1*4294967296+v%4294967296)/X*X=(R1*4294967296+v%4294967296)%X:=by omega
  rw[e3,hss];obtain⟨Q0,hQ0⟩:∃Q,(R1*4294967296+v%4294967296)/X=Q:=⟨_,rfl⟩;obtain⟨R0,hR0⟩:∃R,(R1*4294967296+v%4294967296)%X=R:=⟨_,rfl⟩;clear e3;rw[hQ0] at q1 m1 ⊢;rw[hR0] at m1 m4 ⊢;rw[oG (a:=Q1*4294967296) (by omega),oG (by omega)]
  clear hQ1 hR1 hQ0 hR0 e0 e2 hss X1 X2 hX q1 q0 m2 hu h4 h1 h2 hz;have fin:u*18446744073709551616+v=R0+(Q1*4294967296+Q0)*X:=by
   have h0:Q1*X*4294967296+R1*4294967296=(u*4294967296+v/4294967296)*4294967296:=by rw[←m3,Nat.add_mul]
   rw[Nat.add_mul,Nat.mul_right_comm Q1];have h3:=Nat.div_add_mod v 4294967296;generalize v/4294967296=d0 at h0 h3;generalize v%4294967296=d1 at m1 h3;generalize Q1*X=A at h0 ⊢;generalize Q0*X=B at m1 ⊢;exact FA (JP u) h3 h0 m1
  rw[fin,Nat.add_mul_div_right _ _ (show 0<X by omega),Nat.add_mul_mod_self_right,Nat.div_eq_of_lt m4,Nat.mod_eq_of_lt m4,Nat.zero_add]
theorem D5 {q:List Nat} {i e d:Nat}:(List.replicate i 0++e::q).set i d=List.replicate i 0++d::q:=by
 rw[List.set_append_right _ _ (by simp)]
 simp
theorem Dn (i:Nat) (q:List Nat):List.replicate (i+1) 0++q=List.replicate i 0++0::q:=by
 rw[List.replicate_succ',List.append_assoc]; rfl
theorem FD {n:Nat} {l:List Nat} {d:Nat} (hl:Wd l) (hd:d<18446744073709551616) (h0:d≠0) (hb:l.length<1000000) (hn:l.length<n) (hn4:4<n) :
  ∃q t m,JJ n l [d]=some (q,m)∧Wd q∧vl q=vl l/d∧q.length=l.length∧Lg ((vl l%d:Nat):Int) t m∧t=false:=by
 have hL:∀i q r m,i+q.length=l.length→i<m→Wd q→r<d→vl l=vl (l.take i)+wp i*(d*vl q+r) →
   ∃q' r',cx (rL n l [d]) m (List.replicate i 0++q,r,(i:Int)-1)=some (q',r')∧Wd q'∧q'.length=l.length∧r'<d∧vl l=d*vl q'+r':=by
  intro i
  induction i with
  | zero =>
   intro q r m hi hm hq hr hv;obtain⟨m,rfl⟩:∃m',m=m'+1:=⟨m-1,by omega⟩
   refine⟨q,r,bB ?_,hq,by omega,hr,?_⟩
   ·unfold rL
    dsimp only
    rw[aX (by decide)]; rfl
   ·rw[hv]; simp[vl,wp]
  | succ i ih =>
   intro q r m hi hm hq hr hv;obtain⟨m,rfl⟩:∃m',m=m'+1:=⟨m-1,by omega⟩
   have hi':i<l.length:=by omega
   obtain⟨x,e2⟩:∃x,l[i]? = some x:=⟨l[i],by simp⟩
   have hx:=hl.at e2;have e0:((i+1:Nat):Int)-1=((i:Nat):Int):=by omega
   have ht:vl (l.take (i+1))=vl (l.take i)+wp i*x:=by
    rw[List.take_add_one,e2,Option.toList_some,oM,List.length_take,Nat.min_eq_left (Nat.le_of_lt hi')]
   have e3:(List.replicate (i+1) 0++q)[i]? = some 0:=by rw[List.getElem?_append_left (by simp),List.getElem?_replicate]; simp
   have hqd:(r*18446744073709551616+x)/d<18446744073709551616:=by
    rw[Nat.div_lt_iff_lt_mul (by omega),Nat.mul_comm _ d]
    have:(r+1)*18446744073709551616≤d*18446744073709551616:=Nat.mul_le_mul_right _ hr;omega
   have st:rL n l [d] (List.replicate (i+1) 0++q,r,((i:Nat):Int))=some (.inl (List.replicate i 0++(r*18446744073709551616+x)/d::q,(r*18446744073709551616+x)%d,(i:Int)-1)):=by
    unfold rL
    dsimp only
    rw[bm (by omega),aC hi',aV,Int.toNat_natCast,e2,aq]
    rw[show bZ 0 [d].length=true from rfl,aV,show([d]:List Nat)[(0:Int).toNat]? = some d from rfl,aq,Gx hn4 hr hx hd,aq]
    dsimp only
    rw[Int.toNat_natCast,aC hi',aV,e3,aq,Dn,D5,bt (by omega) (by omega)]
   rw[e0,aR st];refine ih _ _ m (by rw[List.length_cons]; omega) (by omega) (fun e he=>?_) (Nat.mod_lt _ (by omega)) ?_
   ·rcases List.mem_cons.1 he with rfl|h
    ·exact hqd
    ·exact hq e h
   ·have h1:=Nat.div_add_mod (r*18446744073709551616+x) d;rw[hv,ht,ft,fp];generalize (r*18446744073709551616+x)%d=R at h1 ⊢;generalize (r*18446744073709551616+x)/d=Q at h1 ⊢;have h2:wp i*(d*Q+R)=wp i*(r*18446744073709551616+x):=by rw[h1]
    rw[Nat.mul_comm r] at h2;simp only[Nat.mul_add,Nat.mul_left_comm (wp i) 18446744073709551616,Nat.mul_left_comm d 18446744073709551616,Nat.mul_assoc] at h2 ⊢;omega
 obtain⟨q,r,q1,q2,q3,q4,q5⟩:=hL l.length [] 0 n (by simp) hn Wd.nil (by omega) (by rw[List.take_length,kk]; simp)
 rw[List.append_nil] at q1;obtain⟨t,m,m1,m2⟩:=jO (n:=n) false (Wd.one (show r<18446744073709551616 by omega)) (by simp) (by simp; omega)
 have hr:vl [r]=r:=by simp[vl]
 rw[hr] at m2;have dq:vl q=vl l/d:=by
  rw[q5,Nat.mul_add_div (by omega),Nat.div_eq_of_lt q4]; rfl
 have dr:r=vl l%d:=by
  rw[q5,Nat.mul_add_mod,Nat.mod_eq_of_lt q4]
 refine⟨q,t,m,?_,q2,dq,q3,by rw[←dr]; exact m2,?_⟩
 ·unfold JJ;rw[cQ (by omega),Int.toNat_natCast,ja (by omega),aV,bm (show(([d]:List Nat).length:Int)=1 from rfl),bt (by omega) (by omega),q1,aq]
  dsimp only
  rw[m1]; rfl
 ·have:=m2.Di;rw[this];simp[vn]
theorem IQ {n:Nat} {a b:Int} {s t:Bool} {l k:List Nat} (h:Lg (a*b) s l) (h':Lg b t k) (h0:b≠0) (hbb:b.natAbs<18446744073709551616) (hb:l.length<1000000) (hn:l.length<n) (hn4:4<n) :
  ∃u m v o,Ka n s l t k=some (u,m,v,o)∧Lg a u m:=by
 have hk:=h'.JA h0 hbb;subst hk;obtain⟨q,t',m,q1,q2,q3,q4,q5,q6⟩:=FD (n:=n) h.wd hbb (by omega) hb hn hn4
 obtain⟨u,m',u1,u2⟩:=jO (n:=n) (!(s == t)) q2 (by omega) (by omega)
 have hz:(vl l%b.natAbs:Nat)=0:=by rw[h.abs,Int.natAbs_mul,Nat.mul_mod_left]
 rw[hz] at q5;obtain⟨rfl,rfl⟩:=q5.inj Lg.zero;obtain⟨v,o,v1,v2⟩:=jO (n:=n) s Wd.nil (by simp) (by simp; omega)
 have v3:Lg 0 v o:=by rw[kk,u7] at v2; exact v2
 obtain⟨rfl,rfl⟩:=v3.inj Lg.zero;refine⟨u,m',false,[],?_,?_⟩
 ·unfold Ka;rw[q1,aq]
  dsimp only
  rw[u1,aq]
  dsimp only
  rw[v1,aq]
  rfl
 ·have e1:vl q=a.natAbs:=by rw[q3,h.abs,Int.natAbs_mul,Nat.mul_div_cancel _ (by omega)]
  have hs:=h.Di;have ht:=h'.Di;have:a=vn (!(s == t)) (vl q)∨(a=0):=by
   by_cases ha:a=0
   ·exact .inr ha
   ·refine .inl ?_;rw[e1,hs,ht];unfold vn
    by_cases hb0:b<0<;>by_cases ha0:a<0
    ·have:¬a*b<0:=Int.not_lt.2 (Int.mul_nonneg_of_nonpos_of_nonpos (by omega) (by omega))
     simp[hb0,this]; omega
    ·have:a*b<0:=Int.mul_neg_of_pos_of_neg (by omega) hb0
     simp[hb0,this]; omega
    ·have:a*b<0:=Int.mul_neg_of_neg_of_pos ha0 (by omega)
     simp[hb0,this]; omega
    ·have:¬a*b<0:=Int.not_lt.2 (Int.mul_nonneg (by omega) (by omega))
     simp[hb0,this]; omega
  rcases this with e|e
  ·rw[e]; exact u2
  ·rw[e,Int.natAbs_zero] at e1;rw[e1,u7] at u2;rw[e]; exact u2
theorem KK (m:Nat):sB (m+20) 0=some (false,[]):=by rfl
theorem JN (m:Nat):sB (m+20) 1=some (false,[1]):=by rfl
theorem J3 (m:Nat):sB (m+20) (-1)=some (true,[1]):=by rfl
theorem mj {n:Nat} (h:20≤n):sB n 0=some (false,[]):=by obtain⟨m,rfl⟩:∃m,n=m+20:=⟨n-20,by omega⟩; exact KK m
theorem tY {n:Nat} (h:20≤n):sB n 1=some (false,[1]):=by obtain⟨m,rfl⟩:∃m,n=m+20:=⟨n-20,by omega⟩; exact JN m
theorem Ao {n:Nat} (h:20≤n):sB n (-1)=some (true,[1]):=by obtain⟨m,rfl⟩:∃m,n=m+20:=⟨n-20,by omega⟩; exact J3 m
theorem xq:Lg 1 false [1]:=Lg.small (by decide) (by decide) false
theorem BZ:Lg (-1) true [1]:=Lg.small (by decide) (by decide) true
end Go.Proofs.YtookeaakpiefjaaDoor
end

section
namespace Go.Proofs.YtookeaakpiefjaaDoor
open Go Go.Ab Go.Ab.W Go.Ab.T30
def rI (s:Nat) (L:List (List (Bool × List Nat))) (M:Mt):Prop :=
 L.length=s∧∀r,r<s→∃row,L[r]? = some row∧row.length=s∧∀c,c<s→∃t k,row[c]? = some (t,k)∧Lg (M r c) t k
section
variable {s : Nat} {L : List (List (Bool × List Nat))} {M M' : Mt}
theorem rI.congr (h:rI s L M) (he:∀r c,r<s→c<s→M r c=M' r c):rI s L M' :=
 ⟨h.1,fun r hr=>by
  obtain⟨row,h1,h2,h3⟩:=h.2 r hr;exact⟨row,h1,h2,fun c hc=>by rw[←he r c hr hc]; exact h3 c hc⟩⟩
theorem rI.at (h:rI s L M) {r c:Nat} (hr:r<s) (hc:c<s):∃row t k,L[r]? = some row∧row.length=s∧row[c]? = some (t,k)∧Lg (M r c) t k:=by
 obtain⟨row,h1,h2,h3⟩:=h.2 r hr;obtain⟨t,k,h4,h5⟩:=h3 c hc;exact⟨row,t,k,h1,h2,h4,h5⟩
theorem rI.set (h:rI s L M) {i j:Nat} {row:List (Bool × List Nat)} {t:Bool} {k:List Nat} {x:Int} (hi:i<s) (hj:j<s) (hrow:L[i]? = some row) (hx:Lg x t k) :
  rI s (L.set i (row.set j (t,k))) fun r c=>if r=i∧c=j then x else M r c:=by
 refine⟨by rw[List.length_set]; exact h.1,fun r hr=>?_⟩
 by_cases hri:r=i
 ·subst hri;obtain⟨row',h1,h2,h3⟩:=h.2 r hr;rw[hrow] at h1;cases h1;refine⟨_,by rw[List.getElem?_set_self (by rw[h.1]; exact hr)],by rw[List.length_set]; exact h2,fun c hc=>?_⟩
  by_cases hcj:c=j
  ·subst hcj;exact⟨t,k,by rw[List.getElem?_set_self (by rw[h2]; exact hc)],by dsimp only; rw[if_pos ⟨rfl,rfl⟩]; exact hx⟩
  ·dsimp only
   rw[List.getElem?_set_ne (fun e=>hcj e.symm),if_neg (fun e:r=r∧c=j=>hcj e.2)];exact h3 c hc
 ·obtain⟨row',h1,h2,h3⟩:=h.2 r hr;refine⟨row',by rw[List.getElem?_set_ne (fun e=>hri e.symm)]; exact h1,h2,fun c hc=>?_⟩
  dsimp only
  rw[if_neg (fun e:r=i∧c=j=>hri e.1)];exact h3 c hc
end
theorem C7 {a b:Nat} (h:a<b):Nat.blt a b=true:=Nat.ble_eq_true_of_le h
def Ll (s k:Nat) (M:Mt):Prop:=∀r c,k≤r→r<s→k≤c→c<s→(M r c).natAbs<wp 15
theorem ku {a b:Int} {j k:Nat} (ha:a.natAbs<wp j) (hb:b.natAbs<wp k):(a*b).natAbs<wp (j+k):=by
 rw[Int.natAbs_mul,Hc];have h1:a.natAbs*b.natAbs≤a.natAbs*wp k:=Nat.mul_le_mul_left _ (Nat.le_of_lt hb);have h2:a.natAbs*wp k<wp j*wp k:=Nat.mul_lt_mul_of_pos_right ha (CD k);omega
theorem DI {n:Nat} (hn:100<n) {s k r:Nat} {A M:Mt} {p:Int} (hB:Bar A s k M p) (hk:k<s) (hr:k<r) (hrs:r<s) (hs:s≤64) (h0:M k k≠0) (hp:p.natAbs<18446744073709551616) (hb:Ll s k M)
  {tf:Bool} {kf:List Nat} (hf:Lg (M r k) tf kf) {tp:Bool} {kp:List Nat} (hP:Lg p tp kp) {N:Mt} (hN:∀b,N k b=M k b) :
  ∀j c m L,c+j=s→j<m→k≤c→rI s L (fun a b=>if a=r then(if k≤b∧b<c then AY M k p a b else M a b) else N a b) →
   ∃L',cx (pg n s (r:Int) (k:Int) tf kf tp kp) m (L,(c:Int))=some L'∧rI s L' (fun a b=>if a=r then(if k≤b∧b<s then AY M k p a b else M a b) else N a b):=by
 intro j
 induction j with
 | zero =>
  intro c m L hj hm hkc hL;obtain⟨m,rfl⟩:∃m',m=m'+1:=⟨m-1,by omega⟩
  have hc:c=s:=by omega
  subst hc;refine⟨L,bB ?_,hL⟩;unfold pg
  dsimp only
  rw[aX (by omega)]
 | succ j ih =>
  intro c m L hj hm hkc hL;obtain⟨m,rfl⟩:∃m',m=m'+1:=⟨m-1,by omega⟩
  have hc:c<s:=by omega
  obtain⟨row,t1,k1,a1,a2,a3,a4⟩:=hL.at hrs hc;obtain⟨rowk,t2,k2,b1,b2,b3,b4⟩:=hL.at hk hk;obtain⟨rowk',t3,k3,c1,c2,c3,c4⟩:=hL.at hk hc;rw[b1] at c1;cases c1;rw[if_pos rfl,if_neg (by omega)] at a4
  rw[if_neg (by omega),hN] at b4 c4
  have l1:=a4.len (hb r c (by omega) hrs hkc hc)
  have l2:=b4.len (hb k k (by omega) hk (by omega) hk)
  have l3:=c4.len (hb k c (by omega) hk hkc hc)
  have lf:=hf.len (hb r k (by omega) hrs (by omega) hk)
  obtain⟨u1,v1,d1,d2⟩:=De (n:=n) a4 b4 (by omega) (by omega) (by omega)
  obtain⟨u2,v2,e1,e2⟩:=De (n:=n) hf c4 (by omega) (by omega) (by omega)
  have l4:=d2.len (ku (hb r c (by omega) hrs hkc hc) (hb k k (by omega) hk (by omega) hk))
  have l5:=e2.len (ku (hb r k (by omega) hrs (by omega) hk) (hb k c (by omega) hk hkc hc))
  obtain⟨u3,v3,f1,f2⟩:=xj (n:=n) d2 e2 (by omega) (by omega) (by omega)
  have l6:v3.length≤31:=f2.len (by
   have h1:=ku (hb r c (by omega) hrs hkc hc) (hb k k (by omega) hk (by omega) hk)
   have h2:=ku (hb r k (by omega) hrs (by omega) hk) (hb k c (by omega) hk hkc hc)
   rw[ft];simp only[Nat.reduceAdd] at h1 h2;omega)
  have hex:=hB.exact hk h0 hr hrs hkc hc;rw[hex,Int.mul_comm] at f2;obtain⟨u4,v4,w4,o4,g1,g2⟩:=IQ (n:=n) f2 hP hB.p0 hp (by omega) (by omega) (by omega)
  have st:pg n s (r:Int) (k:Int) tf kf tp kp (L,(c:Int))=some (.inl (L.set r (row.set c (u4,v4)),((c+1:Nat):Int))):=by
   unfold pg
   dsimp only
   simp only[Int.toNat_natCast];rw[bm (by omega),aC hrs,aV,a1,aq,cQ (by omega),a2,aC hc,aV,a3,aq]
   dsimp only
   rw[aC hk,aV,b1,aq,cQ (by omega),b2,aC hk,aV,b3,aq]
   dsimp only
   rw[d1,aq]
   dsimp only
   rw[aV,aq,cQ (by omega),b2,aC hc,aV,c3,aq]
   dsimp only
   rw[e1,aq]
   dsimp only
   rw[f1,aq]
   dsimp only
   rw[aV,aq,cQ (by omega),g1,aq]
   dsimp only
   rw[a2,aC hc,aV,C7 hc,aV,bE (by omega)]
  rw[aR st];refine ih (c+1) m _ (by omega) (by omega) (by omega) ((hL.set hrs hc a1 g2).congr fun a b ha hb'=>?_)
  by_cases h1:a=r∧b=c
  ·rw[if_pos h1,if_pos h1.1,if_pos ⟨by omega,by omega⟩,h1.1,h1.2]
  ·rw[if_neg h1]
   by_cases h3:a=r
   ·rw[if_pos h3,if_pos h3]
    by_cases h2:k≤b∧b<c
    ·rw[if_pos h2,if_pos ⟨h2.1,by omega⟩]
    ·rw[if_neg h2,if_neg (by omega)]
   ·rw[if_neg h3,if_neg h3]
theorem Bm {n:Nat} (hn:100<n) {s k:Nat} {A M:Mt} {p:Int} (hB:Bar A s k M p) (hk:k<s) (hs:s≤64) (h0:M k k≠0) (hp:p.natAbs<18446744073709551616) (hb:Ll s k M)
  {tp:Bool} {kp:List Nat} (hP:Lg p tp kp) :
  ∀j r m L,r+j=s→j<m→k<r→rI s L (fun a b=>if k<a∧a<r∧k≤b then AY M k p a b else M a b) →
   ∃L',cx (nI n s (k:Int) tp kp) m (L,(r:Int))=some L'∧rI s L' (AY M k p):=by
 intro j
 induction j with
 | zero =>
  intro r m L hj hm hkr hL;obtain⟨m,rfl⟩:∃m',m=m'+1:=⟨m-1,by omega⟩
  have hr:r=s:=by omega
  subst hr;refine⟨L,bB ?_,hL.congr fun a b ha hb'=>?_⟩
  ·unfold nI
   dsimp only
   rw[aX (by omega)]
  ·by_cases h1:k<a∧k≤b
   ·rw[if_pos ⟨h1.1,ha,h1.2⟩]
   ·rw[if_neg (by omega)]; unfold AY; rw[if_neg h1]
 | succ j ih =>
  intro r m L hj hm hkr hL;obtain⟨m,rfl⟩:∃m',m=m'+1:=⟨m-1,by omega⟩
  have hr:r<s:=by omega
  obtain⟨row,t1,k1,a1,a2,a3,a4⟩:=hL.at hr hk;rw[if_neg (by omega)] at a4
  have hL9:∃L',cx (pg n s (r:Int) (k:Int) t1 k1 tp kp) n (L,(k:Int))=some L'∧rI s L' (fun a b=>if k<a∧a<r+1∧k≤b then AY M k p a b else M a b):=by
   obtain⟨L',c1,c2⟩:=DI hn hB hk hkr hr hs h0 hp hb a4 hP (N:=fun a b=>if k<a∧a<r∧k≤b then AY M k p a b else M a b) (fun b=>by rw[if_neg (by omega)]) (s-k) k n L (by omega) (by omega) (Nat.le_refl _) (hL.congr fun a b ha hb'=>by
    by_cases h3:a=r
    ·rw[if_neg (by omega),if_pos h3,if_neg (by omega)]
    ·rw[if_neg (c:=a=r) h3])
   refine⟨L',c1,c2.congr fun a b ha hb'=>?_⟩
   by_cases h3:a=r
   ·rw[if_pos h3]
    by_cases h4:k≤b
    ·rw[if_pos ⟨h4,hb'⟩,if_pos ⟨by omega,by omega,h4⟩]
    ·rw[if_neg (by omega),if_neg (by omega)]
   ·rw[if_neg h3]
    by_cases h4:k<a∧a<r∧k≤b
    ·rw[if_pos h4,if_pos ⟨h4.1,by omega,h4.2.2⟩]
    ·rw[if_neg h4,if_neg (by omega)]
  obtain⟨L',b1,b2⟩:=hL9;have st:nI n s (k:Int) tp kp (L,(r:Int))=some (.inl (L',((r+1:Nat):Int))):=by
   unfold nI
   dsimp only
   simp only[Int.toNat_natCast];rw[bm (by omega),aC hr,aV,a1,aq,cQ (by omega),a2,aC hk,aV,a3,aq]
   dsimp only
   rw[b1,aq,bE (by omega)]
  rw[aR st];exact ih (r+1) m _ (by omega) (by omega) (by omega) b2
theorem A8 {n:Nat} (hn:100<n) {s:Nat} {A:Mt} (hs:s≤64) (hD:∀k r c,k<s→r<s→c<s→(cy (k+1) (jG A k r c)).natAbs<wp 15) (hP:∀k,k<s→(cy k A).natAbs<18446744073709551616) :
  ∀j k m L M p tp kp,j+k=s→j<m→rI s L M→Bar A s k M p→Lg p tp kp →
   ∃t q,(cx (ic n s) m (L,tp,kp,(k:Int))=some (.inl (t,q))∨cx (ic n s) m (L,tp,kp,(k:Int))=some (.inr (t,q)))∧Lg (G9 j k M p) t q:=by
 intro j
 induction j with
 | zero =>
  intro k m L M p tp kp hj hm hL hB hp;obtain⟨m,rfl⟩:∃m',m=m'+1:=⟨m-1,by omega⟩
  refine⟨tp,kp,.inr (bB ?_),hp⟩;unfold ic
  dsimp only
  rw[aX (by omega)]
 | succ j ih =>
  intro k m L M p tp kp hj hm hL hB hp;obtain⟨m,rfl⟩:∃m',m=m'+1:=⟨m-1,by omega⟩
  have hk:k<s:=by omega
  obtain⟨row,t1,k1,a1,a2,a3,a4⟩:=hL.at hk hk;obtain⟨r,r1,r2,r3⟩:=yx (n:=n) a4;have hb:Ll s k M:=fun r c h1 h2 h3 h4=>by rw[hB.minor h1 h2 h3 h4]; exact hD k r c hk h2 h4
  unfold G9
  by_cases h0:M k k=0
  ·rw[if_pos h0];refine⟨false,[],.inl (bB ?_),Lg.zero⟩;unfold ic
   dsimp only
   simp only[Int.toNat_natCast];rw[bm (by omega),aC hk,aV,a1,aq,cQ (by omega),a2,aC hk,aV,a3,aq]
   dsimp only
   rw[r1,aq,bm (r3.2 h0),mj (by omega),aq]
  ·rw[if_neg h0];obtain⟨L',b1,b2⟩:=Bm hn hB hk hs h0 (by rw[hB.pe]; exact hP k hk) hb hp (s-(k+1)) (k+1) n L (by omega) (by omega) (by omega) (hL.congr fun a b _ _=>by rw[if_neg (by omega)])
   obtain⟨row',t2,k2,c1,c2,c3,c4⟩:=b2.at hk hk;have he:AY M k p k k=M k k:=by unfold AY; rw[if_neg (by omega)]
   rw[he] at c4;have st:ic n s (L,tp,kp,(k:Int))=some (.inl (L',t2,k2,((k+1:Nat):Int))):=by
    unfold ic
    dsimp only
    simp only[Int.toNat_natCast];rw[bm (by omega),aC hk,aV,a1,aq,cQ (by omega),a2,aC hk,aV,a3,aq]
    dsimp only
    rw[r1,aq,aX (fun e=>h0 (r3.1 e)),bE (by omega),b1,aq,aV,c1,aq,cQ (by omega),c2,aC hk,aV,c3,aq]
   rw[aR st];exact ih (k+1) m L' _ _ t2 k2 (by omega) (by omega) b2 (hB.step hk h0) c4
end Go.Proofs.YtookeaakpiefjaaDoor
end

section
namespace Go.Proofs.YtookeaakpiefjaaDoor
open Go Go.Ab Go.Ab.W
theorem ru {α β:Type} [DecidableEq α] (xs:List (α × β)) (k k':α) (v:β):ca (cL xs k v) k'=(if k'=k then some v else ca xs k')∧(cL xs k v).length=(if ca xs k=none then xs.length+1 else xs.length):=by
 have key:∀(xs:List (α × β)) (i:Nat),(bW k xs i=none→∀j,(bW k' (xs++[(k,v)]) j).map (·.2)=if k'=k then some v else(bW k' xs j).map (·.2)) ∧
   (∀p,bW k xs i=some p→i≤p.1∧∀j,(bW k' (xs.set (p.1-i) (k,v)) j).map (·.2)=if k'=k then some v else(bW k' xs j).map (·.2)):=by
  intro xs
  induction xs with
  | nil =>
   intro i;refine⟨fun _ j=>?_,fun p h=>by simp[bW] at h⟩
   simp only[List.nil_append,bW]
   by_cases h:k'=k<;>simp[h]
  | cons e xs ih =>
   intro i
   by_cases he:k=e.1
   ·refine⟨fun h=>by simp[bW,he] at h,fun p h=>?_⟩
    have hp:p=(i,e.2):=by simp[bW,he] at h; exact h.symm
    subst hp;refine⟨Nat.le_refl _,fun j=>?_⟩;simp only[Nat.sub_self,List.set_cons_zero,bW]
    by_cases h:k'=k
    ·simp[h]
    ·have:k'≠e.1:=fun c=>h (c.trans he.symm);simp[h,this]
   ·refine⟨fun h j=>?_,fun p h=>?_⟩
    ·have h':bW k xs (i+1)=none:=by simpa [bW,he] using h
     simp only[List.cons_append,bW]
     by_cases h2:k'=e.1
     ·have:k'≠k:=fun c=>he (c.symm.trans h2);simp[h2,Ne.symm he]
     ·simp only[if_neg h2];exact(ih (i+1)).1 h' (j+1)
    ·have h':bW k xs (i+1)=some p:=by simpa [bW,he] using h
     obtain⟨g1,g2⟩:=(ih (i+1)).2 p h';refine⟨by omega,fun j=>?_⟩
     rw[show p.1-i=(p.1-(i+1))+1 by omega,List.set_cons_succ]
     simp only[bW]
     by_cases h2:k'=e.1
     ·have:k'≠k:=fun c=>he (c.symm.trans h2);simp[h2,Ne.symm he]
     ·simp only[if_neg h2];exact g2 (j+1)
 unfold ca cL;cases h:bW k xs 0 with
 | none=>exact⟨(key xs 0).1 h 0,by simp⟩
 | some p=>exact⟨((key xs 0).2 p h).2 0,by simp⟩
theorem kv {α β:Type} [DecidableEq α] (xs:List (α × β)) (k k':α) (v:β):ca (cL xs k v) k'=if k'=k then some v else ca xs k':=(ru xs k k' v).1
theorem Df {α β:Type} [DecidableEq α] (xs:List (α × β)) (k:α) (v:β) (h:ca xs k=none):(cL xs k v).length=xs.length+1:=by rw[(ru xs k k v).2,if_pos h]
theorem Db {α β:Type} [DecidableEq α] (xs:List (α × β)) (k k':α) (v d:β):(ca (cL xs k v) k').getD d=if k'=k then v else(ca xs k').getD d:=by
 rw[kv]; split<;>rfl
end Go.Proofs.YtookeaakpiefjaaDoor
end

section
namespace Go.Proofs.YtookeaakpiefjaaDoor
open Go Go.Ab Go.Ab.W Go.Ab.T30
def wi (es:List (Int × Int)) (x:Nat) (W:List (Int × Bool)) (i:Nat):Bool:=dz es x (i:Int) && (ca W (i:Int)).getD false
def wl (es:List (Int × Int)) (x:Nat) (W:List (Int × Bool)) (i j:Nat):List (Nat × Nat):=((List.range' i j).filter (wi es x W)).map fun(k:Nat)=>eg es (k:Int)
theorem F0 (es:List (Int × Int)) (x:Nat) (W:List (Int × Bool)) (i j:Nat):wl es x W i (j+1)=if wi es x W i then eg es (i:Int)::wl es x W (i+1) j else wl es x W (i+1) j:=by
 unfold wl;rw[List.range'_succ,List.filter_cons]
 split<;>rfl
theorem DP {N:Nat} {es:List (Int × Int)} (h:Okay N es) {n x:Nat} (hx:x<2 ^ 64) (hn:64<n) (W:List (Int × Bool)) :
  ∀j i m p r E,i+j=es.length→j<m→Fst p r→Rt r E →
   (aU r (wl es x W i j)=true→∃p' E',cx (kj n es x W) m ((i:Int),p,p.length)=some (.inr (p',p'.length))∧Fst p' ((wl es x W i j).foldl bP r)∧Rt ((wl es x W i j).foldl bP r) E') ∧
   (aU r (wl es x W i j)=false→∃p' k,cx (kj n es x W) m ((i:Int),p,p.length)=some (.inl (false,[],p',k))):=by
 intro j
 induction j with
 | zero =>
  intro i m p r E hij hm hp hr;obtain⟨m,rfl⟩:∃m',m=m'+1:=⟨m-1,by omega⟩
  have h0:wl es x W i 0 = []:=rfl;rw[h0];refine⟨fun _=>⟨p,E,bB ?_,hp,hr⟩,fun h=>by cases h⟩
  unfold kj
  dsimp only
  rw[aX (by omega)]
 | succ j ih =>
  intro i m p r E hij hm hp hr;obtain⟨m,rfl⟩:∃m',m=m'+1:=⟨m-1,by omega⟩
  have hi:i<es.length:=by omega
  have hl:=h.len;obtain⟨a,b,g1,g2,g3,g4,_,g5⟩:=lh h (k:=(i:Int)) ⟨by omega,by omega⟩
  rw[Int.toNat_natCast] at g1;have ha:a<64:=by omega
  have hin:dz es x (i:Int)=(x.testBit a && x.testBit b):=by
   simp only[dz,g2];rw[decide_eq_true ⟨by omega,by omega⟩,Bool.true_and]
  have w1:IntKind.wrap .i64 ((i:Int)+1)=((i+1:Nat):Int):=bE (by omega)
  rw[F0,g2]
  by_cases h3:(x.testBit a && x.testBit b)=true
  ·by_cases h4:(ca W (i:Int)).getD false=true
   ·have hw:wi es x W i=true:=by unfold wi; rw[hin,h3,h4]; rfl
    rw[if_pos hw];have hM:max (r a) (r b)<p.length:=by rw[hp.len]; have:=hr.le a; have:=hr.le b; omega
    have hma:ma ((r a:Nat):Int) ((r b:Nat):Int)=((max (r a) (r b):Nat):Int):=by simp only[ma]; omega
    have hmi:mi ((r a:Nat):Int) ((r b:Nat):Int)=((min (r a) (r b):Nat):Int):=by simp only[mi]; omega
    have hpM:p[max (r a) (r b)]? = some (p[max (r a) (r b)]'hM):=List.getElem?_eq_getElem _;have key:kj n es x W ((i:Int),p,p.length)=if r a=r b then some (.inr (.inl (false,[],p.set (max (r a) (r b)) ((min (r a) (r b):Nat):Int),p.length))) else some (.inl (((i+1:Nat):Int),p.set (max (r a) (r b)) ((min (r a) (r b):Nat):Int),p.length)):=by
     unfold kj
     dsimp only
     rw[bm (by omega),aC hi,aV,Int.toNat_natCast,g1,aq]
     dsimp only
     rw[jn n x a b hx ha g4,aq,h3,dc,aq,h4,dc,ux hp n a ha hn,aq,ux hp n b g4 hn,aq,hma,aC hM,aV,Int.toNat_natCast,hpM,aq,aq,hmi]
     dsimp only
     rw[aq]
     dsimp only
     rw[w1]
     by_cases h5:r a=r b
     ·rw[if_pos h5,decide_eq_true (by omega),mj (by omega)]; rfl
     ·rw[if_neg h5,decide_eq_false (by omega)]; rfl
    unfold aU
    by_cases h5:r a=r b
    ·rw[if_pos h5] at key
     dsimp only
     have:(r a == r b)=true:=by simpa using h5
     rw[this];exact⟨fun h=>(by cases h),fun _=>⟨_,_,bB key⟩⟩
    ·rw[if_neg h5] at key
     dsimp only
     have:(r a == r b)=false:=by simpa using h5
     rw[this,Bool.not_false,Bool.true_and,aR key,List.foldl_cons];have hj:=hp.join hr (e:=(a,b)) ha g4;have:=ih (i+1) m _ _ _ (by omega) (by omega) hj (hr.join (a,b))
     rw[List.length_set] at this;exact this
   ·rw[Bool.not_eq_true] at h4;have hw:wi es x W i=false:=by unfold wi; rw[h4,Bool.and_false]
    rw[hw];have key:kj n es x W ((i:Int),p,p.length)=some (.inl (((i+1:Nat):Int),p,p.length)):=by
     unfold kj
     dsimp only
     rw[bm (by omega),aC hi,aV,Int.toNat_natCast,g1,aq]
     dsimp only
     rw[jn n x a b hx ha g4,aq,h3,dc,aq,h4,dO,aq]
     dsimp only
     rw[dO,aq]
     dsimp only
     rw[aq]
     dsimp only
     rw[w1]
    rw[aR key];exact ih (i+1) m p r E (by omega) (by omega) hp hr
  ·rw[Bool.not_eq_true] at h3;have hw:wi es x W i=false:=by unfold wi; rw[hin,h3]; rfl
   rw[hw];have key:kj n es x W ((i:Int),p,p.length)=some (.inl (((i+1:Nat):Int),p,p.length)):=by
    unfold kj
    dsimp only
    rw[bm (by omega),aC hi,aV,Int.toNat_natCast,g1,aq]
    dsimp only
    rw[jn n x a b hx ha g4,aq,h3,dO,aq]
    dsimp only
    rw[w1]
   rw[aR key];exact ih (i+1) m p r E (by omega) (by omega) hp hr
theorem Eo (n:Nat) (p:List Int):Ee n p.length p=jD n p:=rfl
theorem CU (n:Nat) (p:List Int):zU n p.length p=jD n p:=rfl
theorem B1 (n:Nat) (p:List Int):zz n p.length p=jD n p:=rfl
theorem Ej (n:Nat) (p:List Int) (z:List (Int × Int)):∀m v,cx (wL n p.length p) m (v,z)=(cx (jD n p) m v).map fun v=>(v,z):=by
 intro m
 induction m with
 | zero=>intro v; rfl
 | succ m ih =>
  intro v;have st:wL n p.length p (v,z)=(jD n p v).map fun x=>match x with | .inl v=>.inl (v,z) | .inr v=>.inr (v,z):=by
   unfold wL jD
   dsimp only
   cases bZ v p.length
   ·rfl
   ·rw[aV,aV];cases p[v.toNat]? with
    | none=>rfl
    | some y =>
     rw[aq,aq];cases(!decide (y=v))<;>rfl
  unfold cx;rw[st];cases jD n p v with
  | none=>rfl
  | some x =>
   cases x with
   | inl v=>exact ih v
   | inr v=>rfl
def GI (x:Nat) (r:Nat→Nat) (g:Nat) (v:Nat):Bool:=x.testBit v && r v == v && v != g
def qK (x:Nat) (r:Nat→Nat) (g i:Nat):List Nat:=(List.range i).filter (GI x r g)
theorem BU (x:Nat) (r:Nat→Nat) (g i:Nat):qK x r g (i+1)=if GI x r g i then qK x r g i++[i] else qK x r g i:=by
 unfold qK;rw[List.range_succ,List.filter_append,List.filter_cons]
 split<;>simp
theorem Iy {x:Nat} {r:Nat→Nat} {g i v:Nat} (h:v ∈ qK x r g i):v<i:=by
 unfold qK at h;rw[List.mem_filter,List.mem_range] at h;exact h.1
def Ld (x:Nat) (r:Nat→Nat) (g i:Nat) (T:List (Int × Int)):Prop :=
 T.length=(qK x r g i).length∧∀v:Nat,ca T (v:Int)=if v ∈ qK x r g i then some (((qK x r g i).idxOf v:Nat):Int) else none
theorem CE {n x:Nat} (hx:x<2 ^ 64) (hn:64<n) {p:List Int} {r:Nat→Nat} (hp:Fst p r) (g:Nat):∃T,cx (oo n x p.length p (g:Int)) n (([]:List (Int × Int)),0)=some T∧Ld x r g 64 T:=by
 refine iJ (body:=oo n x p.length p (g:Int)) 64 (fun(s:List (Int × Int)) (v:Int)=>(s,v)) id (fun i s=>Ld x r g i s) (fun T i hi hI=>?_) (fun T _=>?_) (n:=n) ⟨rfl,fun v=>by simp[qK,ca,bW]⟩ hn
 ·have key:oo n x p.length p (g:Int) (T,(i:Int))=some (.inl (if GI x r g i then cL T (i:Int) ((T.length:Nat):Int) else T,((i+1:Nat):Int))):=by
   unfold oo
   dsimp only
   rw[bm (by omega),cQ (by omega),Int.toNat_natCast,uC hx (by omega),Eo,hp.root n i n hi (by omega),bE (by omega)]
   unfold GI;cases x.testBit i
   ·rfl
   ·rw[dc,aq,aq]
    by_cases h1:r i=i
    ·rw[bm (by omega),aq]
     by_cases h2:i=g
     ·rw[decide_eq_true (by omega)]; simp[h1,h2,ob,br]
     ·rw[decide_eq_false (by omega)]; simp[h1,h2,ob,br]
    ·rw[aX (by omega),aq]; simp[h1,ob,br]
  refine⟨_,key,?_⟩;obtain⟨hl,hg⟩:=hI;have hni:i ∉ qK x r g i:=fun h=>Nat.lt_irrefl _ (Iy h);unfold Ld;rw[BU]
  by_cases hP:GI x r g i=true
  ·rw[if_pos hP,if_pos hP];have hnone:ca T (i:Int)=none:=by rw[hg,if_neg hni]
   refine⟨by rw[Df _ _ _ hnone,hl,List.length_append]; rfl,fun v=>?_⟩
   rw[kv,hg,hl]
   by_cases hv:v=i
   ·subst hv;rw[if_pos rfl,if_pos (by simp),List.idxOf_append,if_neg hni]; simp
   ·rw[if_neg (by omega)]
    by_cases hm:v ∈ qK x r g i
    ·rw[if_pos hm,if_pos (by simp[hm]),List.idxOf_append,if_pos hm]
    ·rw[if_neg hm,if_neg (by simp[hm,hv])]
  ·rw[if_neg hP,if_neg hP];exact⟨hl,hg⟩
 ·unfold oo
  dsimp only
  rw[aX (by decide)]; rfl
theorem DC {n s:Nat} (hs:s≤64) (hn:64<n) (T:List (Int × Int)) (hT:T.length=s):∃L,cx (qC n s T) n ((List.replicate s ([]:List (Bool × List Nat))),0)=some L∧rI s L fun _ _=>0:=by
 have:=iJ (body:=qC n s T) s (fun(l:List (List (Bool × List Nat))) (v:Int)=>(l,v)) id (fun i l=>l.length=s∧∀v,v<i→l[v]? = some (List.replicate s (false,[]))) (fun l i hi hI=>?_) (fun l _=>?_) (n:=n) (s:=List.replicate s []) ⟨by simp,fun v hv=>absurd hv (Nat.not_lt_zero _)⟩ (by omega)
 ·obtain⟨L,h1,h2,h3⟩:=this;refine⟨L,h1,h2,fun r hr=>⟨_,h3 r hr,by simp,fun c hc=>⟨false,[],by rw[List.getElem?_replicate,if_pos hc],Lg.zero⟩⟩⟩
 ·refine⟨l.set i (List.replicate s (false,[])),?_,by rw[List.length_set]; exact hI.1,fun v hv=>?_⟩
  ·unfold qC
   dsimp only
   have e3:l[i]? = some (l[i]'(by rw[hI.1]; exact hi)):=List.getElem?_eq_getElem _
   rw[bm (by omega),aq,hT,cQ (by omega),Int.toNat_natCast,ja (by omega),aV,aC hi,aV,Int.toNat_natCast,e3,aq,cQ (by omega),bE (by omega)]
  ·by_cases hvi:v=i
   ·subst hvi; rw[List.getElem?_set_self (by rw[hI.1]; exact hi)]
   ·rw[List.getElem?_set_ne (fun e=>hvi e.symm)]; exact hI.2 v (by omega)
 ·unfold qC
  dsimp only
  rw[aX (by omega)]; rfl
def yh (n y4:Nat) (l1:List (Int × Int)) (v w c:Int) (l2:List (List (Bool × List Nat))):Option (List (List (Bool × List Nat))) :=
ob (some ((ca l1 v).getD (0:Int),(ca l1 v).isSome)) fun(y2,y5) =>
ob (some ((ca l1 w).getD (0:Int),(ca l1 w).isSome)) fun(y3,y6) =>
ob (
br (y5) (
some y6) (
some false)) fun v0 =>
br (v0) (
gd (bZ y2 ((y4:Int).toNat)) (
ob (l2[y2.toNat]?) fun l3 =>
gd (decide (0<l3.length)) (
gd (bZ y2 ((y4:Int).toNat)) (
ob (l2[y2.toNat]?) fun l4 =>
gd (decide (0<l4.length)) (
gd (bZ y3 l4.length) (
ob (l4[y3.toNat]?) fun(x3,l5) =>
ob (sB n c) fun(r0,l6) =>
ob (Bn n x3 l5 r0 l6) fun(r1,l7) =>
gd (bZ y3 l3.length) (
gd (Nat.blt y3.toNat l3.length) (
some (l2.set y2.toNat (l3.set y3.toNat (r1,l7))))))))))) (
some l2)
theorem vO (n:Nat) (es:List (Int × Int)) (x:Nat) (p:List Int) (O:List (Int × Bool)) (T:List (Int × Int)) (s:Nat) (i:Int) (L:List (List (Bool × List Nat))) :
  rn n es x p.length p O T s (i,L)=br (decide (i<(es.length:Int))) (gd (bZ i es.length) (ob (es[i.toNat]?) fun e=>ob (ob (EB n x e.1 e.2) fun q=>br q
   (ob (ob (ob (cx (zU n p.length p) n e.1) fun v=>some v) fun va=>ob (ob (cx (zz n p.length p) n e.2) fun v=>some v) fun vb =>
    ob (ob (some ((ca O i).getD false)) fun y=>br y (some true) (some (decide (va=vb)))) fun t=>br t (some L)
     (ob (yh n s T va va 1 L) fun L1=>ob (yh n s T vb vb 1 L1) fun L2=>ob (yh n s T va vb (-1) L2) fun L3=>ob (yh n s T vb va (-1) L3) fun L4=>some L4)) fun L5=>some L5)
   (some L)) fun L6=>some (.inl (IntKind.wrap .i64 (i+1),L6)))) (some (.inr L)):=rfl
theorem oU {n s:Nat} (hn:100<n) {P:List Nat} (hP:P.length=s) {T:List (Int × Int)} (hT:∀v:Nat,ca T (v:Int)=if v ∈ P then some ((P.idxOf v:Nat):Int) else none)
  {L:List (List (Bool × List Nat))} {M:Mt} {B:Nat} (hL:rI s L M) (hM:∀r c,r<s→c<s→(M r c).natAbs≤B) (hB:B<1000) {c:Int} {t:Bool} {k:List Nat} (hc:sB n c=some (t,k)) (hg:Lg c t k) (hc1:c.natAbs≤1) (v w:Nat) :
  ∃L',yh n s T (v:Int) (w:Int) c L=some L'∧rI s L' (fun a b=>M a b+if a=P.idxOf v∧b=P.idxOf w then c else 0)∧∀r c',r<s→c'<s→(M r c'+if r=P.idxOf v∧c'=P.idxOf w then c else 0).natAbs≤B+1:=by
 have hbd:∀r c',r<s→c'<s→(M r c'+if r=P.idxOf v∧c'=P.idxOf w then c else 0).natAbs≤B+1:=fun r c' h1 h2=>by
  have:=hM r c' h1 h2
  split<;>omega
 by_cases h:v ∈ P∧w ∈ P
 ·have hv:P.idxOf v<s:=by rw[←hP]; exact List.idxOf_lt_length_iff.2 h.1
  have hw:P.idxOf w<s:=by rw[←hP]; exact List.idxOf_lt_length_iff.2 h.2
  obtain⟨row,t1,k1,a1,a2,a3,a4⟩:=hL.at hv hw;have l1:k1.length≤1:=a4.len (by have:=hM _ _ hv hw; show _<18446744073709551616; omega)
  have l2:k.length≤1:=hg.len (by show _<18446744073709551616; omega)
  obtain⟨u,q,u1,u2⟩:=tI (n:=n) a4 hg (by omega) (by omega) (by omega)
  refine⟨L.set (P.idxOf v) (row.set (P.idxOf w) (u,q)),?_,(hL.set hv hw a1 u2).congr fun a b _ _=>?_,hbd⟩
  ·unfold yh;rw[hT v,hT w,if_pos h.1,if_pos h.2];simp only[Option.getD_some,Option.isSome_some,aq,dc,Int.toNat_natCast];rw[aC hv,aV,a1,aq,cQ (by omega),aV,aq,cQ (by omega),a2,aC hw,aV,a3,aq]
   dsimp only
   rw[hc,aq]
   dsimp only
   rw[u1,aq]
   dsimp only
   rw[aV,C7 hw,aV]
  ·by_cases h1:a=P.idxOf v∧b=P.idxOf w
   ·rw[if_pos h1,if_pos h1,h1.1,h1.2]
   ·rw[if_neg h1,if_neg h1,Int.add_zero]
 ·refine⟨L,?_,hL.congr fun a b ha hb=>?_,hbd⟩
  ·unfold yh;rw[hT v,hT w]
   by_cases hv:v ∈ P
   ·have hw:w ∉ P:=fun e=>h ⟨hv,e⟩;rw[if_pos hv,if_neg hw]; rfl
   ·rw[if_neg hv]
    by_cases hw:w ∈ P
    ·rw[if_pos hw]; rfl
    ·rw[if_neg hw]; rfl
  ·have h1:¬(a=P.idxOf v∧b=P.idxOf w):=fun e=>h ⟨List.idxOf_lt_length_iff.1 (by rw[←e.1,hP]; exact ha),List.idxOf_lt_length_iff.1 (by rw[←e.2,hP]; exact hb)⟩
   rw[if_neg h1,Int.add_zero]
def ki (es:List (Int × Int)) (x:Nat) (O:List (Int × Bool)) (i:Nat):Bool:=dz es x (i:Int) && !(ca O (i:Int)).getD false
def kl (es:List (Int × Int)) (x:Nat) (O:List (Int × Bool)) (i:Nat):List (Nat × Nat):=((List.range i).filter (ki es x O)).map fun(k:Nat)=>eg es (k:Int)
theorem Fb (es:List (Int × Int)) (x:Nat) (O:List (Int × Bool)) (i:Nat):kl es x O (i+1)=if ki es x O i then kl es x O i++[eg es (i:Int)] else kl es x O i:=by
 unfold kl;rw[List.range_succ,List.filter_append,List.filter_cons]
 split<;>simp
theorem DT (es:List (Int × Int)) (x:Nat) (O:List (Int × Bool)) (i:Nat):(kl es x O i).length≤i:=by
 unfold kl;rw[List.length_map];have:=List.length_filter_le (ki es x O) (List.range i);rwa[List.length_range] at this
theorem ub (φ:Nat→Nat) (e:Nat × Nat) (a b:Nat):∀E,ir φ (E++[e]) a b=ir φ E a b+dl φ e a*dl φ e b
 | []=>by simp[ir]
 | d::E=>by
  rw[List.cons_append];simp only[ir];rw[ub φ e a b E];omega
theorem GK (φ:Nat→Nat) (e:Nat × Nat) (a:Nat):dl φ e a=0∨dl φ e a=1∨dl φ e a = -1:=by
 unfold dl
 split<;>split<;>simp
theorem xx (φ:Nat→Nat) (a b:Nat):∀E,(ir φ E a b).natAbs≤E.length
 | []=>by simp[ir]
 | d::E=>by
  have:=xx φ a b E;simp only[ir,List.length_cons];rcases GK φ d a with h|h|h<;>rcases GK φ d b with h' | h' | h'<;>rw[h,h']<;>omega
theorem E4 (m:Int) {p q u w:Prop} [Decidable p] [Decidable q] [Decidable u] [Decidable w] :
  m+(if p∧u then 1 else 0)+(if q∧w then 1 else 0)+(if p∧w then -1 else 0)+(if q∧u then -1 else 0)=m+((if p then 1 else 0)-(if q then 1 else 0))*((if u then 1 else 0)-(if w then 1 else 0)):=by
 by_cases hp:p<;>by_cases hq:q<;>by_cases hu:u<;>by_cases hw:w<;>simp[hp,hq,hu,hw]<;>try omega
theorem BD {N:Nat} {es:List (Int × Int)} (h:Okay N es) {n x:Nat} (hx:x<2 ^ 64) (hn:200<n) {p:List Int} {r:Nat→Nat} (hp:Fst p r) (O:List (Int × Bool))
  {P:List Nat} {s:Nat} (hP:P.length=s) {T:List (Int × Int)} (hT:∀v:Nat,ca T (v:Int)=if v ∈ P then some ((P.idxOf v:Nat):Int) else none)
  {L:List (List (Bool × List Nat))} (hL:rI s L fun _ _=>0) :
  ∃L',cx (rn n es x p.length p O T s) n (0,L)=some L'∧rI s L' (ir (fun v=>P.idxOf (r v)) (kl es x O es.length)):=by
 have hlen:=h.len;refine iJ (body:=rn n es x p.length p O T s) es.length (fun(l:List (List (Bool × List Nat))) (v:Int)=>(v,l)) id (fun i l=>rI s l (ir (fun v=>P.idxOf (r v)) (kl es x O i))) (fun l i hi hI=>?_) (fun l _=>?_) (n:=n) hL (by omega)
 ·obtain⟨a,b,g1,g2,g3,g4,_,g5⟩:=lh h (k:=(i:Int)) ⟨by omega,by omega⟩
  rw[Int.toNat_natCast] at g1;have ha:a<64:=by omega
  have hin:dz es x (i:Int)=(x.testBit a && x.testBit b):=by
   simp only[dz,g2];rw[decide_eq_true ⟨by omega,by omega⟩,Bool.true_and]
  rw[vO,bm (by omega),aC hi,aV,Int.toNat_natCast,g1,aq]
  dsimp only
  rw[jn n x a b hx ha g4,aq,bE (by omega)]
  rw[Fb];unfold ki;rw[hin,g2]
  by_cases h3:(x.testBit a && x.testBit b)=true
  ·rw[h3,dc,CU,B1,hp.root n a n ha (by omega),hp.root n b n g4 (by omega)]
   simp only[aq,Bool.true_and]
   by_cases h4:(ca O (i:Int)).getD false=true
   ·rw[h4,dc,aq,dc,aq,aq];exact⟨l,rfl,hI⟩
   ·rw[Bool.not_eq_true] at h4;rw[h4,dO,aq,Bool.not_false,if_pos rfl]
    by_cases h5:r a=r b
    ·rw[bm (by omega),aq,aq]
     refine⟨l,rfl,hI.congr fun c d _ _=>?_⟩;rw[ub];simp[dl,h5]
    ·rw[aX (by omega)]
     have hM:∀c d,c<s→d<s→(ir (fun v=>P.idxOf (r v)) (kl es x O i) c d).natAbs≤200:=fun c d _ _=>by
      have h1:=xx (fun v=>P.idxOf (r v)) c d (kl es x O i);have h2:=DT es x O i;omega
     obtain⟨L1,m1,n1,b1⟩:=oU (n:=n) (by omega) hP hT hI hM (by omega) (tY (by omega)) xq (by decide) (r a) (r a)
     obtain⟨L2,m2,n2,b2⟩:=oU (n:=n) (by omega) hP hT n1 b1 (by omega) (tY (by omega)) xq (by decide) (r b) (r b)
     obtain⟨L3,m3,n3,b3⟩:=oU (n:=n) (by omega) hP hT n2 b2 (by omega) (Ao (by omega)) BZ (by decide) (r a) (r b)
     obtain⟨L4,m4,n4,b4⟩:=oU (n:=n) (by omega) hP hT n3 b3 (by omega) (Ao (by omega)) BZ (by decide) (r b) (r a)
     refine⟨L4,by rw[m1,aq,m2,aq,m3,aq,m4,aq,aq,aq],n4.congr fun c d _ _=>?_⟩
     rw[ub];exact E4 _
  ·rw[Bool.not_eq_true] at h3;rw[h3,dO,aq];exact⟨l,rfl,hI⟩
 ·rw[vO,aX (by omega)]; rfl
theorem rO {f:Nat→Int} {C:Nat}:∀n,(∀i,i<n→(f i).natAbs≤C)→(sm n f).natAbs≤n*C
 | 0,_=>by simp[sm]
 | n+1,h=>by
  have h1:=rO n fun i hi=>h i (by omega)
  have h2:=h n (by omega)
  simp only[sm];rw[Nat.add_mul,Nat.one_mul];omega
theorem Ba (i:Nat) (x:Int):(sg i*x).natAbs=x.natAbs:=by
 unfold sg
 split<;>simp
theorem Er {C N:Nat}:∀(n:Nat) (A:Mt),n≤N→(∀r c,r<n→c<n→(A r c).natAbs≤C)→(cy n A).natAbs≤(N*C) ^ n
 | 0,_,_,_=>by simp[cy]
 | n+1,A,hn,h=>by
  simp only[cy];have:=rO (C:=C*(N*C) ^ n) (n+1) (f:=fun i=>sg i*(A i 0*cy n (nz A i))) fun i hi=>by
   rw[Ba,Int.natAbs_mul];exact Nat.mul_le_mul (h i 0 hi (by omega)) (Er n (nz A i) (by omega) fun r c hr hc=>h _ _ (yC hr) (by omega))
  refine Nat.le_trans ?_ (Nat.le_trans this ?_)
  ·refine Nat.le_of_eq (congrArg Int.natAbs (gj fun i _=>?_));simp only[Int.mul_assoc]
  ·rw[Nat.pow_succ,Nat.mul_comm ((N*C) ^ n),←Nat.mul_assoc];exact Nat.mul_le_mul_right _ (Nat.mul_le_mul_right _ hn)
theorem AZ (φ:Nat→Nat) (E:List (Nat × Nat)) (hE:E.length≤200) {k r c:Nat} (hk:k<64):(cy (k+1) (jG (ir φ E) k r c)).natAbs<wp 15:=by
 have h1:=Er (C:=200) (N:=64) (k+1) (jG (ir φ E) k r c) (by omega) fun a b _ _=>Nat.le_trans (xx φ _ _ E) hE
 have h2:(64*200) ^ (k+1)≤(64*200) ^ 64:=Nat.pow_le_pow_right (by decide) (by omega)
 have h3:(64*200) ^ 64<wp 15:=by decide
 omega
theorem za (x:Nat) (r:Nat→Nat) (g:Nat):(qK x r g 64).length≤64:=by
 unfold qK;have:=List.length_filter_le (GI x r g) (List.range 64);rwa[List.length_range] at this
def rW (es:List (Int × Int)) (x:Nat) (W:List (Int × Bool)):Nat→Nat:=(wl es x W 0 es.length).foldl bP fun x=>x
def pW (es:List (Int × Int)) (x:Nat) (W:List (Int × Bool)):List Nat:=qK x (rW es x W) (rW es x W (tz x)) 64
def mW (es:List (Int × Int)) (x:Nat) (W O:List (Int × Bool)):Mt:=ir (fun v=>(pW es x W).idxOf (rW es x W v)) (kl es x O es.length)
theorem Hk {N:Nat} {es:List (Int × Int)} (h:Okay N es) {n x:Nat} (hx:x<2 ^ 64) (h0:0<x) (hn:300<n) (x1:Int) (W O:List (Int × Bool)) :
  (aU (fun x=>x) (wl es x W 0 es.length)=false→w6 n x1 es x W O=some (false,[])) ∧
  (aU (fun x=>x) (wl es x W 0 es.length)=true→(∀k,k<(pW es x W).length→(cy k (mW es x W O)).natAbs<18446744073709551616) →
   ∃t q,w6 n x1 es x W O=some (t,q)∧Lg (G9 (pW es x W).length 0 (mW es x W O) 1) t q):=by
 have hlen:=h.len;obtain⟨p0,f1,f2⟩:=zR n (by omega)
 have f3:=DP h hx (show 64<n by omega) W es.length 0 n p0 (fun x=>x) [] (by omega) (by omega) f2 Rt.id
 have hF:J4 n x=some ((tz x:Nat):Int):=by unfold J4; rw[cQ hx]
 have htz:tz x<64:=vV hx (sP h0 hx).1;refine⟨fun ha=>?_,fun ha hP=>?_⟩
 ·obtain⟨p',k,g1⟩:=f3.2 ha;unfold w6;rw[f1,aq,aq];rw[show(0:Int)=((0:Nat):Int) from rfl,g1]
  rfl
 ·obtain⟨p,E',g1,hp,hr⟩:=f3.1 ha
  change Fst p (rW es x W) at hp
  clear hr;obtain⟨T,t1,t2,t3⟩:=CE (n:=n) hx (by omega) hp (rW es x W (tz x))
  obtain⟨L,l1,l2⟩:=DC (n:=n) (za x (rW es x W) (rW es x W (tz x))) (by omega) T t2
  obtain⟨L',m1,m2⟩:=BD h hx (by omega:200<n) hp O rfl t3 l2
  have hs:=za x (rW es x W) (rW es x W (tz x));have hD:∀k r c,k<(pW es x W).length→r<(pW es x W).length→c<(pW es x W).length→(cy (k+1) (jG (mW es x W O) k r c)).natAbs<wp 15:=fun k r c hk _ _=>AZ _ _ (Nat.le_trans (DT _ _ _ _) hlen) (Nat.lt_of_lt_of_le hk hs);obtain⟨t,q,h1,h2⟩:=A8 (n:=n) (by omega) hs hD hP (pW es x W).length 0 n L' (mW es x W O) 1 false [1] (Nat.add_zero _) (Nat.lt_of_le_of_lt hs (by omega)) m2 (Bar.start _ _) xq
  refine⟨t,q,?_,h2⟩;unfold w6;rw[f1,aq,aq];rw[show(0:Int)=((0:Nat):Int) from rfl,g1]
  dsimp only[aq]
  rw[hF,aq,Ej,hp.root n (tz x) n htz (by omega)]
  dsimp only[aq,Option.map_some]
  have t1':cx (oo n x p.length p ((rW es x W (tz x):Nat):Int)) n (([]:List (Int × Int)),((0:Nat):Int))=some T:=t1;rw[t1',aq,t2,cQ (by omega),Int.toNat_natCast,ja (by omega),aV]
  have l1':cx (qC n (qK x (rW es x W) (rW es x W (tz x)) 64).length T) n (List.replicate (qK x (rW es x W) (rW es x W (tz x)) 64).length ([]:List (Bool × List Nat)),((0:Nat):Int))=some L:=l1;rw[l1',aq];have m1':cx (rn n es x p.length p O T (qK x (rW es x W) (rW es x W (tz x)) 64).length) n (((0:Nat):Int),L)=some L':=m1;rw[m1',aq,aq,tY (by omega),aq]
  have h1':cx (ic n (qK x (rW es x W) (rW es x W (tz x)) 64).length) n (L',false,[1],((0:Nat):Int))=some (.inl (t,q))∨cx (ic n (qK x (rW es x W) (rW es x W (tz x)) 64).length) n (L',false,[1],((0:Nat):Int))=some (.inr (t,q)):=h1;rcases h1' with h1|h1<;>rw[h1]<;>rfl
theorem z7 {l:List Nat} {a b:Nat} (ha:a ∈ l) (h:l.idxOf a=l.idxOf b):a=b:=by
 have h1:l.idxOf a<l.length:=List.idxOf_lt_length_iff.2 ha;have e1:l[l.idxOf a]? = some a:=by rw[List.getElem?_eq_getElem h1,List.getElem_idxOf]
 have h2:l.idxOf b<l.length:=by rw[←h]; exact h1
 have e2:l[l.idxOf b]? = some b:=by rw[List.getElem?_eq_getElem h2,List.getElem_idxOf]
 rw[h,e2] at e1;exact(Option.some.inj e1).symm
theorem xc {l:List Nat} {a:Nat}:l.idxOf a≤l.length:=List.idxOf_le_length
def kx (es:List (Int × Int)) (x:Nat) (O:List (Int × Bool)):List Int:=((List.range es.length).filter (ki es x O)).map fun(k:Nat)=>(k:Int)
theorem B8 (es:List (Int × Int)) (x:Nat) (O:List (Int × Bool)):(kx es x O).map (eg es)=kl es x O es.length:=by
 unfold kx kl;rw[List.map_map]; rfl
theorem H3 {es:List (Int × Int)} {x:Nat} {O:List (Int × Bool)} {k:Int} (h:k ∈ kx es x O):dz es x k=true:=by
 obtain⟨m,h1,rfl⟩:=List.mem_map.1 h;have:=(List.mem_filter.1 h1).2;unfold ki at this;rw[Bool.and_eq_true] at this;exact this.1
theorem z1 {N:Nat} {es:List (Int × Int)} (h:Okay N es) {x:Nat} {k:Int} (hk:dz es x k=true):(eg es k).1 ∈ ec x 64∧(eg es k).2 ∈ ec x 64:=by
 obtain⟨h1,h2,h3⟩:=pN hk;obtain⟨a,b,_,e,e1,e2,_⟩:=lh h h1;rw[e] at h2 h3 ⊢;exact⟨dM.2 ⟨by omega,h2⟩,dM.2 ⟨e2,h3⟩⟩
theorem CG {N:Nat} {es:List (Int × Int)} (h:Okay N es) {x:Nat} {W:List (Int × Bool)} {i j:Nat}:∀e ∈ wl es x W i j,e.1 ∈ ec x 64∧e.2 ∈ ec x 64:=fun e he=>by
 obtain⟨m,h1,rfl⟩:=List.mem_map.1 he;have:=(List.mem_filter.1 h1).2;unfold wi at this;rw[Bool.and_eq_true] at this;exact z1 h this.1
section
variable {N : Nat} {es : List (Int × Int)} {x : Nat} {W O : List (Int × Bool)}
theorem GJ:Rt (rW es x W) (wl es x W 0 es.length).reverse:=tC _
theorem yb (h:Okay N es) {v:Nat} (hv:v ∈ ec x 64):rW es x W v ∈ ec x 64:=(iB (nF x) (CG h)).2 v hv
theorem pH (hx:x<2 ^ 64) (h0:0<x):tz x ∈ ec x 64:=dM.2 ⟨vV hx (sP h0 hx).1,(sP h0 hx).1⟩
theorem DW {v:Nat}:v ∈ pW es x W↔v ∈ ec x 64∧rW es x W v=v∧v≠rW es x W (tz x):=by
 unfold pW qK GI;rw[List.mem_filter,List.mem_range,dM];simp[and_assoc]
theorem CN (h:Okay N es) (hx:x<2 ^ 64) (h0:0<x):iI (ec x 64) (rW es x W)=(pW es x W).length+1:=by
 have hg:=yb (W:=W) h (pH hx h0);have hrr:=(GJ (es:=es) (x:=x) (W:=W)).rr (tz x);have e1:iI (ec x 64) (rW es x W)=((List.range 64).filter fun v=>x.testBit v && rW es x W v == v).length:=by
  unfold iI ec;rw[List.filter_filter]
  congr 2
  funext v
  exact Bool.and_comm _ _
 rw[e1];unfold pW qK;refine j8 (a:=rW es x W (tz x)) List.nodup_range (List.mem_range.2 (dM.1 hg).1) ?_ fun v=>?_
 ·simp[(dM.1 hg).2,hrr]
 ·unfold GI;simp
theorem HV (h:Okay N es) (hx:x<2 ^ 64) (h0:0<x) (ha:aU (fun x=>x) (wl es x W 0 es.length)=true):(pW es x W).length+1+(wl es x W 0 es.length).length=rk x 64:=by
 have h1:=(iB (nF x) (CG (W:=W) (i:=0) (j:=es.length) h)).1;have h2:=(nM (wl es x W 0 es.length) fun x=>x).2 ha;rw[h2] at h1;have h3:=CN (W:=W) h hx h0;unfold rk;have e:rep (wl es x W 0 es.length)=rW es x W:=rfl;rw[e] at h1;omega
theorem H5 (h:Okay N es) {v w:Nat} (hv:v ∈ ec x 64) (hw:w ∈ ec x 64):rW es x W v=rW es x W w↔(pW es x W).idxOf (rW es x W v)=(pW es x W).idxOf (rW es x W w):=by
 refine⟨fun e=>by rw[e],fun e=>?_⟩
 have hrr:=fun v=>(GJ (es:=es) (x:=x) (W:=W)).rr v
 by_cases h1:rW es x W v ∈ pW es x W
 ·exact z7 h1 e
 ·by_cases h2:rW es x W w ∈ pW es x W
  ·exact(z7 h2 e.symm).symm
  ·have g1:rW es x W v=rW es x W (tz x):=Classical.byContradiction fun hc=>h1 (DW.2 ⟨yb h hv,hrr v,hc⟩);have g2:rW es x W w=rW es x W (tz x):=Classical.byContradiction fun hc=>h2 (DW.2 ⟨yb h hw,hrr w,hc⟩);rw[g1,g2]
theorem JL (s:Nat):dg s (fun i=>i)=s:=by
 unfold dg;rw[List.filter_eq_self.2 (fun i _=>by simp)]
 exact List.length_range
theorem IU (h:Okay N es) {n:Nat} (hx:x<2 ^ 64) (h0:0<x) (hn:300<n) (x1:Int) (hk:(kx es x O).length≤63) :
  (aU (fun x=>x) (wl es x W 0 es.length)=false→w6 n x1 es x W O=some (false,[])) ∧
  (aU (fun x=>x) (wl es x W 0 es.length)=true→∃t q,w6 n x1 es x W O=some (t,q)∧Lg ((gw es (kx es x O) (pW es x W).length (rW es x W)).length:Int) t q):=by
 have hF:=Hk h hx h0 hn x1 W O;refine⟨hF.1,fun ha=>?_⟩;have hkl:(kl es x O es.length).length≤63:=by rw[←B8,List.length_map]; exact hk
 obtain⟨t,q,h1,h2⟩:=hF.2 ha fun k _=>by
  have:=Bp (fun v=>(pW es x W).idxOf (rW es x W v)) (kl es x O es.length) k;have h3:2 ^ (kl es x O es.length).length≤2 ^ 63:=Nat.pow_le_pow_right (by decide) hkl
  unfold mW;omega
 refine⟨t,q,h1,?_⟩;have e1:G9 (pW es x W).length 0 (mW es x W O) 1=_:=FH (fun v=>(pW es x W).idxOf (rW es x W v)) (kl es x O es.length) (pW es x W).length fun e _=>⟨xc,xc⟩;have e2:=yG (es:=es) (V:=fun v=>v ∈ ec x 64) (s:=(pW es x W).length) (ψ:=fun v=>(pW es x W).idxOf (rW es x W v)) (fun v _=>xc) (kx es x O) (rW es x W) (fun i=>i) (Rho.id _) (fun v w hv hw=>H5 h hv hw) (fun k hk=>z1 h (H3 hk));rw[JL,B8] at e2;rw[e1,←e2] at h2;exact h2
end
theorem Jl (m:Nat):Iq (m+20) false []=some (0,0,0,0,0,0,0,0,0):=by rfl
theorem Jk (m c:Nat):Iq (m+20) false [c]=some (c,0,0,0,0,0,0,0,0):=by rfl
theorem C3 {n c:Nat} (hn:20≤n) (hc:c<18446744073709551616) {t:Bool} {q:List Nat} (h:Lg (c:Int) t q):Iq n t q=some (c,0,0,0,0,0,0,0,0):=by
 obtain⟨m,rfl⟩:∃m,n=m+20:=⟨n-20,by omega⟩
 have ht:=h.Di;rw[decide_eq_false (by omega)] at ht
 subst ht
 by_cases h0:c=0
 ·subst h0;rw[(h.Lc).2 rfl];exact Jl m
 ·have:=h.JA (by omega) (by simpa using hc)
  rw[this];exact Jk m c
theorem xU (n:Nat) (N:Int) (es:List (Int × Int)) (x:Nat) (hx:x<2 ^ 64) (hl:es.length<4611686018427387904) (hk:es.length<n) (hn:2<n):GX n N es x=some (DX N es x):=by
 unfold GX DX;rw[D9 n N es hn hl hk,aq]
 by_cases hok:ra N es=true
 ·obtain⟨M,rfl,hO⟩:=ue hok;simp only[Jd,hok,if_true,decide_true,Bool.not_true,dO]
  by_cases h0:x=0
  ·simp[h0,br,ob]
  ·rw[aX h0,xJ n x hx,aq,aq]
   by_cases h2:2 ^ M≤x
   ·have:M<bl x:=j9.2 h2;rw[decide_eq_true (show((M:Nat):Int)<((bl x:Nat):Int) by omega),dc,if_pos (.inr (by simpa using h2))]
   ·have:¬M<bl x:=fun g=>h2 (j9.1 g);rw[decide_eq_false (show ¬((M:Nat):Int)<((bl x:Nat):Int) by omega),dO,if_neg (by simp[h0]; simpa using h2)]
 ·rw[Bool.not_eq_true] at hok;simp[Jd,hok,br]
def dx (es:List (Int × Int)) (x:Nat):List (List Int):=gw es (il es x 0 es.length) (rk x 64-1) fun x=>x
def ul (v:Nat):List Nat:=if v=0 then[] else[v]
theorem yN {v:Nat} (h:v≠0):ul v = [v]:=if_neg h
theorem JE {v:Nat} (h:v<18446744073709551616):Lg (v:Int) false (ul v):=by
 by_cases h0:v=0
 ·subst h0; exact Lg.zero
 ·rw[yN h0]; exact Lg.small h0 h false
def Kr (r r':Nat→Nat):Prop:=∀v w,r v=r w↔r' v=r' w
theorem Kr.join {r r':Nat→Nat} (h:Kr r r') (e:Nat × Nat):Kr (bP r e) (bP r' e):=by
 intro v w
 by_cases h1:r e.1=r e.2
 ·rw[ld h1,ld ((h _ _).1 h1)]; exact h v w
 ·rw[nA h1,nA (fun g=>h1 ((h _ _).2 g)),h v w,h v e.1,h v e.2,h w e.1,h w e.2]
theorem pn (es:List (Int × Int)):∀(L:List Int) (d:Nat) (r:Nat→Nat),∀t ∈ gw es L d r,∀k ∈ t,k ∈ L
 | L,0,r,t,ht,k,hk=>by
  have:gw es L 0 r = [[]]:=by cases L<;>rfl
  rw[this,List.mem_singleton] at ht;rw[ht] at hk; cases hk
 | [],d+1,_,t,ht,_,_=>by cases ht
 | m::L,d+1,r,t,ht,k,hk=>by
  simp only[gw] at ht;rcases List.mem_append.1 ht with ht|ht
  ·split at ht
   ·cases ht
   ·obtain⟨t',h1,rfl⟩:=List.mem_map.1 ht;rcases List.mem_cons.1 hk with rfl|hk
    ·exact List.mem_cons_self
    ·exact List.mem_cons_of_mem _ (pn es L d _ t' h1 k hk)
  ·exact List.mem_cons_of_mem _ (pn es L (d+1) _ t ht k hk)
def hv (k:Int) (T:List (List Int)):Nat:=(T.filter fun t=>t.contains k).length
theorem oY (es:List (Int × Int)) (k:Int) (L:List Int) (d:Nat) {r:Nat→Nat} (h:r (eg es k).1=r (eg es k).2):gw es (k::L) d r=gw es L d r:=by
 cases d with
 | zero=>cases L<;>rfl
 | succ d=>simp only[gw]; rw[if_pos h,List.nil_append]
def gt (W:List (Int × Bool)) (k:Nat):Bool:=(ca W (k:Int)).getD false
structure Dcd (es:List (Int × Int)) (x:Nat) (W O:List (Int × Bool)) (i:Nat):Prop where
 lt:∀k,k<i→dz es x (k:Int)=true→gt W k = !gt O k
 ge:∀k,i≤k→gt W k=false∧gt O k=false
def hd (es:List (Int × Int)) (x:Nat) (W:List (Int × Bool)) (i:Nat):List Int:=((List.range i).filter (wi es x W)).map fun(k:Nat)=>(k:Int)
section
variable {N : Nat} {es : List (Int × Int)} {x i : Nat} {W O : List (Int × Bool)}
theorem oV (es:List (Int × Int)) (x:Nat) (W:List (Int × Bool)) (i:Nat):hd es x W (i+1)=if wi es x W i then hd es x W i++[(i:Int)] else hd es x W i:=by
 unfold hd;rw[List.range_succ,List.filter_append,List.filter_cons]
 split<;>simp
theorem vk {W':List (Int × Bool)} (h:∀k,k<i→dz es x (k:Int)=true→gt W k=gt W' k):hd es x W i=hd es x W' i:=by
 unfold hd
 congr 1
 refine List.filter_congr fun k hk=>?_;unfold wi;cases hin:dz es x (k:Int) with
 | false=>rfl
 | true =>
  have:=h k (List.mem_range.1 hk) hin;unfold gt at this;rw[this]
theorem oe (hi:i≤es.length):List.range es.length=List.range i++List.range' i (es.length-i):=by
 rw[List.range_eq_range',List.range_eq_range'];have:=List.range'_append_1 (s:=0) (m:=i) (n:=es.length-i);rw[Nat.zero_add,show i+(es.length-i)=es.length by omega] at this
 exact this.symm
theorem Dcd.LP (h:Dcd es x W O i) (hi:i≤es.length):wl es x W 0 es.length=(hd es x W i).map (eg es):=by
 unfold wl hd;rw[←List.range_eq_range',oe hi,List.filter_append,List.map_map,List.map_append];have:(List.range' i (es.length-i)).filter (wi es x W) = []:=List.filter_eq_nil_iff.2 fun k hk=>by
  have h1:=(List.mem_range'_1.1 hk).1;have:=(h.ge k h1).1;unfold gt at this;unfold wi;rw[this,Bool.and_false]; simp
 rw[this,List.map_nil,List.append_nil]; rfl
theorem Dcd.LN (h:Dcd es x W O i) (hi:i≤es.length):kx es x O=hd es x W i++il es x i (es.length-i):=by
 unfold kx hd il;rw[oe hi,List.filter_append,List.map_append]
 congr 2
 ·refine List.filter_congr fun k hk=>?_;unfold ki wi;cases hin:dz es x (k:Int) with
  | false=>rfl
  | true =>
   have:=h.lt k (List.mem_range.1 hk) hin;unfold gt at this;rw[this]
 ·refine List.filter_congr fun k hk=>?_;have h1:=(List.mem_range'_1.1 hk).1;have:=(h.ge k h1).2;unfold gt at this;unfold ki;rw[this]; simp
theorem uH (es:List (Int × Int)) (L:List Int) (d:Nat) {r:Nat→Nat}:∀T:List Int,(∀k ∈ T,r (eg es k).1=r (eg es k).2)→gw es (T++L) d r=gw es L d r
 | [],_=>rfl
 | k::T,h=>by rw[List.cons_append,oY es k _ d (h k List.mem_cons_self),uH es L d T fun k hk=>h k (List.mem_cons_of_mem _ hk)]
def rh (es:List (Int × Int)) (x:Nat) (W:List (Int × Bool)) (i:Nat):Nat→Nat:=rep ((hd es x W i).map (eg es))
theorem EG {k:Int} (hk:k ∈ hd es x W i):rh es x W i (eg es k).1=rh es x W i (eg es k).2:=by
 unfold rh;rw[xC];exact Cn.one (.inl (List.mem_map.2 ⟨k,hk,rfl⟩))
theorem ID (es:List (Int × Int)) (x:Nat) (O:List (Int × Bool)):(kx es x O).length≤inc es x 0:=by
 have h1:=np es x es.length 0 (by omega)
 rw[←h1];unfold kx il;rw[List.length_map,List.length_map,←List.range_eq_range',←List.countP_eq_length_filter,←List.countP_eq_length_filter];refine List.countP_mono_left fun k _ hk=>?_;unfold ki at hk;rw[Bool.and_eq_true] at hk;exact hk.1
theorem zZ (h:Okay N es) {n:Nat} (hx:x<2 ^ 64) (h0:0<x) (hn:300<n) (x1:Int) (hinc:inc es x 0≤36) (hd':Dcd es x W O i) (hi:i≤es.length) :
  (aU (fun x=>x) ((hd es x W i).map (eg es))=false→w6 n x1 es x W O=some (false,[])) ∧
  (aU (fun x=>x) ((hd es x W i).map (eg es))=true→∃t q,w6 n x1 es x W O=some (t,q)∧Lg ((gw es (il es x i (es.length-i)) (rk x 64-1-(hd es x W i).length) (rh es x W i)).length:Int) t q∧(hd es x W i).length+1≤rk x 64):=by
 have hc:=IU (W:=W) (O:=O) h hx h0 hn x1 (by have:=ID es x O; omega)
 have hw:=hd'.LP hi;rw[hw] at hc;refine⟨hc.1,fun ha=>?_⟩;obtain⟨t,q,h1,h2⟩:=hc.2 ha;have hp:=HV (W:=W) h hx h0 (by rw[hw]; exact ha)
 rw[hw,List.length_map] at hp;have hr:rW es x W=rh es x W i:=by unfold rW rh; rw[hw]; rfl
 rw[hd'.LN hi,hr,uH es _ _ _ fun k hk=>EG hk,show(pW es x W).length=rk x 64-1-(hd es x W i).length by omega] at h2
 exact⟨t,q,h1,h2,by omega⟩
theorem jv (e:Nat × Nat):∀(T:List (Nat × Nat)) (r:Nat→Nat),aU r (T++[e])=(aU r T && !(T.foldl bP r e.1 == T.foldl bP r e.2))
 | [],r=>by simp[aU]
 | d::T,r=>by
  rw[List.cons_append];simp only[aU,List.foldl_cons];rw[jv e T,Bool.and_assoc]
theorem nd (W:List (Int × Bool)) (i k:Nat) (b:Bool):gt (cL W (i:Int) b) k=if k=i then b else gt W k:=by
 unfold gt;rw[Db]
 by_cases h:k=i
 ·rw[if_pos h,if_pos (by omega)]
 ·rw[if_neg h,if_neg (by omega)]
theorem Dcd.Lm (h:Dcd es x W O i):Dcd es x (cL W (i:Int) true) O (i+1):=by
 refine⟨fun k hk hin=>?_,fun k hk=>?_⟩
 ·rw[nd]
  by_cases hki:k=i
  ·subst hki;rw[if_pos rfl,(h.ge k (Nat.le_refl _)).2]; rfl
  ·rw[if_neg hki]; exact h.lt k (by omega) hin
 ·rw[nd,if_neg (by omega)]; exact h.ge k (by omega)
theorem Dcd.left (h:Dcd es x W O i) {W':List (Int × Bool)} (hW:∀k,gt W' k=gt W k):Dcd es x W' (cL O (i:Int) true) (i+1):=by
 refine⟨fun k hk hin=>?_,fun k hk=>?_⟩
 ·rw[nd,hW]
  by_cases hki:k=i
  ·subst hki;rw[if_pos rfl,(h.ge k (Nat.le_refl _)).1]; rfl
  ·rw[if_neg hki]; exact h.lt k (by omega) hin
 ·rw[nd,if_neg (by omega),hW]; exact h.ge k (by omega)
theorem Dcd.skip (h:Dcd es x W O i) (hin:dz es x (i:Int)=false):Dcd es x W O (i+1):=by
 refine⟨fun k hk hk2=>?_,fun k hk=>h.ge k (by omega)⟩
 by_cases hki:k=i
 ·subst hki; rw[hin] at hk2; cases hk2
 ·exact h.lt k (by omega) hk2
theorem sw (h:Dcd es x W O i) (hin:dz es x (i:Int)=true):hd es x (cL W (i:Int) true) (i+1)=hd es x W i++[(i:Int)]:=by
 rw[oV];have hw:wi es x (cL W (i:Int) true) i=true:=by
  have:=nd W i i true;rw[if_pos rfl] at this;unfold gt at this;unfold wi;rw[hin,this]; rfl
 rw[if_pos hw,vk (W':=W) fun k hk _=>by rw[nd,if_neg (by omega)]]
theorem zk (h:Dcd es x W O i) {W':List (Int × Bool)} (hW:∀k,gt W' k=gt W k):hd es x W' (i+1)=hd es x W i:=by
 rw[oV];have hw:wi es x W' i=false:=by
  have:=hW i;rw[(h.ge i (Nat.le_refl _)).1] at this;unfold gt at this;unfold wi;rw[this,Bool.and_false]
 rw[hw,vk (W':=W) fun k _ _=>hW k]; rfl
theorem wM (h:Okay N es) {n:Nat} (hx:x<2 ^ 64) (h0:0<x) (hn:300<n) (x1:Int) (hinc:inc es x 0≤36) (hd':Dcd es x W O i) (hi:i<es.length) (hin:dz es x (i:Int)=true) (ha:aU (fun x=>x) ((hd es x W i).map (eg es))=true) :
  ∃(t:Bool) (q:List Nat) (c:Nat),w6 n x1 es x (cL W (i:Int) true) O=some (t,q)∧Lg (c:Int) t q ∧
   (rh es x W i (eg es i).1=rh es x W i (eg es i).2→c=0) ∧
   (rh es x W i (eg es i).1≠rh es x W i (eg es i).2→aU (fun x=>x) ((hd es x W i++[(i:Int)]).map (eg es))=true∧(hd es x W i).length+2≤rk x 64 ∧
    c=(gw es (il es x (i+1) (es.length-(i+1))) (rk x 64-1-(hd es x W i).length-1) (bP (rh es x W i) (eg es i))).length):=by
 have hc:=zZ h hx h0 hn x1 hinc hd'.Lm (show i+1≤es.length from hi)
 rw[sw hd' hin] at hc;have hr:rh es x (cL W (i:Int) true) (i+1)=bP (rh es x W i) (eg es (i:Int)):=by
  unfold rh;rw[sw hd' hin,List.map_append,List.map_singleton,m8]
 have hj:aU (fun x=>x) ((hd es x W i++[(i:Int)]).map (eg es)) = !(rh es x W i (eg es i).1 == rh es x W i (eg es i).2):=by
  rw[List.map_append,List.map_singleton,jv,ha,Bool.true_and]; rfl
 by_cases hab:rh es x W i (eg es i).1=rh es x W i (eg es i).2
 ·have hf:aU (fun x=>x) ((hd es x W i++[(i:Int)]).map (eg es))=false:=by rw[hj,hab]; simp
  exact⟨false,[],0,hc.1 hf,Lg.zero,fun _=>rfl,fun e=>absurd hab e⟩
 ·have ht:aU (fun x=>x) ((hd es x W i++[(i:Int)]).map (eg es))=true:=by rw[hj]; simpa using hab
  obtain⟨t,q,h1,h2,h3⟩:=hc.2 ht;rw[hr] at h2;rw[List.length_append,List.length_singleton] at h2 h3;exact⟨t,q,_,h1,h2,fun e=>absurd e hab,fun _=>⟨ht,by omega,by rw[show rk x 64-1-((hd es x W i).length+1)=rk x 64-1-(hd es x W i).length-1 by omega]⟩⟩
end
theorem pV {β:Type} {k:Int}:∀{xs:List (Int × β)} {i:Nat},bW k xs i=none→∀(v:β),bW k (xs++[(k,v)]) i=some (i+xs.length,v)
 | [],i,_,v=>by simp[bW]
 | e::xs,i,h,v=>by
  unfold bW at h
  by_cases h1:k=e.1
  ·rw[if_pos h1] at h; cases h
  ·rw[if_neg h1] at h;rw[List.cons_append];unfold bW;rw[if_neg h1,pV h v,List.length_cons]
   congr 2
   omega
theorem rj {β:Type} {k:Int} {xs:List (Int × β)} (h:ca xs k=none) (v:β):sy (cL xs k v) k=xs:=by
 have h1:bW k xs 0=none:=by
  unfold ca at h;cases hm:bW k xs 0 with
  | none=>rfl
  | some p=>rw[hm] at h; cases h
 have h2:cL xs k v=xs++[(k,v)]:=by unfold cL; rw[h1]
 unfold sy;rw[h2,pV h1 v]
 dsimp only
 rw[Nat.zero_add,List.eraseIdx_append_of_length_le (Nat.le_refl _),Nat.sub_self];simp
theorem DY {n:Nat} {a b:Int} {s t:Bool} {l k:List Nat} (h:Lg a s l) (h':Lg b t k) (hb:l.length<1000000) (hb':k.length<1000000) (hn:l.length+k.length+1<n) :
  ∃r,Jf n s l t k=some r∧(r<0↔a<b):=by
 obtain⟨u,m,m1,m2⟩:=xj (n:=n) h h' hb hb' hn;obtain⟨r,r1,r2,r3⟩:=yx (n:=n) m2;exact⟨r,by unfold Jf; rw[m1,aq]; dsimp only; rw[r1,aq],by rw[r2]; omega⟩
section
variable {N : Nat} {es : List (Int × Int)} {x : Nat}
def G (es:List (Int × Int)) (x:Nat) (W:List (Int × Bool)) (i:Nat):List (List Int):=gw es (il es x i (es.length-i)) (rk x 64-1-(hd es x W i).length) (rh es x W i)
structure Uv (es:List (Int × Int)) (x:Nat) (z:Int) (tgt:List Int) (i:Nat) (s:Bool) (l:List Nat) (W O:List (Int × Bool)) (tr:List Int) (zi:Int):Prop where
 dcd:Dcd es x W O i
 fresh:∀k:Nat,i≤k→ca W (k:Int)=none
 join:aU (fun x=>x) ((hd es x W i).map (eg es))=true
 tr:tr=hd es x W i
 lg:Lg zi s l
 lo:0≤zi
 hi:zi≤z
 len:(hd es x W i).length+1≤rk x 64
 at_:∃t,(G es x W i)[zi.toNat]? = some t∧hd es x W i++t=tgt
theorem Js (x:Nat):rk x 64≤64:=oZ x 64
theorem Hf (h:Okay N es) {n:Nat} (hx:x<2 ^ 64) (h0:0<x) (hn:300<n) (x1:Int) (hinc:inc es x 0≤36) (hB:∀i d,d≤8→cb (inc es x i) d≤1073741824) (hr9:rk x 64≤9) {z:Int} (hz:z<1000000000000) {tgt:List Int} {s:Bool} {l:List Nat} (hg:Lg z s l) (hz0:0≤z)
  (hat:(dx es x)[z.toNat]? = some tgt) :
  ∃s' l' W O,cx (nQ n es x x1) n (0,s,l,([]:List (Int × Bool)),([]:List (Int × Bool)),([]:List Int))=some (s',l',W,O,tgt):=by
 have hlen:=h.len;have hrk:=Js x;have:=uc (body:=nQ n es x x1) (R:=fun r=>r.2.2.2.2=tgt) (fun j st=>∃i:Nat,∃zi:Int,st.1=(i:Int)∧i+j=es.length∧Uv es x z tgt i st.2.1 st.2.2.1 st.2.2.2.1 st.2.2.2.2.1 st.2.2.2.2.2 zi) (fun j st hI=>by
  obtain⟨v,s,l,W,O,tr⟩:=st;obtain⟨i,zi,e1,e2,u⟩:=hI;simp only at e1 u;subst e1;have utr:=u.tr;subst utr
  by_cases hi:i<es.length
  ·obtain⟨a,b,c1,c2,c3,c4,_,c5⟩:=lh h (k:=(i:Int)) ⟨by omega,by omega⟩
   rw[Int.toNat_natCast] at c1;have ha:a<64:=by omega
   have hinn:dz es x (i:Int)=(x.testBit a && x.testBit b):=by
    simp only[dz,c2];rw[decide_eq_true ⟨by omega,by omega⟩,Bool.true_and]
   have w1:IntKind.wrap .i64 ((i:Int)+1)=((i+1:Nat):Int):=bE (by omega)
   have hj:es.length-i=(es.length-(i+1))+1:=by omega
   obtain⟨t,t1,t2⟩:=u.at_;unfold G at t1;rw[hj,gO] at t1;cases hin:dz es x (i:Int) with
   | false =>
    refine .inl ⟨(((i+1:Nat):Int),s,l,W,O,hd es x W i),?_,j-1,by omega,i+1,zi,rfl,by omega,?_⟩
    ·unfold nQ
     dsimp only
     rw[bm (by omega),aC hi,aV,Int.toNat_natCast,c1,aq]
     dsimp only
     rw[jn n x a b hx ha c4,aq,←hinn,hin,dO,aq]
     dsimp only
     rw[w1]
    ·have hd1:hd es x W (i+1)=hd es x W i:=by
      rw[oV]; unfold wi; rw[hin]; rfl
     have hr1:rh es x W (i+1)=rh es x W i:=by unfold rh; rw[hd1]
     rw[hin] at t1;exact { dcd:=u.dcd.skip hin,fresh:=fun k hk=>u.fresh k (by omega),join:=by rw[hd1]; exact u.join,tr:=hd1.symm,lg:=u.lg,lo:=u.lo,hi:=u.hi,len:=by rw[hd1]; exact u.len,at_:=⟨t,by unfold G; rw[hd1,hr1]; exact t1,by rw[hd1]; exact t2⟩}
   | true =>
    rw[hin,if_pos rfl] at t1;obtain⟨t',q',c,f1,f2,f3,f4⟩:=wM h hx h0 hn x1 hinc u.dcd hi hin u.join;have hcb:(c:Int).natAbs<wp 1:=by
     by_cases hab:rh es x W i (eg es i).1=rh es x W i (eg es i).2
     ·rw[f3 hab]; decide
     ·obtain⟨_,_,hc⟩:=f4 hab;have h1:=wR es (il es x (i+1) (es.length-(i+1))) (rk x 64-1-(hd es x W i).length-1) (bP (rh es x W i) (eg es i));rw[np es x _ (i+1) (by omega)] at h1
      have h2:=hB (i+1) (rk x 64-1-(hd es x W i).length-1) (by omega)
      show _<18446744073709551616
      omega
    have l1:l.length≤1:=u.lg.len (by have:=u.lo; have:=u.hi; show _<18446744073709551616; omega)
    have l2:q'.length≤1:=f2.len hcb;obtain⟨cm,m1,m2⟩:=DY (n:=n) u.lg f2 (by omega) (by omega) (by omega)
    obtain⟨s2,l2',d1,d2⟩:=xj (n:=n) u.lg f2 (by omega) (by omega) (by omega)
    have hdel:sy (cL W (i:Int) true) (i:Int)=W:=rj (u.fresh i (Nat.le_refl _)) true;have hd2:hd es x W (i+1)=hd es x W i:=zk u.dcd fun _=>rfl;have hr2:rh es x W (i+1)=rh es x W i:=by unfold rh; rw[hd2]
    have st:nQ n es x x1 ((i:Int),s,l,W,O,hd es x W i)=some (.inl (if cm<0 then(((i+1:Nat):Int),s,l,cL W (i:Int) true,O,hd es x W i++[(i:Int)]) else(((i+1:Nat):Int),s2,l2',W,cL O (i:Int) true,hd es x W i))):=by
     unfold nQ
     dsimp only
     rw[bm (by omega),aC hi,aV,Int.toNat_natCast,c1,aq]
     dsimp only
     rw[jn n x a b hx ha c4,aq,←hinn,hin,dc,f1,aq]
     dsimp only
     rw[m1,aq]
     by_cases hcm:cm<0
     ·rw[bm hcm,ja (by rw[List.length_append,List.length_singleton]; have:=u.len; omega),aV,aq]
      dsimp only
      rw[aq]
      dsimp only
      rw[w1,if_pos hcm]
     ·rw[aX hcm,d1,aq]
      dsimp only
      rw[aq]
      dsimp only
      rw[aq]
      dsimp only
      rw[w1,if_neg hcm,hdel]
    refine .inl ⟨_,st,j-1,by omega,i+1,if cm<0 then zi else zi-(c:Int),by split<;>rfl,by omega,?_⟩
    have left_ok:∀(t1':(gw es (il es x (i+1) (es.length-(i+1))) (rk x 64-1-(hd es x W i).length) (rh es x W i))[(zi-(c:Int)).toNat]? = some t),¬cm<0→Uv es x z tgt (i+1) s2 l2' W (cL O (i:Int) true) (hd es x W i) (zi-(c:Int)):=fun t1' hcm =>
     { dcd:=u.dcd.left fun _=>rfl,fresh:=fun k hk=>u.fresh k (by omega),join:=by rw[hd2]; exact u.join,tr:=hd2.symm,lg:=d2,lo:=by have h3:¬zi<(c:Int):=fun g=>hcm (m2.2 g); omega,hi:=by have:=u.hi; omega,len:=by rw[hd2]; exact u.len,at_:=⟨t,by unfold G; rw[hd2,hr2]; exact t1',by rw[hd2]; exact t2⟩}
    have hlo:=u.lo;have hul:=u.len
    by_cases hab:rh es x W i (eg es i).1=rh es x W i (eg es i).2
    ·have hc0:=f3 hab;have hcm:¬cm<0:=fun g=>by have:=m2.1 g; omega
     rw[if_neg hcm,if_neg hcm];rw[oY es (i:Int) _ _ hab] at t1;exact left_ok (by rw[hc0]; simpa using t1) hcm
    ·obtain⟨j1,j2,j3⟩:=f4 hab;obtain⟨D,hD⟩:∃D,rk x 64-1-(hd es x W i).length=D+1:=⟨rk x 64-1-(hd es x W i).length-1,by omega⟩
     rw[hD,Nat.add_sub_cancel] at j3;rw[hD] at t1;simp only[gw] at t1;rw[if_neg hab] at t1
     by_cases hcm:cm<0
     ·have hzc:=m2.1 hcm;rw[if_pos hcm,if_pos hcm];rw[List.getElem?_append_left (by rw[List.length_map,←j3]; omega),List.getElem?_map] at t1
      obtain⟨t3,t4,t5⟩:=Option.map_eq_some_iff.1 t1;have hd3:hd es x (cL W (i:Int) true) (i+1)=hd es x W i++[(i:Int)]:=sw u.dcd hin;have hr3:rh es x (cL W (i:Int) true) (i+1)=bP (rh es x W i) (eg es (i:Int)):=by
       unfold rh;rw[hd3,List.map_append,List.map_singleton,m8]
      refine { dcd:=u.dcd.Lm,fresh:=fun k hk=>by rw[kv,if_neg (by omega)]; exact u.fresh k (by omega),join:=by rw[hd3]; exact j1,tr:=hd3.symm,lg:=u.lg,lo:=u.lo,hi:=u.hi,len:=by rw[hd3,List.length_append,List.length_singleton]; omega,at_:=⟨t3,?_,?_⟩}
      ·unfold G;rw[hd3,hr3,List.length_append,List.length_singleton,show rk x 64-1-((hd es x W i).length+1)=D by omega]
       exact t4
      ·rw[hd3,←t2,←t5]; simp
     ·have hzc:¬zi<(c:Int):=fun g=>hcm (m2.2 g);rw[if_neg hcm,if_neg hcm];rw[List.getElem?_append_right (by rw[List.length_map,←j3]; omega),List.length_map,←j3,←hD] at t1
      exact left_ok (by rw[show(zi-(c:Int)).toNat=zi.toNat-c by omega]; exact t1) hcm
  ·refine .inr ⟨(s,l,W,O,hd es x W i),?_,?_⟩
   ·unfold nQ
    dsimp only
    rw[aX (by omega)]
   ·obtain⟨t,t1,t2⟩:=u.at_;unfold G at t1;have hj:es.length-i=0:=by omega
    have h00:il es x i 0 = []:=rfl;rw[hj,h00] at t1
    show hd es x W i=tgt
    rw[←t2];cases hD:rk x 64-1-(hd es x W i).length with
    | succ D=>rw[hD] at t1; cases t1
    | zero =>
     rw[hD] at t1;have h01:gw es [] 0 (rh es x W i) = [[]]:=rfl;rw[h01] at t1;have:=List.mem_of_getElem? t1;rw[List.mem_singleton.1 this,List.append_nil]) es.length (0,s,l,[],[],[]) n ⟨0,z,rfl,by omega,
  { dcd:=⟨fun k hk=>absurd hk (Nat.not_lt_zero _),fun k _=>⟨rfl,rfl⟩⟩,fresh:=fun _ _=>rfl,join:=rfl,tr:=rfl,lg:=hg,lo:=hz0,hi:=Int.le_refl _,len:=by have:=mz hx (show x≠0 by omega); show 0+1≤_; omega,at_:=⟨tgt,hat,rfl⟩}⟩ (by omega)
 obtain⟨⟨s',l',W,O,tr⟩,h1,h2⟩:=this;simp only at h2;subst h2;exact⟨s',l',W,O,h1⟩
end
theorem Aj {N:Int} {es:List (Int × Int)} {x:Nat} (hc:DX N es x=0):ra N es=true∧x≠0:=by
 unfold DX at hc
 by_cases h:ra N es=true
 ·refine⟨h,fun e=>?_⟩;rw[if_pos h,if_pos (.inl e)] at hc;cases hc
 ·rw[if_neg h] at hc; cases hc
theorem yU {M:Nat} {es:List (Int × Int)} {x n:Nat} (hok:ra (M:Int) es=true) (hO:Okay M es) (hx:x<2 ^ 64) (h0:x≠0) (hn:300<n) (hr:rk x 64≤9) (x1:Int) :
  ∃t q,w6 n x1 es x [] []=some (t,q)∧Lg ((dx es x).length:Int) t q:=by
 have hinc:=ga hok hO hr 0;have hD:Dcd es x ([]:List (Int × Bool)) [] 0:=⟨fun k hk=>absurd hk (Nat.not_lt_zero _),fun k _=>⟨rfl,rfl⟩⟩;obtain⟨t,q,h1,h2,h3⟩:=(zZ hO hx (show 0<x by omega) hn x1 hinc hD (Nat.zero_le _)).2 rfl
 exact⟨t,q,h1,h2⟩
theorem oL (es:List (Int × Int)):∀(L:List Int) (d:Nat) (r:Nat→Nat),∀t ∈ gw es L d r,t.Sublist L
 | L,0,r,t,ht=>by
  have:gw es L 0 r = [[]]:=by cases L<;>rfl
  rw[this,List.mem_singleton] at ht;rw[ht]; exact List.nil_sublist _
 | [],d+1,_,t,ht=>by cases ht
 | m::L,d+1,r,t,ht=>by
  simp only[gw] at ht;rcases List.mem_append.1 ht with ht|ht
  ·split at ht
   ·cases ht
   ·obtain⟨t',h1,rfl⟩:=List.mem_map.1 ht;exact(oL es L d _ t' h1).cons_cons m
  ·exact(oL es L (d+1) _ t ht).cons m
theorem vy {es:List (Int × Int)} {x:Nat} {t:List Int} (h:t ∈ dx es x):t.length≤es.length:=by
 have:=(oL _ _ _ _ t h).length_le;unfold il at this;rw[List.length_map] at this;have h2:=List.length_filter_le (fun(k:Nat)=>dz es x (k:Int)) (List.range' 0 es.length);rw[List.length_range'] at h2;omega
theorem yj (es:List (Int × Int)):∀(L:List Int) (t:List Int) (d:Nat) (r:Nat→Nat),t.Sublist L→t.length=d→aU r (t.map (eg es))=true→t ∈ gw es L d r
 | [],t,d,r,h,hl,_=>by
  have:=List.sublist_nil.1 h;subst this;subst hl;exact List.mem_singleton.2 rfl
 | k::L,t,0,r,_,hl,_=>by
  rw[List.length_eq_zero_iff] at hl;subst hl;exact List.mem_singleton.2 rfl
 | k::L,t,d+1,r,h,hl,ha=>by
  simp only[gw];refine List.mem_append.2 ?_;cases h with
  | cons _ h=>exact .inr (yj es L t (d+1) r h hl ha)
  | cons_cons _ h =>
   rename_i t;rw[List.map_cons,aU,Bool.and_eq_true] at ha;have hne:r (eg es k).1≠r (eg es k).2:=by simpa using ha.1
   rw[if_neg hne];exact .inl (List.mem_map.2 ⟨t,yj es L t d _ h (by rw[List.length_cons] at hl; omega) ha.2,rfl⟩)
theorem sJ (es:List (Int × Int)) (x:Nat):∀(j i:Nat) (l:List Int),i+j=es.length→l.Pairwise (· < ·)→(∀k ∈ l,dz es x k=true∧(i:Int)≤k)→l.Sublist (il es x i j)
 | 0,i,l,h,hp,hl=>by
  cases l with
  | nil=>exact List.nil_sublist _
  | cons a l =>
   have h1:=hl a List.mem_cons_self;have h2:=(pN h1.1).1;unfold Vl at h2;omega
 | j+1,i,l,h,hp,hl=>by
  rw[gO];cases l with
  | nil=>exact List.nil_sublist _
  | cons a l =>
   have h1:=hl a List.mem_cons_self;obtain⟨hp1,hp2⟩:=List.pairwise_cons.1 hp
   by_cases ha:a=(i:Int)
   ·subst ha;rw[if_pos h1.1];exact(sJ es x j (i+1) l (by omega) hp2 fun k hk=>⟨(hl k (List.mem_cons_of_mem _ hk)).1,by have:=hp1 k hk; omega⟩).cons_cons _
   ·have:=sJ es x j (i+1) (a::l) (by omega) hp fun k hk=>⟨(hl k hk).1,by
     have h2:(i:Int)<a:=by omega
     rcases List.mem_cons.1 hk with rfl|hk
     ·omega
     ·have:=hp1 k hk; omega⟩
    split
    ·exact this.cons _
    ·exact this
theorem wY {es:List (Int × Int)} {x:Nat} {l:List Int} (h:F2 es x l=true):l ∈ dx es x:=by
 obtain⟨h1,h2,h3,h4⟩:=Ge h;refine yj es _ l _ _ (sJ es x es.length 0 l (by omega) h4 fun k hk=>⟨h1 k hk,(pN (h1 k hk)).1.1⟩) (by omega) h3
section
variable {N : Nat} {es : List (Int × Int)} {x : Nat}
theorem FI (es:List (Int × Int)) (x i:Nat):il es x 0 (i+1)=if dz es x (i:Int) then il es x 0 i++[(i:Int)] else il es x 0 i:=by
 unfold il;rw[List.range'_1_concat,List.filter_append,List.map_append,Nat.zero_add,List.filter_cons]
 split<;>simp
theorem Cr (h:Okay N es) (hx:x<2 ^ 64) {n:Nat} (hn:300<n):cx (rT n es x) n (0,([]:List Int))=some (il es x 0 es.length):=by
 have hlen:=h.len;have:=iJ (body:=rT n es x) es.length (fun(s:List Int) (v:Int)=>(v,s)) id (fun i s=>s=il es x 0 i) (fun s i hi hI=>?_) (fun s _=>?_) (n:=n) (s:=[]) rfl (by omega)
 ·obtain⟨s,h1,h2⟩:=this;rw[h1,h2]; rfl
 ·subst hI;obtain⟨a,b,c1,c2,c3,c4,_,c5⟩:=lh h (k:=(i:Int)) ⟨by omega,by omega⟩
  rw[Int.toNat_natCast] at c1;have hinn:dz es x (i:Int)=(x.testBit a && x.testBit b):=by
   simp only[dz,c2];rw[decide_eq_true ⟨by omega,by omega⟩,Bool.true_and]
  refine⟨il es x 0 (i+1),?_,rfl⟩;unfold rT
  dsimp only
  rw[bm (by omega),aC hi,aV,Int.toNat_natCast,c1,aq]
  dsimp only
  have hle:(il es x 0 i).length≤1000:=by
   unfold il;rw[List.length_map];exact Nat.le_trans (List.length_filter_le _ _) (by rw[List.length_range']; omega)
  rw[jn n x a b hx (by omega) c4,aq,←hinn,FI,bE (by omega)]
  cases dz es x (i:Int) with
  | false=>rfl
  | true =>
   rw[dc,ja (by rw[List.length_append,List.length_singleton]; omega),aV,if_pos rfl]; rfl
 ·unfold rT
  dsimp only
  rw[aX (by omega)]; rfl
structure Uk (es:List (Int × Int)) (x:Nat) (tgt:List Int) (i:Nat) (s:Bool) (l:List Nat) (W O:List (Int × Bool)) (z:Nat):Prop where
 dcd:Dcd es x W O i
 fresh:∀k:Nat,i≤k→ca W (k:Int)=none
 join:aU (fun x=>x) ((hd es x W i).map (eg es))=true
 lg:Lg (z:Int) s l
 len:(hd es x W i).length+1≤rk x 64
 rest:∃t,t ∈ G es x W i∧hd es x W i++t=tgt
 pos:∀(p:Nat) t,(G es x W i)[p]? = some t→(dx es x)[z+p]? = some (hd es x W i++t)
theorem KJ {W:List (Int × Bool)} {i:Nat} {k:Int} (h:k ∈ hd es x W i):k<(i:Int):=by
 obtain⟨m,h1,rfl⟩:=List.mem_map.1 h;have:=List.mem_range.1 (List.mem_filter.1 h1).1;omega
theorem BC {i j:Nat} {k:Int} (h:k ∈ il es x i j):(i:Int)≤k:=by
 obtain⟨m,h1,rfl⟩:=List.mem_map.1 h;have:=(List.mem_range'_1.1 (List.mem_filter.1 h1).1).1;omega
theorem Uk.bound {tgt:List Int} {i z:Nat} {s:Bool} {l:List Nat} {W O:List (Int × Bool)} (u:Uk es x tgt i s l W O z):z<(dx es x).length:=by
 obtain⟨t,h1,_⟩:=u.rest;obtain⟨p,hp⟩:=List.mem_iff_getElem?.1 h1;have:=(List.getElem?_eq_some_iff.1 (u.pos p t hp)).1;omega
theorem Da (h:Okay N es) {n:Nat} (hx:x<2 ^ 64) (h0:0<x) (hn:300<n) (x1:Int) (hinc:inc es x 0≤36) (hB:∀i d,d≤8→cb (inc es x i) d≤1073741824) (hr9:rk x 64≤9) {tgt:List Int} (htb:tgt.length<300) (LL:List Int) (hLL:LL.length≤36) (hall:(dx es x).length≤1073741824) :
  ∀(d i:Nat),i+d=es.length→∀(j:Nat) (W O:List (Int × Bool)) (s:Bool) (l:List Nat) (z n':Nat),LL.drop j=il es x i d→j≤LL.length→Uk es x tgt i s l W O z→LL.length<n'+j →
   ∃s' l' z',cx (mH n LL tgt x1 es x) n' (W,O,s,l,(j:Int))=some (s',l')∧Lg ((z':Nat):Int) s' l'∧(dx es x)[z']? = some tgt:=by
 have hlen:=h.len;intro d
 induction d with
 | zero =>
  intro i hi j W O s l z n' hdr hj u hn';obtain⟨n',rfl⟩:∃k,n'=k+1:=⟨n'-1,by omega⟩
  have hjl:LL.length≤j:=List.drop_eq_nil_iff.1 (by rw[hdr]; rfl)
  have e1:mH n LL tgt x1 es x (W,O,s,l,(j:Int))=some (.inr (s,l)):=by
   unfold mH
   dsimp only
   rw[aX (by omega)]
  refine⟨s,l,z,bB e1,u.lg,?_⟩;obtain⟨t,t1,t2⟩:=u.rest;have hG:G es x W i=gw es [] (rk x 64-1-(hd es x W i).length) (rh es x W i):=by
   unfold G;rw[show es.length-i=0 by omega]; rfl
  have hp:=u.pos 0 t;rw[hG] at t1 hp;cases hD:rk x 64-1-(hd es x W i).length with
  | zero =>
   rw[hD] at t1 hp;simp only[gw,List.mem_singleton] at t1;subst t1;rw[←t2];exact hp rfl
  | succ D =>
   rw[hD] at t1;simp only[gw] at t1;cases t1
 | succ d ih =>
  intro i hi j W O s l z n' hdr hj u hn';have hm:es.length-i=d+1:=by omega
  have hm':es.length-(i+1)=d:=by omega
  have hul:=u.len;cases hin:dz es x (i:Int) with
  | false =>
   rw[gO,hin] at hdr;have hd1:hd es x W (i+1)=hd es x W i:=by
    rw[oV]; unfold wi; rw[hin]; rfl
   have hr1:rh es x W (i+1)=rh es x W i:=by unfold rh; rw[hd1]
   have hG:G es x W (i+1)=G es x W i:=by
    unfold G;rw[hd1,hr1,hm,hm',gO,hin]; rfl
   exact ih (i+1) (by omega) j W O s l z n' hdr hj { dcd:=u.dcd.skip hin,fresh:=fun k hk=>u.fresh k (by omega),join:=by rw[hd1]; exact u.join,lg:=u.lg,len:=by rw[hd1]; exact u.len,rest:=by rw[hG,hd1]; exact u.rest,pos:=by rw[hG,hd1]; exact u.pos} hn'
  | true =>
   rw[gO,hin,if_pos rfl] at hdr;have hjl:j<LL.length:=by
    refine Nat.lt_of_not_le fun hge=>?_;rw[List.drop_eq_nil_of_le hge] at hdr;cases hdr
   obtain⟨n',rfl⟩:∃k,n'=k+1:=⟨n'-1,by omega⟩
   have hat:LL[j]? = some (i:Int):=by
    have:=List.head?_drop (l:=LL) (i:=j);rw[hdr] at this;exact this.symm
   have hdr':LL.drop (j+1)=il es x (i+1) d:=by
    rw[←List.tail_drop,hdr]; rfl
   have w1:IntKind.wrap .i64 ((j:Int)+1)=((j+1:Nat):Int):=bE (by omega)
   have hub:=u.bound;have hG:G es x W i=gw es ((i:Int)::il es x (i+1) d) (rk x 64-1-(hd es x W i).length) (rh es x W i):=by
    unfold G;rw[hm,gO,hin,if_pos rfl]
   have l1:l.length≤1:=u.lg.len (by show _<18446744073709551616; omega)
   obtain⟨t,t1,t2⟩:=u.rest;have tp:=u.pos;rw[hG] at t1 tp;have hnot:(i:Int) ∉ hd es x W i:=fun hk=>by have:=KJ hk; omega
   have hnotL:(i:Int) ∉ il es x (i+1) d:=fun hk=>by have:=BC hk; omega
   by_cases hmem:(i:Int) ∈ tgt
   ·
    have ht:(i:Int) ∈ t:=by
     rw[←t2] at hmem;exact(List.mem_append.1 hmem).resolve_left hnot
    obtain⟨u0,l0,d1,d2⟩:=tI (n:=n) u.lg Lg.zero (by omega) (by simp) (by simp; omega)
    rw[Int.add_zero] at d2;have st:mH n LL tgt x1 es x (W,O,s,l,(j:Int))=some (.inl (cL W (i:Int) true,O,u0,l0,((j+1:Nat):Int))):=by
     unfold mH
     dsimp only
     rw[bm (by omega),aC hjl,aV,Int.toNat_natCast,hat,aq,Ec n tgt _ (by omega) (by omega),aq,bm hmem,mj (by omega),aq]
     dsimp only
     rw[aq]
     dsimp only
     rw[d1,aq]
     dsimp only
     rw[w1]
    rw[aR st];have hd3:hd es x (cL W (i:Int) true) (i+1)=hd es x W i++[(i:Int)]:=sw u.dcd hin;have hr3:rh es x (cL W (i:Int) true) (i+1)=bP (rh es x W i) (eg es (i:Int)):=by
     unfold rh;rw[hd3,List.map_append,List.map_singleton,m8]
    cases hD:rk x 64-1-(hd es x W i).length with
    | zero =>
     rw[hD] at t1;simp only[gw,List.mem_singleton] at t1;subst t1;cases ht
    | succ D =>
     rw[hD] at t1 tp;simp only[gw] at t1 tp
     by_cases hab:rh es x W i (eg es i).1=rh es x W i (eg es i).2
     ·rw[if_pos hab,List.nil_append] at t1;exact absurd (pn es _ _ _ t t1 _ ht) hnotL
     ·rw[if_neg hab] at t1 tp;have hG3:G es x (cL W (i:Int) true) (i+1)=gw es (il es x (i+1) d) D (bP (rh es x W i) (eg es (i:Int))):=by
       unfold G;rw[hd3,hr3,hm',List.length_append,List.length_singleton,show rk x 64-1-((hd es x W i).length+1)=D by omega]
      have hj3:aU (fun x=>x) ((hd es x W i++[(i:Int)]).map (eg es))=true:=by
       rw[List.map_append,List.map_singleton,jv,u.join,Bool.true_and]
       show(!(rh es x W i (eg es i).1 == rh es x W i (eg es i).2))=true
       simpa using hab
      refine ih (i+1) (by omega) (j+1) _ O u0 l0 z n' hdr' hjl { dcd:=u.dcd.Lm,fresh:=fun k hk=>by rw[kv,if_neg (by omega)]; exact u.fresh k (by omega),join:=by rw[hd3]; exact hj3,lg:=d2,len:=by rw[hd3,List.length_append,List.length_singleton]; omega,rest:=?_,pos:=?_} (by omega)
      ·rw[hd3,hG3];rcases List.mem_append.1 t1 with t1|t1
       ·obtain⟨t',t3,rfl⟩:=List.mem_map.1 t1;exact⟨t',t3,by rw[←t2,List.append_assoc]; rfl⟩
       ·exact absurd (pn es _ _ _ t t1 _ ht) hnotL
      ·rw[hd3,hG3];intro p t' hp;have hlt:=(List.getElem?_eq_some_iff.1 hp).1;have:=tp p ((i:Int)::t') (by rw[List.getElem?_append_left (by rw[List.length_map]; exact hlt),List.getElem?_map,hp]; rfl)
       rw[this,List.append_assoc]; rfl
   ·
    have hnt:(i:Int) ∉ t:=fun hk=>hmem (by rw[←t2]; exact List.mem_append.2 (.inr hk))
    obtain⟨t',q',c,f1,f2,f3,f4⟩:=wM h hx h0 hn x1 hinc u.dcd (show i<es.length by omega) hin u.join
    rw[hm'] at f4;have hcb:c≤1073741824:=by
     by_cases hab:rh es x W i (eg es i).1=rh es x W i (eg es i).2
     ·rw[f3 hab]; decide
     ·obtain⟨_,_,hc⟩:=f4 hab;have h1:=wR es (il es x (i+1) d) (rk x 64-1-(hd es x W i).length-1) (bP (rh es x W i) (eg es i));rw[np es x _ (i+1) (by omega)] at h1
      have h2:=hB (i+1) (rk x 64-1-(hd es x W i).length-1) (by omega)
      omega
    have l2:q'.length≤1:=f2.len (by show _<18446744073709551616; omega)
    obtain⟨u0,l0,d1,d2⟩:=tI (n:=n) u.lg f2 (by omega) (by omega) (by omega)
    rw[←Int.natCast_add] at d2;have hdel:sy (cL W (i:Int) true) (i:Int)=W:=rj (u.fresh i (Nat.le_refl _)) true;have hd2:hd es x W (i+1)=hd es x W i:=zk u.dcd fun _=>rfl;have hr2:rh es x W (i+1)=rh es x W i:=by unfold rh; rw[hd2]
    have st:mH n LL tgt x1 es x (W,O,s,l,(j:Int))=some (.inl (W,cL O (i:Int) true,u0,l0,((j+1:Nat):Int))):=by
     unfold mH
     dsimp only
     rw[bm (by omega),aC hjl,aV,Int.toNat_natCast,hat,aq,Ec n tgt _ (by omega) (by omega),aq,aX hmem,f1,aq]
     dsimp only
     rw[aq]
     dsimp only
     rw[d1,aq,hdel]
     dsimp only
     rw[w1]
    rw[aR st];have hG2:G es x W (i+1)=gw es (il es x (i+1) d) (rk x 64-1-(hd es x W i).length) (rh es x W i):=by
     unfold G;rw[hd2,hr2,hm']
    refine ih (i+1) (by omega) (j+1) W _ u0 l0 (z+c) n' hdr' hjl { dcd:=u.dcd.left fun _=>rfl,fresh:=fun k hk=>u.fresh k (by omega),join:=by rw[hd2]; exact u.join,lg:=d2,len:=by rw[hd2]; exact u.len,rest:=?_,pos:=?_} (by omega)
    ·rw[hd2,hG2];refine⟨t,?_,t2⟩
     by_cases hab:rh es x W i (eg es i).1=rh es x W i (eg es i).2
     ·rwa[oY es (i:Int) _ _ hab] at t1
     ·cases hD:rk x 64-1-(hd es x W i).length with
      | zero =>
       rw[hD] at t1;simp only[gw,List.mem_singleton] at t1;subst t1;cases il es x (i+1) d<;>simp[gw]
      | succ D =>
       rw[hD] at t1;simp only[gw] at t1;rw[if_neg hab] at t1;rcases List.mem_append.1 t1 with t1|t1
       ·obtain⟨t3,_,rfl⟩:=List.mem_map.1 t1;exact absurd List.mem_cons_self hnt
       ·exact t1
    ·rw[hd2,hG2];intro p t3 hp
     by_cases hab:rh es x W i (eg es i).1=rh es x W i (eg es i).2
     ·rw[f3 hab];exact tp p t3 (by rw[oY es (i:Int) _ _ hab]; exact hp)
     ·obtain⟨j1,j2,j3⟩:=f4 hab;obtain⟨D,hD⟩:∃D,rk x 64-1-(hd es x W i).length=D+1:=⟨rk x 64-1-(hd es x W i).length-1,by omega⟩
      rw[hD] at hp tp j3;rw[Nat.add_sub_cancel] at j3;have:=tp (c+p) t3 (by
       simp only[gw];rw[if_neg hab,List.getElem?_append_right (by rw[List.length_map,←j3]; omega),List.length_map,←j3,Nat.add_sub_cancel_left]
       exact hp)
      rw[←Nat.add_assoc] at this;exact this
end
def m2 (a b:Nat):Nat:=if b=0 then(if a=0 then 0 else 1) else 2
section
variable {n : Nat} {k : Int} {a b : Nat}
theorem Dx (hn:40<n) (s:Bool) {v:Nat} (hs:s=true→v≠0):uD n s [v,0,0,0,0,0,0,0]=some (s,ul v):=by
 obtain⟨m,rfl⟩:∃m,n=m+20:=⟨n-20,by omega⟩
 by_cases h:v=0
 ·subst h;cases s with
  | false=>rfl
  | true=>exact absurd rfl (hs rfl)
 ·have st:gI (m+20) [v,0,0,0,0,0,0,0] 1=some (.inr 1):=by
   show ob (ob (some (decide (v=0))) fun v66=>some v66) _=_
   rw[decide_eq_false h]; rfl
  have s8:gI (m+20) [v,0,0,0,0,0,0,0] 8=some (.inl 7):=rfl;have s7:gI (m+20) [v,0,0,0,0,0,0,0] 7=some (.inl 6):=rfl;have s6:gI (m+20) [v,0,0,0,0,0,0,0] 6=some (.inl 5):=rfl;have s5:gI (m+20) [v,0,0,0,0,0,0,0] 5=some (.inl 4):=rfl;have s4:gI (m+20) [v,0,0,0,0,0,0,0] 4=some (.inl 3):=rfl;have s3:gI (m+20) [v,0,0,0,0,0,0,0] 3=some (.inl 2):=rfl;have s2:gI (m+20) [v,0,0,0,0,0,0,0] 2=some (.inl 1):=rfl;unfold uD;rw[show(([v,0,0,0,0,0,0,0]:List Nat).length:Int)=8 from rfl,aR s8,aR s7,aR s6,aR s5,aR s4,aR s3,aR s2,bB st,aq,yN h]
  cases s<;>rfl
theorem Hb (hn:40<n) {v:Nat} (h0:v≠0) (h:v<18446744073709551616):Jc n 0 0 0 0 0 0 0 0 (18446744073709551616-v) 18446744073709551615 18446744073709551615 18446744073709551615 18446744073709551615 18446744073709551615 18446744073709551615 18446744073709551615=some (v,0,0,0,0,0,0,0,1):=by
 obtain⟨m,rfl⟩:∃m,n=m+20:=⟨n-20,by omega⟩
 let T:List Nat:=[18446744073709551616-v,18446744073709551615,18446744073709551615,18446744073709551615,18446744073709551615,18446744073709551615,18446744073709551615,18446744073709551615]
 have b0:jA (m+20) ([0,0,0,0,0,0,0,0],T,0,0)=some (.inl ([v,0,0,0,0,0,0,0],T,1,1)):=by
  show(some (Sum.inl ([(0+18446744073709551616-(18446744073709551616-v)-0)%18446744073709551616,0,0,0,0,0,0,0],T,(if 0<(18446744073709551616-v)+0 then 1 else 0),(1:Int))):Option ((List Nat × List Nat × Nat × Int) ⊕ (List Nat × Nat)))=_
  rw[if_pos (by omega),show(0+18446744073709551616-(18446744073709551616-v)-0)%18446744073709551616=v by omega]
 have b1:jA (m+20) ([v,0,0,0,0,0,0,0],T,1,1)=some (.inl ([v,0,0,0,0,0,0,0],T,1,2)):=rfl;have b2:jA (m+20) ([v,0,0,0,0,0,0,0],T,1,2)=some (.inl ([v,0,0,0,0,0,0,0],T,1,3)):=rfl;have b3:jA (m+20) ([v,0,0,0,0,0,0,0],T,1,3)=some (.inl ([v,0,0,0,0,0,0,0],T,1,4)):=rfl;have b4:jA (m+20) ([v,0,0,0,0,0,0,0],T,1,4)=some (.inl ([v,0,0,0,0,0,0,0],T,1,5)):=rfl;have b5:jA (m+20) ([v,0,0,0,0,0,0,0],T,1,5)=some (.inl ([v,0,0,0,0,0,0,0],T,1,6)):=rfl;have b6:jA (m+20) ([v,0,0,0,0,0,0,0],T,1,6)=some (.inl ([v,0,0,0,0,0,0,0],T,1,7)):=rfl;have b7:jA (m+20) ([v,0,0,0,0,0,0,0],T,1,7)=some (.inl ([v,0,0,0,0,0,0,0],T,1,8)):=rfl;have b8:jA (m+20) ([v,0,0,0,0,0,0,0],T,1,8)=some (.inr ([v,0,0,0,0,0,0,0],1)):=rfl;unfold Jc
 show ob (cx (jA (m+20)) (m+20) (([0,0,0,0,0,0,0,0]:List Nat),T,0,0)) _=_
 rw[aR b0,aR b1,aR b2,aR b3,aR b4,aR b5,aR b6,aR b7,bB b8]; rfl
end
theorem pF {n:Nat} {v:Nat} (hv:v<9223372036854775808):yk n (v:Int)=some (v,0,0,0,0,0,0,0):=by
 unfold yk;rw[aX (by omega),aq]
 have:ui .u64 (v:Int)=v:=by show((v:Int)%18446744073709551616).toNat=v; omega
 rw[this]; rfl
theorem J5 {n:Nat} (hn:20≤n):yk n (-1)=some (18446744073709551615,18446744073709551615,18446744073709551615,18446744073709551615,18446744073709551615,18446744073709551615,18446744073709551615,18446744073709551615):=by
 obtain⟨m,rfl⟩:∃m,n=m+20:=⟨n-20,by omega⟩
 rfl
theorem DA {n v:Nat} (hn:40<n) (hv:v<9223372036854775808):Fx n v 0 0 0 0 0 0 0=some (false,ul v)∧Lg (v:Int) false (ul v):=by
 refine⟨?_,JE (v:=v) (by omega)⟩
 unfold Fx KB;rw[show(bI .u64 0 63)=0 from rfl,aX (by decide),aq]
 dsimp only
 rw[aq]
 dsimp only
 rw[show oD ((([]:List Nat)++[v,0,0,0,0,0,0,0]).length)=true from rfl,aV]
 show ob (uD n (decide (0=1)) [v,0,0,0,0,0,0,0]) _=_
 rw[show decide ((0:Nat)=1)=false from rfl,Dx (by omega) false (fun h=>by cases h),aq]
theorem FE {n:Nat} (hn:40<n):Fx n 18446744073709551615 18446744073709551615 18446744073709551615 18446744073709551615 18446744073709551615 18446744073709551615 18446744073709551615 18446744073709551615=some (true,ul 1)∧Lg (-1) true (ul 1):=by
 refine⟨?_,?_⟩
 ·unfold Fx KB;have h:=Hb (n:=n) (by omega) (v:=1) (by omega) (by omega)
  rw[show(18446744073709551616-1:Nat)=18446744073709551615 from rfl] at h
  rw[show(bI .u64 18446744073709551615 63)=1 from by decide,bm rfl,h,aq]
  dsimp only
  rw[aq]
  dsimp only
  rw[aq]
  dsimp only
  show ob (uD n (decide (1=1)) [1,0,0,0,0,0,0,0]) _=_
  rw[show decide ((1:Nat)=1)=true from rfl,Dx (by omega) true (fun _=>by omega),aq]
 ·have hl:=Lg.small (x:=1) (by omega) (by omega) true
  rw[yN (by omega)]
  exact hl
section
variable {M : Nat} {es : List (Int × Int)} {x n : Nat}
theorem oH (hok:ra (M:Int) es=true) (hO:Okay M es) (hx:x<2 ^ 64) (h0:x≠0) (hr:rk x 64≤9):(dx es x).length≤1073741824:=by
 have h1:=mz hx h0;have hB:∀i d,d≤8→cb (inc es x i) d≤1073741824:=fun i d hd=>qo (ga hok hO hr i) hd;refine Nat.le_trans (wR es _ _ _) ?_;rw[np es x es.length 0 (by omega)]
 exact hB 0 _ (by omega)
theorem Bj (hx:x<2 ^ 64) (hl:es.length≤200) (hn:300<n) (hok:ra (M:Int) es=true) (hO:Okay M es) (hr:rk x 64≤9) (hc:DX (M:Int) es x=0) :
  KP n (M:Int) es x=some ((dx es x).length,0,0,0,0,0,0,0,0):=by
 obtain⟨_,h0⟩:=Aj hc;have:=oH hok hO hx h0 hr;obtain⟨t,q,q1,q2⟩:=yU hok hO hx h0 hn hr (M:Int);unfold KP;rw[xU n (M:Int) es x hx (by omega) (by omega) (by omega),aq,hc,decide_eq_true rfl,Bool.not_true,dO,q1,aq]
 dsimp only
 rw[C3 (by omega) (by omega) q2,aq]
theorem Fz {c:Nat} (hc:c≤1073741824):J7 n c 0 0 0 0 0 0 0=some ((c:Int),0):=by
 unfold J7;have hw:IntKind.wrap .i64 ((c:Nat):Int)=((c:Nat):Int):=bt (by omega) (by omega)
 rw[hw,pF (by omega),aq]
 dsimp only
 simp only[decide_true,Bool.and_true,Bool.not_true,dO]
theorem ph {x7 x8 x9 x10 x11 x12 x13 x14:Nat} (hx:x<2 ^ 64) (hl:es.length≤200) (hn:300<n) (hok:ra (M:Int) es=true) (hO:Okay M es) (hr:rk x 64≤9) (hc:DX (M:Int) es x=0)
  {z:Int} {s:Bool} {l:List Nat} (hw:Fx n x7 x8 x9 x10 x11 x12 x13 x14=some (s,l)) (hg:Lg z s l) (hz:z.natAbs<18446744073709551616) :
  (∀(i:Nat) t,z=(i:Int)→(dx es x)[i]? = some t→xK n (M:Int) es x x7 x8 x9 x10 x11 x12 x13 x14=some (t,0))∧(z<0∨((dx es x).length:Int)≤z→xK n (M:Int) es x x7 x8 x9 x10 x11 x12 x13 x14=some ([],2)):=by
 obtain⟨_,h0⟩:=Aj hc;have hle:=oH hok hO hx h0 hr;obtain⟨t,q,q1,q2⟩:=yU hok hO hx h0 hn hr (M:Int);obtain⟨sg,s1,s2,s3⟩:=yx (n:=n) hg;unfold xK;rw[xU n (M:Int) es x hx (by omega) (by omega) (by omega),aq,hc,decide_eq_true rfl,Bool.not_true,dO,hw,aq]
 dsimp only
 rw[s1,aq]
 by_cases hneg:z<0
 ·refine⟨fun i t hi _=>by omega,fun _=>?_⟩
  rw[bm (s2.2 hneg)]; rfl
 ·rw[aX (fun e=>hneg (s2.1 e)),q1,aq]
  dsimp only
  have l1:l.length≤1:=hg.len (by rw[ft,tJ]; omega)
  have l2:q.length≤1:=q2.len (by rw[ft,tJ]; omega)
  obtain⟨cm,m1,m2⟩:=DY (n:=n) hg q2 (by omega) (by omega) (by omega)
  rw[m1,aq,aq];refine⟨fun i tr hi ht=>?_,fun hb=>?_⟩
  ·subst hi;have hlt:=(List.getElem?_eq_some_iff.1 ht).1;have hcm:cm<0:=m2.2 (by omega)
   obtain⟨s',l',W,O,e1⟩:=Hf hO hx (show 0<x by omega) hn (M:Int) (ga hok hO hr 0) (fun i d hd=>qo (ga hok hO hr i) hd) hr (show(i:Int)<1000000000000 by omega) hg (by omega) (by rw[Int.toNat_natCast]; exact ht)
   rw[aX (show ¬0≤cm by omega),aq]
   dsimp only
   rw[e1]; rfl
  ·rw[bm (show 0≤cm from Int.not_lt.1 fun g=>by have:=m2.1 g; omega)]
end
def EF:List Int→List Int→Prop
 | a::s,b::t=>a<b∨(a=b∧EF s t)
 | _,_=>False
theorem mZ:∀l:List Int,¬EF l l
 | [],h=>h
 | a::s,h=>by
  rcases h with h|⟨_,h⟩
  ·omega
  ·exact mZ s h
theorem vj:∀{l k:List Int},EF l k→¬EF k l
 | [],_,h=>fun _=>by cases h
 | _::_,[],h=>fun _=>by cases h
 | a::s,b::t,h=>fun h'=>by
  rcases h with h|⟨h1,h⟩
  ·rcases h' with h' | ⟨h2,_⟩<;>omega
  ·rcases h' with h' | ⟨_,h'⟩
   ·omega
   ·exact vj h h'
theorem ko (es:List (Int × Int)):∀(L:List Int) (d:Nat) (r:Nat→Nat) (b:List Int),b ∈ gw es L d r→b.length=d
 | L,0,r,b,h=>by
  have:b = []:=by cases L<;>simpa [gw] using h
  rw[this]; rfl
 | [],d+1,r,b,h=>by simp[gw] at h
 | k::L,d+1,r,b,h=>by
  simp only[gw] at h;rcases List.mem_append.1 h with h|h
  ·split at h
   ·cases h
   ·obtain⟨t,ht,rfl⟩:=List.mem_map.1 h;rw[List.length_cons,ko es L d _ t ht]
  ·exact ko es L (d+1) r b h
theorem yM (es:List (Int × Int)):∀(L:List Int) (d:Nat) (r:Nat→Nat),L.Pairwise (· < ·)→(gw es L d r).Pairwise EF
 | L,0,r,_=>by cases L<;>simp[gw]
 | [],d+1,r,_=>by simp[gw]
 | k::L,d+1,r,h=>by
  obtain⟨h1,h2⟩:=List.pairwise_cons.1 h;simp only[gw];refine List.pairwise_append.2 ⟨?_,yM es L (d+1) r h2,fun a ha b hb=>?_⟩
  ·split
   ·exact List.Pairwise.nil
   ·exact List.pairwise_map.2 ((yM es L d _ h2).imp fun h=>.inr ⟨rfl,h⟩)
  ·split at ha
   ·cases ha
   ·obtain⟨t,_,rfl⟩:=List.mem_map.1 ha;have hs:=pn es L (d+1) r b hb;cases b with
    | nil=>have:=ko es _ _ _ _ hb; cases this
    | cons c b=>exact .inl (h1 c (hs c List.mem_cons_self))
theorem tL (es:List (Int × Int)) (x:Nat):∀j i,(il es x i j).Pairwise (· < ·)
 | 0,i=>List.Pairwise.nil
 | j+1,i=>by
  rw[gO]
  split
  ·refine List.pairwise_cons.2 ⟨fun k hk=>?_,tL es x j (i+1)⟩;have:=BC hk; omega
  ·exact tL es x j (i+1)
theorem CK (es:List (Int × Int)) (x:Nat):(dx es x).Pairwise EF:=yM es _ _ _ (tL _ _ _ _)
theorem zw {es:List (Int × Int)} {x i j:Nat} {a b:List Int} (ha:(dx es x)[i]? = some a) (hb:(dx es x)[j]? = some b):(EF a b↔i<j)∧(a=b↔i=j):=by
 obtain⟨h1,rfl⟩:=List.getElem?_eq_some_iff.1 ha;obtain⟨h2,rfl⟩:=List.getElem?_eq_some_iff.1 hb;have hp:=List.pairwise_iff_getElem.1 (CK es x);rcases Nat.lt_trichotomy i j with h|h|h
 ·have:=hp i j h1 h2 h;exact⟨⟨fun _=>h,fun _=>this⟩,⟨fun e=>absurd this (by rw[e]; exact mZ _),fun e=>by omega⟩⟩
 ·subst h;exact⟨⟨fun e=>absurd e (mZ _),fun e=>by omega⟩,⟨fun _=>rfl,fun _=>rfl⟩⟩
 ·have:=hp j i h2 h1 h;exact⟨⟨fun e=>absurd e (vj this),fun e=>by omega⟩,⟨fun e=>absurd this (by rw[e]; exact mZ _),fun e=>by omega⟩⟩
theorem FK (n:Nat) (x y:Int):IP n x y=some (if x<y then -1 else if y<x then 1 else 0):=by
 unfold IP Ha;simp only[decide_true,Bool.not_true,aq,dO]
 by_cases h:x<y
 ·rw[bm h,if_pos h]
 ·rw[aX h,if_neg h]
  by_cases h2:y<x
  ·rw[bm h2,if_pos h2]
  ·rw[aX h2,if_neg h2]
theorem Il (n:Nat) (a b:List Int) (hl:a.length=b.length) (hb:a.length<4611686018427387904):∀(k i n':Nat),i+k=a.length→k<n' →
  ∃r,cx (jy n a b) n' ((i:Nat):Int)=some r∧((r = .inr ()∧a.drop i=b.drop i)∨∃v,r = .inl v∧v≠0∧a.drop i≠b.drop i∧(v<0↔EF (a.drop i) (b.drop i))):=by
 intro k
 induction k with
 | zero =>
  intro i n' hi hn;obtain⟨n',rfl⟩:∃m,n'=m+1:=⟨n'-1,by omega⟩
  refine⟨.inr (),bB ?_,.inl ⟨rfl,?_⟩⟩
  ·unfold jy;rw[aX (by omega)]
  ·rw[List.drop_eq_nil_of_le (by omega),List.drop_eq_nil_of_le (by omega)]
 | succ k ih =>
  intro i n' hi hn;obtain⟨n',rfl⟩:∃m,n'=m+1:=⟨n'-1,by omega⟩
  have h1:i<a.length:=by omega
  have h2:i<b.length:=by omega
  have ea:a[i]? = some a[i]:=List.getElem?_eq_getElem h1;have eb:b[i]? = some b[i]:=List.getElem?_eq_getElem h2;have da:a.drop i=a[i]::a.drop (i+1):=List.drop_eq_getElem_cons h1;have db:b.drop i=b[i]::b.drop (i+1):=List.drop_eq_getElem_cons h2;generalize a[i]=p at ea da;generalize b[i]=q at eb db;have st:jy n a b (i:Int)=if p=q then some (.inl ((i+1:Nat):Int)) else some (.inr (.inl (if p<q then -1 else if q<p then 1 else 0))):=by
   unfold jy;rw[bm (by omega),aC h1,aV,Int.toNat_natCast,ea,aq,aX (by omega),aC h2,aV,eb,aq,FK,aq]
   by_cases h:p=q
   ·subst h;rw[if_neg (by omega),if_neg (by omega),if_pos rfl,decide_eq_true rfl,Bool.not_true,dO,bE (by omega)]
   ·rw[if_neg h,decide_eq_false (by split<;>(try split)<;>omega),Bool.not_false,dc]
  by_cases h:p=q
  ·rw[if_pos h] at st;subst h;obtain⟨r,g1,g2⟩:=ih (i+1) n' (by omega) (by omega)
   refine⟨r,by rw[aR st]; exact g1,?_⟩
   rcases g2 with⟨g2,g3⟩|⟨v,g2,g3,g4,g5⟩
   ·exact .inl ⟨g2,by rw[da,db,g3]⟩
   ·refine .inr ⟨v,g2,g3,fun e=>g4 (by rw[da,db] at e; exact(List.cons.inj e).2),?_⟩
    rw[g5,da,db];exact⟨fun h=>.inr ⟨rfl,h⟩,fun h=>h.elim (fun h=>by omega) fun h=>h.2⟩
  ·rw[if_neg h] at st;refine⟨_,bB st,.inr ⟨_,rfl,?_,fun e=>h (by rw[da,db] at e; exact(List.cons.inj e).1),?_⟩⟩
   ·split<;>(try split)<;>omega
   ·rw[da,db]
    by_cases hlt:p<q
    ·rw[if_pos hlt]; exact⟨fun _=>.inl hlt,fun _=>by decide⟩
    ·rw[if_neg hlt,if_pos (by omega)]; exact⟨fun h=>absurd h (by decide),fun h'=>h'.elim (fun h'=>by omega) fun h'=>absurd h'.1 h⟩
theorem uY {n:Nat} {a b:List Int} (hl:a.length=b.length) (hb:a.length<4611686018427387904) (hn:a.length<n):∃r,G1 n a b=some r∧(r<0↔EF a b)∧(r=0↔a=b):=by
 obtain⟨r,g1,g2⟩:=Il n a b hl hb a.length 0 n (by omega) hn
 rw[List.drop_zero,List.drop_zero] at g2;unfold G1;rw[show(0:Int)=((0:Nat):Int) from rfl,g1,aq]
 rcases g2 with⟨rfl,rfl⟩|⟨v,rfl,g3,g4,g5⟩
 ·refine⟨0,?_,⟨fun h=>absurd h (by decide),fun h=>absurd h (mZ _)⟩,⟨fun _=>rfl,fun _=>rfl⟩⟩
  dsimp only
  rw[aX (by omega)]; rfl
 ·exact⟨v,rfl,g5,⟨fun h=>absurd h g3,fun h=>absurd h g4⟩⟩
theorem HO (n M x:Nat) (es:List (Int × Int)) (hM:M≤64) (hx:x<2 ^ 64) (hn:70<n):∃w,F8 n (M:Int) es x=some w∧w<2 ^ M∧rk w 64≤9:=by
 have h64:2 ^ M≤2 ^ 64:=Nat.pow_le_pow_right (by decide) hM
 have step:∀(s i:Nat),s<2 ^ M→rk s 64≤9→i≤M→(∃s',yi n (M:Int) x (s,(i:Int))=some (.inl (s',((i+1:Nat):Int)))∧s'<2 ^ M∧rk s' 64≤9∧i<M)∨yi n (M:Int) x (s,(i:Int))=some (.inr s):=by
  intro s i hsM hr hi;have hs:s<2 ^ 64:=by omega
  unfold yi;simp only[HS n s hs (by omega),aq]
  by_cases h1:i<M
  ·rw[decide_eq_true (show(i:Int)<(M:Int) by omega),dc,aq]
   by_cases h2:rk s 64<9
   ·rw[decide_eq_true (show((rk s 64:Nat):Int)<9 by omega),dc,Dy n x i hx (by omega),aq,Hv n i (by omega),bE (by omega)]
    refine .inl ?_;cases x.testBit i with
    | true=>exact⟨s ||| 2 ^ i,by simp only[dc,aq,AR hs (show i<64 by omega)],Nat.or_lt_two_pow hsM (Nat.pow_lt_pow_right (by decide) h1),by have:=@Kz s i (by omega); omega,h1⟩
    | false=>exact⟨s,rfl,hsM,hr,h1⟩
   ·rw[decide_eq_false (show ¬((rk s 64:Nat):Int)<9 by omega)]; exact .inr rfl
  ·rw[decide_eq_false (show ¬(i:Int)<(M:Int) by omega)]; exact .inr rfl
 have loop:∀k i s n',i+k=M→s<2 ^ M→rk s 64≤9→k<n'→∃w,cx (yi n (M:Int) x) n' (s,(i:Int))=some w∧w<2 ^ M∧rk w 64≤9:=by
  intro k
  induction k with
  | zero =>
   intro i s n' hi hs hr hn';obtain⟨n',rfl⟩:∃k,n'=k+1:=⟨n'-1,by omega⟩
   rcases step s i hs hr (by omega) with⟨_,_,_,_,h⟩|h
   ·omega
   ·exact⟨s,bB h,hs,hr⟩
  | succ k ih =>
   intro i s n' hi hs hr hn';obtain⟨n',rfl⟩:∃k,n'=k+1:=⟨n'-1,by omega⟩
   rcases step s i hs hr (by omega) with⟨s',h,h1,h2,_⟩|h
   ·rw[aR h];exact ih (i+1) s' n' (by omega) h1 h2 (by omega)
   ·exact⟨s,bB h,hs,hr⟩
 obtain⟨w,h1,h2,h3⟩:=loop M 0 0 n (by omega) (Nat.pos_of_ne_zero (by simp)) (by decide +kernel) (by omega)
 refine⟨w,?_,h2,h3⟩;unfold F8;rw[show cx (yi n (M:Int) x) n (0,0)=some w from h1,aq]
theorem ES {n x M:Nat} {es:List (Int × Int)} {x7 x8 x9 x10 x11 x12 x13 x14:Nat} (hx:x<2 ^ 64) (hl:es.length≤200) (hn:300<n) (h:DX (M:Int) es x=2) :
  xK n (M:Int) es x x7 x8 x9 x10 x11 x12 x13 x14=some ([],2):=by
 unfold xK;rw[xU n (M:Int) es x hx (by omega) (by omega) (by omega),aq,h]; rfl
theorem CB {M:Nat} {es:List (Int × Int)} {x n i:Nat} {l:List Int} (hx:x<2 ^ 64) (hl:es.length≤200) (hn:1073741825<n) (hok:ra (M:Int) es=true) (hO:Okay M es) (hr:rk x 64≤9) (h0:x≠0) (hc:GB n (M:Int) es x l=some 0) (hT:F2 es x l=true) (hi:(dx es x)[i]? = some l) :
  JY n (M:Int) es x l=some (i,0,0,0,0,0,0,0,0):=by
 have g2:=oH hok hO hx h0 hr;have hinc:=ga hok hO hr 0;have hD:Dcd es x ([]:List (Int × Bool)) [] 0:=⟨fun k hk=>absurd hk (Nat.not_lt_zero _),fun k _=>⟨rfl,rfl⟩⟩;have hrk:=mz hx h0;have hG0:G es x [] 0=dx es x:=rfl;have u0:Uk es x l 0 false [] [] [] 0:={ dcd:=hD,fresh:=fun _ _=>rfl,join:=rfl,lg:=Lg.zero,len:=by show 0+1≤_; omega,rest:=⟨l,by rw[hG0]; exact wY hT,rfl⟩,pos:=fun p t hp=>by rw[hG0] at hp; rw[Nat.zero_add]; exact hp}
 have hll:=vy (wY hT);have hLL:(il es x 0 es.length).length≤36:=by rw[np es x es.length 0 (by omega)]; exact hinc
 obtain⟨s',l',z',q1,q2,q3⟩:=Da hO (n:=n) hx (by omega) (by omega) (M:Int) hinc (fun i d hd=>qo (ga hok hO hr i) hd) hr (tgt:=l) (by omega) (il es x 0 es.length) hLL g2 es.length 0 (by omega) 0 [] [] false [] 0 n rfl (Nat.zero_le _) u0 (by omega)
 have hz:z'<(dx es x).length:=(List.getElem?_eq_some_iff.1 q3).1;have hzi:z'=i:=(zw q3 hi).2.1 rfl;subst hzi;unfold JY;rw[hc,aq,decide_eq_true rfl,Bool.not_true,dO,aq,Cr hO hx (by omega),aq,aq,mj (by omega),aq]
 dsimp only
 rw[show(0:Int)=((0:Nat):Int) from rfl,q1,aq]
 dsimp only
 rw[aq]
 dsimp only
 rw[C3 (by omega) (by omega) q2,aq]; rfl
theorem ti (es:List (Int × Int)):∀(L:List Int) (d:Nat) (r:Nat→Nat) (b:List Int),b ∈ gw es L d r→aU r (b.map (eg es))=true
 | L,0,r,b,h=>by
  have:b = []:=by cases L<;>simpa [gw] using h
  rw[this]; rfl
 | [],d+1,r,b,h=>by simp[gw] at h
 | k::L,d+1,r,b,h=>by
  simp only[gw] at h;rcases List.mem_append.1 h with h|h
  ·split at h
   ·cases h
   ·rename_i hne;obtain⟨t,ht,rfl⟩:=List.mem_map.1 h;rw[List.map_cons,aU,ti es L d _ t ht,Bool.and_true]
    simpa using hne
  ·exact ti es L (d+1) r b h
theorem Du (es:List (Int × Int)) (x:Nat):∀(l:List Int) (p:Int),l.Pairwise (· < ·)→(∀k ∈ l,dz es x k=true∧p<k)→Bx es x p l=true
 | [],_,_,_=>rfl
 | a::l,p,h,hk=>by
  obtain⟨h1,h2⟩:=List.pairwise_cons.1 h;obtain⟨k1,k2⟩:=hk a List.mem_cons_self;simp only[Bx,k1,decide_eq_true k2,Bool.true_and,Bool.and_true];exact Du es x l a h2 fun k hkl=>⟨(hk k (List.mem_cons_of_mem _ hkl)).1,h1 k hkl⟩
theorem H9 {es:List (Int × Int)} {x i j:Nat} {k:Int} (h:k ∈ il es x i j):dz es x k=true:=by
 obtain⟨m,h1,rfl⟩:=List.mem_map.1 h;exact(List.mem_filter.1 h1).2
theorem BH {es:List (Int × Int)} {x:Nat} (hx:x<2 ^ 64) (h0:x≠0) {l:List Int} (h:l ∈ dx es x):F2 es x l=true:=by
 have h1:=mz hx h0;have hs:=oL _ _ _ _ l h;have hi:∀k ∈ l,dz es x k=true∧(-1:Int)<k:=fun k hk=>by
  have hm:=hs.subset hk;refine⟨H9 hm,?_⟩;have:=BC hm; omega
 unfold F2;rw[Du es x l (-1) ((tL es x _ _).sublist hs) hi,ti _ _ _ _ _ h,Bool.true_and,Bool.and_true];have:=ko _ _ _ _ _ h;exact decide_eq_true (by omega)
theorem Ga (n x1 x2 x3:Nat) (l4:List (Nat × Nat)) (x8 x9 x10:Nat) (h8:x8<2 ^ 64) (h9:x9<4294967296) (h10:x10<4294967296) (hn:1073741825<n):F3 n x1 x2 x3 l4 x8 x9 x10=some true:=by
 obtain⟨N,es,g1,hok⟩:=KG n x1 x2 x3 l4 (by omega)
 obtain⟨M,rfl,hO⟩:=ue hok;obtain⟨w,g2,a1,a2⟩:=HO n M x8 es hO.le h8 (by omega)
 have h64:2 ^ M≤2 ^ 64:=Nat.pow_le_pow_right (by decide) hO.le
 have hw:w<2 ^ 64:=by omega
 have hl:=hO.len;have o0:yk n 0=some (0,0,0,0,0,0,0,0):=pF (v:=0) (by decide)
 unfold F3;simp only[F6,aq,Bool.not_true,dO,g1,g2,o0]
 by_cases h0:w=0
 ·have hc:DX (M:Int) es w=2:=by unfold DX; rw[if_pos hok,if_pos (.inl h0)]
  rw[bm h0,ES hw hl (by omega) hc]; rfl
 rw[aX h0];have hc:DX (M:Int) es w=0:=by
  unfold DX;rw[if_pos hok,if_neg];rintro(h|h)
  ·exact h0 h
  ·rw[Int.toNat_natCast] at h; omega
 have hle:=oH hok hO hw h0 a2;rw[Bj hw hl (by omega) hok hO a2 hc]
 simp only[aq];rw[Fz hle];simp only[aq,decide_true,Bool.not_true,dO];have un:∀{v:Nat},v<9223372036854775808→(∀t,(dx es w)[v]? = some t→xK n (M:Int) es w v 0 0 0 0 0 0 0=some (t,0))∧(((dx es w).length:Int)≤(v:Int)→xK n (M:Int) es w v 0 0 0 0 0 0 0=some ([],2)):=fun {v} hv=>by
  obtain⟨p1,p2⟩:=DA (n:=n) (by omega) hv
  obtain⟨u1,u2⟩:=ph hw hl (by omega) hok hO a2 hc p1 p2 (by omega)
  exact⟨fun t ht=>u1 v t rfl ht,fun h=>u2 (.inr h)⟩
 by_cases hz:(dx es w).length=0
 ·rw[bm (show(((dx es w).length:Nat):Int)=0 by omega),(un (v:=0) (by decide)).2 (by omega)]; rfl
 rw[aX (show ¬(((dx es w).length:Nat):Int)=0 by omega)]
 have hd:decide ((((dx es w).length:Nat):Int)≠0)=true:=decide_eq_true (by omega)
 rw[hd,aV,aV];have hm:∀y:Nat,y<4294967296→Int.tmod (IntKind.wrap .i64 ((y:Nat):Int)) (((dx es w).length:Nat):Int)=((y%(dx es w).length:Nat):Int):=fun y hy=>by
  rw[bt (by omega) (by omega),Int.tmod_eq_emod_of_nonneg (by omega)]; omega
 rw[hm x9 h9,hm x10 h10];have hi:x9%(dx es w).length<(dx es w).length:=Nat.mod_lt _ (by omega)
 have hj:x10%(dx es w).length<(dx es w).length:=Nat.mod_lt _ (by omega)
 generalize x9%(dx es w).length=i at hi;generalize x10%(dx es w).length=j at hj;have ei:(dx es w)[i]? = some (dx es w)[i]:=List.getElem?_eq_getElem hi;have ej:(dx es w)[j]? = some (dx es w)[j]:=List.getElem?_eq_getElem hj;generalize (dx es w)[i]=A at ei;generalize (dx es w)[j]=B at ej;have mA:=List.mem_of_getElem? ei;have mB:=List.mem_of_getElem? ej;have lA:=vy mA;have hAB:A.length=B.length:=by
  unfold dx at mA mB;rw[ko _ _ _ _ _ mA,ko _ _ _ _ _ mB]
 obtain⟨r,r1,r2,r3⟩:=uY (n:=n) hAB (by omega) (by omega)
 have hT:F2 es w A=true:=BH hw h0 mA;have hck:GB n (M:Int) es w A=some 0:=by
  rw[HL n (M:Int) es w A hw (by omega) (by omega) (by omega) (by omega) (by omega)]
  unfold K5;rw[if_pos hok,if_neg,if_pos hT];rintro(h|h)
  ·exact h0 h
  ·rw[Int.toNat_natCast] at h; omega
 have hrk:=CB hw hl hn hok hO a2 h0 hck hT ei;obtain⟨c1,c2⟩:=zw ei ej;have t1:decide (r<0)=decide ((i:Int)<(j:Int)):=by
  rw[decide_eq_decide,r2,c1]; omega
 have t2:decide (r=0)=decide ((i:Int)=(j:Int)):=by
  rw[decide_eq_decide,r3,c2]; omega
 rw[pF (by omega),pF (by omega)]
 simp only[aq];rw[(un (by omega)).1 A ei]
 simp only[aq];rw[(un (by omega)).1 B ej]
 simp only[aq];rw[r1];simp only[aq,decide_true,dc,hck,hrk,Bool.and_true,t1,t2,beq_self_eq_true];rw[pF (by omega)]
 simp only[aq];rw[(un (by omega)).2 (Int.le_refl _)]
 simp only[aq,J5 (show 20≤n by omega)]
 obtain⟨p1,p2⟩:=FE (n:=n) (by omega)
 rw[(ph hw hl (by omega) hok hO a2 hc p1 p2 (by decide)).2 (.inl (by decide))]
 rfl
end Go.Proofs.YtookeaakpiefjaaDoor
end
