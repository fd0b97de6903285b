/- A part of the proof. -/
import Derived.Test.YthmekkhpddehjaaGreatRo3
import Derived.Shelf.GgSortFunc.RowK
import Derived.Shelf.SlSortCmp.WholeK
import Derived.Shelf.SlGeneric
import Derived.Ground.SlsfProg
import Derived.Test.YthmekkhpddehjaaGreatProg
import Derived.Shelf.SlSortCmp.NoneTotal
import Derived.Lib.Overlaps
import Derived.HandedShaped
section
namespace Go.Proofs.YthmekkhpddehjaaGreat.W51
open Go Go.Ab Go.Ab.W
set_option maxRecDepth 10000
set_option maxHeartbeats 4000000
attribute [local irreducible] Tm.at Trie.set Trie.get AMem.get AMem.set AMem.alloc AMem.ww AMem.kill
theorem aB:TyI kL.P 33 true 2:=⟨by kernel_rfl,by kernel_rfl,by kernel_rfl⟩
theorem cP:∀b o,aW kL.P 33 (ptr b o) 0=some (ptr b (o+0)):=fun _ _=>by kernel_rfl
theorem bK:TyI kL.P 3 false 1:=⟨by kernel_rfl,by kernel_rfl,by kernel_rfl⟩
theorem bF:∀b o,aW kL.P 33 (ptr b o) 1=some (ptr b (o+1)):=fun _ _=>by kernel_rfl
theorem Dd:kL.P.underlying 102=some (.slice 3):=by kernel_rfl
theorem ua:SlT kL.P 102 3 1:=SlT.of (by kernel_rfl)
theorem z3:bq kL.P 3=some (.int .i64 0):=by kernel_rfl
theorem kD (n:Nat) (x1:Int)  (r:Bool) (hF:uJ n x1=some r) (m:AMem)  :
  aR kL 103 [.int .i64 x1] m (fun v m'=>∃_:Unit,v = .bool r∧Hp m m' []):=by
 unfold uJ at hF;refine aJ (m0:=m) (ps:=[]) (N:=6) (rs:=[.tmp 2]) rfl Tryz.func103 rfl rfl rfl (Hp.start m)<|Wk.seq<|Wk.region<|Wo.od (aj rfl) rfl<|Wo.nil<|At.tn<|Wk.seq<|Wk.region<|Wo.od (ae rfl) rfl<|Wo.od (ae rfl) rfl<|Wo.od (aq rfl rfl (dz _ _)) rfl<|Wo.od (aj rfl) rfl<|Wo.nil<|At.tn<|Wk.ret ?_;cases hF;exact At.ret (.tmp rfl .nil) fun m' hm=>⟨(),rfl,(aa.U [] rfl rfl) m' hm⟩
theorem lu (n:Nat) (x1:Int) (x2:Int)  (r:Int) (hF:Bs n x1 x2=some r) (m:AMem)  :
  aR kL 83 [.int .i64 x1,.int .i64 x2] m (fun v m'=>∃_:Unit,v = .int .i64 r∧Hp m m' []):=by
 unfold Bs at hF;refine aJ (m0:=m) (ps:=[]) (N:=20) (rs:=[.tmp 4]) rfl Tryz.func83 rfl rfl rfl (Hp.start m)<|Wk.seq<|Wk.region<|Wo.od (aj rfl) rfl<|Wo.nil<|At.tn<|Wk.seq<|Wk.region<|Wo.od (ae rfl) rfl ?_;obtain⟨r4,h3,hF⟩:=J hF;refine Wo.x (dh rfl rfl (fun m hm=>kD n x1  _ h3 m) fun _=>rfl) gn rfl ?_;rintro⟨⟩;refine Wo.od (aj rfl) rfl<|Wo.nil<|At.tn<|Wk.seq<|Wk.region<|Wo.od (ae rfl) rfl ?_;obtain⟨r6,h5,hF⟩:=J hF;refine Wo.x (dh rfl rfl (fun m hm=>kD n x2  _ h5 m) fun _=>rfl) gn rfl ?_;rintro⟨⟩;refine Wo.od (aj rfl) rfl<|Wo.nil<|At.tn<|Wk.seq<|Wk.seq<|Wk.region<|Wo.od (ae rfl) rfl<|Wo.nil<|At.tn ?_;rcases ah hF with⟨h7,hF⟩|⟨h7,hF⟩
 ·refine Wk.aA rfl h7<|Wk.seq<|Wk.seq<|Wk.region<|Wo.od (ae rfl) rfl<|Wo.nil<|At.tn ?_;rcases ah hF with⟨h8,hF⟩|⟨h8,hF⟩
  ·refine Wk.aA rfl h8<|Wk.seq<|Wk.region<|Wo.od (aj rfl) rfl<|Wo.nil<|At.tn<|Wk.ret<|At.tr<|At.tr ?_;cases hF;exact At.ret (.tmp rfl .nil) fun m' hm=>⟨(),rfl,(aa.U [] rfl rfl) m' hm⟩
  ·refine Wk.az rfl h8<|Wk.skip<|At.tn<|Wk.seq<|Wk.region<|Wo.od (aj rfl) rfl<|Wo.nil<|At.tn<|Wk.ret<|At.tr ?_;cases hF;exact At.ret (.tmp rfl .nil) fun m' hm=>⟨(),rfl,(aa.U [] rfl rfl) m' hm⟩
 ·refine Wk.az rfl h7<|Wk.skip<|At.tn<|Wk.seq<|Wk.seq<|Wk.region<|Wo.od (ae rfl) rfl<|Wo.nil<|At.tn ?_;rcases ah hF with⟨h9,hF⟩|⟨h9,hF⟩
  ·refine Wk.aA rfl h9<|Wk.seq<|Wk.region<|Wo.od (aj rfl) rfl<|Wo.nil<|At.tn<|Wk.ret<|At.tr ?_;cases hF;exact At.ret (.tmp rfl .nil) fun m' hm=>⟨(),rfl,(aa.U [] rfl rfl) m' hm⟩
  ·refine Wk.az rfl h9<|Wk.skip<|At.tn<|Wk.seq<|Wk.seq<|Wk.region<|Wo.od (ae rfl) rfl<|Wo.od (ae rfl) rfl<|Wo.od (aq rfl rfl (aS _ _ _)) rfl<|Wo.nil<|At.tn ?_;rcases ah hF with⟨h10,hF⟩|⟨h10,hF⟩
   ·refine Wk.aA rfl h10<|Wk.seq<|Wk.region<|Wo.od (aj rfl) rfl<|Wo.nil<|At.tn<|Wk.ret<|At.tr ?_;cases hF;exact At.ret (.tmp rfl .nil) fun m' hm=>⟨(),rfl,(aa.U [] rfl rfl) m' hm⟩
   ·refine Wk.az rfl h10<|Wk.skip<|At.tn<|Wk.seq<|Wk.seq<|Wk.region<|Wo.od (ae rfl) rfl<|Wo.od (ae rfl) rfl<|Wo.od (aq rfl rfl (cY _ _ _)) rfl<|Wo.nil<|At.tn ?_;rcases ah hF with⟨h11,hF⟩|⟨h11,hF⟩
    ·refine Wk.aA rfl h11<|Wk.seq<|Wk.region<|Wo.od (aj rfl) rfl<|Wo.nil<|At.tn<|Wk.ret<|At.tr ?_;cases hF;exact At.ret (.tmp rfl .nil) fun m' hm=>⟨(),rfl,(aa.U [] rfl rfl) m' hm⟩
    ·refine Wk.az rfl h11<|Wk.skip<|At.tn<|Wk.seq<|Wk.region<|Wo.od (aj rfl) rfl<|Wo.nil<|At.tn<|Wk.ret ?_;cases hF;exact At.ret (.tmp rfl .nil) fun m' hm=>⟨(),rfl,(aa.U [] rfl rfl) m' hm⟩
theorem tG (n:Nat) (l1:List (Int)) (a2:Option Addr) (c3:Nat) (r:Int) (hF:DX n l1=some r) (m:AMem) (h4:Rd m a2 c3 1 l1.length (l1.map (eI .i64))) :
  aR kL 82 [.slice a2 l1.length c3] m (fun v m'=>∃_:Unit,v = .int .i64 r∧Hp m m' []):=by
 unfold DX at hF;refine aJ (m0:=m) (ps:=[.rd a2 c3 1 l1.length (l1.map (eI .i64))]) (N:=18) (rs:=[.tmp 2]) rfl Tryz.func82 rfl rfl rfl ((Hp.start m).tP rfl h4)<|Wk.seq<|Wk.region<|Wo.od (aj rfl) rfl<|Wo.nil<|At.tn<|Wk.seq<|Wk.region<|Wo.od (aj rfl) rfl<|Wo.nil<|At.tn<|Wk.seq<|Wk.seq<|Wk.region<|Wo.od (ae rfl) rfl<|Wo.od (dw (k:=0) Dd rfl rfl (.inl rfl)) rfl<|Wo.od (ae rfl) rfl<|Wo.nil<|At.tn<|Wk.block ?_;obtain⟨r24,h23,hF⟩:=J hF;refine Wk.cut (G:=(fun(r:(Int) ⊕ (Unit)) (g:Unit)=>match r,g with | .inl v15,_=>⟨.ret,[(2,.int .i64 v15)],[]⟩ | .inr _,_=>⟨(.exit 0),[(3,.int .i64 0)],[]⟩) r24) ?_ ?_
 ·refine Wk.eE (fs':=[(3,.int .i64 0),(6,.slice a2 l1.length c3),(7,.int .i64 (l1.length:Int)),(8,.int .i64 0)]) (ps':=[.rd a2 c3 1 l1.length (l1.map (eI .i64))]) (sc rfl (sc rfl (sc rfl (sc rfl sn)))) (aa.U [0] rfl rfl) ?_;refine Wk.loop (σ:=Int) (ρ:=(Int) ⊕ (Unit)) (γ:=Unit) (δ:=fun _=>Unit) _ (fun(s:Int) (g:Unit)=>match s,g with|v6,_=>⟨.normal,[(3,.int .i64 0),(6,.slice a2 l1.length c3),(7,.int .i64 (l1.length:Int)),(8,.int .i64 v6)],[.rd a2 c3 1 l1.length (l1.map (eI .i64))]⟩) (fun(r:(Int) ⊕ (Unit)) (g:Unit)=>match r,g with | .inl v15,_=>⟨.ret,[(2,.int .i64 v15)],[]⟩ | .inr _,_=>⟨(.exit 0),[(3,.int .i64 0)],[]⟩) ?_ (fun _ _=>rfl) (fun r d=>by rcases r with _|_<;>(intro e; cases e)) _ _ _ h23 ()
  clear hF h23;rintro v6 ⟨⟩ r hF;unfold kh at hF;refine Wk.seq<|Wk.region<|Wo.od (aq rfl rfl (aS _ _ _)) rfl<|Wo.nil<|At.tn<|Wk.seq ?_;rcases ah hF with⟨h16,hF⟩|⟨h16,hF⟩
  ·refine Wk.aA rfl h16<|Wk.skip<|At.tn<|Wk.seq<|Wk.block<|Wk.seq<|Wk.region ?_;obtain⟨h17,hF⟩:=al hF;replace h17:=av h17;refine Wo.eJ (k:=0) rfl (cb h17) ?_;rintro b18 o19 rfl;refine Wo.og (bQ ua rfl rfl h17) gn rfl ?_;obtain⟨x20,h21,hF⟩:=J hF;refine Wo.od (cg (k:=0) bK rfl rfl (aO h21) rfl rfl) rfl<|Wo.od (aj rfl) rfl<|Wo.nil<|At.tn<|Wk.seq<|Wk.region<|Wo.od (ae rfl) rfl<|Wo.od (ae rfl) rfl<|Wo.od (aq rfl rfl (dz _ _)) rfl<|Wo.nil<|At.tn ?_;rcases ah hF with⟨h22,hF⟩|⟨h22,hF⟩
   ·refine Wk.aA rfl h22<|Wk.seq<|Wk.region<|Wo.od (ae rfl) rfl<|Wo.od (aj rfl) rfl<|Wo.nil<|At.tn<|Wk.ret<|At.br<|At.tr ?_;cases hF;exact At.en () rfl (sc rfl sn) (aa.U [] rfl rfl)
   ·refine Wk.az rfl h22<|Wk.skip<|At.bn<|At.tn<|Wk.region<|Wo.od (aq rfl rfl (aI _ _ _)) rfl<|Wo.od (ae rfl) rfl<|Wo.nil ?_;cases hF;exact At.en () rfl (sc rfl (sc rfl (sc rfl (sc rfl sn)))) (aa.U [1] rfl rfl)
  ·refine Wk.az rfl h16<|Wk.exit<|At.te ?_;cases hF;exact At.en () rfl (sc rfl sn) (aa.U [] rfl rfl)
 ·clear h23;rcases r24 with v15|_
  ·rintro⟨⟩;refine At.br<|At.tr ?_;have hr:=Option.some.inj hF;subst r;exact At.ret (.tmp rfl .nil) fun m' hm=>⟨(),rfl,(aa.U [] rfl rfl) m' hm⟩
  ·rintro⟨⟩;refine At.be<|At.tn<|Wk.seq<|Wk.region<|Wo.od (ae rfl) rfl<|Wo.od (aj rfl) rfl<|Wo.nil<|At.tn<|Wk.ret ?_;cases hF;exact At.ret (.tmp rfl .nil) fun m' hm=>⟨(),rfl,(aa.U [] rfl rfl) m' hm⟩
theorem nF (n:Nat) (x1:Int) (x2:Int) (x3:Int) (x4:Int)  (r:Int) (hF:yk n x1 x2 x3 x4=some r) (m:AMem)  :
  aR kL 52 [.agg #[.int .i64 x1,.int .i64 x2],.agg #[.int .i64 x3,.int .i64 x4]] m (fun v m'=>∃_:Unit,v = .int .i64 r∧Hp m m' []):=by
 unfold yk at hF;refine aJ (m0:=m) (ps:=[]) (N:=17) (rs:=[.tmp 4]) rfl Tryz.func52 rfl rfl rfl (Hp.start m)<|Wk.seq<|Wk.region<|Wo.x (eS rfl) gn rfl fun b5=>?_;refine Wo.x (eS rfl) gn rfl fun b6=>?_;refine Wo.od (aj rfl) rfl<|Wo.nil<|At.tn<|Wk.seq<|Wk.mC (prs:=[(4,6),(4,8)]) (by kernel_rfl)<|Wn.od (aK (r:=ptr b5 0) rfl (cP _ _)) rfl<|Wn.od (ar (k:=1) bK rfl rfl rfl) rfl<|Wn.od (aK (r:=ptr b6 0) rfl (cP _ _)) rfl<|Wn.od (ar (k:=0) bK rfl rfl rfl) rfl ?_
 obtain⟨r8,h7,hF⟩:=J hF;refine Wn.c (om rfl rfl (fun m hm=>lu n x1 x3  _ h7 m) fun _=>rfl) gn rfl ?_;rintro⟨⟩;refine Wn.od (aK (r:=ptr b5 1) rfl (bF _ _)) rfl<|Wn.od (ar (k:=1) bK rfl rfl rfl) rfl<|Wn.od (aK (r:=ptr b6 1) rfl (bF _ _)) rfl<|Wn.od (ar (k:=0) bK rfl rfl rfl) rfl ?_;obtain⟨r10,h9,hF⟩:=J hF;refine Wn.c (om rfl rfl (fun m hm=>lu n x2 x4  _ h9 m) fun _=>rfl) gn rfl ?_;rintro⟨⟩;refine Wn.x (xm (es:=([r8,r10]:List (Int)).map (eI .i64)) ua rfl (wR ua z3 rfl rfl) rfl rfl) gn rfl fun b11=>?_;obtain⟨r13,h12,hF⟩:=J hF;refine Wn.c (om rfl rfl (fun m hm=>tG n ([r8,r10]) (some ⟨b11,0,none⟩) 2 _ h12 m (hm.rd (k:=0) rfl (.arr _ _ _ _ _))) fun _=>rfl) gn rfl ?_;rintro⟨⟩;refine Wn.od (aj rfl) rfl<|Wn.nil (fun m hm=>jo.all rfl)<|At.tn<|Wk.ret ?_;have hr:=Option.some.inj hF;subst r;exact At.ret (.tmp rfl .nil) fun m' hm=>⟨(),rfl,(aa.U [] rfl rfl) m' hm⟩
theorem DH (n:Nat) (x1:Int) (x2:Int) (x3:Int) (x4:Int)  (r:Int) (hF:Gd n x1 x2 x3 x4=some r) (m:AMem)  :
  aR kL 51 [.agg #[.int .i64 x1,.int .i64 x2],.agg #[.int .i64 x3,.int .i64 x4]] m (fun v m'=>∃_:Unit,v = .int .i64 r∧Hp m m' []):=by
 unfold Gd at hF;refine aJ (m0:=m) (ps:=[]) (N:=8) (rs:=[.tmp 4]) rfl Tryz.func51 rfl rfl rfl (Hp.start m)<|Wk.seq<|Wk.region<|Wo.x (eS rfl) gn rfl fun b5=>?_;refine Wo.x (eS rfl) gn rfl fun b6=>?_;refine Wo.od (aj rfl) rfl<|Wo.nil<|At.tn<|Wk.seq<|Wk.region<|Wo.od (ar (k:=1) aB rfl rfl rfl) rfl<|Wo.od (ar (k:=0) aB rfl rfl rfl) rfl ?_;obtain⟨r8,h7,hF⟩:=J hF;refine Wo.x (dh rfl rfl (fun m hm=>nF n x1 x2 x3 x4  _ h7 m) fun _=>rfl) gn rfl ?_;rintro⟨⟩;refine Wo.od (aj rfl) rfl<|Wo.nil<|At.tn<|Wk.ret ?_;have hr:=Option.some.inj hF;subst r;exact At.ret (.tmp rfl .nil) fun m' hm=>⟨(),rfl,(aa.U [] rfl rfl) m' hm⟩
end Go.Proofs.YthmekkhpddehjaaGreat.W51
end

section
namespace Go.Ab
open Go
end Go.Ab
end

section
namespace Go.Ab.W
open Go Go.Ab
section
variable {σ ρ τ : Type}
end
end Go.Ab.W
end

section
namespace Go.Ab.B
open Go Go.Ab Go.Ab.W
section
variable {α β σ ρ : Type}
theorem jr (a b:Option β):br true a b=a:=rfl
theorem ey (a b:Option β):br false a b=b:=rfl
theorem bA (a:Option β):gd true a=a:=rfl
theorem au (x:α) (f:α→Option β):ob (some x) f=f x:=rfl
theorem bj {p:Prop} [Decidable p] (h:p) (a b:Option β):br (decide p) a b=a:=by rw[decide_eq_true h]; rfl
theorem bl {p:Prop} [Decidable p] (h:¬p) (a b:Option β):br (decide p) a b=b:=by rw[decide_eq_false h]; rfl
theorem yF (c:Bool) (a b:Option β):br c a b=if c then a else b:=by cases c<;>rfl
theorem yQ (c d:Bool):br c (some true) (some d)=some (c || d):=by cases c<;>rfl
theorem hZ (c d:Bool):br c (some d) (some false)=some (c && d):=by cases c<;>rfl
theorem vS {p:Prop} [Decidable p] (h:p) (a:Option β):gd (decide p) a=a:=by rw[decide_eq_true h]; rfl
theorem aX {i n:Nat} (h:i<n):bX (i:Int) n=true:=decide_eq_true ⟨Int.natCast_nonneg i,by simpa using h⟩
theorem aG {x:Int} (h1 : -9223372036854775808≤x) (h2:x<9223372036854775808):IntKind.wrap .i64 x=x:=wrap_i64 x h1 (by omega)
theorem aY {i:Nat} (h:i<4611686018427387904):IntKind.wrap .i64 ((i:Int)+1)=((i+1:Nat):Int):=by rw[aG (by omega) (by omega)]; rfl
theorem cZ {body:σ→Option (σ ⊕ ρ)} {n:Nat} {s s':σ} (h:body s=some (.inl s')):cy body (n+1) s=cy body n s':=by simp only[cy,h]
theorem dy {body:σ→Option (σ ⊕ ρ)} {n:Nat} {s:σ} {r:ρ} (h:body s=some (.inr r)):cy body (n+1) s=some r:=by simp only[cy,h]
end
theorem fP {u v B C:Int} (_:0≤B) (hu1 : -B≤u) (hu2:u≤B) (hv1 : -C≤v) (hv2:v≤C) : -(B*C)≤u*v∧u*v≤B*C:=by
 have hC:0≤C:=by omega
 have h1:0≤(B-u)*(C-v):=Int.mul_nonneg (by omega) (by omega)
 have h2:0≤(B+u)*(C+v):=Int.mul_nonneg (by omega) (by omega)
 have h3:0≤(B-u)*(C+v):=Int.mul_nonneg (by omega) (by omega)
 have h4:0≤(B+u)*(C-v):=Int.mul_nonneg (by omega) (by omega)
 have e1:(B-u)*(C-v)=B*C-B*v-u*C+u*v:=by rw[Int.sub_mul,Int.mul_sub,Int.mul_sub]; omega
 have e2:(B+u)*(C+v)=B*C+B*v+u*C+u*v:=by rw[Int.add_mul,Int.mul_add,Int.mul_add]; omega
 have e3:(B-u)*(C+v)=B*C+B*v-u*C-u*v:=by rw[Int.sub_mul,Int.mul_add,Int.mul_add]; omega
 have e4:(B+u)*(C-v)=B*C-B*v+u*C-u*v:=by rw[Int.add_mul,Int.mul_sub,Int.mul_sub]; omega
 omega
theorem kW {α:Type} [DecidableEq α]:∀{l m:List α},l.Nodup→(∀a ∈ l,a ∈ m)→l.length≤m.length
 | [],_,_,_=>Nat.zero_le _
 | a::l,m,hn,hs=>by
  obtain⟨n1,n2⟩:=List.nodup_cons.1 hn;have ha:=hs a List.mem_cons_self;have:=kW (l:=l) (m:=m.erase a) n2 fun b hb=>by
   have hne:b≠a:=fun e=>n1 (e ▸ hb);exact(List.mem_erase_of_ne hne).2 (hs b (List.mem_cons_of_mem _ hb))
  rw[List.length_erase_of_mem ha] at this;have hp:0<m.length:=List.length_pos_of_mem ha;rw[List.length_cons]; omega
end Go.Ab.B
end

section
namespace Jd
abbrev P2:=Rat × Rat
def tn (a b c:P2):Rat:=(b.1-a.1)*(c.2-a.2)-(b.2-a.2)*(c.1-a.1)
def af (α β γ:Rat) (x:P2):Rat:=α*x.1+β*x.2+γ
def Sep (a b p q:P2):Prop:=∃α β γ,0<af α β γ a∧0<af α β γ b∧af α β γ p<0∧af α β γ q<0
theorem Sep.ab {a b p q:P2} (h:Sep a b p q):Sep b a p q:=let ⟨α,β,γ,h1,h2,h3,h4⟩:=h; ⟨α,β,γ,h2,h1,h3,h4⟩
theorem Sep.pq {a b p q:P2} (h:Sep a b p q):Sep a b q p:=let ⟨α,β,γ,h1,h2,h3,h4⟩:=h; ⟨α,β,γ,h1,h2,h4,h3⟩
theorem bS {x y:Rat} (hx:0≤x) (hy:0≤y):0≤x*y:=Rat.mul_nonneg hx hy
theorem bf {x y:Rat} (hx:0<x) (hy:0<y):0<x*y:=Rat.mul_pos hx hy
theorem df {x y:Rat} (hx:0≤x) (hy:y≤0):x*y≤0:=by
 have:=bS hx (show(0:Rat)≤-y by grind)
 grind
theorem dF {x y:Rat} (hx:0<x) (hy:y<0):x*y<0:=by
 have:=bf hx (show(0:Rat) < -y by grind)
 grind
theorem kJ (a b p:P2):tn b a p = -tn a b p:=by unfold tn; grind
def we (a b p:P2):Int:=if a.2≤p.2∧p.2<b.2∧0<tn a b p then 1 else if b.2≤p.2∧p.2<a.2∧tn a b p<0 then -1 else 0
theorem mq {a b p:P2} (h1:a.2≤p.2) (h2:p.2<b.2):we a b p=if 0<tn a b p then 1 else 0:=by
 unfold we
 by_cases h:0<tn a b p
 ·rw[if_pos ⟨h1,h2,h⟩,if_pos h]
 ·rw[if_neg (fun e=>h e.2.2),if_neg (fun e=>by grind),if_neg h]
theorem eu {a b p:P2} (h1:¬(a.2≤p.2∧p.2<b.2)) (h2:¬(b.2≤p.2∧p.2<a.2)):we a b p=0:=by
 unfold we;rw[if_neg (fun e=>h1 ⟨e.1,e.2.1⟩),if_neg (fun e=>h2 ⟨e.1,e.2.1⟩)]
theorem nb (a b p:P2):we b a p = -we a b p:=by
 have h:=kJ a b p;unfold we
 by_cases h1:a.2≤p.2∧p.2<b.2∧0<tn a b p
 ·rw[if_pos h1,if_neg (fun e=>by grind),if_pos ⟨h1.1,h1.2.1,by grind⟩]
 ·by_cases h2:b.2≤p.2∧p.2<a.2∧tn a b p<0
  ·rw[if_neg h1,if_pos h2,if_pos ⟨h2.1,h2.2.1,by grind⟩]; rfl
  ·rw[if_neg h1,if_neg h2,if_neg (fun e=>h2 ⟨e.1,e.2.1,by grind⟩),if_neg (fun e=>h1 ⟨e.1,e.2.1,by grind⟩)]; rfl
def fz (p q v:P2):Int:=if p.2<v.2∧v.2≤q.2∧tn p q v<0 then 1 else 0
theorem gm {p q v:P2} (h:¬(p.2<v.2∧v.2≤q.2)):fz p q v=0:=if_neg fun e=>h ⟨e.1,e.2.1⟩
theorem oC {p q v:P2} (h1:p.2<v.2) (h2:v.2≤q.2):fz p q v=if tn p q v<0 then 1 else 0:=by
 unfold fz
 by_cases h:tn p q v<0
 ·rw[if_pos ⟨h1,h2,h⟩,if_pos h]
 ·rw[if_neg (fun e=>h e.2.2),if_neg h]
section
variable {a b p q : P2}
theorem Dl (α β γ:Rat):tn p q b*af α β γ a-tn p q a*af α β γ b=tn a b p*af α β γ q-tn a b q*af α β γ p:=by
 unfold tn af; grind
theorem zY (h:Sep a b p q) (h1:0≤tn p q b) (h2:tn p q a≤0) (h3:0≤tn a b p) (h4:tn a b q≤0) (h5:0<tn a b p∨tn a b q<0∨0<tn p q b∨tn p q a<0):False:=by
 obtain⟨α,β,γ,g1,g2,g3,g4⟩:=h;have e:=Dl (a:=a) (b:=b) (p:=p) (q:=q) α β γ;generalize af α β γ a=A at *;generalize af α β γ b=B at *;generalize af α β γ p=C at *;generalize af α β γ q=D at *;generalize tn p q b=Tb at *;generalize tn p q a=Ta at *;generalize tn a b p=Up at *;generalize tn a b q=Uq at *;have k1:0≤Tb*A:=bS h1 (by grind)
 have k2:0≤(-Ta)*B:=bS (by grind) (by grind)
 have k3:0≤Up*(-D):=bS h3 (by grind)
 have k4:0≤(-Uq)*(-C):=bS (by grind) (by grind)
 rcases h5 with h|h|h|h
 ·have:0<Up*(-D):=bf h (by grind)
  grind
 ·have:0<(-Uq)*(-C):=bf (by grind) (by grind)
  grind
 ·have:0<Tb*A:=bf h g1
  grind
 ·have:0<(-Ta)*B:=bf (by grind) g2
  grind
theorem vW (h:Sep a b p q) (h1:tn p q b≤0) (h2:0≤tn p q a) (h3:tn a b p≤0) (h4:0≤tn a b q) (h5:tn a b p<0∨0<tn a b q∨tn p q b<0∨0<tn p q a):False:=by
 have e1:=kJ a b p;have e2:=kJ a b q;exact zY h.ab (a:=b) (b:=a) h2 h1 (by grind) (by grind) (by grind)
theorem i1:(p.2-a.2)*tn p q b+(b.2-p.2)*tn p q a = -((q.2-p.2)*tn a b p):=by unfold tn; grind
theorem i2:(b.2-p.2)*tn a b q+(q.2-b.2)*tn a b p = -((b.2-a.2)*tn p q b):=by unfold tn; grind
theorem i3:(q.2-a.2)*tn p q b+(b.2-q.2)*tn p q a = -((q.2-p.2)*tn a b q):=by unfold tn; grind
theorem i4:(a.2-p.2)*tn a b q+(q.2-a.2)*tn a b p = -((b.2-a.2)*tn p q a):=by unfold tn; grind
theorem i5:tn a b q-tn a b p=tn p q a-tn p q b:=by unfold tn; grind
theorem Dg (h:Sep a b p q) (h1:a.2≤p.2) (h2:p.2<b.2) (h3:b.2≤q.2):0<tn a b p↔tn p q b<0:=by
 have e1:=i1 (a:=a) (b:=b) (p:=p) (q:=q);have e2:=i2 (a:=a) (b:=b) (p:=p) (q:=q);have K:=zY h;have K':=vW h;clear h;generalize tn p q b=Tb at *;generalize tn p q a=Ta at *;generalize tn a b p=Up at *;generalize tn a b q=Uq at *;have d1:0≤p.2-a.2:=by grind
 have d2:0<b.2-p.2:=by grind
 have d3:0<q.2-p.2:=by grind
 have d4:0≤q.2-b.2:=by grind
 have d5:0<b.2-a.2:=by grind
 generalize p.2-a.2=x1 at *;generalize b.2-p.2=x2 at *;generalize q.2-p.2=x3 at *;generalize q.2-b.2=x4 at *;generalize b.2-a.2=x5 at *;constructor
 ·intro hu;refine Decidable.byContradiction fun ht=>?_;have ht:0≤Tb:=by grind
  have m1:=bS d1 ht;have m2:=bf d3 hu;have ta:Ta≤0:=by
   refine Decidable.byContradiction fun hc=>?_;have:=bf d2 (show 0<Ta by grind)
   grind
  have uq:Uq≤0:=by
   refine Decidable.byContradiction fun hc=>?_;have m3:=bf d2 (show 0<Uq by grind)
   have m4:=bS d4 (show 0≤Up by grind)
   have m5:=bS (show 0≤x5 by grind) ht
   grind
  exact K ht ta (by grind) uq (.inl hu)
 ·intro ht;refine Decidable.byContradiction fun hu=>?_;have hu:Up≤0:=by grind
  have m1:=df d1 (show Tb≤0 by grind)
  have m2:=df (show 0≤x3 by grind) hu
  have ta:0≤Ta:=by
   refine Decidable.byContradiction fun hc=>?_;have:=dF d2 (show Ta<0 by grind)
   grind
  have uq:0≤Uq:=by
   refine Decidable.byContradiction fun hc=>?_;have m3:=dF d2 (show Uq<0 by grind)
   have m4:=df d4 hu;have m5:=dF d5 ht
   grind
  exact K' (by grind) ta hu uq (.inr (.inr (.inl ht)))
theorem Db (h:Sep a b p q) (h1:p.2<a.2) (h2:a.2≤q.2) (h3:q.2<b.2):0<tn a b q↔tn p q a<0:=by
 have e3:=i3 (a:=a) (b:=b) (p:=p) (q:=q);have e4:=i4 (a:=a) (b:=b) (p:=p) (q:=q);have K:=zY h;have K':=vW h;clear h;generalize tn p q b=Tb at *;generalize tn p q a=Ta at *;generalize tn a b p=Up at *;generalize tn a b q=Uq at *;have d1:0≤q.2-a.2:=by grind
 have d2:0<b.2-q.2:=by grind
 have d3:0<q.2-p.2:=by grind
 have d4:0<a.2-p.2:=by grind
 have d5:0<b.2-a.2:=by grind
 generalize q.2-a.2=x1 at *;generalize b.2-q.2=x2 at *;generalize q.2-p.2=x3 at *;generalize a.2-p.2=x4 at *;generalize b.2-a.2=x5 at *;constructor
 ·intro hu;refine Decidable.byContradiction fun ht=>?_;have ht:0≤Ta:=by grind
  have m1:=bS (show 0≤x2 by grind) ht
  have m2:=bf d3 hu;have tb:Tb≤0:=by
   refine Decidable.byContradiction fun hc=>?_;have:=bS d1 (show 0≤Tb by grind)
   grind
  have up:Up≤0:=by
   refine Decidable.byContradiction fun hc=>?_;have m3:=bf d4 hu;have m4:=bS d1 (show 0≤Up by grind)
   have m5:=bS (show 0≤x5 by grind) ht
   grind
  exact K' tb ht up (by grind) (.inr (.inl hu))
 ·intro ht;refine Decidable.byContradiction fun hu=>?_;have hu:Uq≤0:=by grind
  have m2:=df (show 0≤x3 by grind) hu
  have m1:=dF d2 ht;have tb:0≤Tb:=by
   refine Decidable.byContradiction fun hc=>?_;have:=df d1 (show Tb≤0 by grind)
   grind
  have up:0≤Up:=by
   refine Decidable.byContradiction fun hc=>?_;have m3:=df (show 0≤x4 by grind) hu
   have m4:=df d1 (show Up≤0 by grind)
   have m5:=dF d5 ht
   grind
  exact K tb (by grind) up hu (.inr (.inr (.inr ht)))
theorem F3 (h:Sep a b p q) (h1:a.2≤p.2) (h2:p.2≤q.2) (h3:q.2<b.2):0<tn a b p↔0<tn a b q:=by
 have e1:=i1 (a:=a) (b:=b) (p:=p) (q:=q);have e3:=i3 (a:=a) (b:=b) (p:=p) (q:=q);have e5:=i5 (a:=a) (b:=b) (p:=p) (q:=q);have K:=zY h;have K':=vW h;clear h;generalize tn p q b=Tb at *;generalize tn p q a=Ta at *;generalize tn a b p=Up at *;generalize tn a b q=Uq at *;have d1:0≤p.2-a.2:=by grind
 have d2:0<b.2-p.2:=by grind
 have d3:0≤q.2-p.2:=by grind
 have d4:0≤q.2-a.2:=by grind
 have d5:0<b.2-q.2:=by grind
 generalize p.2-a.2=x1 at *;generalize b.2-p.2=x2 at *;generalize q.2-p.2=x3 at *;generalize q.2-a.2=x4 at *;generalize b.2-q.2=x5 at *;constructor
 ·intro hu;refine Decidable.byContradiction fun hc=>?_;have hc:Uq≤0:=by grind
  have ta:Ta≤0:=by
   refine Decidable.byContradiction fun ht=>?_;have m1:=bS d1 (show 0≤Tb by grind)
   have m2:=bf d2 (show 0<Ta by grind)
   have m3:=bS d3 (show 0≤Up by grind)
   grind
  have tb:0≤Tb:=by
   refine Decidable.byContradiction fun ht=>?_;have m1:=df d4 (show Tb≤0 by grind)
   have m2:=dF d5 (show Ta<0 by grind)
   have m3:=df d3 hc
   grind
  exact K tb ta (by grind) hc (.inl hu)
 ·intro hu;refine Decidable.byContradiction fun hc=>?_;have hc:Up≤0:=by grind
  have ta:0≤Ta:=by
   refine Decidable.byContradiction fun ht=>?_;have m1:=df d1 (show Tb≤0 by grind)
   have m2:=dF d2 (show Ta<0 by grind)
   have m3:=df d3 hc
   grind
  have tb:Tb≤0:=by
   refine Decidable.byContradiction fun ht=>?_;have m1:=bS d4 (show 0≤Tb by grind)
   have m2:=bf d5 (show 0<Ta by grind)
   have m3:=bS d3 (show 0≤Uq by grind)
   grind
  exact K' tb ta hc (by grind) (.inr (.inl hu))
theorem BA (h:Sep a b p q) (h0:a.2≤b.2) (h1:p.2<a.2) (h2:b.2≤q.2):tn p q a<0↔tn p q b<0:=by
 have e2:=i2 (a:=a) (b:=b) (p:=p) (q:=q);have e4:=i4 (a:=a) (b:=b) (p:=p) (q:=q);have e5:=i5 (a:=a) (b:=b) (p:=p) (q:=q);have K:=zY h;have K':=vW h;clear h;generalize tn p q b=Tb at *;generalize tn p q a=Ta at *;generalize tn a b p=Up at *;generalize tn a b q=Uq at *;have d1:0<b.2-p.2:=by grind
 have d2:0≤q.2-b.2:=by grind
 have d3:0≤b.2-a.2:=by grind
 have d4:0<a.2-p.2:=by grind
 have d5:0≤q.2-a.2:=by grind
 generalize b.2-p.2=x1 at *;generalize q.2-b.2=x2 at *;generalize b.2-a.2=x3 at *;generalize a.2-p.2=x4 at *;generalize q.2-a.2=x5 at *;constructor
 ·intro ha;refine Decidable.byContradiction fun hb=>?_;have hb:0≤Tb:=by grind
  have uq:Uq≤0:=by
   refine Decidable.byContradiction fun hc=>?_;have m1:=bf d1 (show 0<Uq by grind)
   have m2:=bS d2 (show 0≤Up by grind)
   have m3:=bS d3 hb
   grind
  have up:0≤Up:=by
   refine Decidable.byContradiction fun hc=>?_;have m1:=dF d4 (show Uq<0 by grind)
   have m2:=df d5 (show Up≤0 by grind)
   have m3:=df d3 (show Ta≤0 by grind)
   grind
  exact K hb (by grind) up uq (.inr (.inr (.inr ha)))
 ·intro hb;refine Decidable.byContradiction fun ha=>?_;have ha:0≤Ta:=by grind
  have uq:0≤Uq:=by
   refine Decidable.byContradiction fun hc=>?_;have m1:=dF d1 (show Uq<0 by grind)
   have m2:=df d2 (show Up≤0 by grind)
   have m3:=df d3 (show Tb≤0 by grind)
   grind
  have up:Up≤0:=by
   refine Decidable.byContradiction fun hc=>?_;have m1:=bf d4 (show 0<Uq by grind)
   have m2:=bS d5 (show 0≤Up by grind)
   have m3:=bS d3 ha
   grind
  exact K' (by grind) ha up uq (.inr (.inr (.inl hb)))
theorem mW {c d:Prop} [Decidable c] [Decidable d] (h:c↔d):(if c then(1:Int) else 0)=if d then 1 else 0:=by
 by_cases hc:c
 ·rw[if_pos hc,if_pos (h.1 hc)]
 ·rw[if_neg hc,if_neg (fun e=>hc (h.2 e))]
theorem Ap (h:Sep a b p q) (hpq:p.2≤q.2) (hab:a.2≤b.2):we a b p-we a b q=fz p q b-fz p q a:=by
 by_cases ha:a.2≤p.2
 ·rw[gm (v:=a) (by grind)]
  by_cases hb:b.2≤p.2
  ·rw[gm (v:=b) (by grind),eu (by grind) (by grind),eu (by grind) (by grind)]
  ·by_cases hb2:b.2≤q.2
   ·rw[oC (by grind) hb2,mq ha (by grind),eu (p:=q) (by grind) (by grind),mW (Dg h ha (by grind) hb2)]
   ·rw[gm (v:=b) (by grind),mq ha (by grind),mq (p:=q) (by grind) (by grind),mW (F3 h ha hpq (by grind))]
    omega
 ·rw[eu (p:=p) (by grind) (by grind)]
  by_cases ha2:a.2≤q.2
  ·rw[oC (v:=a) (by grind) ha2]
   by_cases hb2:b.2≤q.2
   ·rw[oC (v:=b) (by grind) hb2,eu (p:=q) (by grind) (by grind),mW (BA h hab (by grind) hb2)]
    omega
   ·rw[gm (v:=b) (by grind),mq (p:=q) ha2 (by grind),mW (Db h (by grind) ha2 (by grind))]
  ·rw[gm (v:=a) (by grind),gm (v:=b) (by grind),eu (p:=q) (by grind) (by grind)]
theorem zo (h:Sep a b p q) (hpq:p.2≤q.2):we a b p-we a b q=fz p q b-fz p q a:=by
 by_cases hab:a.2≤b.2
 ·exact Ap h hpq hab
 ·have:=Ap h.ab hpq (by grind)
  rw[nb b a p,nb b a q];omega
end
def cp:Nat→(Nat→Int)→Int
 | 0,_=>0
 | n+1,f=>cp n f+f n
theorem oN {n:Nat} {f g:Nat→Int} (h:∀i,i<n→f i=g i):cp n f=cp n g:=by
 induction n with
 | zero=>rfl
 | succ n ih=>simp only[cp]; rw[ih fun i hi=>h i (by omega),h n (by omega)]
theorem td (n:Nat) (f g:Nat→Int):cp n (fun i=>f i-g i)=cp n f-cp n g:=by
 induction n with
 | zero=>rfl
 | succ n ih=>simp only[cp]; rw[ih]; omega
theorem nO (n:Nat) (f:Nat→Int):cp n (fun i=>f (i+1)-f i)=f n-f 0:=by
 induction n with
 | zero=>simp[cp]
 | succ n ih=>simp only[cp]; rw[ih]; omega
theorem lA {n:Nat} {f:Nat→Int} (h:∀i,i<n→f i=0):cp n f=0:=by
 induction n with
 | zero=>rfl
 | succ n ih=>simp only[cp]; rw[ih fun i hi=>h i (by omega),h n (by omega)]; rfl
theorem AM {n k:Nat} {f:Nat→Int} (hk:k<n) (h:∀i,i<n→i≠k→f i=0):cp n f=f k:=by
 induction n with
 | zero=>omega
 | succ n ih =>
  simp only[cp]
  by_cases e:k=n
  ·subst e;rw[lA fun i hi=>h i (by omega) (by omega)]; omega
  ·rw[ih (by omega) (fun i hi hn=>h i (by omega) hn),h n (by omega) (by omega)]; omega
def cv (u w:P2) (t:Rat):P2:=(u.1+t*(w.1-u.1),u.2+t*(w.2-u.2))
def sm (p d:P2) (x:Rat):P2:=(p.1+x*d.1,p.2+x*d.2)
def cr (u w d:P2):Rat:=(w.1-u.1)*d.2-(w.2-u.2)*d.1
def dt (u w x:P2):Rat:=(w.1-u.1)*(x.1-w.1)+(w.2-u.2)*(x.2-w.2)
theorem dQ {A B:Rat} (ha:0<A) (hb:0<B):∃k:Rat,0<k∧k<A∧k<B:=by
 by_cases h:A≤B
 ·exact⟨A/2,by grind,by grind,by grind⟩
 ·exact⟨B/2,by grind,by grind,by grind⟩
theorem tK {a b p q:P2} (α β γ:Rat) (h1:0≤af α β γ a) (h2:0≤af α β γ b) (h3:af α β γ p<0) (h4:af α β γ q<0):Sep a b p q:=by
 obtain⟨k,k1,k2,k3⟩:=dQ (show 0 < -af α β γ p by grind) (show 0 < -af α β γ q by grind)
 refine⟨α,β,γ+k,?_,?_,?_,?_⟩<;>(unfold af at *; grind)
theorem B2 {a b u w:P2} (h:Sep a b u w) {t s:Rat} (t0:0≤t) (t1:t≤1) (s0:0≤s) (s1:s≤1):Sep a b (cv u w t) (cv u w s):=by
 obtain⟨α,β,γ,h1,h2,h3,h4⟩:=h;have key:∀t:Rat,0≤t→t≤1→af α β γ (cv u w t)<0:=by
  intro t t0 t1;have e:af α β γ (cv u w t)=(1-t)*af α β γ u+t*af α β γ w:=by unfold af cv; grind
  rw[e];have m1:=df (show 0≤1-t by grind) (show af α β γ u≤0 by grind)
  have m2:=df t0 (show af α β γ w≤0 by grind)
  by_cases ht:0<t
  ·have:=dF ht h4
   grind
  ·have:=dF (show 0<1-t by grind) h3
   grind
 exact⟨α,β,γ,h1,h2,key t t0 t1,key s s0 s1⟩
theorem sq_pos {x:Rat} (h:x≠0):0<x*x:=by
 by_cases hx:0<x
 ·exact bf hx hx
 ·have:=bf (show 0 < -x by grind) (show 0 < -x by grind)
  grind
theorem wh (x:Rat):0≤x*x:=by
 by_cases hx:0≤x
 ·exact bS hx hx
 ·have:=bS (show 0≤-x by grind) (show 0≤-x by grind)
  grind
theorem qH {u w:P2} (h:u≠w):0<(w.1-u.1)*(w.1-u.1)+(w.2-u.2)*(w.2-u.2):=by
 have n1:=wh (w.1-u.1);have n2:=wh (w.2-u.2)
 by_cases h1:w.1-u.1=0
 ·have h2:w.2-u.2≠0:=fun e=>h (Prod.ext (by grind) (by grind))
  have:=sq_pos h2
  grind
 ·have:=sq_pos h1
  grind
theorem AG {u w x:P2} (hne:u≠w) (hc:tn u w x≠0∨0<dt u w x) {t s:Rat} (t1:t<1) (s1:s<1):Sep w x (cv u w t) (cv u w s):=by
 have e:∀t:Rat,af (-(x.2-w.2)) (x.1-w.1) ((x.2-w.2)*w.1-(x.1-w.1)*w.2) (cv u w t)=(1-t)*tn u w x:=fun t=>by unfold af cv tn; grind
 have f:∀t:Rat,af (x.2-w.2) (-(x.1-w.1)) (-((x.2-w.2)*w.1-(x.1-w.1)*w.2)) (cv u w t) = -((1-t)*tn u w x):=fun t=>by unfold af cv tn; grind
 have g:∀t:Rat,af (w.1-u.1) (w.2-u.2) (-((w.1-u.1)*w.1+(w.2-u.2)*w.2)) (cv u w t) = -((1-t)*((w.1-u.1)*(w.1-u.1)+(w.2-u.2)*(w.2-u.2))):=fun t=>by unfold af cv; grind
 by_cases h0:tn u w x=0
 ·have hd:0<dt u w x:=hc.resolve_left fun h=>h h0;have hl:=qH hne;refine tK (w.1-u.1) (w.2-u.2) (-((w.1-u.1)*w.1+(w.2-u.2)*w.2)) ?_ ?_ ?_ ?_
  ·unfold af; grind
  ·unfold dt at hd; unfold af; grind
  ·rw[g]; have:=bf (show 0<1-t by grind) hl; grind
  ·rw[g]; have:=bf (show 0<1-s by grind) hl; grind
 ·by_cases hp:0<tn u w x
  ·refine tK (x.2-w.2) (-(x.1-w.1)) (-((x.2-w.2)*w.1-(x.1-w.1)*w.2)) ?_ ?_ ?_ ?_
   ·unfold af; grind
   ·unfold af; grind
   ·rw[f]; have:=bf (show 0<1-t by grind) hp; grind
   ·rw[f]; have:=bf (show 0<1-s by grind) hp; grind
  ·have hm:tn u w x<0:=by grind
   refine tK (-(x.2-w.2)) (x.1-w.1) ((x.2-w.2)*w.1-(x.1-w.1)*w.2) ?_ ?_ ?_ ?_
   ·unfold af; grind
   ·unfold af; grind
   ·rw[e]; exact dF (show 0<1-t by grind) hm
   ·rw[e]; exact dF (show 0<1-s by grind) hm
theorem AK {x u w:P2} (hc:tn x u w≠0∨0<dt x u w) {t s:Rat} (t0:0<t) (s0:0<s):Sep x u (cv u w t) (cv u w s):=by
 have e:∀t:Rat,af (-(u.2-x.2)) (u.1-x.1) ((u.2-x.2)*x.1-(u.1-x.1)*x.2) (cv u w t)=t*tn x u w:=fun t=>by unfold af cv tn; grind
 have f:∀t:Rat,af (u.2-x.2) (-(u.1-x.1)) (-((u.2-x.2)*x.1-(u.1-x.1)*x.2)) (cv u w t) = -(t*tn x u w):=fun t=>by unfold af cv tn; grind
 have g:∀t:Rat,af (-(u.1-x.1)) (-(u.2-x.2)) ((u.1-x.1)*u.1+(u.2-x.2)*u.2) (cv u w t) = -(t*dt x u w):=fun t=>by unfold af cv dt; grind
 by_cases h0:tn x u w=0
 ·have hd:0<dt x u w:=hc.resolve_left fun h=>h h0;have n1:=wh (u.1-x.1);have n2:=wh (u.2-x.2);refine tK (-(u.1-x.1)) (-(u.2-x.2)) ((u.1-x.1)*u.1+(u.2-x.2)*u.2) ?_ ?_ ?_ ?_
  ·unfold af; grind
  ·unfold af; grind
  ·rw[g]; have:=bf t0 hd; grind
  ·rw[g]; have:=bf s0 hd; grind
 ·by_cases hp:0<tn x u w
  ·refine tK (u.2-x.2) (-(u.1-x.1)) (-((u.2-x.2)*x.1-(u.1-x.1)*x.2)) ?_ ?_ ?_ ?_
   ·unfold af; grind
   ·unfold af; grind
   ·rw[f]; have:=bf t0 hp; grind
   ·rw[f]; have:=bf s0 hp; grind
  ·have hm:tn x u w<0:=by grind
   refine tK (-(u.2-x.2)) (u.1-x.1) ((u.2-x.2)*x.1-(u.1-x.1)*x.2) ?_ ?_ ?_ ?_
   ·unfold af; grind
   ·unfold af; grind
   ·rw[e]; exact dF t0 hm
   ·rw[e]; exact dF s0 hm
def Ev (P:Rat→Rat→Prop):Prop:=∃e:Rat,0<e∧∀x y,0<x→x≤e→0<y→y≤e→P x y
theorem Ev.and {P Q:Rat→Rat→Prop} (h:Ev P) (g:Ev Q):Ev fun x y=>P x y∧Q x y:=by
 obtain⟨e,e0,h⟩:=h;obtain⟨f,f0,g⟩:=g
 by_cases hl:e≤f
 ·exact⟨e,e0,fun x y a b c d=>⟨h x y a b c d,g x y a (by grind) c (by grind)⟩⟩
 ·exact⟨f,f0,fun x y a b c d=>⟨h x y a (by grind) c (by grind),g x y a b c d⟩⟩
theorem Ev.mono {P Q:Rat→Rat→Prop} (h:Ev P) (g:∀x y,0<x→0<y→P x y→Q x y):Ev Q :=
 let ⟨e,e0,h⟩:=h
 ⟨e,e0,fun x y a b c d=>g x y a c (h x y a b c d)⟩
theorem Ev.of {P:Rat→Rat→Prop} (h:∀x y,0<x→0<y→P x y):Ev P:=⟨1,by grind,fun x y a _ c _=>h x y a c⟩
theorem Ev.all {P:Nat→Rat→Rat→Prop}:∀{n:Nat},(∀i,i<n→Ev (P i))→Ev fun x y=>∀i,i<n→P i x y
 | 0,_=>Ev.of fun _ _ _ _ i hi=>by omega
 | n+1,h=>by
  have h1:=Ev.all (P:=P) (n:=n) fun i hi=>h i (by omega)
  refine(h1.and (h n (by omega))).mono fun x y _ _ g i hi=>?_
  by_cases e:i=n
  ·subst e; exact g.2
  ·exact g.1 i (by omega)
theorem zU {A:Rat} (h:A<0) (B:Rat):∃e:Rat,0<e∧∀x,0<x→x≤e→A+x*B<0:=by
 by_cases hb:B≤0
 ·exact⟨1,by grind,fun x hx _=>by have:=df (show 0≤x by grind) hb; grind⟩
 ·have hb0:B≠0:=by grind
  have hi:B*B⁻¹=1:=Rat.mul_inv_cancel B hb0;have e1:(-A/2*B⁻¹)*B = -A/2:=by grind
  have hpos:0 < -A/2*B⁻¹:=by
   refine Decidable.byContradiction fun hc=>?_;have:=bS (show 0≤-(-A/2*B⁻¹) by grind) (show 0≤B by grind)
   grind
  refine⟨-A/2*B⁻¹,hpos,fun x hx hl=>?_⟩;have:=bS (show 0≤-A/2*B⁻¹-x by grind) (show 0≤B by grind)
  grind
theorem q9 {a b p q:P2} (h:Sep a b p q) (d d':P2):Ev fun x y=>Sep a b (sm p d x) (sm q d' y):=by
 obtain⟨α,β,γ,h1,h2,h3,h4⟩:=h;obtain⟨e,e0,he⟩:=zU h3 (α*d.1+β*d.2);obtain⟨f,f0,hf⟩:=zU h4 (α*d'.1+β*d'.2);have k1:∀x,af α β γ (sm p d x)=af α β γ p+x*(α*d.1+β*d.2):=fun x=>by unfold af sm; grind
 have k2:∀x,af α β γ (sm q d' x)=af α β γ q+x*(α*d'.1+β*d'.2):=fun x=>by unfold af sm; grind
 obtain⟨g,g0,ge,gf⟩:=dQ e0 f0;exact⟨g,g0,fun x y x0 xg y0 yg=>⟨α,β,γ,h1,h2,by rw[k1]; exact he x x0 (by grind),by rw[k2]; exact hf y y0 (by grind)⟩⟩
structure Simple (n:Nat) (v:Nat→P2):Prop where
 n3:2<n
 cl:v n=v 0
 cl1:v (n+1)=v 1
 ne:∀i,i<n→v i≠v (i+1)
 gS:∀i,i<n→tn (v i) (v (i+1)) (v (i+2))≠0∨0<dt (v i) (v (i+1)) (v (i+2))
 sep:∀i j,i<n→j<n→i≠j→j≠i+1→i≠j+1→¬(i=0∧j+1=n)→¬(j=0∧i+1=n)→Sep (v i) (v (i+1)) (v j) (v (j+1))
def W (n:Nat) (v:Nat→P2) (p:P2):Int:=cp n fun i=>we (v i) (v (i+1)) p
section
variable {n : Nat} {v : Nat → P2}
theorem uA (hv:v n=v 0) (p q:P2):W n v p-W n v q=cp n fun i=>(we (v i) (v (i+1)) p-we (v i) (v (i+1)) q)-(fz p q (v (i+1))-fz p q (v i)):=by
 have h1:=td n (fun i=>we (v i) (v (i+1)) p-we (v i) (v (i+1)) q) (fun i=>fz p q (v (i+1))-fz p q (v i));have h2:=nO n fun i=>fz p q (v i);have h3:=td n (fun i=>we (v i) (v (i+1)) p) fun i=>we (v i) (v (i+1)) q;rw[hv] at h2;rw[h1,h2,h3];unfold W; omega
theorem tR (hv:v n=v 0) {p q:P2} (h:∀i,i<n→Sep (v i) (v (i+1)) p q):W n v p=W n v q:=by
 by_cases hl:p.2≤q.2
 ·have:=uA hv p q;rw[lA fun i hi=>by rw[zo (h i hi) hl]; omega] at this
  omega
 ·have:=uA hv q p;rw[lA fun i hi=>by rw[zo (h i hi).pq (by grind)]; omega] at this
  omega
theorem vq (hv:v n=v 0) {k:Nat} (hk:k<n) {p q:P2} (hl:p.2≤q.2) (h:∀i,i<n→i≠k→Sep (v i) (v (i+1)) p q) :
  W n v p-W n v q=(we (v k) (v (k+1)) p-we (v k) (v (k+1)) q)-(fz p q (v (k+1))-fz p q (v k)):=by
 rw[uA hv p q];exact AM hk fun i hi hn=>by rw[zo (h i hi hn) hl]; omega
theorem Simple.off (S:Simple n v) {i j:Nat} (hi:i<n) (hj:j<n) (hij:i≠j) {t s:Rat} (t0:0≤t) (t1:t≤1) (s0:0≤s) (s1:s≤1)
  (hn:j=i+1∨(i+1=n∧j=0)→t<1∧s<1) (hp:i=j+1∨(j+1=n∧i=0)→0<t∧0<s):Sep (v j) (v (j+1)) (cv (v i) (v (i+1)) t) (cv (v i) (v (i+1)) s):=by
 have hn3:=S.n3
 by_cases h1:j=i+1∨(i+1=n∧j=0)
 ·obtain⟨a,b⟩:=hn h1;have e:v j=v (i+1)∧v (j+1)=v (i+2):=by
   rcases h1 with rfl|⟨h,rfl⟩
   ·exact⟨rfl,rfl⟩
   ·have:i+2=n+1:=by omega
    rw[this,S.cl1,h,S.cl]; exact⟨rfl,rfl⟩
  rw[e.1,e.2];exact AG (S.ne i hi) (S.gS i hi) a b
 ·by_cases h2:i=j+1∨(j+1=n∧i=0)
  ·obtain⟨a,b⟩:=hp h2;have e:v (j+1)=v i∧v (j+2)=v (i+1):=by
    rcases h2 with rfl|⟨h,rfl⟩
    ·exact⟨rfl,rfl⟩
    ·have:j+2=n+1:=by omega
     rw[this,S.cl1,h,S.cl]; exact⟨rfl,rfl⟩
   have:=S.gS j hj;rw[e.1,e.2] at this;rw[e.1];exact AK this a b
  ·exact B2 (S.sep j i hj hi (by omega) (by omega) (by omega) (by omega) (by omega)) t0 t1 s0 s1
theorem jD (u w d:P2) (t x:Rat):tn u w (sm (cv u w t) d x)=x*cr u w d:=by unfold tn sm cv cr; grind
theorem iN {u w p q:P2} {σ:Rat} (h1:0 < σ*tn u w p) (h2:0 < σ*tn u w q):Sep u w p q:=by
 refine tK (σ*(w.2-u.2)) (-(σ*(w.1-u.1))) (-(σ*((w.2-u.2)*u.1-(w.1-u.1)*u.2))) ?_ ?_ ?_ ?_
 ·unfold af; grind
 ·unfold af; grind
 ·unfold tn at h1; unfold af; grind
 ·unfold tn at h2; unfold af; grind
theorem Simple.beside (S:Simple n v) {σ:Rat} {i:Nat} (hi:i<n) {t s:Rat} (t0:0<t) (t1:t<1) (s0:0<s) (s1:s<1) {d d':P2} (h:0 < σ*cr (v i) (v (i+1)) d) (h':0 < σ*cr (v i) (v (i+1)) d') :
  Ev fun x y=>W n v (sm (cv (v i) (v (i+1)) t) d x)=W n v (sm (cv (v i) (v (i+1)) s) d' y):=by
 have hE:Ev fun x y=>∀j,j<n→Sep (v j) (v (j+1)) (sm (cv (v i) (v (i+1)) t) d x) (sm (cv (v i) (v (i+1)) s) d' y):=by
  refine Ev.all fun j hj=>?_
  by_cases e:i=j
  ·subst e;refine Ev.of fun x y hx hy=>iN (σ:=σ) ?_ ?_
   ·rw[jD]; have:=bf hx h; grind
   ·rw[jD]; have:=bf hy h'; grind
  ·exact q9 (S.off hi hj e (by grind) (by grind) (by grind) (by grind) (fun _=>⟨t1,s1⟩) (fun _=>⟨t0,s0⟩)) d d'
 exact hE.mono fun x y _ _ h=>tR S.cl h
def HS (n:Nat) (v:Nat→P2) (σ:Rat) (i:Nat) (L:Int):Prop:=∀t d,0<t→t<1→0 < σ*cr (v i) (v (i+1)) d→∃e:Rat,0<e∧∀x,0<x→x≤e→W n v (sm (cv (v i) (v (i+1)) t) d x)=L
theorem Simple.hs (S:Simple n v) {σ:Rat} (hσ:σ≠0) {i:Nat} (hi:i<n):∃L,HS n v σ i L:=by
 have hl:=qH (S.ne i hi)
 let d0:P2:=(-(σ*((v (i+1)).2-(v i).2)),σ*((v (i+1)).1-(v i).1))
 have h0:0 < σ*cr (v i) (v (i+1)) d0:=by
  have:=bf (sq_pos hσ) hl;have e:σ*cr (v i) (v (i+1)) d0=σ*σ*(((v (i+1)).1-(v i).1)*((v (i+1)).1-(v i).1)+((v (i+1)).2-(v i).2)*((v (i+1)).2-(v i).2)):=by
   show σ*(((v (i+1)).1-(v i).1)*(σ*((v (i+1)).1-(v i).1))-((v (i+1)).2-(v i).2)*(-(σ*((v (i+1)).2-(v i).2))))=_
   grind
  rw[e]; exact this
 obtain⟨e,e0,he⟩:=S.beside (σ:=σ) hi (t:=1/2) (s:=1/2) (by grind) (by grind) (by grind) (by grind) h0 h0
 refine⟨W n v (sm (cv (v i) (v (i+1)) (1/2)) d0 e),fun t d t0 t1 hd=>?_⟩;obtain⟨f,f0,hf⟩:=S.beside (σ:=σ) hi (t:=t) (s:=1/2) t0 t1 (by grind) (by grind) hd h0
 obtain⟨g,g0,ge,gf⟩:=dQ e0 f0;refine⟨f,f0,fun x x0 x1=>?_⟩;rw[hf x g x0 x1 g0 (by grind),he g e g0 (by grind) e0 (by grind)]
theorem HS.inj {σ:Rat} {i:Nat} {L L':Int} (h:HS n v σ i L) (h':HS n v σ i L') (hd:∃d,0 < σ*cr (v i) (v (i+1)) d):L=L':=by
 obtain⟨d,hd⟩:=hd;obtain⟨e,e0,he⟩:=h (1/2) d (by grind) (by grind) hd
 obtain⟨f,f0,hf⟩:=h' (1/2) d (by grind) (by grind) hd
 obtain⟨g,g0,ge,gf⟩:=dQ e0 f0;rw[←he g g0 (by grind),hf g g0 (by grind)]
theorem Simple.CS (S:Simple n v) {i:Nat} (hi:i<n) {L R:Int} (hL:HS n v 1 i L) (hR:HS n v (-1) i R):L=R+1:=by
 have hne:=S.ne i hi;have eoff:∀d d':P2,Ev fun x y=>∀j,j<n→j≠i→Sep (v j) (v (j+1)) (sm (cv (v i) (v (i+1)) (1/2)) d x) (sm (cv (v i) (v (i+1)) (1/2)) d' y):=fun d d' =>
  Ev.all (P:=fun j x y=>j≠i→Sep (v j) (v (j+1)) (sm (cv (v i) (v (i+1)) (1/2)) d x) (sm (cv (v i) (v (i+1)) (1/2)) d' y)) fun j hj=>by
   by_cases e:j=i
   ·exact Ev.of fun _ _ _ _ h=>absurd e h
   ·exact(q9 (S.off hi hj (Ne.symm e) (t:=1/2) (s:=1/2) (by grind) (by grind) (by grind) (by grind) (fun _=>⟨by grind,by grind⟩) (fun _=>⟨by grind,by grind⟩)) d d').mono fun x y _ _ h _=>h
 have pick:∀d d':P2,0<cr (v i) (v (i+1)) d→0 < -cr (v i) (v (i+1)) d'→∃x:Rat,0<x∧W n v (sm (cv (v i) (v (i+1)) (1/2)) d x)=L∧W n v (sm (cv (v i) (v (i+1)) (1/2)) d' x)=R ∧
   (∀j,j<n→j≠i→Sep (v j) (v (j+1)) (sm (cv (v i) (v (i+1)) (1/2)) d x) (sm (cv (v i) (v (i+1)) (1/2)) d' x))∧∀B:Rat,B<0→True:=by
  intro d d' hd hd';obtain⟨e,e0,he⟩:=hL (1/2) d (by grind) (by grind) (by grind)
  obtain⟨f,f0,hf⟩:=hR (1/2) d' (by grind) (by grind) (by grind)
  obtain⟨g,g0,hg⟩:=eoff d d';obtain⟨k,k0,ke,kf⟩:=dQ e0 f0;obtain⟨m,m0,mk,mg⟩:=dQ k0 g0;exact⟨m,m0,he m m0 (by grind),hf m m0 (by grind),hg m m m0 (by grind) m0 (by grind),fun _ _=>trivial⟩
 generalize hu:v i=u at *;generalize hw:v (i+1)=w at *
 by_cases h0:w.2=u.2
 ·
  have h1:w.1≠u.1:=fun e=>hne (Prod.ext e.symm h0.symm)
  by_cases hp:u.1<w.1
  ·obtain⟨x,x0,xL,xR,xs,_⟩:=pick (0,1) (0,-1) (by unfold cr; grind) (by unfold cr; grind)
   have k:=vq S.cl hi (p:=sm (cv u w (1/2)) (0,-1) x) (q:=sm (cv u w (1/2)) (0,1) x) (by unfold sm; grind) fun j hj hn=>(xs j hj hn).pq
   rw[hu,hw,eu (by unfold sm cv; grind) (by unfold sm cv; grind),eu (by unfold sm cv; grind) (by unfold sm cv; grind),oC (v:=w) (by unfold sm cv; grind) (by unfold sm cv; grind),oC (v:=u) (by unfold sm cv; grind) (by unfold sm cv; grind)] at k
   have t1:tn (sm (cv u w (1/2)) (0,-1) x) (sm (cv u w (1/2)) (0,1) x) w = -(x*(w.1-u.1)):=by unfold tn sm cv; grind
   have t2:tn (sm (cv u w (1/2)) (0,-1) x) (sm (cv u w (1/2)) (0,1) x) u=x*(w.1-u.1):=by unfold tn sm cv; grind
   have m:=bf x0 (show 0<w.1-u.1 by grind)
   rw[t1,t2,if_pos (by grind),if_neg (by grind),xL,xR] at k
   omega
  ·obtain⟨x,x0,xL,xR,xs,_⟩:=pick (0,-1) (0,1) (by unfold cr; grind) (by unfold cr; grind)
   have k:=vq S.cl hi (p:=sm (cv u w (1/2)) (0,-1) x) (q:=sm (cv u w (1/2)) (0,1) x) (by unfold sm; grind) fun j hj hn=>xs j hj hn
   rw[hu,hw,eu (by unfold sm cv; grind) (by unfold sm cv; grind),eu (by unfold sm cv; grind) (by unfold sm cv; grind),oC (v:=w) (by unfold sm cv; grind) (by unfold sm cv; grind),oC (v:=u) (by unfold sm cv; grind) (by unfold sm cv; grind)] at k
   have t1:tn (sm (cv u w (1/2)) (0,-1) x) (sm (cv u w (1/2)) (0,1) x) w=x*(u.1-w.1):=by unfold tn sm cv; grind
   have t2:tn (sm (cv u w (1/2)) (0,-1) x) (sm (cv u w (1/2)) (0,1) x) u = -(x*(u.1-w.1)):=by unfold tn sm cv; grind
   have m:=bf x0 (show 0<u.1-w.1 by grind)
   rw[t1,t2,if_neg (by grind),if_pos (by grind),xL,xR] at k
   omega
 ·by_cases hp:u.2<w.2
  ·obtain⟨x,x0,xL,xR,xs,_⟩:=pick (-1,0) (1,0) (by unfold cr; grind) (by unfold cr; grind)
   have k:=vq S.cl hi (p:=sm (cv u w (1/2)) (-1,0) x) (q:=sm (cv u w (1/2)) (1,0) x) (by unfold sm; grind) fun j hj hn=>xs j hj hn
   rw[gm (by unfold sm; grind),gm (by unfold sm; grind),hu,hw,mq (by unfold sm cv; grind) (by unfold sm cv; grind),mq (by unfold sm cv; grind) (by unfold sm cv; grind),jD,jD] at k
   have m:=bf x0 (show 0<w.2-u.2 by grind)
   rw[if_pos (by unfold cr; grind),if_neg (by unfold cr; grind),xL,xR] at k
   omega
  ·obtain⟨x,x0,xL,xR,xs,_⟩:=pick (1,0) (-1,0) (by unfold cr; grind) (by unfold cr; grind)
   have k:=vq S.cl hi (p:=sm (cv u w (1/2)) (-1,0) x) (q:=sm (cv u w (1/2)) (1,0) x) (by unfold sm; grind) fun j hj hn=>(xs j hj hn).pq
   have e1:=nb w u (sm (cv u w (1/2)) (-1,0) x);have e2:=nb w u (sm (cv u w (1/2)) (1,0) x);rw[mq (a:=w) (b:=u) (by unfold sm cv; grind) (by unfold sm cv; grind),kJ u w,jD] at e1
   rw[mq (a:=w) (b:=u) (by unfold sm cv; grind) (by unfold sm cv; grind),kJ u w,jD] at e2
   have m:=bf x0 (show 0<u.2-w.2 by grind)
   rw[if_pos (by unfold cr; grind)] at e1
   rw[if_neg (by unfold cr; grind)] at e2
   rw[gm (by unfold sm; grind),gm (by unfold sm; grind),hu,hw,e1,e2,xL,xR] at k
   omega
theorem Simple.ui (S:Simple n v) {σ:Rat} {i:Nat} (hi:i+1<n) {d:P2} (hd:0 < σ*cr (v i) (v (i+1)) d) (hd':0 < σ*cr (v (i+1)) (v (i+2)) d) (hs:0≤σ*tn (v i) (v (i+1)) (v (i+2)))
  {L L':Int} (h:HS n v σ i L) (h':HS n v σ (i+1) L'):L=L':=by
 have hn3:=S.n3;have e1:Ev fun x y=>∀j,j<n→Sep (v j) (v (j+1)) (sm (cv (v i) (v (i+1)) (1/2)) d x) (sm (cv (v i) (v (i+1)) 1) d y):=by
  refine Ev.all fun j hj=>?_
  by_cases e:i=j
  ·subst e;refine Ev.of fun x y hx hy=>iN (σ:=σ) ?_ ?_
   ·rw[jD]; have:=bf hx hd; grind
   ·rw[jD]; have:=bf hy hd; grind
  ·by_cases e':j=i+1
   ·subst e';refine Ev.of fun x y hx hy=>iN (σ:=σ) ?_ ?_
    ·have m1:=bf hx hd';have:σ*tn (v (i+1)) (v (i+1+1)) (sm (cv (v i) (v (i+1)) (1/2)) d x)=1/2*(σ*tn (v i) (v (i+1)) (v (i+2)))+x*(σ*cr (v (i+1)) (v (i+2)) d):=by
      unfold tn sm cv cr; grind
     rw[this]; grind
    ·have m1:=bf hy hd';have:σ*tn (v (i+1)) (v (i+1+1)) (sm (cv (v i) (v (i+1)) 1) d y)=y*(σ*cr (v (i+1)) (v (i+2)) d):=by
      unfold tn sm cv cr; grind
     rw[this]; exact m1
   ·exact q9 (S.off (by omega) hj e (by grind) (by grind) (by grind) (by grind) (fun h=>by omega) (fun _=>⟨by grind,by grind⟩)) d d
 have e2:Ev fun x y=>∀j,j<n→Sep (v j) (v (j+1)) (sm (cv (v (i+1)) (v (i+2)) (1/2)) d x) (sm (cv (v (i+1)) (v (i+2)) 0) d y):=by
  refine Ev.all fun j hj=>?_
  by_cases e:j=i+1
  ·subst e;refine Ev.of fun x y hx hy=>iN (σ:=σ) ?_ ?_
   ·rw[jD]; have:=bf hx hd'; grind
   ·rw[jD]; have:=bf hy hd'; grind
  ·by_cases e':j=i
   ·subst e';refine Ev.of fun x y hx hy=>iN (σ:=σ) ?_ ?_
    ·have m1:=bf hx hd;have:σ*tn (v j) (v (j+1)) (sm (cv (v (j+1)) (v (j+2)) (1/2)) d x)=1/2*(σ*tn (v j) (v (j+1)) (v (j+2)))+x*(σ*cr (v j) (v (j+1)) d):=by
      unfold tn sm cv cr; grind
     rw[this]; grind
    ·have m1:=bf hy hd;have:σ*tn (v j) (v (j+1)) (sm (cv (v (j+1)) (v (j+2)) 0) d y)=y*(σ*cr (v j) (v (j+1)) d):=by
      unfold tn sm cv cr; grind
     rw[this]; exact m1
   ·exact q9 (S.off (i:=i+1) hi hj (Ne.symm e) (by grind) (by grind) (by grind) (by grind) (fun _=>⟨by grind,by grind⟩) (fun h=>by omega)) d d
 obtain⟨a,a0,ha⟩:=e1;obtain⟨b,b0,hb⟩:=e2;obtain⟨f,f0,hf⟩:=h (1/2) d (by grind) (by grind) hd
 obtain⟨g,g0,hg⟩:=h' (1/2) d (by grind) (by grind) hd'
 obtain⟨k,k0,ka,kb⟩:=dQ a0 b0;obtain⟨l,l0,lf,lg⟩:=dQ f0 g0;obtain⟨x,x0,xk,xl⟩:=dQ k0 l0;have w1:=tR S.cl (ha x x x0 (by grind) x0 (by grind))
 have w2:=tR S.cl (hb x x x0 (by grind) x0 (by grind))
 rw[hf x x0 (by grind)] at w1
 rw[hg x x0 (by grind)] at w2
 have e:cv (v i) (v (i+1)) 1=cv (v (i+1)) (v (i+2)) 0:=by unfold cv; exact Prod.ext (by grind) (by grind)
 rw[w1,w2,e]
theorem Simple.step (S:Simple n v) {i:Nat} (hi:i+1<n) {L L':Int} (h:HS n v 1 i L) (h':HS n v 1 (i+1) L'):L=L':=by
 have hne:=S.ne i (by omega)
 have ht:=S.gS i (by omega)
 have c1:cr (v i) (v (i+1)) ((v (i+2)).1-(v (i+1)).1-((v (i+1)).1-(v i).1),(v (i+2)).2-(v (i+1)).2-((v (i+1)).2-(v i).2))=tn (v i) (v (i+1)) (v (i+2)):=by unfold cr tn; grind
 have c2:cr (v (i+1)) (v (i+2)) ((v (i+2)).1-(v (i+1)).1-((v (i+1)).1-(v i).1),(v (i+2)).2-(v (i+1)).2-((v (i+1)).2-(v i).2))=tn (v i) (v (i+1)) (v (i+2)):=by unfold cr tn; grind
 by_cases h0:tn (v i) (v (i+1)) (v (i+2))=0
 ·have hd:0<dt (v i) (v (i+1)) (v (i+2)):=ht.resolve_left fun e=>e h0;have hl:=qH hne;refine S.ui (σ:=1) hi (d:=(-((v (i+1)).2-(v i).2),(v (i+1)).1-(v i).1)) ?_ ?_ (by rw[h0]; grind) h h'
  ·unfold cr; grind
  ·unfold dt at hd; unfold cr; grind
 ·by_cases hp:0<tn (v i) (v (i+1)) (v (i+2))
  ·exact S.ui (σ:=1) hi (by rw[c1]; grind) (by rw[c2]; grind) (by grind) h h'
  ·obtain⟨R,hR⟩:=S.hs (σ:=-1) (by grind) (i:=i) (by omega)
   obtain⟨R',hR'⟩:=S.hs (σ:=-1) (by grind) (i:=i+1) (by omega)
   have e:=S.ui (σ:=-1) hi (by rw[c1]; grind) (by rw[c2]; grind) (by grind) hR hR'
   have e1:=S.CS (by omega) h hR
   have e2:=S.CS hi h' hR';omega
end
section
variable {n : Nat} {v : Nat → P2}
def dd (u w:P2) (y:Rat):Int:=if u.2<y∧y<w.2 then 1 else if w.2<y∧y<u.2 then -1 else 0
end
abbrev I2:=Int × Int
def ti (a b c:I2):Int:=(b.1-a.1)*(c.2-a.2)-(b.2-a.2)*(c.1-a.1)
theorem kF (a b p:I2):ti b a p = -ti a b p:=by unfold ti; grind
theorem Fe (a p:I2):ti a a p=0:=by unfold ti; grind
theorem lr (a b:I2):ti a b a=0:=by unfold ti; grind
theorem kV (a b:I2):ti a b b=0:=by unfold ti; grind
theorem B7 (a b c d:I2):ti a b d-ti a b c=ti c d a-ti c d b:=by unfold ti; grind
def gq (a b p:I2):Prop:=ti a b p=0∧min a.1 b.1≤p.1∧p.1≤max a.1 b.1∧min a.2 b.2≤p.2∧p.2≤max a.2 b.2
instance (a b p:I2):Decidable (gq a b p):=by unfold gq; infer_instance
theorem gq.swap {a b p:I2} (h:gq a b p):gq b a p:=by
 obtain⟨h1,h2⟩:=h;exact⟨by rw[kF,h1]; rfl,by omega⟩
theorem AN {a b p:I2}:gq a b p↔gq b a p:=⟨gq.swap,gq.swap⟩
theorem FB (a b:I2):gq a b a:=⟨lr a b,by omega⟩
theorem FY (a b:I2):gq a b b:=⟨kV a b,by omega⟩
theorem EW {a b p:I2} (h:a.1<b.1):gq a b p↔ti a b p=0∧a.1≤p.1∧p.1≤b.1:=by
 refine⟨fun⟨h1,h2⟩=>⟨h1,by omega⟩,fun⟨h1,h2,h3⟩=>⟨h1,by omega,by omega,?_,?_⟩⟩
 all_goals
  unfold ti at h1;have e1:(b.1-a.1)*(p.2-a.2)=(b.2-a.2)*(p.1-a.1):=by omega
  have e2:(b.1-a.1)*(b.2-p.2)=(b.2-a.2)*(b.1-p.1):=by grind
  by_cases hy:a.2≤b.2
  ·have m1:0≤(b.1-a.1)*(p.2-a.2):=by rw[e1]; exact Int.mul_nonneg (by omega) (by omega)
   have m2:0≤(b.1-a.1)*(b.2-p.2):=by rw[e2]; exact Int.mul_nonneg (by omega) (by omega)
   have k1:=Int.nonneg_of_mul_nonneg_right m1 (by omega)
   have k2:=Int.nonneg_of_mul_nonneg_right m2 (by omega)
   omega
  ·have m1:0≤(b.1-a.1)*(a.2-p.2):=by
    rw[show(b.1-a.1)*(a.2-p.2)=(a.2-b.2)*(p.1-a.1) by grind]; exact Int.mul_nonneg (by omega) (by omega)
   have m2:0≤(b.1-a.1)*(p.2-b.2):=by
    rw[show(b.1-a.1)*(p.2-b.2)=(a.2-b.2)*(b.1-p.1) by grind]; exact Int.mul_nonneg (by omega) (by omega)
   have k1:=Int.nonneg_of_mul_nonneg_right m1 (by omega)
   have k2:=Int.nonneg_of_mul_nonneg_right m2 (by omega)
   omega
theorem E7 {a b p:I2} (h:a.1=b.1) (hab:a≠b):gq a b p↔p.1=a.1∧min a.2 b.2≤p.2∧p.2≤max a.2 b.2:=by
 have hy:a.2≠b.2:=fun e=>hab (Prod.ext h e);refine⟨fun⟨_,h2⟩=>by omega,fun⟨h1,h2⟩=>⟨?_,by omega⟩⟩
 unfold ti;rw[h1,←h]; grind
theorem um {a b p:I2} (h:a.1=b.1) (hab:a≠b) (h0:ti a b p=0):p.1=a.1:=by
 have hy:b.2-a.2≠0:=fun e=>hab (Prod.ext h (by omega))
 unfold ti at h0;rw[h,Int.sub_self,Int.zero_mul] at h0;have:(b.2-a.2)*(p.1-b.1)=0:=by omega
 rcases Int.mul_eq_zero.1 this with e|e
 ·exact absurd e hy
 ·omega
theorem tq {a b p q:I2} (h:a.1≠b.1) (hp:ti a b p=0) (hq:ti a b q=0) (e:p.1=q.1):p=q:=by
 have:(b.1-a.1)*(p.2-q.2)=0:=by unfold ti at hp hq; rw[e] at hp; grind
 rcases Int.mul_eq_zero.1 this with e' | e'
 ·omega
 ·exact Prod.ext e (by omega)
def Lx (a b:I2):Prop:=a.1<b.1∨a.1=b.1∧a.2≤b.2
theorem DE {a b p:I2} (hab:a≠b) (h:Lx a b):gq a b p↔ti a b p=0∧Lx a p∧Lx p b:=by
 unfold Lx at *
 by_cases hx:a.1<b.1
 ·rw[EW hx];refine⟨fun⟨h1,h2,h3⟩=>⟨h1,?_,?_⟩,fun⟨h1,h2,h3⟩=>⟨h1,by omega,by omega⟩⟩
  ·by_cases e:p.1=a.1
   ·have:=tq (by omega) h1 (lr a b) e
    rw[this]; omega
   ·omega
  ·by_cases e:p.1=b.1
   ·have:=tq (by omega) h1 (kV a b) e
    rw[this]; omega
   ·omega
 ·have e:a.1=b.1:=by omega
  rw[E7 e hab];refine⟨fun⟨h1,h2⟩=>⟨?_,by omega,by omega⟩,fun⟨h1,h2,h3⟩=>?_⟩
  ·unfold ti; rw[h1,←e]; grind
  ·have:=um e hab h1;omega
def mF (a b c d x:I2):Prop:=(x=a∨x=b∨x=c∨x=d)∧gq a b x∧gq c d x
def low (a b c d:I2):Int:=if a.1=b.1 then max (min a.2 b.2) (min c.2 d.2)-min (max a.2 b.2) (max c.2 d.2) else max (min a.1 b.1) (min c.1 d.1)-min (max a.1 b.1) (max c.1 d.1)
def di (a b c:I2):Int:=(b.1-a.1)*(c.1-b.1)+(b.2-a.2)*(c.2-b.2)
def NM (a b c d:I2):Prop:=(∀x,¬mF a b c d x)∧¬(((0<ti a b c∧ti a b d<0)∨(ti a b c<0∧0<ti a b d))∧((0<ti c d a∧ti c d b<0)∨(ti c d a<0∧0<ti c d b)))
def nx (r:List I2) (i:Nat):I2:=r.getD (i%r.length) (0,0)
structure VR (r:List I2):Prop where
 n3:2<r.length
 still:∀i,nx r i≠nx r (i+1)
 vK:∀i,¬(ti (nx r i) (nx r (i+1)) (nx r (i+2))=0∧di (nx r i) (nx r (i+1)) (nx r (i+2))<0)
 meet:∀j i,j+1<i→i<r.length→¬(j=0∧i+1=r.length)→NM (nx r j) (nx r (j+1)) (nx r i) (nx r (i+1))
theorem Sep.symm {a b p q:P2} (h:Sep a b p q):Sep p q a b:=by
 obtain⟨α,β,γ,g1,g2,g3,g4⟩:=h;exact⟨-α,-β,-γ,by unfold af at *; grind,by unfold af at *; grind,by unfold af at *; grind,by unfold af at *; grind⟩
theorem ry {x:Int}:0≤x*x:=by
 rcases Int.le_total 0 x with h|h
 ·exact Int.mul_nonneg h h
 ·exact Int.mul_nonneg_of_nonpos_of_nonpos h h
theorem F0 {x:Int} (h:x*x=0):x=0:=by
 rcases Int.mul_eq_zero.1 h with h|h<;>exact h
def wi (a b p:I2):Int:=if a.2≤p.2∧p.2<b.2∧0<ti a b p then 1 else if b.2≤p.2∧p.2<a.2∧ti a b p<0 then -1 else 0
def w6 (r:List I2) (p:I2):Int:=cp r.length fun i=>wi (nx r i) (nx r (i+1)) p
theorem y5 (a b p:I2):wi a b p=0∨wi a b p=1∨wi a b p = -1:=by
 unfold wi
 split
 ·omega
 ·split<;>omega
def z7 (a b c d:I2):Prop:=((0<ti a b c∧ti a b d<0)∨(ti a b c<0∧0<ti a b d))∧((0<ti c d a∧ti c d b<0)∨(ti c d a<0∧0<ti c d b))
section
variable {a b c d : I2}
noncomputable def Ao (a b c d:I2):Int:=open Classical in if ∃x y,mF a b c d x∧mF a b c d y∧x≠y then 3 else if ∃x,mF a b c d x then 1 else if z7 a b c d then 2 else 0
theorem y8:Ao a b c d=0↔NM a b c d:=by
 classical
 unfold Ao NM;constructor
 ·intro h
  by_cases h1:∃x y,mF a b c d x∧mF a b c d y∧x≠y
  ·rw[if_pos h1] at h; exact absurd h (by decide)
  ·rw[if_neg h1] at h
   by_cases h2:∃x,mF a b c d x
   ·rw[if_pos h2] at h; exact absurd h (by decide)
   ·rw[if_neg h2] at h
    by_cases h3:z7 a b c d
    ·rw[if_pos h3] at h; exact absurd h (by decide)
    ·exact⟨fun x hx=>h2 ⟨x,hx⟩,h3⟩
 ·rintro⟨h1,h2⟩;rw[if_neg (fun⟨x,_,hx,_⟩=>h1 x hx),if_neg (fun⟨x,hx⟩=>h1 x hx)];exact if_neg h2
end
section
variable {a b c d : I2}
theorem iW {x:I2}:mF a b c d x↔mF c d a b x:=by
 unfold mF;constructor<;>rintro⟨h,g1,g2⟩<;>exact⟨by rcases h with h|h|h|h<;>simp[h],g2,g1⟩
theorem Cn:z7 a b c d↔z7 c d a b:=by unfold z7; exact And.comm
theorem BI:Ao c d a b=Ao a b c d:=by
 classical
 have h1:(∃x y,mF c d a b x∧mF c d a b y∧x≠y)↔∃x y,mF a b c d x∧mF a b c d y∧x≠y :=
  ⟨fun⟨x,y,p,q,r⟩=>⟨x,y,iW.1 p,iW.1 q,r⟩,fun⟨x,y,p,q,r⟩=>⟨x,y,iW.1 p,iW.1 q,r⟩⟩
 have h2:(∃x,mF c d a b x)↔∃x,mF a b c d x:=⟨fun⟨x,p⟩=>⟨x,iW.1 p⟩,fun⟨x,p⟩=>⟨x,iW.1 p⟩⟩;unfold Ao;simp only[h1,h2,Cn (a:=c) (b:=d) (c:=a) (d:=b)]
end
end Jd
end

section
namespace Go.Proofs.YthmekkhpddehjaaGreat
open Go Go.Ab Go.Ab.W Go.Ab.B Jd
def kT (x:Int):Prop:=-9223372036854775808≤x∧x<9223372036854775808
def Fa (p:I2):Prop:=p.1 < -1000000∨1000000<p.1∨p.2 < -1000000∨1000000<p.2
instance (p:I2):Decidable (Fa p):=by unfold Fa; infer_instance
instance (a b p:I2):Decidable (gq a b p):=by unfold gq; infer_instance
theorem uL (a b:Int):ma a b=max a b:=by unfold ma; split<;>omega
theorem uR (a b:Int):mi a b=min a b:=by unfold mi; split<;>omega
theorem CO {x:Int} (h:kT x):IntKind.wrap .i64 (0-x)=if x = -9223372036854775808 then x else -x:=by
 unfold kT at h
 split
 ·rename_i e; subst e; decide
 ·rw[aG (by omega) (by omega)]; omega
theorem ug (n:Nat) {x y:Int} (hx:kT x) (hy:kT y):Dz n x y=some (decide (Fa (x,y))):=by
 unfold Dz;rw[CO hx,CO hy,au,yQ,←Bool.decide_or]
 congr 1
 rw[decide_eq_decide];unfold kT at hx hy;unfold Fa
 dsimp only
 rw[uL,uL,uL,uR]
 split<;>split<;>omega
def sg (z:Int):Int:=if z<0 then -1 else if 0<z then 1 else 0
theorem ux (n:Nat) (x y:Int):Bs n x y=some (sg (x-y)):=by
 unfold Bs uJ sg;simp only[decide_true,Bool.not_true,au,ey]
 by_cases h:x<y
 ·rw[bj h,if_pos (show x-y<0 by omega)]
 ·rw[bl h,if_neg (show ¬x-y<0 by omega)]
  by_cases g:y<x
  ·rw[bj g,if_pos (show 0<x-y by omega)]
  ·rw[bl g,if_neg (show ¬0<x-y by omega)]
def Nr (p:I2):Prop:=-1000000≤p.1∧p.1≤1000000∧-1000000≤p.2∧p.2≤1000000
theorem wJ {p:I2}:¬Fa p↔Nr p:=by unfold Fa Nr; omega
theorem hM (n:Nat) {a b c:I2} (ha:Nr a) (hb:Nr b) (hc:Nr c):vk n a.1 a.2 b.1 b.2 c.1 c.2=some (sg (ti a b c)):=by
 unfold Nr at ha hb hc;have m1:=fP (B:=2000000) (C:=2000000) (u:=b.1-a.1) (v:=c.2-a.2) (by decide) (by omega) (by omega) (by omega) (by omega)
 have m2:=fP (B:=2000000) (C:=2000000) (u:=b.2-a.2) (v:=c.1-a.1) (by decide) (by omega) (by omega) (by omega) (by omega)
 unfold vk;rw[aG (x:=b.1-a.1) (by omega) (by omega),aG (x:=c.2-a.2) (by omega) (by omega),aG (x:=b.2-a.2) (by omega) (by omega),aG (x:=c.1-a.1) (by omega) (by omega),
  aG (by omega) (by omega),aG (by omega) (by omega),au,au,ux,au]
 rfl
theorem jd {z:Int}:sg z=0↔z=0:=by unfold sg; split<;>(try split)<;>omega
theorem nJ {z:Int}:sg z<0↔z<0:=by unfold sg; split<;>(try split)<;>omega
theorem jI {z:Int}:0<sg z↔0<z:=by unfold sg; split<;>(try split)<;>omega
theorem ko (z:Int):sg z = -1∨sg z=0∨sg z=1:=by unfold sg; split<;>(try split)<;>simp
theorem Er (n:Nat) (r s:Int) (hn:2<n):DX n [r,s]=some (if r≠0 then r else s):=by
 obtain⟨n,rfl⟩:∃n',n=n'+3:=⟨n-3,by omega⟩
 have L0:kh (n+3) [r,s] 0=if r≠0 then some (.inr (.inl r)) else some (.inl 1):=by
  unfold kh;rw[bj (by simp),show bX 0 [r,s].length=true from rfl,bA]
  show ob (some r) _=_
  rw[au]
  by_cases h:r=0
  ·rw[decide_eq_true h,Bool.not_true,ey,if_neg (by simpa using h)]; rfl
  ·rw[decide_eq_false h,Bool.not_false,jr,if_pos h]
 have L1:kh (n+3) [r,s] 1=if s≠0 then some (.inr (.inl s)) else some (.inl 2):=by
  unfold kh;rw[bj (by simp),show bX 1 [r,s].length=true from rfl,bA]
  show ob (some s) _=_
  rw[au]
  by_cases h:s=0
  ·rw[decide_eq_true h,Bool.not_true,ey,if_neg (by simpa using h)]; rfl
  ·rw[decide_eq_false h,Bool.not_false,jr,if_pos h]
 have L2:kh (n+3) [r,s] 2=some (.inr (.inr ())):=by
  unfold kh;rw[bl (by simp)]
 unfold DX
 by_cases h:r=0
 ·rw[if_neg (by simpa using h)] at L0 ⊢
  rw[cZ L0]
  by_cases g:s=0
  ·rw[if_neg (by simpa using g)] at L1
   rw[cZ L1,dy L2,au,g]
  ·rw[if_pos g] at L1;rw[dy L1,au]
 ·rw[if_pos h] at L0 ⊢;rw[dy L0,au]
def tO (a b:I2):Int:=if sg (a.1-b.1)≠0 then sg (a.1-b.1) else sg (a.2-b.2)
theorem qh (n:Nat) (a b:I2) (hn:2<n):yk n a.1 a.2 b.1 b.2=some (tO a b):=by
 unfold yk;rw[ux,au,ux,au,Er n _ _ hn,au]; rfl
theorem rm {a b:I2}:tO a b≤0↔Lx a b:=by
 unfold tO Lx;have h1:=jd (z:=a.1-b.1);have h2:=jI (z:=a.1-b.1);have h3:=jI (z:=a.2-b.2)
 split<;>omega
theorem uZ (n:Nat) (e:Int) {a b p:I2} (ha:Nr a) (hb:Nr b) (hp:Nr p) (hab:a≠b) (hn:2<n):wC n e a.1 a.2 b.1 b.2 p.1 p.2=some (decide (gq a b p)):=by
 unfold wC;rw[hM n ha hb hp,au]
 by_cases h0:ti a b p=0
 ·rw[decide_eq_true (jd.2 h0),Bool.not_true,ey,qh n a b hn,au];have key:∀{u v:I2},u≠v→Lx u v→ti u v p=0→(ob (yk n u.1 u.2 p.1 p.2) fun r28=>br (decide (r28≤0)) (ob (yk n p.1 p.2 v.1 v.2) fun r31=>some (decide (r31≤0))) (some false))=some (decide (gq u v p)):=fun {u v} huv hl ht=>by
   rw[qh n u p hn,au,qh n p v hn,au,hZ,←Bool.decide_and]
   congr 1
   rw[decide_eq_decide,DE huv hl,rm,rm];exact⟨fun h=>⟨ht,h⟩,fun h=>h.2⟩
  by_cases hl:0<tO a b
  ·rw[bj hl,au];have hl':Lx b a:=by
    have:¬Lx a b:=fun h=>by have:=rm.2 h; omega
    unfold Lx at this ⊢; omega
   have:=key hab.symm hl' (by rw[kF,h0]; rfl)
   dsimp only
   rw[this]
   congr 1
   rw[decide_eq_decide]; exact AN
  ·rw[bl hl,au];exact key hab (rm.1 (by omega)) h0
 ·rw[decide_eq_false (fun h=>h0 (jd.1 h)),Bool.not_false,jr,decide_eq_false fun h=>h0 h.1]
theorem nI {α β:Type} [DecidableEq α] (k:α):∀(xs:List (α × β)) (i:Nat),(jH k xs i=none∧k ∉ xs.map Prod.fst)∨∃j v,jH k xs i=some (i+j,v)∧(xs[j]?).map Prod.fst=some k
 | [],_=>.inl ⟨rfl,by simp⟩
 | e::es,i=>by
  unfold jH
  by_cases h:k=e.1
  ·rw[if_pos h]; exact .inr ⟨0,e.2,rfl,by rw[h]; rfl⟩
  ·rw[if_neg h];rcases nI k es (i+1) with⟨h1,h2⟩|⟨j,v,h1,h2⟩
   ·exact .inl ⟨h1,fun g=>by
     rw[List.map_cons,List.mem_cons] at g;exact g.elim h h2⟩
   ·exact .inr ⟨j+1,v,by rw[h1,show i+1+j=i+(j+1) by omega],h2⟩
theorem w8 {α β:Type} [DecidableEq α] (xs:List (α × β)) (k:α) (v:β):(tN xs k v).map Prod.fst=if k ∈ xs.map Prod.fst then xs.map Prod.fst else xs.map Prod.fst++[k]:=by
 unfold tN;rcases nI k xs 0 with⟨h1,h2⟩|⟨j,w,h1,h2⟩
 ·rw[h1,if_neg h2]; simp
 ·rw[h1,Nat.zero_add];have hj:j<xs.length:=by
   refine Decidable.byContradiction fun hc=>?_;rw[List.getElem?_eq_none (by omega)] at h2; cases h2
  have e:(xs.map Prod.fst)[j]? = some k:=by rw[List.getElem?_map]; exact h2
  rw[if_pos (List.mem_of_getElem? e),List.map_set];refine List.ext_getElem? fun t=>?_;rw[List.getElem?_set]
  by_cases ht:j=t
  ·subst ht;rw[if_pos rfl,if_pos (by rw[List.length_map]; exact hj),e]
  ·rw[if_neg ht]
def rv (a b c d:I2) (l:List (I2 × Bool)) (x:I2):List (I2 × Bool):=if gq a b x∧gq c d x then tN l x true else l
theorem sf {a b c d:I2}:∀(xs:List I2) (l:List (I2 × Bool)),(l.map Prod.fst).Nodup→((xs.foldl (rv a b c d) l).map Prod.fst).Nodup∧∀q,q ∈ (xs.foldl (rv a b c d) l).map Prod.fst↔q ∈ l.map Prod.fst∨(q ∈ xs∧gq a b q∧gq c d q)
 | [],l,hn=>⟨hn,fun q=>by simp⟩
 | x::xs,l,hn=>by
  rw[List.foldl_cons];have key:((rv a b c d l x).map Prod.fst).Nodup∧∀q,q ∈ (rv a b c d l x).map Prod.fst↔q ∈ l.map Prod.fst∨(q=x∧gq a b q∧gq c d q):=by
   unfold rv
   by_cases h:gq a b x∧gq c d x
   ·rw[if_pos h,w8]
    by_cases g:x ∈ l.map Prod.fst
    ·rw[if_pos g];exact⟨hn,fun q=>⟨.inl,fun e=>e.elim id fun e=>e.1 ▸ g⟩⟩
    ·rw[if_neg g];refine⟨List.nodup_append.2 ⟨hn,by simp,fun u hu v hv=>?_⟩,fun q=>?_⟩
     ·rw[List.mem_singleton] at hv;intro e; rw[e,hv] at hu; exact g hu
     ·rw[List.mem_append,List.mem_singleton];exact⟨fun e=>e.elim .inl fun e=>.inr ⟨e,e ▸ h⟩,fun e=>e.elim .inl fun e=>.inr e.1⟩
   ·rw[if_neg h];exact⟨hn,fun q=>⟨.inl,fun e=>e.elim id fun⟨e,g⟩=>absurd (e ▸ g) h⟩⟩
  obtain⟨k1,k2⟩:=key;obtain⟨r1,r2⟩:=sf xs _ k1;refine⟨r1,fun q=>?_⟩;rw[r2,k2,List.mem_cons];constructor
  ·rintro((h|⟨rfl,h⟩) | ⟨h,g⟩)
   ·exact .inl h
   ·exact .inr ⟨.inl rfl,h⟩
   ·exact .inr ⟨.inr h,g⟩
  ·rintro(h|⟨rfl|h,g⟩)
   ·exact .inl (.inl h)
   ·exact .inl (.inr ⟨rfl,g⟩)
   ·exact .inr ⟨h,g⟩
theorem q5 (n:Nat) (e f:Int) {a b c d x:I2} (ha:Nr a) (hb:Nr b) (hc:Nr c) (hd:Nr d) (hx:Nr x) (hab:a≠b) (hcd:c≠d) (hn:2<n) (l:List (I2 × Bool)) {i:Nat} (hi:i<4) (he:[a,b,c,d][i]? = some x) :
  lW n a.1 a.2 b.1 b.2 c.1 c.2 d.1 d.2 e f (l,(i:Int))=some (.inl (rv a b c d l x,((i+1:Nat):Int))):=by
 unfold lW
 dsimp only
 rw[bj (by omega),aX hi,bA,Int.toNat_natCast]
 have:[(a.1,a.2),(b.1,b.2),(c.1,c.2),(d.1,d.2)][i]? = some (x.1,x.2):=he;rw[this,au]
 dsimp only
 rw[uZ n e ha hb hx hab hn,au,uZ n f hc hd hx hcd hn,au,hZ,au,aY (by omega)]
 unfold rv
 by_cases h:gq a b x∧gq c d x
 ·rw[decide_eq_true h.1,decide_eq_true h.2,if_pos h]; rfl
 ·rw[if_neg h,←Bool.decide_and,decide_eq_false h]; rfl
theorem D9 (n:Nat) (e f:Int) {a b c d:I2} (ha:Nr a) (hb:Nr b) (hc:Nr c) (hd:Nr d) (hab:a≠b) (hcd:c≠d) (hn:5<n):Fq n e a.1 a.2 b.1 b.2 f c.1 c.2 d.1 d.2=some (Ao a b c d):=by
 classical
 unfold Fq;rw[hM n ha hb hc,au,hM n ha hb hd,au,hM n hc hd ha,au,hM n hc hd hb,au];have L:cy (lW n a.1 a.2 b.1 b.2 c.1 c.2 d.1 d.2 e f) n ([],0)=some ([a,b,c,d].foldl (rv a b c d) []):=by
  obtain⟨m,hm⟩:∃m,n=m+5:=⟨n-5,by omega⟩
  have L5:∀l,lW n a.1 a.2 b.1 b.2 c.1 c.2 d.1 d.2 e f (l,((4:Nat):Int))=some (.inr l):=fun l=>by
   unfold lW
   dsimp only
   rw[bl (by decide)]
  have h0:=q5 n e f ha hb hc hd ha hab hcd (by omega) [] (i:=0) (by decide) rfl
  have h1:=q5 n e f ha hb hc hd hb hab hcd (by omega) (rv a b c d [] a) (i:=1) (by decide) rfl
  have h2:=q5 n e f ha hb hc hd hc hab hcd (by omega) (rv a b c d (rv a b c d [] a) b) (i:=2) (by decide) rfl
  have h3:=q5 n e f ha hb hc hd hd hab hcd (by omega) (rv a b c d (rv a b c d (rv a b c d [] a) b) c) (i:=3) (by decide) rfl
  have:∀body:(List (I2 × Bool) × Int)→Option ((List (I2 × Bool) × Int) ⊕ List (I2 × Bool)),body=lW n a.1 a.2 b.1 b.2 c.1 c.2 d.1 d.2 e f→cy body n ([],0)=some ([a,b,c,d].foldl (rv a b c d) []):=fun body hbd=>by
   rw[←hbd] at h0 h1 h2 h3 L5;rw[hm,show(0:Int)=((0:Nat):Int) from rfl,cZ h0,cZ h1,cZ h2,cZ h3,dy (L5 _)]
   rfl
  exact this _ rfl
 obtain⟨k1,k2⟩:=sf (a:=a) (b:=b) (c:=c) (d:=d) [a,b,c,d] [] (by simp)
 have hlen:([a,b,c,d].foldl (rv a b c d) []).length=(([a,b,c,d].foldl (rv a b c d) []).map Prod.fst).length:=by rw[List.length_map]
 rw[L,au];generalize [a,b,c,d].foldl (rv a b c d) []=l at *;have kc:∀q,q ∈ l.map Prod.fst↔mF a b c d q:=fun q=>by
  rw[k2];unfold mF;constructor
  ·rintro(h|⟨h,g⟩)
   ·simp at h
   ·exact⟨by simpa only[List.mem_cons,List.not_mem_nil,or_false] using h,g⟩
  ·rintro⟨h,g⟩;exact .inr ⟨by simpa only[List.mem_cons,List.not_mem_nil,or_false] using h,g⟩
 rw[au,au,hlen];generalize l.map Prod.fst=ks at *;unfold Ao
 by_cases h2:∃x y,mF a b c d x∧mF a b c d y∧x≠y
 ·obtain⟨x,y,hx,hy,hne⟩:=h2;have:=kW (l:=[x,y]) (m:=ks) (by simp[hne]) fun q hq=>by
   simp only[List.mem_cons,List.not_mem_nil,or_false] at hq;rcases hq with rfl|rfl
   ·exact(kc _).2 hx
   ·exact(kc _).2 hy
  have hl:2≤ks.length:=this;rw[bj (by omega),if_pos ⟨x,y,hx,hy,hne⟩]
 ·have hl1:ks.length≤1:=by
   match ks,k1,kc with
   | [],_,_=>exact Nat.zero_le _
   | [_],_,_=>exact Nat.le_refl _
   | x::y::t,k1,kc =>
    refine absurd ⟨x,y,(kc x).1 (by simp),(kc y).1 (by simp),?_⟩ h2
    intro e; subst e; simp at k1
  rw[if_neg h2,bl (by omega)]
  by_cases h1:∃x,mF a b c d x
  ·obtain⟨x,hx⟩:=h1;have:0<ks.length:=List.length_pos_of_mem ((kc x).2 hx);rw[if_pos ⟨x,hx⟩,bj (by omega)]
  ·have:ks.length=0:=by
    match ks,kc with
    | [],_=>rfl
    | x::t,kc=>exact absurd ⟨x,(kc x).1 (by simp)⟩ h1
   rw[if_neg h1,bl (by omega)]
   have w:∀u v:Int,IntKind.wrap .i64 (sg u*sg v)=sg u*sg v:=fun u v=>by
    have h1:=ko u;have h2:=ko v;rcases h1 with h1|h1|h1<;>rcases h2 with h2|h2|h2<;>rw[h1,h2]<;>decide
   have s:∀u v:Int,sg u*sg v<0↔(0<u∧v<0)∨(u<0∧0<v):=fun u v=>by
    have a1:=nJ (z:=u);have a2:=jI (z:=u);have b1:=nJ (z:=v);have b2:=jI (z:=v);have h1:=ko u;have h2:=ko v;rcases h1 with h1|h1|h1<;>rcases h2 with h2|h2|h2<;>rw[h1] at a1 a2 ⊢<;>rw[h2] at b1 b2 ⊢<;>omega
   rw[w,w,hZ,au,yF]
   by_cases hx:z7 a b c d
   ·rw[if_pos hx,if_pos];unfold z7 at hx;rw[Bool.and_eq_true,decide_eq_true_eq,decide_eq_true_eq,s,s];exact hx
   ·rw[if_neg hx,if_neg];rw[Bool.and_eq_true,decide_eq_true_eq,decide_eq_true_eq,s,s];exact hx
end Go.Proofs.YthmekkhpddehjaaGreat
end

section
namespace Go.Ab
open Go
theorem Ar {j:aD} {l:List Value} (h:∀x ∈ l,aU x=true):LR j l l :=
 ⟨rfl,fun _ v hi=>⟨v,hi,VR.aU (h v (List.mem_of_getElem? hi))⟩⟩
theorem rY {W W':World} (hc:Calm W W') (hs:W.heap.size≤W'.heap.size) (hold:∀c,c<W.heap.size→W'.heap[c]? = W.heap[c]?):∃q os,W'=Sort.grow (W.drewN q) os:=by
 refine⟨W'.drawn-W.drawn,W'.heap.extract W.heap.size W'.heap.size,?_⟩;have hh:W'.heap=W.heap++W'.heap.extract W.heap.size W'.heap.size:=by
  apply Array.ext_getElem?;intro i;rw[Array.getElem?_append]
  split
  ·exact hold i ‹_›
  ·rw[Array.getElem?_extract]
   split
   ·congr 1; omega
   ·exact Array.getElem?_eq_none (by omega)
 obtain⟨h1,h2,h3,h4⟩:=hc;cases W; cases W';simp only[Sort.grow,World.drewN] at *;subst h1; subst h2; subst h3
 congr 1
 omega
theorem uI {E:Env} (hE:EnvOk E) (hmono:E.mono:=by trivial) {f:FuncId} {args:List Value} (hp:E.bU f=none) {v:Value} (hpl:∀x ∈ args,aU x=true) (hv:aU v=true)
  (h:aR E f args (mH E.glob fun _=>none) fun v' _=>v'=v) {W:World} (hW:E.glob≤W.heap.size) :
  Calls E.P f args.toArray W fun e W'=>e = .returned v∧∃q os,W'=Sort.grow (W.drewN q) os:=by
 obtain⟨v',m',⟨k,hr⟩,rfl⟩:=h;have hm:MR E (w9 E.glob) (mH E.glob fun _=>none) W:=B6 (Nat.le_refl _) hW fun b cs hb=>by cases hb
 refine callsIn_wide.1 ((kH hE hr hp hm (Ar hpl)).mono ?_);rintro e W' ⟨v1,rfl,j',s,hv1⟩;rw[eh hv hv1];refine⟨rfl,rY ⟨s.calm.1,s.calm.2.1,s.calm.2.2.1,s.calm.2.2.2 hmono⟩ s.size fun c hc=>s.frame c hc fun b k hb hl _=>?_⟩;have:(mH E.glob fun _=>none).get b=none:=by simp[AMem.get,mH,Heap.get_nil]
 rw[this] at hl; cases hl
theorem mE {w:World} {B:Nat} {c:Array Value} {e:TypeId} {fz:Nat × Nat} (h:w.heap[B]? = some (.cells c e fz)) (f:Array Value→Array Value):Sort.mapBlock w B f=w.putObj B (.cells (f c) e fz):=by
 unfold Sort.mapBlock World.putObj
 congr 1
 apply Array.ext_getElem?;intro i;rw[Array.getElem?_modify,Array.getElem?_setIfInBounds]
 by_cases hi:B=i
 ·subst hi;obtain⟨hlt,hv⟩:=Array.getElem?_eq_some_iff.1 h;simp[hlt,hv,Sort.onCells]
 ·simp[hi]
theorem Bv {E:Env} {j:aD} {m:AMem} {w:World} (h:MR E j m w) {b:Nat} {k:Blk} (hk:j b=some k) {cs cs':List Value} {tag:Tag} (hg:m.get b=some (.cells cs tag)) (hl:cs'.length=cs.length) (hp:cs'.all aw=true) (n:Nat) (os:Array Obj) :
  Sim E j m w j (m.set b (.cells cs' tag)) (Sort.grow (Sort.putRow id (Sort.ahead w n) k.c 0 cs'.toArray) os):=by
 obtain⟨c,e,fz,h1,h2,h3⟩:=h.iV hk hg;have s1:Sim E j m w j m (Sort.ahead w n):=Sim.of_heap h rfl ⟨rfl,rfl,rfl,Nat.le_add_right _ _⟩;have hle:cs.length≤c.size:=by
  cases tag with
  | ro=>exact Nat.le_of_eq h2.2.symm
  | own=>exact Nat.le_of_eq h2.2.1.symm
  | more sz=>exact h2.2.1
 have hor:OR j k (.cells cs' tag) (.cells (Sort.putCells id 0 cs'.toArray c) e fz):=by
  have hget:∀i,(Sort.putCells id 0 cs'.toArray c)[i]? = if i<cs'.length then(if i<c.size then some cs'[i]! else none) else c[i]?:=by
   intro i;simp only[Sort.putCells,Array.getElem?_mapIdx,Nat.zero_le,true_and,Nat.zero_add,List.size_toArray,Nat.sub_zero,id]
   by_cases hi:i<c.size
   ·rw[Array.getElem?_eq_getElem hi];simp only[Option.map_some]
    by_cases hj:i<cs'.length
    ·simp[hj,hi]
    ·simp[hj]
   ·rw[Array.getElem?_eq_none (by omega)]
    simp[hi]
  refine⟨?_,fun i v hi=>?_⟩
  ·rw[show cs'.length=cs.length from hl]
   refine pG.put h2 (by simp[Sort.putCells]) fun i hi=>?_
   rw[hget,if_neg (by omega)]
  ·have hlt:i<cs'.length:=(List.getElem?_eq_some_iff.1 hi).1;refine⟨v,?_,.aw (List.all_eq_true.1 hp v (List.mem_of_getElem? hi))⟩;rw[hget,if_pos hlt,if_pos (by omega),List.getElem!_eq_getElem?_getD,hi]; rfl
 have s2:=fA s1.mr hk (by rw[hg]; rfl) hor
 have e2:Sort.putRow id (Sort.ahead w n) k.c 0 cs'.toArray=(Sort.ahead w n).putObj k.c (.cells (Sort.putCells id 0 cs'.toArray c) e fz):=mE (w:=Sort.ahead w n) h1 _;rw[e2];refine(s1.trans h s2).trans h (Sim.same s2.mr (fun x hx=>?_) (by simp) ⟨rfl,rfl,rfl,fun _=>Nat.le_refl _⟩)
 show(_++_:Array Obj)[x]? = _
 rw[Array.getElem?_append,if_pos hx]
theorem rJ {α:Type} [Inhabited α] {enc:α→List Value} {k:Nat} (hk:∀x,(enc x).length=k) (h0:0<k):∀(l:List α) (t:Nat),t<l.length*k→(l.map enc).flatten[t]! = (enc l[t/k]!)[t%k]!
 | [],t,h=>by simp at h
 | x::l,t,h=>by
  simp only[List.map_cons,List.flatten_cons];rw[List.getElem!_eq_getElem?_getD,List.getElem?_append]
  by_cases ht:t<k
  ·rw[if_pos (by rw[hk]; exact ht),Nat.div_eq_of_lt ht,Nat.mod_eq_of_lt ht,←List.getElem!_eq_getElem?_getD]; rfl
  ·rw[if_neg (by rw[hk]; exact ht),hk,←List.getElem!_eq_getElem?_getD,rJ hk h0 l (t-k) (by simp only[List.length_cons,Nat.add_mul,Nat.one_mul] at h; omega)]
   have e1:t/k=(t-k)/k+1:=by rw[Nat.div_eq_sub_div h0 (by omega)]
   have e2:t%k=(t-k)%k:=Nat.mod_eq_sub_mod (by omega)
   rw[e1,e2]; rfl
theorem bB {α:Type} {enc:α→List Value} {k:Nat} (hk:∀x,(enc x).length=k):∀l:List α,(l.map enc).flatten.length=l.length*k
 | []=>by simp
 | x::l=>by simp only[List.map_cons,List.flatten_cons,List.length_append,List.length_cons,hk,bB hk l,Nat.add_mul,Nat.one_mul]; omega
theorem jv {α:Type} [Inhabited α] {enc:α→List Value} {k:Nat} (hk:∀x,(enc x).length=k) (h0:0<k) (l:List α):Sort.flatK enc k l.toArray=(l.map enc).flatten.toArray:=by
 refine Sort.ext_get! (by simp[bB hk]) fun t ht=>?_
 have ht':t<l.length*k:=by simpa using ht
 rw[Sort.get_flatK _ _ _ _ (by simpa using ht')]
 have:=rJ hk h0 l t ht';simp at this ⊢;rw[this]
theorem xS {E:Env} {j:aD} {m:AMem} {w:World} (h:MR E j m w) {b:Nat} {k:Blk} (hk:j b=some k) {cs:List Value} {tag:Tag} (hg:m.get b=some (.cells cs tag)) (ht:tag≠.ro) (hp:cs.all aw=true) :
  Sort.Holds id w k.c 0 cs.toArray:=by
 obtain⟨c,e,fz,h1,h2,h3⟩:=h.iV hk hg;have hfz:fz=(0,0):=by
  cases tag with
  | ro=>exact absurd rfl ht
  | own=>exact h2.2.2
  | more sz=>exact h2.2.2.1
 subst hfz;intro i hi;have hi':i<cs.length:=by simpa using hi
 obtain⟨v',g1,g2⟩:=h3 i cs[i] (List.getElem?_eq_getElem hi');have:=cQ (List.all_eq_true.1 hp _ (List.getElem_mem hi')) g2;subst this;refine⟨?_,?_⟩
 ·simp only[World.cell?,h1,Nat.zero_add];simp[g1,hi']
 ·simp only[World.frozen?,h1]; simp
end Go.Ab
end

section
namespace Go.Proofs
open Go.Shelf
def Tryz.sU:Go.Shelf.Ren:=⟨fun|6=>50|15=>81|14=>80|28=>101|29=>102|20=>93|21=>94|22=>95|23=>96|24=>97|25=>98|26=>99|27=>100|46=>121|47=>122|48=>123|49=>124|50=>125|57=>143|n=>n,fun|22=>22|24=>33|25=>91|3=>3|39=>117|0=>0|53=>134|55=>136|4=>4|46=>127|45=>126|50=>131|5=>5|9=>9|66=>164|70=>168|76=>187|77=>81|n=>n,fun|n=>n⟩
theorem Tryz.vn:Go.Proofs.SlLaysF0.n6 Tryz.prog Tryz.sU:={
 mixed:=by kernel_rfl
 f6:=⟨Tryz.f50.name,by decide,Tryz.func50.trans (congrArg some (by kernel_rfl))⟩
 f14:=⟨Tryz.f80.name,by decide,Tryz.func80.trans (congrArg some (by kernel_rfl))⟩
 f15:=Tryz.func81.trans (congrArg some (by kernel_rfl))
 f20:=⟨Tryz.f93.name,by decide,Tryz.func93.trans (congrArg some (by kernel_rfl))⟩
 f21:=⟨Tryz.f94.name,by decide,Tryz.func94.trans (congrArg some (by kernel_rfl))⟩
 f22:=⟨Tryz.f95.name,by decide,Tryz.func95.trans (congrArg some (by kernel_rfl))⟩
 f23:=⟨Tryz.f96.name,by decide,Tryz.func96.trans (congrArg some (by kernel_rfl))⟩
 f24:=⟨Tryz.f97.name,by decide,Tryz.func97.trans (congrArg some (by kernel_rfl))⟩
 f25:=⟨Tryz.f98.name,by decide,Tryz.func98.trans (congrArg some (by kernel_rfl))⟩
 f26:=⟨Tryz.f99.name,by decide,Tryz.func99.trans (congrArg some (by kernel_rfl))⟩
 f27:=⟨Tryz.f100.name,by decide,Tryz.func100.trans (congrArg some (by kernel_rfl))⟩
 f28:=Tryz.func101.trans (congrArg some (by kernel_rfl))
 f29:=Tryz.func102.trans (congrArg some (by kernel_rfl))
 f46:=⟨Tryz.f121.name,by decide,Tryz.func121.trans (congrArg some (by kernel_rfl))⟩
 f47:=Tryz.func122.trans (congrArg some (by kernel_rfl))
 f48:=Tryz.func123.trans (congrArg some (by kernel_rfl))
 f49:=⟨Tryz.f124.name,by decide,Tryz.func124.trans (congrArg some (by kernel_rfl))⟩
 f50:=⟨Tryz.f125.name,by decide,Tryz.func125.trans (congrArg some (by kernel_rfl))⟩
 f57:=⟨Tryz.f143.name,by decide,Tryz.func143.trans (congrArg some (by kernel_rfl))⟩
 t0:=Tryz.underlying0
 a0:=Tryz.isAgg0
 z0:=Tryz.sizeOf0
 v0:=Tryz.zeroValue0
 t3:=Tryz.underlying3
 a3:=Tryz.isAgg3
 z3:=Tryz.sizeOf3
 v3:=Tryz.zeroValue3
 t4:=Tryz.underlying4
 a4:=Tryz.isAgg4
 z4:=Tryz.sizeOf4
 v4:=Tryz.zeroValue4
 t5:=Tryz.underlying5
 a5:=Tryz.isAgg5
 z5:=Tryz.sizeOf5
 v5:=Tryz.zeroValue5
 t9:=Tryz.underlying9
 a9:=Tryz.isAgg9
 z9:=Tryz.sizeOf9
 v9:=Tryz.zeroValue9
 t22:=Tryz.underlying22
 a22:=Tryz.isAgg22
 z22:=Tryz.sizeOf22
 v22:=Tryz.zeroValue22
 t25:=Tryz.underlying91
 a25:=Tryz.isAgg91
 z25:=Tryz.sizeOf91
 v25:=Tryz.zeroValue91
 t39:=Tryz.underlying117
 a39:=Tryz.isAgg117
 z39:=Tryz.sizeOf117
 v39:=Tryz.zeroValue117
 t45:=Tryz.underlying126
 a45:=Tryz.isAgg126
 z45:=Tryz.sizeOf126
 v45:=Tryz.zeroValue126
 t46:=Tryz.underlying127
 a46:=Tryz.isAgg127
 z46:=Tryz.sizeOf127
 v46:=Tryz.zeroValue127
 t50:=Tryz.underlying131
 a50:=Tryz.isAgg131
 z50:=Tryz.sizeOf131
 v50:=Tryz.zeroValue131
 t53:=Tryz.underlying134
 a53:=Tryz.isAgg134
 z53:=Tryz.sizeOf134
 v53:=Tryz.zeroValue134
 t55:=Tryz.underlying136
 a55:=Tryz.isAgg136
 z55:=Tryz.sizeOf136
 v55:=Tryz.zeroValue136
 t66:=Tryz.underlying164
 a66:=Tryz.isAgg164
 z66:=Tryz.sizeOf164
 v66:=Tryz.zeroValue164
 t70:=Tryz.underlying168
 a70:=Tryz.isAgg168
 z70:=Tryz.sizeOf168
 v70:=Tryz.zeroValue168
 t76:=Tryz.underlying187
 a76:=Tryz.isAgg187
 z76:=Tryz.sizeOf187
 v76:=Tryz.zeroValue187
 t77:=Tryz.underlying81
 a77:=Tryz.isAgg81
 z77:=Tryz.sizeOf81
 v77:=Tryz.zeroValue81}
end Go.Proofs
end

section
namespace Go.Proofs.YthmekkhpddehjaaGreat
open Go Go.Ab Go.Ab.W Go.Ab.B Jd
set_option maxRecDepth 10000
theorem Bw (x y:Int × Int):Gd 5 x.1 x.2 y.1 y.2=some (tO x y):=by
 unfold Gd;rw[qh 5 x y (by decide),au]
theorem wW (x y:Int × Int) {W:World} :
  Calls Tryz.prog 51 #[.agg (jW x).toArray,.agg (jW y).toArray] W fun e W'=>e = .returned (.int .i64 (tO x y))∧∃q os,W'=Sort.grow (W.drewN q) os :=
 uI (E:=kL) rr (hmono:=trivial) (f:=51) (args:=[.agg #[.int .i64 x.1,.int .i64 x.2],.agg #[.int .i64 y.1,.int .i64 y.2]]) rfl (by intro v hv; simp at hv; rcases hv with rfl|rfl<;>rfl) rfl
  ((W51.DH 5 x.1 x.2 y.1 y.2 _ (Bw x y) _).mono fun v m' ⟨_,h,_⟩=>h) (Nat.zero_le _)
theorem FT (x y:Int × Int):Go.Proofs.ltOf tO x y=decide (x.1<y.1∨x.1=y.1∧x.2<y.2):=by
 unfold Go.Proofs.ltOf tO;have h1:=nJ (z:=x.1-y.1);have h2:=nJ (z:=x.2-y.2);have h3:=jd (z:=x.1-y.1)
 congr 1
 apply propext
 split<;>omega
theorem Gv:Go.Sort.SWO (Go.Proofs.ltOf tO) where
 irrefl x:=by rw[FT]; simp
 trans x y z h1 h2:=by rw[FT] at *; simp only[decide_eq_true_eq] at *; omega
 ntrans x y z h1 h2:=by rw[FT] at *; simp only[decide_eq_false_iff_not] at *; omega
theorem GO (x y:Int × Int) (h1:Go.Proofs.ltOf tO x y=false) (h2:Go.Proofs.ltOf tO y x=false):x=y:=by
 rw[FT] at h1 h2;simp only[decide_eq_false_iff_not] at h1 h2;exact Prod.ext (by omega) (by omega)
theorem xa (j7 off size:Nat) (w:World):Go.Proofs.CmpLays Tryz.prog 51 #[] jW 2 tO j7 off size w :=
 fun _ _ _ _ x y=>wW x y
end Go.Proofs.YthmekkhpddehjaaGreat
end

section
namespace Go.Ab
open Go
section
variable {E : Env} {j : aD} {m : AMem} {w : World}
theorem VR.at {b o l c:Nat} {v':Value} (h:VR j (.slice (some ⟨b,o,none⟩) l c) v'):∃k c',j b=some k∧v' = .slice (some ⟨k.c,o,none⟩) l c':=by
 cases h with
 | slice hj hm=>exact⟨_,_,hj,rfl⟩
 | sliceM hj hm _ _ _ _=>exact⟨_,_,hj,rfl⟩
end
end Go.Ab
end

section
namespace Go.Proofs.YthmekkhpddehjaaGreat
open Go Go.Ab Go.Ab.W
set_option maxRecDepth 10000
theorem yr:(fun x y=>!(Go.Proofs.ltOf tO) y x)=cB:=by
 funext x y
 show(!(Go.Proofs.ltOf tO) y x)=cB x y
 rw[FT]; unfold cB;rw[←decide_not]
 congr 1
 apply propext; omega
theorem lT:∀l:List (Int × Int),bW (l.map jW).flatten=some l
 | []=>rfl
 | (a,b)::l=>by
  show(bW (l.map jW).flatten).map _=_
  rw[lT l]; rfl
theorem hU:∀{cs:List Value} {l:List (Int × Int)},bW cs=some l→cs=(l.map jW).flatten
 | [],l,h=>by cases h; rfl
 | .int .i64 a::.int .i64 b::r,l,h=>by
  have h':(bW r).map ((a,b)::·)=some l:=h;cases hr:bW r with
  | none=>rw[hr] at h'; cases h'
  | some l' =>
   rw[hr] at h'; cases h';rw[hU hr]; rfl
 | [_],_,h=>by unfold bW at h; split at h<;>simp_all
 | _::_::_,l,h=>by
  unfold bW at h
  split at h
  ·rename_i e; cases e
  ·rename_i a b r e;rw[e];cases hr:bW r with
   | none=>rw[hr] at h; cases h
   | some l' =>
    rw[hr] at h; cases h;rw[hU hr]; rfl
  ·cases h
theorem s9 {m:AMem} {b n n':Nat} {cs:List Value} {tg:Tag} (h:oi m b n n'=some (cs,tg)):m.get b=some (.cells cs tg)∧tg≠.ro∧n=n'∧cs.length=n*2∧cs.all aw=true:=by
 unfold oi at h
 split at h
 ·rename_i cs' hg
  split at h
  ·rename_i hc; cases h; exact⟨hg,(by intro e; cases e),hc⟩
  ·cases h
 ·rename_i cs' hg
  split at h
  ·rename_i hc; cases h; exact⟨hg,(by intro e; cases e),hc⟩
  ·cases h
 ·cases h
theorem sb {j:aD} {f:FuncId} {xs ys:Array Value} {v:Value} (h:VR j (.func (.func f) xs ys) v) (h1:xs.size=0) (h2:ys.size=0):v = .func (.func f) #[] #[]:=by
 cases h with
 | @func _ _ ys' _ ds a _ c _ =>
  have e1:ys'=#[]:=Array.eq_empty_of_size_eq_zero (a.symm.trans h1);have e2:ds=#[]:=Array.eq_empty_of_size_eq_zero (c.symm.trans h2);rw[e1,e2]
theorem Ba (w:World):(isAgg 33).run Tryz.prog w = .ok true w:=by rw[jb (by kernel_rfl) w,show cV Tryz.prog 33=true by kernel_rfl]
theorem yW (w:World):(Go.sizeOf 33).run Tryz.prog w = .ok 2 w:=by rw[bI (by kernel_rfl) w,show ak Tryz.prog 33=2 by kernel_rfl]
theorem Dt {n:Nat} (h:lim n=true):n≤1073741824:=Nat.le_of_ble_eq_true h
theorem oF (l:List (Int × Int)):((l.map jW).flatten).all aw=true:=by
 induction l with
 | nil=>rfl
 | cons x l ih=>rw[List.map_cons,List.flatten_cons,List.all_append,ih]; rfl
theorem Cl:∀args w,(callFunc 51 args).run Tryz.prog w = .ok (.enter 51 args) w:=fun args w=>rr.call 51 _ _ Tryz.func51 rfl args w
theorem sL {pr:Bool} {args:List Value} {m m':AMem} {v:Value} (h:ie args m=some (v,m')) {j:aD} {w:World} {args':List Value} (hm:MR po j m w) (hl:LR j args args') :
  fq po.P pr 50 args'.toArray w (iu po j m w v m'):=by
 have hcall:∀args w,(callFunc 50 args).run Tryz.prog w = .ok (.enter 50 args) w:=fun args w=>rr.call 50 _ _ Tryz.func50 rfl args w;unfold ie at h
 split at h
 ·rename_i c xs ys
  split at h
  ·rename_i hc; cases h;obtain⟨v0,vs,rfl,h1,hvs⟩:=hl.cons_inv;obtain⟨v1,v2,rfl,h2,h3⟩:=hvs.cons_inv;obtain rfl:=h3.bV;have e0:=sb h2 hc.1 hc.2;subst e0;cases h1;have hcon:=Go.Proofs.AnyF.slices_SortFunc_none Tryz.vn none c (.func (.func 51) #[] #[]) w
   change Calls Tryz.prog 50 _ _ _ at hcon
   refine .inl ⟨hcall _ _,callsIn_wide.2 ?_⟩;refine Calls.mono hcon ?_;rintro e w' ⟨rfl,rfl⟩;exact⟨_,rfl,j,.refl hm,VR.undef j⟩
  ·cases h
 ·rename_i b n n' xs ys
  split at h
  ·rename_i cs tg hcs;obtain⟨hg,htg,rfl,hcl,hp⟩:=s9 hcs
   split at h
   ·rename_i l h4
    split at h
    ·rename_i hc; cases h;obtain⟨⟨h5,h6⟩,hlim⟩:=hc;obtain⟨v0,vs,rfl,h1,hvs⟩:=hl.cons_inv;obtain⟨v1,v2,rfl,h2,h3⟩:=hvs.cons_inv;obtain rfl:=h3.bV;have e0:=sb h2 h5 h6;subst e0;obtain⟨k,c',hk,rfl⟩:=h1.at
     have h0:∀x,(jW x).length=2:=fun _=>rfl;have ecs:=hU h4;have hlen:l.length=n:=by
      have:=bB h0 l;rw[←ecs,hcl] at this; omega
     have hH:Go.Sort.HoldsK jW 2 w k.c 0 l.toArray:=by
      unfold Go.Sort.HoldsK;rw[jv h0 (by decide),←ecs]
      exact xS hm hk hg htg hp
     have hcon:=Go.Proofs.AnyQ.slices_SortFunc_total Tryz.vn 2 (fun w=>Ba w) (fun w=>yW w) jW h0 (fun x v hv=>by simp[jW,eP,eI] at hv; rcases hv with rfl|rfl<;>rfl) tO Gv 51 #[] k.c 0 c' l.toArray w Cl
      (xa _ _ _ _) hH (hm.lt b k hk).2 (by have:=Dt hlim; simp; omega) GO
     change Calls Tryz.prog 50 _ _ _ at hcon
     rw[yr] at hcon;simp only[List.size_toArray,hlen] at hcon;refine .inl ⟨hcall _ _,callsIn_wide.2 ?_⟩;refine Calls.mono hcon ?_;rintro e w' ⟨rfl,q,os,rfl⟩;refine⟨_,rfl,j,?_,VR.undef j⟩;unfold Go.Proofs.sortWorldK Go.Sort.putRowK;rw[jv h0 (by decide)]
     exact Bv hm hk hg (by rw[bB h0,hcl,List.length_mergeSort,hlen]) (oF _) q os
    ·cases h
   ·cases h
  ·cases h
 ·cases h
end Go.Proofs.YthmekkhpddehjaaGreat
end

section
namespace Go.Proofs.YthmekkhpddehjaaGreat
open Go Go.Ab
theorem CT:EnvOk po:=rT sM fun f p hp args m v m' hrun j w args' hm hl=>by
 have hp':BB f=some p:=hp;unfold BB at hp'
 split at hp'
 ·rename_i hf;subst hf;cases hp';exact oY hrun hm hl
 ·split at hp'
  ·rename_i hf;subst hf;cases hp';exact kM (E:=po) uy (fun x y c w hc=>Bg Tryz.func144 (by kernel_rfl) (by kernel_rfl) (by kernel_rfl) (by kernel_rfl) x y c w hc) rfl hrun hm hl
  ·split at hp'
   ·rename_i hf;subst hf;cases hp';exact kM (E:=po) ub (fun x y c w hc=>BE Tryz.func145 (by kernel_rfl) (by kernel_rfl) (by kernel_rfl) (by kernel_rfl) x y c w hc) rfl hrun hm hl
   ·cases hp'
theorem wY:∃fuel m',run po fuel (.call 18 [] m14)=some (.val (.bool true) m')∧0≤m'.wl:=sT (E:=po) (F:=rj) (n:=1000) (g:=0) xU tL
theorem qi {args:List Value} {m m':AMem} {v:Value} (h:kO args m=some (v,m')) {j:aD} {w:World} {args':List Value} (hm:MR po j m w) (hl:LR j args args') :
  fq po.P (po.bU 18).isSome 18 args'.toArray w (iu po j m w v m'):=by
 unfold kO at h
 split at h
 ·cases h;obtain⟨fuel,m0,h1,h2⟩:=wY;exact qj (E:=po) (gs:=fun _=>none) CT (fun x c h=>by cases h) h1 h2 rfl hm (fun x c hx hg=>by cases hg) hl
 ·cases h
theorem B3:EnvOk bh:=uF (E:=po) CT (pr:=zk) fun f p hp=>by
 unfold zk at hp
 split at hp
 ·rename_i e;cases hp;subst e;exact .inr fun args m v m' h j w args' hm hl=>qi h hm hl
 ·split at hp
  ·rename_i e;cases hp;subst e;exact .inr fun args m v m' h j w args' hm hl=>sL h hm hl
  ·exact .inl hp
end Go.Proofs.YthmekkhpddehjaaGreat
end

section
namespace Go.Proofs.YthmekkhpddehjaaGreat
set_option maxRecDepth 100000
open Go Go.ChangeShapes Go.WideShapes Go.ChangeAt Go.WideMaps Go.WideElems Go.RowKit Go.Ab Go.Ab.W
theorem bounds_i8 {n:Int} (h:(Lit.int .i8 n).wf=true) : -128≤n∧n≤127:=by
 have h':(decide ((-128:Int)≤n) && decide (n≤127))=true:=h
 simpa using h'
section
variable {H : Type} {enc : TypeId × Value → H} {W : World} {sp : Nat → Bool} {held : Bool} {v : Value} {d : DataW H} {p : List MemPlace} {base : Nat}
theorem zd {P:Program} {base:Nat} {v:Value} (h:tw enc P W base sp held (.int .i8) v):∃n:Int,v = .int .i8 n∧-128≤n∧n≤127:=by
 obtain⟨n,rfl,hw⟩:=h;exact⟨n,rfl,bounds_i8 hw⟩
end
theorem FM:laidOutB Tryz.prog=true:=by kernel_rfl
theorem BL:mapsRowed Tryz.prog=true:=by kernel_rfl
theorem Bp:sizedB Tryz.prog=true:=by kernel_rfl
theorem xc {H:Type} {enc:TypeId × Value→H} {f:FuncId} {fn:Func} {s:ChangeSpec} {W:World} {args:Array Value} {ds:List (DataW H)} {before:List MemPlace} {tb:TypeId} {fresh handsOn:Bool} {absArgs:List Value} (hpr:bh.bU f=none)
  (hvars:s.vars = []) (hres:fn.resultTypes.toList = [tb]) (hrs:fn.resultTypes.size=1) (htb:Tryz.prog.underlying tb=some .bool) (hpt:∀t ∈ fn.params.toList,t<Tryz.prog.types.size) (hfn:s.fn H ds = { results:=[.lit (.bool true)],args:=ds,vars:=[]})
  (hW:DataW.Whole enc Tryz.prog fn.params.toList s.vars false W args.toList ds [] before)
  (hl:LR (eQ W) absArgs args.toList) (hc:aR bh f absArgs (ec W) (fun v m'=>∃_:Unit,v = .bool true∧Hp (ec W) m' [])) :
  Calls Tryz.prog f args W fun e W'=>∃v,e = .returned v∧s.post enc Tryz.prog fn false fresh handsOn false W args v W':=by
 obtain⟨v,m',⟨fuel,hrun⟩,_,rfl,hm'⟩:=hc;have hm:MR bh (eQ W) (ec W) W:=C2 (Nat.zero_le _);have hcall:=callsIn_wide.1 (kH B3 hrun hpr hm hl);refine hcall.mono fun e W' ⟨v',he,j',sm,hv⟩=>?_;have hv':v' = .bool true:=cQ rfl hv;subst hv';have hwl:(ec W).next≤m'.wl:=by
  have h1:=hm'.ext.wl;have h2:min (ec W).wl (ec W).next=(ec W).next:=Nat.min_self _
  omega
 exact⟨_,he,zL FM BL Bp hvars hres hrs htb hpt hfn hW sm.calm (sm.grown hm hwl)⟩
theorem y7 {W:World} (h:W.ShapedOpen Tryz.prog):0<W.heap.size:=by
 unfold World.ShapedOpen at h;obtain⟨_,h2⟩:=h;have e:((begin Tryz.prog (fun _ _=>0) default).world).heap.size=Tryz.prog.globals.size+5:=by
  unfold begin; simp only[Array.size_push,Array.size_mapIdx]
 obtain⟨o,o0,h3,_⟩:=h2 Tryz.prog.globals.size (Nat.le_refl _) (by rw[e]; omega)
 exact Nat.lt_of_le_of_lt (Nat.zero_le _) (Array.getElem?_eq_some_iff.1 h3).1
theorem GC:A8 Tryz.prog 5 30=some [.int .i8,.int .i8]:=by kernel_rfl
theorem Gx:Tryz.prog.underlying 23=some (.slice 30):=by kernel_rfl
theorem G5:Tryz.prog.underlying 5=some (.int .u8):=by kernel_rfl
section
variable {H : Type} {enc : TypeId × Value → H} {W : World} {sp : Nat → Bool} {held : Bool} {v : Value} {d : DataW H} {p : List MemPlace} {base : Nat}
theorem E1:∀(n:Nat) (cs:List Value) (x:DataW H × List MemPlace),DataW.trod enc Tryz.prog W 0 sp held n 30 cs=some x→∃p:Int × Int,cs=eP (eI .i8) (eI .i8) p∧(-128≤p.1∧p.1≤127)∧(-128≤p.2∧p.2≤127):=by
 intro n cs x h;obtain⟨v1,cs,rfl,h1,h⟩:=lj (rC 5 30 _ GC n _ x h);obtain⟨v2,cs,rfl,h2,h⟩:=lj h;obtain rfl:=zE h;obtain⟨a,rfl,ha⟩:=zd h1;obtain⟨b,rfl,hb⟩:=zd h2;exact⟨(a,b),rfl,ha,hb⟩
theorem EI (hok:Value.okWide Tryz.prog W .any base 23 v) (hs:0<W.heap.size) (h:DataW.Trod enc Tryz.prog W 0 sp held 23 v d p):∃(l:List (Int × Int)) (a:Option Addr) (c:Nat),
  VR (eQ W) (.slice a l.length c) v∧(∀q ∈ l,(-128≤q.1∧q.1≤127)∧(-128≤q.2∧q.2≤127))∧l.length≤maxLen∧Rd (ec W) a c 2 l.length (l.map (eP (eI .i8) (eI .i8))):=by
 obtain⟨a0,n0,c0,rfl⟩:=okWide_slice Gx hok;obtain⟨n,h⟩:=h;have h1:=rC 5 23 [.sl 30] (by kernel_rfl) n _ _ h
 obtain⟨v1,r,hr,h1,_⟩:=lj h1;cases hr;obtain⟨a,c,l,e1,e2,e3,e4⟩:=D3 (f:=eP (eI .i8) (eI .i8)) (w:=2) (by kernel_rfl) (by omega) hs (fun q=>rfl) E1 h1
 exact⟨l,a,c,e1,e3,e4,e2⟩
theorem GG (hok:Value.okWide Tryz.prog W .any base 5 v) (h:DataW.Trod enc Tryz.prog W 0 sp held 5 v d p):∃n:Nat,v = .int .u8 ((n:Nat):Int)∧n<256:=by
 obtain⟨k,rfl⟩:=okWide_int G5 hok;obtain⟨n,h⟩:=h;obtain⟨m,e,_,hw⟩:=DataW.trod_int G5 h;exact DQ (enc:=enc) (P:=Tryz.prog) (W:=W) (base:=0) (sp:=sp) (held:=held) ⟨m,by cases e; rfl,hw⟩
end
end Go.Proofs.YthmekkhpddehjaaGreat
end

section
namespace Go.Proofs.YthmekkhpddehjaaGreat
open Go Go.Ab Go.Ab.W
set_option maxRecDepth 10000
def Gw (_:Nat) (l1:List (Nat)) (_:Int) (_:Int) (_:Nat) (_:Bool) (_:Bool) (x10:Int):Option (Int) :=
br (decide ((l1.length:Int)=0)) (
some (Int.tmod x10 3)) (
gd (decide ((l1.length:Int)≠0)) (
gd (bX (Int.tmod x10 (l1.length:Int)) l1.length) (
ob (l1[(Int.tmod x10 (l1.length:Int)).toNat]?) fun x17 =>
some (IntKind.wrap .i64 ((x17:Nat):Int)))))
def Fm (n:Nat) (l1:List (Nat)) (x5:Int) (x6:Int) (x7:Nat) (x8:Bool) (x9:Bool):(List (Int × Int) × List (Int × Int) × Int)→Option ((List (Int × Int) × List (Int × Int) × Int) ⊕ (List (Int × Int))):=fun(l2,l3,v0) =>
br (decide (v0<12)) (
ob (
ob (Gw n l1 x5 x6 x7 x8 x9 v0) fun r0 =>
ob (
br (decide (Int.tmod r0 6=0)) (
some (!decide (Int.tmod v0 3=0))) (
some false)) fun v1 =>
br (v1) (
some l2) (
gd (bX v0 12) (
ob (l3[v0.toNat]?) fun(x3,x4) =>
ob (some (IntKind.wrap .i64 (x3*(IntKind.wrap .i64 (1+(Int.tmod (Int.tmod r0 6) 5)))))) fun y0 =>
gd (bX v0 12) (
ob (some (IntKind.wrap .i64 (x4*(IntKind.wrap .i64 (1+(Int.tmod (Int.tmod r0 6) 5)))))) fun y1 =>
gd (lim (l2++[(y0,y1)]).length) (
some (l2++[(y0,y1)])))))) fun l4 =>
some (.inl (l4,l3,IntKind.wrap .i64 (v0+1)))) (
some (.inr l2))
def FN (_:Nat) (v1:Int) (r0:Int):(List (Int × Int) × Nat × Int)→Option ((List (Int × Int) × Nat × Int) ⊕ (List (Int × Int) × Nat)):=fun(l2,n0,v0) =>
br (decide (v1≤v0)) (
ob (
gd (bX (IntKind.wrap .i64 ((n0:Int)-1)) n0) (
ob (l2[(IntKind.wrap .i64 ((n0:Int)-1)).toNat]?) fun(x3,x4) =>
br (!(decide (x3=v0) && decide (x4=IntKind.wrap .i64 (1+(Int.tmod r0 5))))) (
gd (lim (l2++[(v0,IntKind.wrap .i64 (1+(Int.tmod r0 5)))]).length) (
some ((l2++[(v0,IntKind.wrap .i64 (1+(Int.tmod r0 5)))]),(l2++[(v0,IntKind.wrap .i64 (1+(Int.tmod r0 5)))]).length))) (
some (l2,n0)))) fun(l3,n1) =>
some (.inl (l3,n1,IntKind.wrap .i64 (v0-1)))) (
some (.inr (l2,n0)))
def EX (n:Nat) (l1:List (Nat)) (x5:Int) (x6:Int) (x7:Nat) (x8:Bool) (x9:Bool):(List (Int × Int) × Nat × Int)→Option ((List (Int × Int) × Nat × Int) ⊕ (List (Int × Int) × Nat)):=fun(l2,n0,v0) =>
br (decide (0≤v0)) (
ob (Gw n l1 x5 x6 x7 x8 x9 (IntKind.wrap .i64 (v0+1))) fun r0 =>
ob (
cy (FN n v0 r0) n (l2,n0,IntKind.wrap .i64 (v0+1))) fun(l3,n1) =>
some (.inl (l3,n1,IntKind.wrap .i64 (v0-1)))) (
some (.inr (l2,n0)))
def Hg (n:Nat) (l1:List (Nat)) (x5:Int) (x6:Int) (x7:Nat) (x8:Bool) (x9:Bool):Option (List (Int × Int)) :=
br (!x8) (
ob (
cy (Fm n l1 x5 x6 x7 x8 x9) n (([]:List (Int × Int)),([(2,0),(2,1),(1,2),(0,2),(-1,2),(-2,1),(-2,0),(-2,-1),(-1,-2),(0,-2),(1,-2),(2,-1)]:List (Int × Int)),0)) fun l2 =>
some l2) (
ob (Gw n l1 x5 x6 x7 x8 x9 0) fun r0 =>
ob (
cy (EX n l1 x5 x6 x7 x8 x9) n ([(0,0),(IntKind.wrap .i64 (1+(Int.tmod r0 6)),0)],2,IntKind.wrap .i64 ((IntKind.wrap .i64 (1+(Int.tmod r0 6)))-1))) fun(l3,_) =>
some l3)
def GX (_:Nat) (x1:Int) (x2:Int):Option (Bool) :=
br (decide (x1 < -1000000)) (
some true) (
br (decide (1000000<x1)) (
some true) (
br (decide (x2 < -1000000)) (
some true) (
some (decide (1000000<x2)))))
def CH (_:Nat) (l1:List (Int × Int)) (x5:Int):Option (Int × Int) :=
gd (decide ((l1.length:Int)≠0)) (
gd (bX (Int.tmod x5 (l1.length:Int)) l1.length) (
ob (l1[(Int.tmod x5 (l1.length:Int)).toNat]?) fun(x11,x12) =>
some (x11,x12)))
def CC (_:Nat) (x1:Int) (x2:Int) (x3:Int) (x4:Int) (x5:Int) (x6:Int):Option (Int) :=
ob (some (IntKind.wrap .i64 ((IntKind.wrap .i64 (x3-x1))*(IntKind.wrap .i64 (x6-x2))))) fun y10 =>
ob (some (IntKind.wrap .i64 ((IntKind.wrap .i64 (x4-x2))*(IntKind.wrap .i64 (x5-x1))))) fun y12 =>
some (IntKind.wrap .i64 (y10-y12))
def Hr (_:Nat) (x1:Int) (x2:Int) (x3:Int) (x4:Int) (x5:Int) (x6:Int):Option (Int) :=
ob (some (IntKind.wrap .i64 ((IntKind.wrap .i64 (x3-x1))*(IntKind.wrap .i64 (x5-x3))))) fun y10 =>
ob (some (IntKind.wrap .i64 ((IntKind.wrap .i64 (x4-x2))*(IntKind.wrap .i64 (x6-x4))))) fun y12 =>
some (IntKind.wrap .i64 (y10+y12))
def Gi (_:Nat) (x1:Int):Option (Int) :=
br (decide (0<x1)) (
some 1) (
br (decide (x1<0)) (
some (-1)) (
some 0))
def FA (n:Nat) (x1:Int) (x2:Int) (x3:Int) (x4:Int) (x5:Int) (x6:Int):Option (Bool) :=
ob (CC n x1 x2 x3 x4 x5 x6) fun r11 =>
br (!decide (r11=0)) (
some false) (
br (decide (mi x1 x3≤x5)) (
br (decide (x5≤ma x1 x3)) (
br (decide (mi x2 x4≤x6)) (
some (decide (x6≤ma x2 x4))) (
some false)) (
some false)) (
some false))
def Hq (n:Nat) (x1:Int) (x2:Int) (x3:Int) (x4:Int) (x5:Int) (x6:Int) (x7:Int) (x8:Int):Option (Int) :=
ob (CC n x1 x2 x3 x4 x5 x6) fun r2 =>
ob (Gi n r2) fun r0 =>
ob (CC n x1 x2 x3 x4 x7 x8) fun r3 =>
ob (Gi n r3) fun r1 =>
ob (CC n x5 x6 x7 x8 x1 x2) fun r4 =>
ob (Gi n r4) fun r5 =>
ob (CC n x5 x6 x7 x8 x3 x4) fun r6 =>
ob (Gi n r6) fun r7 =>
ob (
br (decide (r0=0)) (
some (decide (r1=0))) (
some false)) fun v1 =>
br (v1) (
ob (some (IntKind.wrap .i64 ((ma (mi x1 x3) (mi x5 x7))-(mi (ma x1 x3) (ma x5 x7))))) fun y0 =>
ob (
br (decide (x1=x3)) (
ob (some (IntKind.wrap .i64 ((ma (mi x2 x4) (mi x6 x8))-(mi (ma x2 x4) (ma x6 x8))))) fun y1 =>
some y1) (
some y0)) fun v0 =>
br (decide (0<v0)) (
some 0) (
br (decide (v0=0)) (
some 1) (
some 3))) (
ob (
br (decide (IntKind.wrap .i64 (r0*r1)<0)) (
some (decide (IntKind.wrap .i64 (r5*r7)<0))) (
some false)) fun v2 =>
br (v2) (
some 2) (
ob (
ob (FA n x1 x2 x3 x4 x5 x6) fun r8 =>
br (r8) (
some true) (
ob (FA n x1 x2 x3 x4 x7 x8) fun r9 =>
br (r9) (
some true) (
ob (FA n x5 x6 x7 x8 x1 x2) fun r10 =>
br (r10) (
some true) (
ob (FA n x5 x6 x7 x8 x3 x4) fun r11 =>
some r11)))) fun v3 =>
br (v3) (
some 1) (
some 0)))
def Fj (n:Nat) (l1:List (Int × Int)):Int→Option ((Int) ⊕ ((Int) ⊕ (Unit))):=fun v18 =>
br (decide (v18<(l1.length:Int))) (
gd (bX v18 l1.length) (
ob (l1[v18.toNat]?) fun(x35,x36) =>
ob (GX n x35 x36) fun r39 =>
br (r39) (
some (.inr (.inl v18))) (
some (.inl (IntKind.wrap .i64 (v18+1)))))) (
some (.inr (.inr ())))
def F7 (n:Nat) (l1:List (Int × Int)):Int→Option ((Int) ⊕ ((Int) ⊕ (Unit))):=fun v44 =>
br (decide (v44<(l1.length:Int))) (
gd (bX v44 l1.length) (
ob (l1[v44.toNat]?) fun(x62,x63) =>
ob (CH n l1 (IntKind.wrap .i64 (v44+1))) fun(r66,r67) =>
br ((decide (x62=r66) && decide (x63=r67))) (
some (.inr (.inl v44))) (
some (.inl (IntKind.wrap .i64 (v44+1)))))) (
some (.inr (.inr ())))
def EE (n:Nat) (l1:List (Int × Int)):Int→Option ((Int) ⊕ ((Int) ⊕ (Unit))):=fun v0 =>
br (decide (v0<(l1.length:Int))) (
ob (CH n l1 (IntKind.wrap .i64 ((IntKind.wrap .i64 (v0+(l1.length:Int)))-1))) fun(r0,r1) =>
gd (bX v0 l1.length) (
ob (l1[v0.toNat]?) fun(x3,x4) =>
ob (CH n l1 (IntKind.wrap .i64 (v0+1))) fun(r2,r3) =>
ob (
ob (CC n r0 r1 x3 x4 r2 r3) fun r4 =>
br (decide (r4=0)) (
ob (Hr n r0 r1 x3 x4 r2 r3) fun r5 =>
some (decide (r5<0))) (
some false)) fun v1 =>
br (v1) (
some (.inr (.inl v0))) (
some (.inl (IntKind.wrap .i64 (v0+1)))))) (
some (.inr (.inr ())))
def Fl (n:Nat) (v1:Int) (l1:List (Int × Int)):Int→Option ((Int) ⊕ ((Unit) ⊕ (Unit))):=fun v0 =>
br (decide (IntKind.wrap .i64 (v0+1)<v1)) (
ob (α:=(Unit) ⊕ (Unit)) (
ob (
br (decide (v0=0)) (
some (decide (v1=IntKind.wrap .i64 ((l1.length:Int)-1)))) (
some false)) fun v2 =>
br (v2) (
some (.inl ())) (
gd (bX v0 l1.length) (
ob (l1[v0.toNat]?) fun(x3,x4) =>
gd (bX (IntKind.wrap .i64 (v0+1)) l1.length) (
ob (l1[(IntKind.wrap .i64 (v0+1)).toNat]?) fun(x10,x11) =>
gd (bX v1 l1.length) (
ob (l1[v1.toNat]?) fun(x12,x13) =>
ob (CH n l1 (IntKind.wrap .i64 (v1+1))) fun(r0,r1) =>
ob (Hq n x3 x4 x10 x11 x12 x13 r0 r1) fun r2 =>
br (!decide (r2=0)) (
some (.inr ())) (
some (.inl ()))))))) fun r3=>match r3 with
| .inl _ =>
some (.inl (IntKind.wrap .i64 (v0+1)))
| .inr _ =>
some (.inr (.inl ()))) (
some (.inr (.inr ())))
def FC (n:Nat) (l1:List (Int × Int)):Int→Option ((Int) ⊕ ((Int) ⊕ (Unit))):=fun v0 =>
br (decide (v0<(l1.length:Int))) (
ob (α:=(Unit) ⊕ (Unit)) (
cy (Fl n v0 l1) n 0) fun r0=>match r0 with
| .inl _ =>
some (.inr (.inl v0))
| .inr _ =>
some (.inl (IntKind.wrap .i64 (v0+1)))) (
some (.inr (.inr ())))
def Ht (n:Nat) (l1:List (Int × Int)):Option (Int × Int) :=
ob (
br (decide ((l1.length:Int)<3)) (
some true) (
some (decide (40<(l1.length:Int))))) fun v0 =>
br (v0) (
some (1,0)) (
ob (α:=(Int) ⊕ (Unit)) (
cy (Fj n l1) n 0) fun r0=>match r0 with
| .inl v1 =>
some (2,v1)
| .inr _ =>
ob (α:=(Int) ⊕ (Unit)) (
cy (F7 n l1) n 0) fun r1=>match r1 with
| .inl v2 =>
some (3,v2)
| .inr _ =>
ob (α:=(Int) ⊕ (Unit)) (
cy (EE n l1) n 0) fun r2=>match r2 with
| .inl v3 =>
some (4,v3)
| .inr _ =>
ob (α:=(Int) ⊕ (Unit)) (
cy (FC n l1) n 0) fun r3=>match r3 with
| .inl v4 =>
some (5,v4)
| .inr _ =>
some (0,0))
def Ga (n:Nat) (l1:List (Int × Int)):Option (Int) :=
ob (Ht n l1) fun(r6,_) =>
br (decide (0<r6)) (
some 140) (
some 0)
def FO (_:Nat) (l1:List (Int × Int)):(List (Int × Int) × Nat × Int)→Option ((List (Int × Int) × Nat × Int) ⊕ (List (Int × Int) × Nat)):=fun(l25,n27,v28) =>
br (decide (0<v28)) (
gd (bX v28 l1.length) (
ob (l1[v28.toNat]?) fun(x46,x47) =>
gd (lim (l25++[(x46,x47)]).length) (
some (.inl ((l25++[(x46,x47)]),(l25++[(x46,x47)]).length,IntKind.wrap .i64 (v28-1)))))) (
some (.inr (l25,n27)))
def GW (n:Nat) (l1:List (Int × Int)):Option (List (Int × Int) × Int) :=
ob (Ga n l1) fun r6 =>
br (!decide (r6=0)) (
some ([],r6)) (
gd (bX 0 l1.length) (
ob (l1[(0:Int).toNat]?) fun(x11,x12) =>
ob (
cy (FO n l1) n ([(x11,x12)],1,IntKind.wrap .i64 ((l1.length:Int)-1))) fun(l41,_) =>
some (l41,0)))
def F6 (_:Nat) (l12:List (Int × Int)) (x5:Int) (x6:Int):(List (Int × Int) × Int × Int)→Option ((List (Int × Int) × Int × Int) ⊕ (List (Int × Int))):=fun(l33,v34,v35) =>
br (decide (v35<(l12.length:Int))) (
gd (bX v35 l12.length) (
ob (l33[v35.toNat]?) fun(x60,x61) =>
ob (some (IntKind.wrap .i64 ((IntKind.wrap .i64 (x60*v34))+(IntKind.wrap .i64 x5)))) fun y63 =>
gd (bX v35 l12.length) (
ob (some (IntKind.wrap .i64 ((IntKind.wrap .i64 (x61*v34))+(IntKind.wrap .i64 x6)))) fun y66 =>
gd (bX v35 l12.length) (
some (.inl ((l33.set v35.toNat (y63,y66)),v34,IntKind.wrap .i64 (v35+1))))))) (
some (.inr l33))
def Hb (n:Nat) (l1:List (Nat)) (x5:Int) (x6:Int) (x7:Nat) (x8:Bool) (x9:Bool):Option (List (Int × Int)) :=
ob (Hg n l1 x5 x6 x7 x8 x9) fun l12 =>
ob (
cy (F6 n l12 x5 x6) n (l12,IntKind.wrap .i64 (1+(IntKind.wrap .i64 ((x7:Nat):Int))),0)) fun l54 =>
ob (
br (x9) (
ob (GW n l54) fun(l83,_) =>
some (l83,l83.length)) (
some (l54,l12.length))) fun(l78,_) =>
some l78
def FW (_:Nat) (x3:Nat):(List (Int × Int))→Option ((List (Int × Int)) ⊕ (List (Int × Int))):=fun l2 =>
br (decide ((l2.length:Int)<IntKind.wrap .i64 (39+(IntKind.wrap .i64 ((x3%3:Nat):Int))))) (
gd (lim (l2++[(IntKind.wrap .i64 (3*(l2.length:Int)),IntKind.wrap .i64 ((l2.length:Int)*(l2.length:Int)))]).length) (
some (.inl (l2++[(IntKind.wrap .i64 (3*(l2.length:Int)),IntKind.wrap .i64 ((l2.length:Int)*(l2.length:Int)))])))) (
some (.inr l2))
def G0 (n:Nat) (x1:Nat) (x2:Nat) (x10:Nat) (x3:Int) (x5:Int) (l2:List (Int × Int)):Option (List (Int × Int)) :=
gd (okB 0 (mi (l2.length:Int) (50:Int)) l2.length) (
gd (lim (([]:List (Int × Int))++((l2.drop (0:Int).toNat).take ((mi (l2.length:Int) (50:Int):Int).toNat-(0:Int).toNat))).length) (
br (decide (((([]:List (Int × Int))++((l2.drop (0:Int).toNat).take ((mi (l2.length:Int) (50:Int):Int).toNat-(0:Int).toNat))).length:Int)=0)) (
some (([]:List (Int × Int))++((l2.drop (0:Int).toNat).take ((mi (l2.length:Int) (50:Int):Int).toNat-(0:Int).toNat)))) (
gd (decide (((([]:List (Int × Int))++((l2.drop (0:Int).toNat).take ((mi (l2.length:Int) (50:Int):Int).toNat-(0:Int).toNat))).length:Int)≠0)) (
ob (some (Int.tmod (IntKind.wrap .i64 ((x2:Nat):Int)) ((([]:List (Int × Int))++((l2.drop (0:Int).toNat).take ((mi (l2.length:Int) (50:Int):Int).toNat-(0:Int).toNat))).length:Int))) fun y0 =>
gd (decide (((([]:List (Int × Int))++((l2.drop (0:Int).toNat).take ((mi (l2.length:Int) (50:Int):Int).toNat-(0:Int).toNat))).length:Int)≠0)) (
ob (some (Int.tmod (IntKind.wrap .i64 ((x10:Nat):Int)) ((([]:List (Int × Int))++((l2.drop (0:Int).toNat).take ((mi (l2.length:Int) (50:Int):Int).toNat-(0:Int).toNat))).length:Int))) fun y1 =>
ob (
br (decide (x1%9=0)) (
gd (bX y0 ((([]:List (Int × Int))++((l2.drop (0:Int).toNat).take ((mi (l2.length:Int) (50:Int):Int).toNat-(0:Int).toNat))).length)) (
ob ((([]:List (Int × Int))++((l2.drop (0:Int).toNat).take ((mi (l2.length:Int) (50:Int):Int).toNat-(0:Int).toNat)))[y0.toNat]?) fun(_,_) =>
some (((([]:List (Int × Int))++((l2.drop (0:Int).toNat).take ((mi (l2.length:Int) (50:Int):Int).toNat-(0:Int).toNat))).set y0.toNat (x3,x5)),(([]:List (Int × Int))++((l2.drop (0:Int).toNat).take ((mi (l2.length:Int) (50:Int):Int).toNat-(0:Int).toNat))).length))) (
br (decide (x1%9=1)) (
gd (bX y1 ((([]:List (Int × Int))++((l2.drop (0:Int).toNat).take ((mi (l2.length:Int) (50:Int):Int).toNat-(0:Int).toNat))).length)) (
ob ((([]:List (Int × Int))++((l2.drop (0:Int).toNat).take ((mi (l2.length:Int) (50:Int):Int).toNat-(0:Int).toNat)))[y1.toNat]?) fun(x13,x14) =>
gd (bX y0 ((([]:List (Int × Int))++((l2.drop (0:Int).toNat).take ((mi (l2.length:Int) (50:Int):Int).toNat-(0:Int).toNat))).length)) (
ob ((([]:List (Int × Int))++((l2.drop (0:Int).toNat).take ((mi (l2.length:Int) (50:Int):Int).toNat-(0:Int).toNat)))[y0.toNat]?) fun(_,_) =>
some (((([]:List (Int × Int))++((l2.drop (0:Int).toNat).take ((mi (l2.length:Int) (50:Int):Int).toNat-(0:Int).toNat))).set y0.toNat (x13,x14)),(([]:List (Int × Int))++((l2.drop (0:Int).toNat).take ((mi (l2.length:Int) (50:Int):Int).toNat-(0:Int).toNat))).length)))) (
br (decide (x1%9=2)) (
gd (bX y1 ((([]:List (Int × Int))++((l2.drop (0:Int).toNat).take ((mi (l2.length:Int) (50:Int):Int).toNat-(0:Int).toNat))).length)) (
ob ((([]:List (Int × Int))++((l2.drop (0:Int).toNat).take ((mi (l2.length:Int) (50:Int):Int).toNat-(0:Int).toNat)))[y1.toNat]?) fun(x11,x12) =>
gd (bX y0 ((([]:List (Int × Int))++((l2.drop (0:Int).toNat).take ((mi (l2.length:Int) (50:Int):Int).toNat-(0:Int).toNat))).length)) (
ob ((([]:List (Int × Int))++((l2.drop (0:Int).toNat).take ((mi (l2.length:Int) (50:Int):Int).toNat-(0:Int).toNat)))[y0.toNat]?) fun(x15,x16) =>
gd (bX y0 ((([]:List (Int × Int))++((l2.drop (0:Int).toNat).take ((mi (l2.length:Int) (50:Int):Int).toNat-(0:Int).toNat))).length)) (
gd (bX y1 ((([]:List (Int × Int))++((l2.drop (0:Int).toNat).take ((mi (l2.length:Int) (50:Int):Int).toNat-(0:Int).toNat))).length)) (
ob (((([]:List (Int × Int))++((l2.drop (0:Int).toNat).take ((mi (l2.length:Int) (50:Int):Int).toNat-(0:Int).toNat))).set y0.toNat (x11,x12))[y1.toNat]?) fun(_,_) =>
some ((((([]:List (Int × Int))++((l2.drop (0:Int).toNat).take ((mi (l2.length:Int) (50:Int):Int).toNat-(0:Int).toNat))).set y0.toNat (x11,x12)).set y1.toNat (x15,x16)),(([]:List (Int × Int))++((l2.drop (0:Int).toNat).take ((mi (l2.length:Int) (50:Int):Int).toNat-(0:Int).toNat))).length)))))) (
br (decide (x1%9=3)) (
gd (okB 0 y0 ((([]:List (Int × Int))++((l2.drop (0:Int).toNat).take ((mi (l2.length:Int) (50:Int):Int).toNat-(0:Int).toNat))).length)) (
some ((((([]:List (Int × Int))++((l2.drop (0:Int).toNat).take ((mi (l2.length:Int) (50:Int):Int).toNat-(0:Int).toNat))).drop (0:Int).toNat).take ((y0:Int).toNat-(0:Int).toNat)),(((([]:List (Int × Int))++((l2.drop (0:Int).toNat).take ((mi (l2.length:Int) (50:Int):Int).toNat-(0:Int).toNat))).drop (0:Int).toNat).take ((y0:Int).toNat-(0:Int).toNat)).length))) (
br (decide (x1%9=4)) (
gd (lim ((([]:List (Int × Int))++((l2.drop (0:Int).toNat).take ((mi (l2.length:Int) (50:Int):Int).toNat-(0:Int).toNat)))++[(x3,x5)]).length) (
some (((([]:List (Int × Int))++((l2.drop (0:Int).toNat).take ((mi (l2.length:Int) (50:Int):Int).toNat-(0:Int).toNat)))++[(x3,x5)]),((([]:List (Int × Int))++((l2.drop (0:Int).toNat).take ((mi (l2.length:Int) (50:Int):Int).toNat-(0:Int).toNat)))++[(x3,x5)]).length))) (
br (decide (x1%9=5)) (
gd (bX y0 ((([]:List (Int × Int))++((l2.drop (0:Int).toNat).take ((mi (l2.length:Int) (50:Int):Int).toNat-(0:Int).toNat))).length)) (
ob ((([]:List (Int × Int))++((l2.drop (0:Int).toNat).take ((mi (l2.length:Int) (50:Int):Int).toNat-(0:Int).toNat)))[y0.toNat]?) fun(x17,x18) =>
gd (decide (((([]:List (Int × Int))++((l2.drop (0:Int).toNat).take ((mi (l2.length:Int) (50:Int):Int).toNat-(0:Int).toNat))).length:Int)≠0)) (
ob (some (Int.tmod (IntKind.wrap .i64 (y0+1)) ((([]:List (Int × Int))++((l2.drop (0:Int).toNat).take ((mi (l2.length:Int) (50:Int):Int).toNat-(0:Int).toNat))).length:Int))) fun y4 =>
gd (bX y4 ((([]:List (Int × Int))++((l2.drop (0:Int).toNat).take ((mi (l2.length:Int) (50:Int):Int).toNat-(0:Int).toNat))).length)) (
ob ((([]:List (Int × Int))++((l2.drop (0:Int).toNat).take ((mi (l2.length:Int) (50:Int):Int).toNat-(0:Int).toNat)))[y4.toNat]?) fun(x19,x20) =>
ob (some (IntKind.wrap .i64 ((IntKind.wrap .i64 (Int.tdiv x17 2))+(IntKind.wrap .i64 (Int.tdiv x19 2))))) fun y2 =>
ob (some (IntKind.wrap .i64 ((IntKind.wrap .i64 (Int.tdiv x18 2))+(IntKind.wrap .i64 (Int.tdiv x20 2))))) fun y3 =>
gd (okB 0 (IntKind.wrap .i64 (y0+1)) ((([]:List (Int × Int))++((l2.drop (0:Int).toNat).take ((mi (l2.length:Int) (50:Int):Int).toNat-(0:Int).toNat))).length)) (
gd (lim (([]:List (Int × Int))++(((([]:List (Int × Int))++((l2.drop (0:Int).toNat).take ((mi (l2.length:Int) (50:Int):Int).toNat-(0:Int).toNat))).drop (0:Int).toNat).take ((IntKind.wrap .i64 (y0+1):Int).toNat-(0:Int).toNat))).length) (
gd (lim ((([]:List (Int × Int))++(((([]:List (Int × Int))++((l2.drop (0:Int).toNat).take ((mi (l2.length:Int) (50:Int):Int).toNat-(0:Int).toNat))).drop (0:Int).toNat).take ((IntKind.wrap .i64 (y0+1):Int).toNat-(0:Int).toNat)))++[(y2,y3)]).length) (
gd (okB (IntKind.wrap .i64 (y0+1)) ((([]:List (Int × Int))++((l2.drop (0:Int).toNat).take ((mi (l2.length:Int) (50:Int):Int).toNat-(0:Int).toNat))).length:Int) ((([]:List (Int × Int))++((l2.drop (0:Int).toNat).take ((mi (l2.length:Int) (50:Int):Int).toNat-(0:Int).toNat))).length)) (
gd (lim (((([]:List (Int × Int))++(((([]:List (Int × Int))++((l2.drop (0:Int).toNat).take ((mi (l2.length:Int) (50:Int):Int).toNat-(0:Int).toNat))).drop (0:Int).toNat).take ((IntKind.wrap .i64 (y0+1):Int).toNat-(0:Int).toNat)))++[(y2,y3)])++(((([]:List (Int × Int))++((l2.drop (0:Int).toNat).take ((mi (l2.length:Int) (50:Int):Int).toNat-(0:Int).toNat))).drop (IntKind.wrap .i64 (y0+1):Int).toNat).take ((((([]:List (Int × Int))++((l2.drop (0:Int).toNat).take ((mi (l2.length:Int) (50:Int):Int).toNat-(0:Int).toNat))).length:Int):Int).toNat-(IntKind.wrap .i64 (y0+1):Int).toNat))).length) (
some ((((([]:List (Int × Int))++(((([]:List (Int × Int))++((l2.drop (0:Int).toNat).take ((mi (l2.length:Int) (50:Int):Int).toNat-(0:Int).toNat))).drop (0:Int).toNat).take ((IntKind.wrap .i64 (y0+1):Int).toNat-(0:Int).toNat)))++[(y2,y3)])++(((([]:List (Int × Int))++((l2.drop (0:Int).toNat).take ((mi (l2.length:Int) (50:Int):Int).toNat-(0:Int).toNat))).drop (IntKind.wrap .i64 (y0+1):Int).toNat).take ((((([]:List (Int × Int))++((l2.drop (0:Int).toNat).take ((mi (l2.length:Int) (50:Int):Int).toNat-(0:Int).toNat))).length:Int):Int).toNat-(IntKind.wrap .i64 (y0+1):Int).toNat))),(((([]:List (Int × Int))++(((([]:List (Int × Int))++((l2.drop (0:Int).toNat).take ((mi (l2.length:Int) (50:Int):Int).toNat-(0:Int).toNat))).drop (0:Int).toNat).take ((IntKind.wrap .i64 (y0+1):Int).toNat-(0:Int).toNat)))++[(y2,y3)])++(((([]:List (Int × Int))++((l2.drop (0:Int).toNat).take ((mi (l2.length:Int) (50:Int):Int).toNat-(0:Int).toNat))).drop (IntKind.wrap .i64 (y0+1):Int).toNat).take ((((([]:List (Int × Int))++((l2.drop (0:Int).toNat).take ((mi (l2.length:Int) (50:Int):Int).toNat-(0:Int).toNat))).length:Int):Int).toNat-(IntKind.wrap .i64 (y0+1):Int).toNat))).length)))))))))) (
br (decide (x1%9=6)) (
ob (
cy (FW n x10) n (([]:List (Int × Int))++((l2.drop (0:Int).toNat).take ((mi (l2.length:Int) (50:Int):Int).toNat-(0:Int).toNat)))) fun l3 =>
some (l3,l3.length)) (
br (decide (x1%9=7)) (
gd (bX y0 ((([]:List (Int × Int))++((l2.drop (0:Int).toNat).take ((mi (l2.length:Int) (50:Int):Int).toNat-(0:Int).toNat))).length)) (
ob ((([]:List (Int × Int))++((l2.drop (0:Int).toNat).take ((mi (l2.length:Int) (50:Int):Int).toNat-(0:Int).toNat)))[y0.toNat]?) fun(x21,x4) =>
gd (bX y0 ((([]:List (Int × Int))++((l2.drop (0:Int).toNat).take ((mi (l2.length:Int) (50:Int):Int).toNat-(0:Int).toNat))).length)) (
gd (bX y0 ((([]:List (Int × Int))++((l2.drop (0:Int).toNat).take ((mi (l2.length:Int) (50:Int):Int).toNat-(0:Int).toNat))).length)) (
gd (bX y0 ((([]:List (Int × Int))++((l2.drop (0:Int).toNat).take ((mi (l2.length:Int) (50:Int):Int).toNat-(0:Int).toNat))).length)) (
ob (((([]:List (Int × Int))++((l2.drop (0:Int).toNat).take ((mi (l2.length:Int) (50:Int):Int).toNat-(0:Int).toNat))).set y0.toNat (x4,x4))[y0.toNat]?) fun(x22,_) =>
some ((((([]:List (Int × Int))++((l2.drop (0:Int).toNat).take ((mi (l2.length:Int) (50:Int):Int).toNat-(0:Int).toNat))).set y0.toNat (x4,x4)).set y0.toNat (x22,x21)),(([]:List (Int × Int))++((l2.drop (0:Int).toNat).take ((mi (l2.length:Int) (50:Int):Int).toNat-(0:Int).toNat))).length)))))) (
some ((([]:List (Int × Int))++((l2.drop (0:Int).toNat).take ((mi (l2.length:Int) (50:Int):Int).toNat-(0:Int).toNat))),(([]:List (Int × Int))++((l2.drop (0:Int).toNat).take ((mi (l2.length:Int) (50:Int):Int).toNat-(0:Int).toNat))).length)))))))))) fun(l4,_) =>
some l4)))))
def He (_:Nat) (l1:List (Int × Int)):Option (List (Int × Int)) :=
gd (okB 0 (mi (l1.length:Int) (50:Int)) l1.length) (
some ((l1.drop (0:Int).toNat).take ((mi (l1.length:Int) (50:Int):Int).toNat-(0:Int).toNat)))
def Hj (n:Nat) (l1:List (Int × Int)) (l6:List (Nat)) (x11:Int) (x12:Int) (x13:Nat) (x14:Bool) (x15:Bool) (x16:Nat) (x17:Nat) (x18:Nat) (x19:Int) (x20:Int) (x21:Nat) (x22:Nat) (x23:Nat) (x24:Int) (x25:Int):Option (List (Int × Int) × List (Int × Int) × List (Int × Int) × List (Int × Int)) :=
ob (Hb n l6 x11 x12 x13 x14 x15) fun l30 =>
ob (G0 n x16 x17 x18 x19 x20 l30) fun l34 =>
ob (G0 n x21 x22 x23 x24 x25 l34) fun l39 =>
ob (He n l1) fun l44 =>
some (l30,l34,l39,l44)
def tt (n:Nat) (l1:List (Int × Int)):Int→Option ((Int) ⊕ ((Int) ⊕ (Unit))):=fun v49 =>
br (decide (v49<(l1.length:Int))) (
gd (bX v49 l1.length) (
ob (l1[v49.toNat]?) fun(x66,x67) =>
ob (Dz n x66 x67) fun r70 =>
br (r70) (
some (.inr (.inl v49))) (
some (.inl (IntKind.wrap .i64 (v49+1)))))) (
some (.inr (.inr ())))
def sC (_:Nat) (l1:List (Int × Int)):Int→Option ((Int) ⊕ ((Int) ⊕ (Unit))):=fun v0 =>
br (decide (v0<(l1.length:Int))) (
gd (bX v0 l1.length) (
ob (l1[v0.toNat]?) fun(x3,x4) =>
gd (decide ((l1.length:Int)≠0)) (
gd (bX (Int.tmod (IntKind.wrap .i64 (v0+1)) (l1.length:Int)) l1.length) (
ob (l1[(Int.tmod (IntKind.wrap .i64 (v0+1)) (l1.length:Int)).toNat]?) fun(x10,x11) =>
ob (α:=(Unit) ⊕ (Unit)) (
br ((decide (x3=x10) && decide (x4=x11))) (
some (.inl ())) (
some (.inr ()))) fun r0=>match r0 with
| .inl _ =>
some (.inr (.inl v0))
| .inr _ =>
some (.inl (IntKind.wrap .i64 (v0+1))))))) (
some (.inr (.inr ())))
def sY (n:Nat) (l1:List (Int × Int)):Int→Option ((Int) ⊕ ((Int) ⊕ (Unit))):=fun v0 =>
br (decide (v0<(l1.length:Int))) (
gd (bX v0 l1.length) (
ob (l1[v0.toNat]?) fun(x3,x4) =>
gd (decide ((l1.length:Int)≠0)) (
gd (bX (Int.tmod (IntKind.wrap .i64 (v0+1)) (l1.length:Int)) l1.length) (
ob (l1[(Int.tmod (IntKind.wrap .i64 (v0+1)) (l1.length:Int)).toNat]?) fun(x10,x11) =>
ob (α:=(Unit) ⊕ (Unit)) (
gd (decide ((l1.length:Int)≠0)) (
ob (some (Int.tmod (IntKind.wrap .i64 ((IntKind.wrap .i64 (v0+(l1.length:Int)))-1)) (l1.length:Int))) fun y0 =>
gd (bX y0 l1.length) (
ob (l1[y0.toNat]?) fun(x12,x13) =>
ob (
ob (vk n x12 x13 x3 x4 x10 x11) fun r0 =>
br (decide (r0=0)) (
ob (some (IntKind.wrap .i64 ((IntKind.wrap .i64 (x3-x12))*(IntKind.wrap .i64 (x10-x3))))) fun y1 =>
ob (some (IntKind.wrap .i64 ((IntKind.wrap .i64 (x4-x13))*(IntKind.wrap .i64 (x11-x4))))) fun y2 =>
some (decide (IntKind.wrap .i64 (y1+y2)<0))) (
some false)) fun v1 =>
br (v1) (
some (.inl ())) (
some (.inr ()))))) fun r1=>match r1 with
| .inl _ =>
some (.inr (.inl v0))
| .inr _ =>
some (.inl (IntKind.wrap .i64 (v0+1))))))) (
some (.inr (.inr ())))
def sI (n:Nat) (l1:List (Int × Int)) (v1:Int) (x3:Int) (x4:Int) (x10:Int) (x11:Int):Int→Option ((Int) ⊕ ((Unit) ⊕ ((Unit) ⊕ (Unit)))):=fun v0 =>
br (decide (v0<(l1.length:Int))) (
gd (bX v0 l1.length) (
ob (l1[v0.toNat]?) fun(x12,x13) =>
gd (decide ((l1.length:Int)≠0)) (
gd (bX (Int.tmod (IntKind.wrap .i64 (v0+1)) (l1.length:Int)) l1.length) (
ob (l1[(Int.tmod (IntKind.wrap .i64 (v0+1)) (l1.length:Int)).toNat]?) fun(x14,x15) =>
ob (α:=(Unit) ⊕ ((Unit) ⊕ (Unit))) (
br (decide (IntKind.wrap .i64 (v1-1)≤v0)) (
some (.inl ())) (
ob (
br (decide (v0=0)) (
some (decide (v1=IntKind.wrap .i64 ((l1.length:Int)-1)))) (
some false)) fun v2 =>
br (v2) (
some (.inr (.inl ()))) (
ob (Fq n v1 x3 x4 x10 x11 v0 x12 x13 x14 x15) fun r0 =>
br (!decide (r0=0)) (
some (.inr (.inr ()))) (
some (.inr (.inl ())))))) fun r1=>match r1 with
| .inl _ =>
some (.inr (.inl ()))
| .inr (.inl _) =>
some (.inl (IntKind.wrap .i64 (v0+1)))
| .inr (.inr _) =>
some (.inr (.inr (.inl ()))))))) (
some (.inr (.inr (.inr ()))))
def sR (n:Nat) (l1:List (Int × Int)):Int→Option ((Int) ⊕ ((Int) ⊕ (Unit))):=fun v0 =>
br (decide (v0<(l1.length:Int))) (
gd (bX v0 l1.length) (
ob (l1[v0.toNat]?) fun(x3,x4) =>
gd (decide ((l1.length:Int)≠0)) (
gd (bX (Int.tmod (IntKind.wrap .i64 (v0+1)) (l1.length:Int)) l1.length) (
ob (l1[(Int.tmod (IntKind.wrap .i64 (v0+1)) (l1.length:Int)).toNat]?) fun(x10,x11) =>
ob (α:=(Unit) ⊕ (Unit)) (
ob (
some ()) fun _ =>
ob (α:=(Unit) ⊕ ((Unit) ⊕ (Unit))) (
ob (α:=(Unit) ⊕ ((Unit) ⊕ (Unit))) (
cy (sI n l1 v0 x3 x4 x10 x11) n 0) fun r0=>match r0 with
| .inl _ =>
some (.inl ())
| .inr (.inl _) =>
some (.inr (.inl ()))
| .inr (.inr _) =>
some (.inr (.inr ()))) fun r1=>match r1 with
| .inl _ =>
some (.inl ())
| .inr (.inl _) =>
some (.inr ())
| .inr (.inr _) =>
some (.inl ())) fun r2=>match r2 with
| .inl _ =>
some (.inl (IntKind.wrap .i64 (v0+1)))
| .inr _ =>
some (.inr (.inl v0)))))) (
some (.inr (.inr ())))
def F1 (n:Nat) (l1:List (Int × Int)):Option (Int × Int) :=
ob (
br (decide ((l1.length:Int)<3)) (
some true) (
some (decide (40<(l1.length:Int))))) fun v1 =>
br (v1) (
some (1,0)) (
ob (
ob (α:=(Int) ⊕ (Unit)) (
cy (tt n l1) n 0) fun r0=>match r0 with
| .inl v2 =>
some v2
| .inr _ =>
some (-1)) fun v0 =>
br (decide (0≤v0)) (
some (2,v0)) (
ob (
some ()) fun _ =>
ob (α:=(Int) ⊕ (Unit)) (
ob (α:=(Int) ⊕ (Unit)) (
cy (sC n l1) n 0) fun r1=>match r1 with
| .inl v3 =>
some (.inl v3)
| .inr _ =>
some (.inr ())) fun r2=>match r2 with
| .inl v4 =>
some (3,v4)
| .inr _ =>
ob (
some ()) fun _ =>
ob (α:=(Int) ⊕ (Unit)) (
ob (α:=(Int) ⊕ (Unit)) (
cy (sY n l1) n 0) fun r3=>match r3 with
| .inl v5 =>
some (.inl v5)
| .inr _ =>
some (.inr ())) fun r4=>match r4 with
| .inl v6 =>
some (4,v6)
| .inr _ =>
ob (
some ()) fun _ =>
ob (α:=(Int) ⊕ (Unit)) (
ob (α:=(Int) ⊕ (Unit)) (
cy (sR n l1) n 0) fun r5=>match r5 with
| .inl v7 =>
some (.inl v7)
| .inr _ =>
some (.inr ())) fun r6=>match r6 with
| .inl v8 =>
some (5,v8)
| .inr _ =>
some (0,0)))
def Cy (n:Nat) (l1:List (Int × Int)):Option (Int) :=
ob (F1 n l1) fun(r6,_) =>
br (decide (0<r6)) (
some 140) (
some 0)
def rN (_:Nat) (l1:List (Int × Int)) (l5:List (Int × Int)):Int→Option ((Int) ⊕ ((Unit) ⊕ (Unit))):=fun v11 =>
br (decide (v11<(l1.length:Int))) (
gd (bX v11 l1.length) (
ob (l1[v11.toNat]?) fun(x31,x32) =>
gd (bX v11 l5.length) (
ob (l5[v11.toNat]?) fun(x37,x38) =>
br (!(decide (x31=x37) && decide (x32=x38))) (
some (.inr (.inl ()))) (
some (.inl (IntKind.wrap .i64 (v11+1))))))) (
some (.inr (.inr ())))
def EA (n:Nat) (l1:List (Int × Int)) (l5:List (Int × Int)):Option (Bool) :=
br (!decide ((l1.length:Int)=(l5.length:Int))) (
some false) (
ob (α:=(Unit) ⊕ (Unit)) (
cy (rN n l1 l5) n 0) fun r42=>match r42 with
| .inl _ =>
some false
| .inr _ =>
some true)
end Go.Proofs.YthmekkhpddehjaaGreat
end

section
namespace Go.Proofs.YthmekkhpddehjaaGreat
open Go Go.Ab Go.Ab.W
set_option maxRecDepth 10000
set_option maxHeartbeats 4000000
attribute [local irreducible] Tm.at Trie.set Trie.get AMem.get AMem.set AMem.alloc AMem.ww AMem.kill
def Gk (_:Nat) (l:List (Int × Int)):Option (List (Int × Int)):=gd (lim l.length) (some l)
def Hl (_:Nat) (l:List (Int × Int)):Option (List (Int × Int)):=gd (lim l.length) (some l)
theorem F4 {P:Program} {ty e l c l' c':Nat} (hu:P.underlying ty=some (.slice e)):bJ .eql ty P (.slice none l c) (.slice none l' c')=some (.bool true):=by
 simp only[bJ,Op.maxDepth,jn,hu,Option.map_some,Option.isNone_none]
theorem Fk {P:Program} {ty e l c l' c':Nat} {A:Addr} (hu:P.underlying ty=some (.slice e)):bJ .eql ty P (.slice (some A) l c) (.slice none l' c')=some (.bool false):=by
 simp only[bJ,Op.maxDepth,jn,hu,Option.map_some]
theorem D2:bh.P.underlying 22=some (.slice 33):=by kernel_rfl
theorem Ee:SlT bh.P 22 33 2:=SlT.of (by kernel_rfl)
theorem Gz:bq bh.P 33=some (.agg #[.int .i64 0,.int .i64 0]):=by kernel_rfl
theorem Rd.Cr {m:AMem} {cap w n:Nat} {es:List (List Value)} (h:Rd m none cap w n es):n=0:=by
 rcases h.2.2 with⟨_,h⟩|⟨_,_,h,_⟩|⟨_,_,h,_⟩
 ·exact h
 ·cases h
 ·cases h
theorem Dx (n:Nat) (l:List (Int × Int)) (a:Option Addr) (c:Nat) (r:List (Int × Int)) (hF:Gk n l=some r) (m:AMem) (h:Rd m a c 2 l.length (l.map (eP (eI .i64) (eI .i64)))):aR bh 49 [.slice a l.length c] m (fun v m'=>∃x:Option Addr × Nat,v = .slice x.1 x.2 x.2∧Hp m m' [.sl x.1 2 x.2 (r.map (eP (eI .i64) (eI .i64)))]):=by
 unfold Gk at hF;obtain⟨hl,hF⟩:=al hF;cases hF;cases a with
 | none =>
  have h0:=Rd.Cr h;have:l = []:=List.length_eq_zero_iff.1 h0;subst this;refine aJ (m0:=m) (ps:=[]) (N:=8) (rs:=[.tmp 2]) rfl Tryz.func49 rfl rfl rfl (Hp.start m) ?_;refine Wk.seq ?_;refine Wk.region ?_;refine Wo.od (aj rfl) rfl ?_;refine Wo.nil ?_;refine At.tn ?_;refine Wk.seq ?_;refine Wk.seq ?_;refine Wk.region ?_;refine Wo.od (ae rfl) rfl ?_;refine Wo.od (aq rfl rfl (F4 D2)) rfl ?_;refine Wo.nil ?_;refine At.tn ?_;refine Wk.aA rfl rfl ?_;refine Wk.seq ?_;refine Wk.region ?_;refine Wo.od (aj rfl) rfl ?_;refine Wo.nil ?_;refine At.tn ?_;refine Wk.ret ?_;refine At.tr ?_;exact At.ret (.tmp rfl .nil) fun m' hm=>⟨(none,0),rfl,(aa.nil 2 rfl) m' hm⟩
 | some A =>
  refine aJ (m0:=m) (ps:=[.rd (some A) c 2 l.length (l.map (eP (eI .i64) (eI .i64)))]) (N:=8) (rs:=[.tmp 2]) rfl Tryz.func49 rfl rfl rfl ((Hp.start m).tP rfl h) ?_;refine Wk.seq ?_;refine Wk.region ?_;refine Wo.od (aj rfl) rfl ?_;refine Wo.nil ?_;refine At.tn ?_;refine Wk.seq ?_;refine Wk.seq ?_;refine Wk.region ?_;refine Wo.od (ae rfl) rfl ?_;refine Wo.od (aq rfl rfl (Fk D2)) rfl ?_;refine Wo.nil ?_;refine At.tn ?_;refine Wk.az rfl rfl ?_;refine Wk.skip ?_;refine At.tn ?_;refine Wk.seq ?_;refine Wk.region ?_;refine Wo.x (xm (es:=([]:List (Int × Int)).map (eP (eI .i64) (eI .i64))) Ee rfl (wR Ee Gz rfl rfl) rfl rfl) gn rfl fun b=>?_;refine Wo.od (ae rfl) rfl ?_;refine Wo.gS (aa.close (k:=0) rfl) ?_;refine Wo.x (CU (k:=0) (k2:=1) (xs:=([]:List (Int × Int))) (ys:=l) (E5 (A2 .i64) (A2 .i64)) Ee ⟨_,D2⟩ rfl rfl rfl (.rd _ _ _ _ _) hl) gn rfl fun a2=>?_;refine Wo.od (aj rfl) rfl ?_;refine Wo.nil ?_;refine At.tn ?_;refine Wk.ret ?_;exact At.ret (.tmp rfl .nil) fun m' hm=>⟨(a2,l.length),rfl,(aa.U [0] rfl rfl) m' hm⟩
end Go.Proofs.YthmekkhpddehjaaGreat
end

section
namespace Go.Ab.W
open Go Go.Ab
attribute [local irreducible] Tm.at Trie.set Trie.get AMem.get AMem.set AMem.alloc AMem.ww AMem.kill
section
variable {E : Env} {n : Nat} {m0 m : AMem} {fs : Fs} {ps : List Pc} {x y : Operand} {ty : TypeId}
theorem E3 {elem b w l k L o:Nat} {es:List (List Value)} {tg:Tag} {lx:Option Operand} {kd:IntKind} (ht:SlT E.P ty elem w) (hx:ev E fs x=some (.slice (some ⟨b,0,none⟩) l l)) (e1:qP E fs lx=some (some (.int kd (L:Int)))) (hp:pk ps k=some (.arr b w l es tg)) (h:L<l) (ho:L*w=o) :
  Od E m0 fs ps (.slice ty x lx none none) (.slice (some ⟨b,o,none⟩) (l-L) (l-L)) ps :=
 fun t m hf hm=>⟨fun b' hb'=>by
  have:du (.slice (some ⟨b,0,none⟩) l l)=some b:=rfl;simp only[aC,hf.ev hx,Option.bind_some,this] at hb';cases hb'; exact(hm.get hp).2.1,fun K hK=>by
  obtain⟨_,_,hg,_,_,htg,_⟩:=hm.get hp;have hb:dg l l (some (.int kd (L:Int))) none none=some (L,l,l):=iX (by omega) (Nat.le_refl _) (.inr ⟨kd,rfl⟩) (.inl ⟨rfl,rfl⟩)
  have hs:bE E.P ty (.slice (some ⟨b,0,none⟩) l l) (some (.int kd (L:Int))) none none m=some (.slice (some ⟨b,o,none⟩) (l-L) (l-L)):=by
   subst ho;rcases htg with rfl|rfl
   ·simp only[bE,ht.und,ht.known,if_true,hg,hb,ht.size,Nat.zero_add];rw[if_neg (by omega)]
   ·simp only[bE,ht.und,ht.known,if_true,hg,hb,ht.size,Nat.zero_add];rw[if_neg (by simp),if_neg (by omega)]
  rw[Go.Ab.qT (hf.ev hx) (hf.qP e1) (hf.qP rfl) (hf.qP rfl) hs]; exact hK m hm⟩
theorem yy {elem:TypeId} {b w l cap L o:Nat} {i:Int} {kd:IntKind} (ht:SlT E.P ty elem w) (ho:L*w=o) (hx:ev E fs x=some (.slice (some ⟨b,o,none⟩) l cap)) (hy:ev E fs y=some (.int kd i)) (hi:0≤i∧i.toNat<l):Od E m0 fs ps (.indexAddr ty x y) (ptr b ((L+i.toNat)*w+0)) ps:=by
 have:=bQ (m0:=m0) (ps:=ps) ht hx hy hi;subst ho;rwa[←Nat.add_mul] at this
def cM (a:Option Addr) (cap w l:Nat) (es:List (List Value)):GPc where
 ow b:=ml a=some b
 rd _:=False
 P m:=es.length=l∧(∀e ∈ es,e.length=w)∧0<w∧l≤cap∧((a=none∧cap=0)∨∃b jk tg,a=some ⟨b,0,none⟩∧b<m.next∧m.get b=some (.cells (es.flatten++jk) tg)∧(tg = .own∨tg = .more w)∧(es.flatten++jk).length=cap*w)
 st m m' h hn hg:=by
  obtain⟨h1,h2,h3,h4,h5⟩:=h;refine⟨h1,h2,h3,h4,?_⟩;rcases h5 with h5|⟨b,jk,tg,rfl,h6,h7,h8⟩
  ·exact .inl h5
  ·exact .inr ⟨b,jk,tg,rfl,by omega,by rw[hg b (.inl rfl) h6]; exact h7,h8⟩
 lt m b h hb:=by
  obtain⟨_,_,_,_,h5⟩:=h;rcases hb with hb|hb
  ·rcases h5 with⟨rfl,_⟩|⟨b',_,_,rfl,h6,_⟩
   ·cases hb
   ·cases hb; exact h6
  ·exact hb.elim
variable {α : Type} {f : α → List Value} {elem : TypeId} {k cap w l : Nat} {a : Option Addr} {es : List (List Value)} {xs : List α}
theorem aa.EJ (hp:pk ps k=some (.sl a w l es)):aa m0 ps (bM ps k (.gen (cM a l w l es))):=fun m h=>by
 have h0:=h.get hp;refine h.A3 hp (fun b hb=>.inl (.inl ⟨rfl,?_⟩)) (fun b hb=>.inl (.inl ?_)) (Nat.le_refl _) h.ext ⟨?_,fun _ b hb=>?_⟩ fun _ _ _=>rfl
 ·rcases hb with hb|hb
  ·cases hb.1
  ·exact hb
 ·rcases hb with hb|hb
  ·cases hb
  ·rcases hb with hb|hb
   ·exact hb
   ·exact hb.elim
 ·rcases h0 with⟨rfl,rfl,rfl,h1⟩|⟨b,tg,rfl,h1⟩
  ·exact⟨rfl,fun e he=>(by cases he),h1,Nat.le_refl _,.inl ⟨rfl,rfl⟩⟩
  ·exact⟨h1.2.2.2.1,h1.2.2.2.2.1,h1.2.2.2.2.2.2,Nat.le_refl _,.inr ⟨b,[],tg,rfl,h1.2.1,by rw[List.append_nil]; exact h1.2.2.1,h1.2.2.2.2.2.1,by rw[List.append_nil,bB h1.2.2.2.2.1,h1.2.2.2.1]⟩⟩
 ·have hb:ml a=some b:=hb;rcases h0 with⟨_,_,rfl,_⟩|⟨b',tg,rfl,h1⟩
  ·cases hb
  ·cases hb; exact h1.1
theorem zh {a:Option Addr} {cap w l:Nat} {es:List (List Value)} (h:(cM a cap w l es).P m):Rd m a cap w l es:=by
 obtain⟨h1,h2,h3,h4,h5⟩:=h;refine⟨h1,h4,?_⟩;rcases h5 with⟨rfl,rfl⟩|⟨b,jk,tg,rfl,h6,h7,h8,h9⟩
 ·exact .inl ⟨rfl,by omega⟩
 ·refine .inr (.inr ⟨b,0,rfl,h6,_,tg,h7,fun sz e=>by rcases h8 with h|h<;>rw[h] at e<;>cases e; rfl,fun i e he=>?_⟩)
  have hi:i<es.length:=(List.getElem?_eq_some_iff.1 he).1;have hl:=h2 e (List.mem_of_getElem? he);refine⟨?_,hl⟩;have:=wo h2 he;rw[Nat.zero_add,List.drop_append_of_le_length (by rw[bB h2]; exact Nat.mul_le_mul_right w (by omega)),List.take_append_of_le_length,this]
  rw[List.length_drop,bB h2];have:(i+1)*w≤es.length*w:=Nat.mul_le_mul_right w hi;rw[Nat.succ_mul] at this; omega
theorem aa.EV (hp:pk ps k=some (.gen (cM a cap w l es))):aa m0 ps (bM ps k (.rd a cap w l es)):=fun m h =>
 h.A3 hp (fun b hb=>.inl (.inr (by rcases hb with hb|hb; cases hb.1; exact hb.elim))) (fun b hb=>.inl (.inr (.inl (by rcases hb with hb|hb; exact hb; exact hb.elim)))) (Nat.le_refl _) h.ext (zh (h.get hp).1) fun _ _ _=>rfl
theorem yo {b cap w l:Nat} {es:List (List Value)} (h:(cM (some ⟨b,0,none⟩) cap w l es).P m):oO m b 0 w es:=by
 rcases(zh h).2.2 with⟨h,_⟩|⟨b',sp,h,_⟩|⟨b',o,h,h'⟩
 ·cases h
 ·cases h
 ·cases h; exact h'
theorem my {ag:Bool} {sz b j c:Nat} {e:List Value} {r:Value} (ht:TyI E.P ty ag sz) (hx:ev E fs x=some (ptr b (j*w+c))) (hp:pk ps k=some (.gen (cM (some ⟨b,0,none⟩) cap w l es))) (he:es[j]? = some e) (hv:yi ag sz e c=some r) (hs:zm ag sz c w=true):Od E m0 fs ps (.load ty x) r ps:=by
 have hs:=qy hs;refine .load hx fun m h=>?_;have hl:=yo (h.get hp).1;refine⟨hl.1,?_⟩;have:=lO (P:=E.P) ht hl he hv hs.1 hs.2;rwa[Nat.zero_add] at this
theorem eA {cap':Nat} {ars:Array Operand} (hu:E.P.underlying ty=some (.slice elem)) (ha:gG E fs ars.toList=some [.slice a l cap']) (hp:pk ps k=some (.gen (cM a cap w l es))) :
  Od E m0 fs ps (.call ⟨.builtin .len,ars,#[ty]⟩) (.int .i64 (l:Int)) ps :=
 fun t m hf h=>⟨fun b hb'=>by
  simp only[aC,hf.gG ha] at hb';have hab:du (.slice a l cap')=ml a:=by cases a<;>rfl
  rw[hab] at hb';exact(cM a cap w l es).lt m b (h.get hp).1 (.inl hb'),fun K hK=>by
  have:aF E.P .len #[ty] [.slice a l cap'] m=some (.int .i64 (l:Int),m):=by
   have ht:(#[ty]:Array TypeId)[0]? = some ty:=rfl;simp only[aF,ht,Option.bind_some,hu]
  rw[Go.Ab.eg (hf.gG ha) this]; exact hK m h⟩
theorem aa.Hd {i:Nat} (hp:pk ps k=some (.gen (cM a cap w l es))) (hi:i≤l):aa m0 ps (bM ps k (.gen (cM a cap w i (es.take i)))):=fun m h=>by
 refine h.A3 hp (fun b hb=>.inl (.inr (by rcases hb with hb|hb; cases hb.1; exact hb))) (fun b hb=>.inl (.inr (by rcases hb with hb|hb; cases hb; exact hb))) (Nat.le_refl _) h.ext ⟨?_,fun _ b hb=>(h.get hp).2 rfl b hb⟩ fun _ _ _=>rfl
 obtain⟨h1,h2,h3,h4,h5⟩:=(h.get hp).1;refine⟨by rw[List.length_take]; omega,fun e he=>h2 e (List.mem_of_mem_take he),h3,by omega,?_⟩
 rcases h5 with h5|⟨b,jk,tg,rfl,h6,h7,h8,h9⟩
 ·exact .inl h5
 ·have e:es.flatten++jk=(es.take i).flatten++((es.drop i).flatten++jk):=by rw[←List.append_assoc,←List.flatten_append,List.take_append_drop]
  exact .inr ⟨b,(es.drop i).flatten++jk,tg,rfl,h6,by rw[←e]; exact h7,h8,by rw[←e]; exact h9⟩
theorem sD {ys:List α} {hi:Int} {hx:Option Operand} {kd:IntKind} (ht:SlT E.P ty elem w) (hv:ev E fs x=some (.slice a l cap)) (e2:qP E fs hx=some (some (.int kd hi))) (hp:pk ps k=some (.gen (cM a cap w l (xs.map f)))) (hb:okB 0 hi l=true) (h0:0<l) (hys:xs.take hi.toNat=ys) :
  Od E m0 fs ps (.slice ty x none hx none) (.slice a ys.length cap) (bM ps k (.gen (cM a cap w ys.length (ys.map f)))) :=
 fun t m hf hm=>by
  subst hys;have hP:=(hm.get hp).1;obtain⟨h1,h2,h3,h4,h5⟩:=hP;obtain⟨_,b2,b3⟩:=rW hb;have hlen:(xs.take hi.toNat).length=hi.toNat:=by rw[List.length_take]; rw[List.length_map] at h1; omega
  rcases h5 with⟨_,h⟩|⟨b,jk,tg,rfl,h6,h7,h8,h9⟩
  ·omega
  ·refine⟨fun b' hb'=>?_,fun K hK=>?_⟩
   ·have:du (.slice (some ⟨b,0,none⟩) l cap)=some b:=rfl;simp only[aC,hf.ev hv,Option.bind_some,this] at hb';cases hb'; exact h6
   ·have hbd:dg l cap none (some (.int kd hi)) none=some (0,hi.toNat,cap):=iX (Nat.zero_le _) (by omega) (.inl ⟨rfl,rfl⟩) (.inr ⟨kd,by rw[Int.toNat_of_nonneg b2]⟩)
    have hs:bE E.P ty (.slice (some ⟨b,0,none⟩) l cap) none (some (.int kd hi)) none m=some (.slice (some ⟨b,0,none⟩) hi.toNat cap):=by
     rcases h8 with rfl|rfl
     ·simp only[bE,ht.und,ht.known,if_true,h7,hbd,ht.size,Nat.zero_mul,Nat.add_zero,Nat.sub_zero,ite_self]
     ·simp only[bE,ht.und,ht.known,if_true,h7,hbd,ht.size,Nat.zero_mul,Nat.add_zero,Nat.sub_zero];rw[if_neg (by simp),if_neg (by omega)]
    rw[Go.Ab.qT (hf.ev hv) (hf.qP rfl) (hf.qP e2) (hf.qP rfl) hs,←hlen];refine hK m ?_;have:=aa.Hd (m0:=m0) (i:=(xs.take hi.toNat).length) hp (by rw[hlen]; omega) m hm
    rwa[←List.map_take,show xs.take (xs.take hi.toNat).length=xs.take hi.toNat by rw[hlen]] at this
theorem uK {P:Program} {ty2 n0 c0:Nat} {a0:Option Addr} {e0:List (List Value)} (ht:SlT P ty elem w) (h10:∃e1,P.underlying ty2=some (.slice e1)) (h:Hp m0 m ps) (hp:pk ps k=some (.gen (cM a cap w l es))) (hr:Rd m a0 c0 w n0 e0) (h7:∀e ∈ e0,e.length=w) (ho:gp e0) (hl:lim (l+n0)=true) :
  ∃a' cap' m',bw P ty (some ty2) (.slice a l cap) (.slice a0 n0 c0) m=some (.slice a' (l+n0) cap',m')∧Hp m0 m' (bM ps k (.gen (cM a' cap' w (l+n0) (es++e0)))):=by
 obtain⟨e1,h11⟩:=h10;obtain⟨inf,h12,h13,h14⟩:=ht.bytes;have hln:l+n0≤1073741824:=Nat.le_of_ble_eq_true hl;have hc:=hr.cells;have hlen2:e0.flatten.length=n0*w:=by rw[bB h7,hr.1]
 have hnew:dZ P elem (some ty2) (.slice a0 n0 c0) m=some (n0,e0.flatten):=by
  simp only[dZ,Option.bind_some,h11,ht.size];have:cf w (.slice a0 n0 c0) n0 m=some e0.flatten:=hc;rw[this]; rfl
 have hfit:(P.info? elem).any (fun i=>dv i.bytes (l+n0) && i.bytes != 0)=true:=by
  rw[h12];have hmul:(2*(l+n0)+2000)*inf.bytes≤(2*1073741824+2000)*1024:=Nat.mul_le_mul (by omega) h14
  simp only[Option.any_some,dv,Bool.and_eq_true,decide_eq_true_eq,bne_iff_ne,ne_eq];exact⟨by omega,h13⟩
 have hzero:(bq P elem).any (fun z=>z.cells.size == w && z.cells.toList.all aw)=true:=ht.zero;have hpos:=ht.pos;have h15:(w == 0)=false:=by simp; omega
 have hguard:(!(known P elem) || ak P elem == 0 || !aL e0.flatten || !(P.info? elem).any (fun i=>dv i.bytes (l+n0) && i.bytes != 0) || e0.flatten.length != n0*ak P elem || !(bq P elem).any (fun z=>z.cells.size == ak P elem && z.cells.toList.all aw))=false:=by
  rw[ht.size,ht.known,hfit,hzero,mD ho,h15,hlen2]; simp
 have hpc:=h.get hp;have hext:=h.ext;have hnew':∀{mm:AMem} {q:List (List Value)},q.length=l+n0→(∀e ∈ q,e.length=w)→(cM (some ⟨mm.next,0,none⟩) (l+n0) w (l+n0) q).P (mm.alloc (.cells q.flatten (.more w))):=fun {mm q} h0 h2 =>
  ⟨h0,h2,hpos,Nat.le_refl _,.inr ⟨mm.next,[],.more w,rfl,by rw[AMem.next_alloc]; omega,by rw[AMem.aN,if_pos rfl,List.append_nil],.inr rfl,by rw[List.append_nil,bB h2,h0]⟩⟩
 obtain⟨h0,h2,h18,h19,h16⟩:=hpc.1;have h3:(es++e0).length=l+n0:=by rw[List.length_append,h0,hr.1]
 have h4:∀e ∈ es++e0,e.length=w:=fun e he=>(List.mem_append.1 he).elim (h2 e) (h7 e);have hfl:es.flatten.length=l*w:=by rw[bB h2,h0]
 have o1:∀b,(Pc.gen (cM a cap w l es)).ow b↔ml a=some b:=fun b=>⟨fun hb=>by rcases hb with hb|hb; cases hb.1; exact hb,fun hb=>.inr hb⟩
 have fresh:∀{mm:AMem} {c':Nat},m.next≤mm.next→Ext m0 mm→(∀b,ml a≠some b→b<m.next→mm.get b=m.get b)→∀{o:AObj},(cM (some ⟨mm.next,0,none⟩) c' w (l+n0) (es++e0)).P (mm.alloc o)→Hp m0 (mm.alloc o) (bM ps k (.gen (cM (some ⟨mm.next,0,none⟩) c' w (l+n0) (es++e0)))):=fun {mm c'} hn he hg {o} hP =>
  h.A3 hp (fun b hb=>.inr (by rcases hb with hb|hb; cases hb.1; cases hb; exact hn)) (fun b hb=>.inr (by rcases hb with hb|hb; cases hb; rcases hb with hb|hb; cases hb; exact hn; exact hb.elim)) (by rw[AMem.next_alloc]; omega) (he.alloc _) ⟨hP,fun _ b hb=>by cases hb; exact Nat.le_trans hext.next hn⟩ fun b hb hlt=>by
   rw[AMem.aN,if_neg (by omega)]; exact hg b (fun e=>hb ((o1 b).2 e)) hlt
 rcases h16 with⟨rfl,rfl⟩|⟨b,jk,tg,rfl,h17,h1,h6,h8⟩
 ·obtain rfl:l=0:=by omega
  obtain rfl:es = []:=List.length_eq_zero_iff.1 h0
  by_cases h5:n0=0
  ·subst h5;obtain rfl:e0 = []:=List.length_eq_zero_iff.1 hr.1;refine⟨none,0,m,?_,?_⟩
   ·unfold bw;simp only[ht.und,hnew];rw[if_neg (by rw[hguard]; exact Bool.false_ne_true)]
    rfl
   ·refine h.A3 hp (fun b hb=>.inl (.inr (by rcases hb with hb|hb; cases hb.1; exact hb))) (fun b hb=>.inl (.inr (by rcases hb with hb|hb; cases hb; exact hb))) (Nat.le_refl _) h.ext ⟨⟨rfl,fun e he=>(by cases he),hpos,Nat.le_refl _,.inl ⟨rfl,rfl⟩⟩,fun _ b hb=>(by cases hb)⟩ fun _ _ _=>rfl
  ·refine⟨some ⟨m.next,0,none⟩,n0,m.alloc (.cells e0.flatten (.more w)),?_,?_⟩
   ·unfold bw;simp only[ht.und,hnew];rw[if_neg (by rw[hguard]; exact Bool.false_ne_true)]
    simp only[ht.size];rw[if_neg (by simp),if_neg h5,Nat.zero_add]
   ·have:=hnew' (mm:=m) (q:=[]++e0) h3 h4;rw[Nat.zero_add] at this ⊢;exact(by simpa using fresh (mm:=m) (c':=n0) (Nat.le_refl _) hext (fun _ _ _=>rfl) (by simpa using this))
 ·have hlo:=hpc.2 rfl b rfl
  by_cases hcap:l+n0≤cap
  ·have hjk:n0*w≤jk.length:=by
    rw[List.length_append,hfl] at h8;have:=Nat.mul_le_mul_right w hcap;rw[Nat.add_mul] at this;omega
   have hsp:ax (es.flatten++jk) (l*w) e0.flatten=(es++e0).flatten++jk.drop (n0*w):=by
    have e2:=iz es.flatten jk e0.flatten 0;rw[Nat.add_zero,hfl] at e2;rw[e2,List.flatten_append,List.append_assoc]
    congr 1
    refine List.ext_getElem? fun i=>?_;rw[bm,Nat.zero_add,Nat.sub_zero,List.getElem?_append,hlen2]
    by_cases hi:i<n0*w
    ·rw[if_pos ⟨Nat.zero_le _,hi,by omega⟩,if_pos hi]
    ·rw[if_neg (by omega),if_neg hi,List.getElem?_drop]
     congr 1; omega
   have hlenS:((es++e0).flatten++jk.drop (n0*w)).length=cap*w:=by
    rw[←hsp,bz,h8]
   by_cases hz:e0.flatten = []
   ·
    have h5:n0=0:=by
     rw[hz,List.length_nil] at hlen2;rcases Nat.mul_eq_zero.1 hlen2.symm with e|e
     ·exact e
     ·omega
    subst h5;obtain rfl:e0 = []:=List.length_eq_zero_iff.1 hr.1;refine⟨some ⟨b,0,none⟩,cap,m,?_,?_⟩
    ·unfold bw;simp only[ht.und,hnew];rw[if_neg (by rw[hguard]; exact Bool.false_ne_true)]
     simp only[h1];rw[if_pos hcap];simp[AMem.bT]
    ·rw[List.append_nil,Nat.add_zero];refine h.A3 hp (fun b hb=>.inl hb) (fun b hb=>.inl hb) (Nat.le_refl _) h.ext hpc fun _ _ _=>rfl
   ·refine⟨some ⟨b,0,none⟩,cap,m.set b (.cells ((es++e0).flatten++jk.drop (n0*w)) tg),?_,?_⟩
    ·have hst:m.bT b (0+l*w) e0.flatten=some (m.set b (.cells ((es++e0).flatten++jk.drop (n0*w)) tg)):=by
      rw[Nat.zero_add,←hsp];have hfit':l*w+e0.flatten.length≤(es.flatten++jk).length:=by rw[hlen2,List.length_append,hfl]; omega
      cases h9:e0.flatten with
      | nil=>exact absurd h9 hz
      | cons v vs =>
       rw[h9] at hfit';rcases h6 with rfl|rfl<;>simp only[AMem.bT,h1]<;>rw[if_pos hfit']
     unfold bw;simp only[ht.und,hnew];rw[if_neg (by rw[hguard]; exact Bool.false_ne_true)]
     simp only[h1,ht.size];rw[if_pos hcap,hst]; rfl
    ·refine h.A3 hp (fun b' hb=>.inl (by rcases hb with hb|hb; cases hb.1; exact .inr hb)) (fun b' hb=>.inl (by rcases hb with hb|hb; cases hb; exact .inr hb)) (by rw[AMem.next_set]; exact Nat.le_refl _) (hext.set hlo _) ⟨⟨h3,h4,hpos,hcap,.inr ⟨b,jk.drop (n0*w),tg,rfl,by rw[AMem.next_set]; exact h17,by rw[AMem.ba,if_pos rfl],h6,hlenS⟩⟩,fun _ b' hb=>by cases hb; exact hlo⟩ fun b' hb hlt=>?_
     rw[AMem.ba,if_neg (fun e=>hb ((o1 b').2 (by rw[e]; rfl)))]
  ·have htake:(es.flatten++jk).take (l*w)=es.flatten:=by rw[List.take_append_of_le_length (by omega),List.take_of_length_le (by omega)]
   rcases h6 with rfl|rfl
   ·refine⟨some ⟨m.next,0,none⟩,l+n0,m.alloc (.cells (es.flatten++e0.flatten) (.more w)),?_,?_⟩
    ·unfold bw;simp only[ht.und,hnew];rw[if_neg (by rw[hguard]; exact Bool.false_ne_true)]
     simp only[ht.size,h1];rw[if_neg hcap];have hld:m.cq b 0 (l*w)=some es.flatten:=by
      simp only[AMem.cq,h1,List.drop_zero,htake];rw[if_pos hfl]
     simp only[hld]
    ·have:=hnew' (mm:=m) h3 h4;rw[List.flatten_append] at this;exact fresh (Nat.le_refl _) hext (fun _ _ _=>rfl) this
   ·refine⟨some ⟨(m.kill b).next,0,none⟩,l+n0,(m.kill b).alloc (.cells (es.flatten++e0.flatten) (.more w)),?_,?_⟩
    ·unfold bw;simp only[ht.und,hnew];rw[if_neg (by rw[hguard]; exact Bool.false_ne_true)]
     simp only[ht.size,h1];rw[if_neg hcap];simp only[and_self,if_true,htake,hfl,AMem.next_kill]
    ·have hk:Ext m0 (m.kill b):=⟨by rw[AMem.next_kill]; exact hext.next,fun x hx=>by rw[AMem.dC,if_neg (by omega)]; exact hext.same x hx,by
      rw[AMem.wl_kill];have:=hext.wl; omega⟩
     have:=hnew' (mm:=m.kill b) h3 h4;rw[List.flatten_append] at this;exact fresh (by rw[AMem.next_kill]; exact Nat.le_refl _) hk (fun b' hb' hlt=>by rw[AMem.dC,if_neg (fun e=>hb' (by rw[e]; rfl))]) this
theorem AL {ty2 c0 l2:Nat} {a0:Option Addr} {ys:List α} {ars:Array Operand} (he:Enc f w) (ht:SlT E.P ty elem w) (h2:∃e0,E.P.underlying ty2=some (.slice e0)) (ha:gG E fs ars.toList=some [.slice a l cap,.slice a0 l2 c0]) (hp:pk ps k=some (.gen (cM a cap w l (xs.map f)))) (hr:∀m,Hp m0 m ps→Rd m a0 c0 w l2 (ys.map f)) (hl:lim (xs++ys).length=true) :
  Ox E m0 fs ps (.call ⟨.builtin .append,ars,#[ty,ty2]⟩) (fun r:Option Addr × Nat=>.slice r.1 (xs++ys).length r.2) (fun r=>bM ps k (.gen (cM r.1 r.2 w (xs++ys).length ((xs++ys).map f)))):=by
 intro t m hf hm;have h0:l=xs.length:=by have:=(hm.get hp).1.1; rw[List.length_map] at this; exact this.symm
 have h1:l2=ys.length:=by have:=(hr m hm).1; rw[List.length_map] at this; exact this.symm
 refine⟨fun b hb=>(by simp[aC] at hb),fun K hK=>?_⟩
 obtain⟨a',cap',m',g0,g1⟩:=uK ht h2 hm hp (hr m hm) (he.vl ys) (he.gp ys) (by rw[h0,h1,←List.length_append]; exact hl)
 have e1:xs.map f++ys.map f=(xs++ys).map f:=List.map_append.symm;have e0:l+l2=(xs++ys).length:=by rw[h0,h1,List.length_append]
 rw[e1,e0] at g1;rw[e0] at g0;have:aF E.P .append #[ty,ty2] [.slice a l cap,.slice a0 l2 c0] m=some (.slice a' (xs++ys).length cap',m'):=g0;rw[Go.Ab.eg (hf.gG ha) this];exact hK (a',cap') m' g1
end
section
variable {E : Env} {n : Nat} {m0 : AMem} {fs : Fs} {ps : List Pc} {ops : Array Oper} {os : List Oper} {K : Tm → AMem → Prop} {dr : Bool}
theorem Wo.sr {k cap w l:Nat} {a:Option Addr} {es:List (List Value)} (hp:pk ps k=some (.gen (cM a cap w l es))) (hl:0<l) (h:∀b,a=some ⟨b,0,none⟩→Wo dr E n ops K os m0 fs ps):Wo dr E n ops K os m0 fs ps:=by
 have key:∀m,Hp m0 m ps→∃b,a=some ⟨b,0,none⟩:=by
  intro m hm;obtain⟨_,_,_,h4,h5⟩:=(hm.get hp).1;rcases h5 with⟨_,h⟩|⟨b,_,_,h,_⟩
  ·omega
  ·exact⟨b,h⟩
 cases dr with
 | false=>intro t m hf hm; obtain⟨b,h1⟩:=key m hm; exact h b h1 t m hf hm
 | true=>intro t m w' hf hm hw; obtain⟨b,h1⟩:=key m hm; exact h b h1 t m w' hf hm hw
end
section
variable {E : Env} {n : Nat} {m0 m : AMem} {fs : Fs} {ps : List Pc} {x y : Operand} {ty : TypeId} {v : Value}
theorem zW {elem b w l k:Nat} {lo:Int} {es:List (List Value)} {tg:Tag} {lx:Option Operand} {kd:IntKind} (ht:SlT E.P ty elem w) (hx:ev E fs x=some (.slice (some ⟨b,0,none⟩) l l)) (e1:qP E fs lx=some (some (.int kd lo))) (hp:pk ps k=some (.arr b w l es tg)) (h:0≤lo∧lo.toNat<l) :
  Od E m0 fs ps (.slice ty x lx none none) (.slice (some ⟨b,lo.toNat*w,none⟩) (l-lo.toNat) (l-lo.toNat)) ps :=
 E3 (L:=lo.toNat) ht hx (by rw[Int.toNat_of_nonneg h.1]; exact e1) hp h.2 rfl
theorem lR (z:List Value):∀n,bG z n=(List.replicate n z).flatten
 | 0=>rfl
 | n+1=>by rw[List.replicate_succ,List.flatten_cons,←lR z n]; rfl
theorem nN:∀{cs vs:List Value},cs.length=vs.length→ax cs 0 vs=vs
 | [],[],_=>rfl
 | c::cs,v::vs,h=>by simp only[ax]; rw[nN (by simpa using h)]
theorem Ea {elem b w l c k o:Nat} {lo:Int} {z:Value} {zs:List Value} {es:List (List Value)} {tg:Tag} {ars:Array Operand} (ht:SlT E.P ty elem w) (ha:gG E fs ars.toList=some [.slice (some ⟨b,o,none⟩) (l-lo.toNat) c]) (ho:lo.toNat*w=o) (hp:pk ps k=some (.arr b w l es tg)) (h:0≤lo∧lo.toNat<l)
  (hz:bq E.P elem=some z) (hzs:z.cells.toList=zs) (hzp:zs.all aw=true) (hzl:Nat.beq zs.length w=true) :
  Od E m0 fs ps (.call ⟨.builtin .clear,ars,#[ty]⟩) undef (bM ps k (.arr b w l (es.take lo.toNat++List.replicate (l-lo.toNat) zs) tg)) :=
 fun t m hf hm=>⟨fun b' hb'=>by simp[aC] at hb',fun K hK=>by
  obtain⟨g1,g2,hg,g4,g5,g6,g7⟩:=hm.get hp;have hzl:=Nat.eq_of_beq_eq_true hzl;subst ho;have hsz:z.cells.size=ak E.P elem:=by rw[ht.size,←hzl,←hzs]; simp
  have hza:dX E.P elem (l-lo.toNat)=some (List.replicate (l-lo.toNat) zs).flatten:=by
   unfold dX;rw[hz];simp only[hsz,if_true,hzs,lR]
  have hrl:(List.replicate (l-lo.toNat) zs).flatten.length=(l-lo.toNat)*w:=by rw[bB (w:=w) (fun e he=>by rw[List.eq_of_mem_replicate he,hzl]),List.length_replicate]
  have htk:(es.take lo.toNat).flatten.length=lo.toNat*w:=by rw[bB (fun e he=>g5 e (List.mem_of_mem_take he)),List.length_take,g4,Nat.min_eq_left (by omega)]
  have hdr:(es.drop lo.toNat).flatten.length=(l-lo.toNat)*w:=by rw[bB (fun e he=>g5 e (List.mem_of_mem_drop he)),List.length_drop,g4]
  have hsp:ax es.flatten (lo.toNat*w) (List.replicate (l-lo.toNat) zs).flatten=(es.take lo.toNat++List.replicate (l-lo.toNat) zs).flatten:=by
   have e1:es.flatten=(es.take lo.toNat).flatten++(es.drop lo.toNat).flatten:=by rw[←List.flatten_append,List.take_append_drop]
   have:=iz (es.take lo.toNat).flatten (es.drop lo.toNat).flatten (List.replicate (l-lo.toNat) zs).flatten 0;rw[Nat.add_zero,htk] at this;rw[e1,this,nN (by rw[hdr,hrl]),List.flatten_append]
  have hlen:lo.toNat*w+(List.replicate (l-lo.toNat) zs).flatten.length≤es.flatten.length:=by
   rw[hrl,bB g5,g4,←Nat.add_mul]; exact Nat.mul_le_mul_right w (by omega)
  have hst:m.bT b (lo.toNat*w) (List.replicate (l-lo.toNat) zs).flatten=some (m.set b (.cells (es.take lo.toNat++List.replicate (l-lo.toNat) zs).flatten tg)):=by
   rw[←hsp];cases hc:(List.replicate (l-lo.toNat) zs).flatten with
   | nil =>
    rw[hc] at hrl;have:0<(l-lo.toNat)*w:=Nat.mul_pos (by omega) g7
    simp at hrl;omega
   | cons a' new =>
    rw[hc] at hlen;rcases g6 with rfl|rfl<;>simp only[AMem.bT,hg]<;>rw[if_pos hlen]
  obtain⟨q,hq⟩:=Nat.exists_eq_succ_of_ne_zero (show l-lo.toNat≠0 by omega)
  have hpl:((List.replicate (l-lo.toNat) zs).flatten).all aw=true:=by
   rw[List.all_eq_true];intro u hu;obtain⟨e,h1,h2⟩:=List.mem_flatten.1 hu;rw[List.eq_of_mem_replicate h1] at h2;exact List.all_eq_true.1 hzp u h2
  have:aF E.P .clear #[ty] [.slice (some ⟨b,lo.toNat*w,none⟩) (l-lo.toNat) c] m=some (undef,m.set b (.cells (es.take lo.toNat++List.replicate (l-lo.toNat) zs).flatten tg)):=by
   have hty:(#[ty]:Array TypeId)[0]? = some ty:=rfl;rw[hq] at hza hpl hst ⊢;simp only[aF,hty,qE,ht.und,hza,hpl,if_true,hst,Option.map_some]
   rfl
  rw[Go.Ab.eg (hf.gG ha) this];refine hK _ (hm.write hp rfl rfl rfl rfl ⟨g1,by rw[AMem.next_set]; exact g2,by rw[AMem.ba,if_pos rfl],?_,fun e he=>?_,g6,g7⟩)
  ·rw[List.length_append,List.length_take,List.length_replicate,g4]; omega
  ·rcases List.mem_append.1 he with he|he
   ·exact g5 e (List.mem_of_mem_take he)
   ·rw[List.eq_of_mem_replicate he,hzl]⟩
theorem Da {α:Type} {f:α→List Value} {z0:α} {xs:List α} {elem b w l c k o:Nat} {lo:Int} {z:Value} {tg:Tag} {ars:Array Operand} (ht:SlT E.P ty elem w) (ha:gG E fs ars.toList=some [.slice (some ⟨b,o,none⟩) (l-lo.toNat) c]) (ho:lo.toNat*w=o) (hp:pk ps k=some (.arr b w l (xs.map f) tg)) (h:0≤lo∧lo.toNat<l)
  (hz:bq E.P elem=some z) (hzs:z.cells.toList=f z0) (hzp:(f z0).all aw=true) (hzl:Nat.beq (f z0).length w=true) :
  Od E m0 fs ps (.call ⟨.builtin .clear,ars,#[ty]⟩) undef (bM ps k (.arr b w l ((xs.take lo.toNat++List.replicate (l-lo.toNat) z0).map f) tg)):=by
 have:=Ea (m0:=m0) ht ha ho hp h hz hzs hzp hzl;rwa[←List.map_take,←List.map_replicate,←List.map_append] at this
theorem Al {α:Type} {f:α→List Value} {ag:Bool} {sz b w l j c k cap:Nat} {xs:List α} {x1 x2:α} (ht:TyI E.P ty ag sz) (hx:ev E fs x=some (ptr b (j*w+c))) (hy:ev E fs y=some v) (hp:pk ps k=some (.gen (cM (some ⟨b,0,none⟩) cap w l (xs.map f)))) (he:xs[j]? = some x1) (hv:yh (f x1) c v sz=some (f x2)) :
  Od E m0 fs ps (.store ty x y) undef (bM ps k (.gen (cM (some ⟨b,0,none⟩) cap w l ((xs.set j x2).map f)))):=by
 refine .store hx hy fun m h=>?_;obtain⟨g1,g2,g3,g4,g5⟩:=(h.get hp).1;have hlo:=(h.get hp).2 rfl b rfl;rcases g5 with⟨hh,_⟩|⟨b',jk,tg,hh,h6,h7,h8,h9⟩
 ·cases hh
 ·cases hh;have hes:=aO (f:=f) he;simp only[yh] at hv
  split at hv
  ·rename_i e1;have hv:=Option.some.inj hv;simp only[Bool.and_eq_true] at e1;obtain⟨⟨⟨h1,h2⟩,h3⟩,h4⟩:=e1;have h1:=Nat.eq_of_beq_eq_true h1;have h4:=Nat.le_of_ble_eq_true h4;have hw1:=g2 _ (List.mem_of_getElem? hes);have hj:j<(xs.map f).length:=(List.getElem?_eq_some_iff.1 hes).1;have hmul:(j+1)*w≤(xs.map f).length*w:=Nat.mul_le_mul_right w hj;rw[Nat.succ_mul] at hmul;have hfl:=bB g2;have hst:yh ((xs.map f).flatten++jk) (j*w+c) v sz=some (ax ((xs.map f).flatten++jk) (j*w+c) v.cells.toList):=by
    have:(Nat.beq v.cells.toList.length sz && Nat.blt 0 sz && aL v.cells.toList && Nat.ble (j*w+c+sz) ((xs.map f).flatten++jk).length)=true:=by
     simp only[Bool.and_eq_true];exact⟨⟨⟨by rw[h1]; exact Nat.beq_refl _,h2⟩,h3⟩,Nat.ble_eq_true_of_le (by rw[List.length_append,hfl]; omega)⟩
    simp only[yh,this]
   have hsp:ax ((xs.map f).flatten++jk) (j*w+c) v.cells.toList=((xs.set j x2).map f).flatten++jk:=by
    rw[oz _ _ _ _ (by rw[hfl,h1]; omega),lV g2 hes (by omega),hv,List.map_set]
   refine⟨_,nQ ht h7 (by rcases h8 with rfl|rfl<;>simp) hst,?_⟩
   rw[hsp];refine h.A3 hp (fun b' hb=>.inl (.inr (by rcases hb with hb|hb; cases hb.1; exact hb))) (fun b' hb=>.inl (by rcases hb with hb|hb; cases hb; exact .inr hb)) (by rw[AMem.next_set]; exact Nat.le_refl _) (h.ext.set hlo _) ⟨⟨by simpa using g1,fun e he'=>?_,g3,g4,.inr ⟨b,jk,tg,rfl,by rw[AMem.next_set]; exact h6,by rw[AMem.ba,if_pos rfl],h8,?_⟩⟩,fun _ b' hb=>by cases hb; exact hlo⟩ fun b' hb hlt=>?_
   ·rw[←vo] at he';rcases List.mem_or_eq_of_mem_set he' with h5|h5
    ·exact g2 _ h5
    ·rw[h5,←hv,ee _ _ _ (by omega)]; exact hw1
   ·rw[←hsp,bz]; exact h9
   ·rw[AMem.ba,if_neg (fun e=>hb (.inr (by rw[e]; rfl)))]
  ·cases hv
end
end Go.Ab.W
end

section
namespace Go.Proofs.YthmekkhpddehjaaGreat
open Go Go.Ab Go.Ab.W
set_option maxRecDepth 10000
def Gj (_:Nat) (l:List (Int × Int)):Option (List (Int × Int)):=gd (lim l.length) (some (l.mergeSort cB))
def sw (n:Nat) (l1:List (Int × Int)):Int→Option ((Int) ⊕ ((Int) ⊕ (Unit))):=fun v0 =>
br (decide (v0<(l1.length:Int))) (
gd (bX v0 l1.length) (
ob (l1[v0.toNat]?) fun(x3,x4) =>
ob (Dz n x3 x4) fun r0 =>
br (r0) (
some (.inr (.inl v0))) (
some (.inl (IntKind.wrap .i64 (v0+1)))))) (
some (.inr (.inr ())))
def oo (_:Nat) (l3:List (Int × Int)) (v1:Int):(List (Int × Int) × Int × Int)→Option ((List (Int × Int) × Int × Int) ⊕ (List (Int × Int) × Int)):=fun(l2,v2,v0) =>
br (decide (v0<((l3.length-v1.toNat:Nat):Int))) (
ob (
gd (bX v0 (l3.length-v1.toNat:Nat)) (
ob (l2[(v1.toNat+v0.toNat)]?) fun(x3,x4) =>
gd (bX (IntKind.wrap .i64 (v0-1)) (l3.length-v1.toNat:Nat)) (
ob (l2[(v1.toNat+(IntKind.wrap .i64 (v0-1)).toNat)]?) fun(x10,x11) =>
br (!(decide (x3=x10) && decide (x4=x11))) (
gd (bX v0 (l3.length-v1.toNat:Nat)) (
gd (bX v2 l3.length) (
ob (l2[v2.toNat]?) fun(_,_) =>
some ((l2.set v2.toNat (x3,x4)),IntKind.wrap .i64 (v2+1))))) (
some (l2,v2))))) fun(l4,v3) =>
some (.inl (l4,v3,IntKind.wrap .i64 (v0+1)))) (
some (.inr (l2,v2)))
def ku (n:Nat) (l2:List (Int × Int)) (l3:List (Int × Int)):Int→Option ((Int) ⊕ ((List (Int × Int)) ⊕ (Unit))):=fun v0 =>
br (decide (v0<(l2.length:Int))) (
gd (bX v0 l2.length) (
ob (l3[v0.toNat]?) fun(x3,x4) =>
gd (bX (IntKind.wrap .i64 (v0-1)) l2.length) (
ob (l3[(IntKind.wrap .i64 (v0-1)).toNat]?) fun(x10,x11) =>
br ((decide (x3=x10) && decide (x4=x11))) (
gd (bX v0 l2.length) (
ob (
cy (oo n l2 v0) n (l3,v0,1)) fun(l4,v1) =>
gd (bX v1 l2.length) (
gd (okB 0 v1 l2.length) (
gd (decide (0<l2.length)) (
ob (some ((l4.take v1.toNat++List.replicate (l2.length-v1.toNat) (0,0)).take (v1:Int).toNat)) fun l5 =>
some (.inr (.inl l5))))))) (
some (.inl (IntKind.wrap .i64 (v0+1))))))) (
some (.inr (.inr ())))
def lY (n:Nat) (x3:Int) (x4:Int):(List (Int × Int))→Option ((List (Int × Int)) ⊕ (List (Int × Int))):=fun l2 =>
ob (
br (decide (1<(l2.length:Int))) (
gd (bX (IntKind.wrap .i64 ((l2.length:Int)-2)) l2.length) (
ob (l2[(IntKind.wrap .i64 ((l2.length:Int)-2)).toNat]?) fun(x10,x11) =>
gd (bX (IntKind.wrap .i64 ((l2.length:Int)-1)) l2.length) (
ob (l2[(IntKind.wrap .i64 ((l2.length:Int)-1)).toNat]?) fun(x12,x13) =>
ob (vk n x10 x11 x12 x13 x3 x4) fun r0 =>
some (decide (r0≤0))))) (
some false)) fun v0 =>
br (v0) (
gd (okB 0 (IntKind.wrap .i64 ((l2.length:Int)-1)) l2.length) (
gd (decide (0<l2.length)) (
ob (some (l2.take (IntKind.wrap .i64 ((l2.length:Int)-1):Int).toNat)) fun l3 =>
some (.inl l3)))) (
some (.inr l2))
def pD (n:Nat) (n0:Nat) (l4:List (Int × Int)):(List (Int × Int) × Int)→Option ((List (Int × Int) × Int) ⊕ (List (Int × Int))):=fun(l2,v0) =>
br (decide (v0<(n0:Int))) (
gd (bX v0 n0) (
ob (l4[v0.toNat]?) fun(x3,x4) =>
ob (
cy (lY n x3 x4) n l2) fun l3 =>
gd (lim (l3++[(x3,x4)]).length) (
some (.inl ((l3++[(x3,x4)]),IntKind.wrap .i64 (v0+1)))))) (
some (.inr l2))
def pI (_:Nat) (n0:Nat):(List (Int × Int) × Int × Int)→Option ((List (Int × Int) × Int × Int) ⊕ (List (Int × Int))):=fun(l2,v0,v1) =>
br (decide (v0<v1)) (
gd (bX v1 n0) (
ob (l2[v1.toNat]?) fun(x3,x4) =>
gd (bX v0 n0) (
ob (l2[v0.toNat]?) fun(x10,x11) =>
gd (bX v0 n0) (
gd (bX v1 n0) (
ob ((l2.set v0.toNat (x3,x4))[v1.toNat]?) fun(_,_) =>
some (.inl (((l2.set v0.toNat (x3,x4)).set v1.toNat (x10,x11)),IntKind.wrap .i64 (v0+1),IntKind.wrap .i64 (v1-1)))))))) (
some (.inr l2))
def CM (n:Nat) (x3:Int) (x4:Int):(List (Int × Int))→Option ((List (Int × Int)) ⊕ (List (Int × Int))):=fun l2 =>
ob (
br (decide (1<(l2.length:Int))) (
gd (bX (IntKind.wrap .i64 ((l2.length:Int)-2)) l2.length) (
ob (l2[(IntKind.wrap .i64 ((l2.length:Int)-2)).toNat]?) fun(x10,x11) =>
gd (bX (IntKind.wrap .i64 ((l2.length:Int)-1)) l2.length) (
ob (l2[(IntKind.wrap .i64 ((l2.length:Int)-1)).toNat]?) fun(x12,x13) =>
ob (vk n x10 x11 x12 x13 x3 x4) fun r0 =>
some (decide (r0≤0))))) (
some false)) fun v0 =>
br (v0) (
gd (okB 0 (IntKind.wrap .i64 ((l2.length:Int)-1)) l2.length) (
gd (decide (0<l2.length)) (
ob (some (l2.take (IntKind.wrap .i64 ((l2.length:Int)-1):Int).toNat)) fun l3 =>
some (.inl l3)))) (
some (.inr l2))
def pO (n:Nat) (n0:Nat) (l4:List (Int × Int)):(List (Int × Int) × Int)→Option ((List (Int × Int) × Int) ⊕ (List (Int × Int))):=fun(l2,v0) =>
br (decide (v0<(n0:Int))) (
gd (bX v0 n0) (
ob (l4[v0.toNat]?) fun(x3,x4) =>
ob (
cy (CM n x3 x4) n l2) fun l3 =>
gd (lim (l3++[(x3,x4)]).length) (
some (.inl ((l3++[(x3,x4)]),IntKind.wrap .i64 (v0+1)))))) (
some (.inr l2))
def Ec (n:Nat) (l1:List (Int × Int)):Option (List (Int × Int) × Int) :=
br (decide (200<(l1.length:Int))) (
some ([],3)) (
ob (
ob (
ob (α:=(Int) ⊕ (Unit)) (
cy (sw n l1) n 0) fun r0=>match r0 with
| .inl v0 =>
some v0
| .inr _ =>
some (-1)) fun v1 =>
some (decide (0≤v1))) fun v2 =>
br (v2) (
some ([],2)) (
ob (Gk n l1) fun l4 =>
ob (Gj n l4) fun l5 =>
ob (
br (decide ((l4.length:Int)<2)) (
some (l5,l4.length)) (
ob (α:=(List (Int × Int)) ⊕ (Unit)) (
cy (ku n l4 l5) n 1) fun r1=>match r1 with
| .inl l8 =>
some (l8,l8.length)
| .inr _ =>
some (l5,l4.length))) fun(l9,n0) =>
ob (
ob (
cy (pD n n0 l9) n (([]:List (Int × Int)),0)) fun l10 =>
some l10) fun l2 =>
ob (
ob (
cy (pI n n0) n (l9,0,IntKind.wrap .i64 ((n0:Int)-1))) fun l11 =>
some l11) fun l12 =>
ob (
ob (
cy (pO n n0 l12) n (([]:List (Int × Int)),0)) fun l13 =>
some l13) fun l3 =>
ob (
br (decide ((l2.length:Int)<2)) (
some true) (
some (decide (IntKind.wrap .i64 ((l2.length:Int)+(l3.length:Int))<5)))) fun v3 =>
br (v3) (
some ([],4)) (
gd (okB 0 (IntKind.wrap .i64 ((l2.length:Int)-1)) l2.length) (
gd (decide (0<l2.length)) (
ob (some (l2.take (IntKind.wrap .i64 ((l2.length:Int)-1):Int).toNat)) fun l6 =>
gd (okB 0 (IntKind.wrap .i64 ((l3.length:Int)-1)) l3.length) (
gd (decide (0<l3.length)) (
ob (some (l3.take (IntKind.wrap .i64 ((l3.length:Int)-1):Int).toNat)) fun l7 =>
gd (lim (l6++l7).length) (
br (decide (40<((l6++l7).length:Int))) (
some ([],3)) (
some ((l6++l7),0))))))))))
def pC (_:Nat) (l1:List (Int × Int)):(Int × Int)→Option ((Int × Int) ⊕ (Int)):=fun(v0,v1) =>
br (decide (v0<(l1.length:Int))) (
gd (bX v0 l1.length) (
ob (l1[v0.toNat]?) fun(x10,x11) =>
gd (decide ((l1.length:Int)≠0)) (
gd (bX (Int.tmod (IntKind.wrap .i64 (v0+1)) (l1.length:Int)) l1.length) (
ob (l1[(Int.tmod (IntKind.wrap .i64 (v0+1)) (l1.length:Int)).toNat]?) fun(x12,x13) =>
ob (
gd (bX 0 l1.length) (
ob (l1[(0:Int).toNat]?) fun(x3,x4) =>
gd (bX 0 l1.length) (
ob (some (IntKind.wrap .i64 ((IntKind.wrap .i64 (x10-x3))*(IntKind.wrap .i64 (x13-x4))))) fun y0 =>
gd (bX 0 l1.length) (
gd (bX 0 l1.length) (
ob (some (IntKind.wrap .i64 ((IntKind.wrap .i64 (x11-x4))*(IntKind.wrap .i64 (x12-x3))))) fun y1 =>
some (IntKind.wrap .i64 ((IntKind.wrap .i64 (v1+y0))-y1))))))) fun v2 =>
some (.inl (IntKind.wrap .i64 (v0+1),v2)))))) (
some (.inr v1))
def Ey (n:Nat) (l1:List (Int × Int)):Option (Int × Int) :=
ob (Cy n l1) fun r0 =>
br (!decide (r0=0)) (
some (0,r0)) (
ob (
some ()) fun _ =>
ob (
ob (
cy (pC n l1) n (0,0)) fun v0 =>
some v0) fun v1 =>
some (v1,0))
def FZ (n:Nat) (l1:List (Int × Int)):(Int × Int)→Option ((Int × Int) ⊕ (Int)):=fun(v7,v8) =>
br (decide (v8<(l1.length:Int))) (
gd (bX v8 l1.length) (
ob (l1[v8.toNat]?) fun(x30,x31) =>
ob (CH n l1 (IntKind.wrap .i64 (v8+1))) fun(r34,r35) =>
ob (some (IntKind.wrap .i64 ((IntKind.wrap .i64 (v7+(IntKind.wrap .i64 (x30*r35))))-(IntKind.wrap .i64 (x31*r34))))) fun y38 =>
some (.inl (y38,IntKind.wrap .i64 (v8+1))))) (
some (.inr v7))
def Ho (n:Nat) (l1:List (Int × Int)):Option (Int) :=
ob (
cy (FZ n l1) n (0,0)) fun v25 =>
some v25
def Hs (n:Nat) (l1:List (Int × Int)):Option (Int × Int) :=
ob (Ga n l1) fun r6 =>
br (!decide (r6=0)) (
some (0,r6)) (
ob (Ho n l1) fun r9 =>
some (r9,0))
def pB (n:Nat) (l1:List (Int × Int)):(Int × List (Bool))→Option ((Int × List (Bool)) ⊕ (List (Bool))):=fun(v0,l2) =>
br (decide (v0<(l1.length:Int))) (
gd (bX v0 l1.length) (
ob (l1[v0.toNat]?) fun(x3,x4) =>
gd (decide ((l1.length:Int)≠0)) (
gd (bX (Int.tmod (IntKind.wrap .i64 (v0+1)) (l1.length:Int)) l1.length) (
ob (l1[(Int.tmod (IntKind.wrap .i64 (v0+1)) (l1.length:Int)).toNat]?) fun(x10,x11) =>
ob (
gd (decide ((l1.length:Int)≠0)) (
gd (bX (Int.tmod (IntKind.wrap .i64 (v0+2)) (l1.length:Int)) l1.length) (
ob (l1[(Int.tmod (IntKind.wrap .i64 (v0+2)) (l1.length:Int)).toNat]?) fun(x12,x13) =>
ob (vk n x3 x4 x10 x11 x12 x13) fun r0 =>
gd (bX (IntKind.wrap .i64 (1+r0)) 3) (
ob (l2[(IntKind.wrap .i64 (1+r0)).toNat]?) fun _ =>
some (l2.set ((IntKind.wrap .i64 (1+r0)).toNat) true))))) fun l3 =>
some (.inl (IntKind.wrap .i64 (v0+1),l3)))))) (
some (.inr l2))
def Ez (n:Nat) (l1:List (Int × Int)):Option (Bool × Int) :=
ob (Cy n l1) fun r0 =>
br (!decide (r0=0)) (
some (false,r0)) (
ob (
some ()) fun _ =>
ob (
ob (
cy (pB n l1) n (0,([false,false,false]:List (Bool)))) fun l2 =>
some l2) fun l3 =>
ob (Gs l3) fun(x3,_,x4) =>
some (!(x3 == x4),0))
def Fz (n:Nat) (l1:List (Int × Int)):(Bool × Bool × Int)→Option ((Bool × Bool × Int) ⊕ (Bool × Bool)):=fun(v1,v2,v0) =>
br (decide (v0<(l1.length:Int))) (
ob (
gd (bX v0 l1.length) (
ob (l1[v0.toNat]?) fun(x3,x4) =>
ob (CH n l1 (IntKind.wrap .i64 (v0+1))) fun(r1,r2) =>
ob (CH n l1 (IntKind.wrap .i64 (v0+2))) fun(r3,r4) =>
ob (CC n x3 x4 r1 r2 r3 r4) fun r0 =>
ob (
br (v1) (
some true) (
some (decide (0<r0)))) fun v3 =>
br (v2) (
some (v3,true)) (
some (v3,decide (r0<0))))) fun(v4,v5) =>
some (.inl (v4,v5,IntKind.wrap .i64 (v0+1)))) (
some (.inr (v1,v2)))
def Hi (n:Nat) (l1:List (Int × Int)):Option (Bool × Int) :=
ob (Ga n l1) fun r6 =>
br (!decide (r6=0)) (
some (false,r6)) (
ob (
cy (Fz n l1) n (false,false,0)) fun(v62,v63) =>
some (!(v62 == v63),0))
def Fo (_:Nat) (l3:List (Int × Int)):(List (Int × Int) × Int × Int)→Option ((List (Int × Int) × Int × Int) ⊕ (List (Int × Int))):=fun(l2,v0,v1) =>
br (decide (v0<v1)) (
gd (bX v1 (l3.length-1:Nat)) (
ob (l2[(1+v1.toNat)]?) fun(x3,x4) =>
gd (bX v0 (l3.length-1:Nat)) (
ob (l2[(1+v0.toNat)]?) fun(x10,x11) =>
gd (bX v0 (l3.length-1:Nat)) (
gd (bX v1 (l3.length-1:Nat)) (
ob ((l2.set (1+v0.toNat) (x3,x4))[(1+v1.toNat)]?) fun(_,_) =>
some (.inl (((l2.set (1+v0.toNat) (x3,x4)).set (1+v1.toNat) (x10,x11)),IntKind.wrap .i64 (v0+1),IntKind.wrap .i64 (v1-1)))))))) (
some (.inr l2))
def Hn (n:Nat) (l1:List (Int × Int)):Option (List (Int × Int) × Int) :=
ob (Cy n l1) fun r0 =>
br (!decide (r0=0)) (
some ([],r0)) (
ob (Hl n l1) fun l2 =>
gd (decide (1<l2.length)) (
ob (
ob (
cy (Fo n l2) n (l2,0,IntKind.wrap .i64 (((l2.length-1:Nat):Int)-1))) fun l3 =>
some l3) fun l4 =>
some (l4,0)))
def nK (n:Nat) (l1:List (Int × Int)) (x5:Int) (x6:Int):(Int × Int)→Option ((Int × Int) ⊕ ((Int) ⊕ (Int))):=fun(v0,v1) =>
br (decide (v0<(l1.length:Int))) (
gd (bX v0 l1.length) (
ob (l1[v0.toNat]?) fun(x10,x3) =>
gd (decide ((l1.length:Int)≠0)) (
gd (bX (Int.tmod (IntKind.wrap .i64 (v0+1)) (l1.length:Int)) l1.length) (
ob (l1[(Int.tmod (IntKind.wrap .i64 (v0+1)) (l1.length:Int)).toNat]?) fun(x11,x4) =>
ob (α:=(Unit) ⊕ (Int)) (
ob (wC n v0 x10 x3 x11 x4 x5 x6) fun r1 =>
br (r1) (
some (.inl ())) (
ob (vk n x10 x3 x11 x4 x5 x6) fun r0 =>
ob (
br (decide (x3≤x6)) (
br (decide (x6<x4)) (
some (decide (0<r0))) (
some false)) (
some false)) fun v2 =>
br (v2) (
some (.inr (IntKind.wrap .i64 (v1+1)))) (
ob (
br (decide (x6<x3)) (
br (decide (x4≤x6)) (
some (decide (r0<0))) (
some false)) (
some false)) fun v3 =>
br (v3) (
some (.inr (IntKind.wrap .i64 (v1-1)))) (
some (.inr v1))))) fun r2=>match r2 with
| .inl _ =>
some (.inr (.inl v1))
| .inr v4 =>
some (.inl (IntKind.wrap .i64 (v0+1),v4)))))) (
some (.inr (.inr v1)))
def CD (n:Nat) (l1:List (Int × Int)) (x5:Int) (x6:Int):Option (Int × Int) :=
ob (Cy n l1) fun r0 =>
br (!decide (r0=0)) (
some (0,r0)) (
ob (Dz n x5 x6) fun r1 =>
br (r1) (
some (0,2)) (
ob (
some ()) fun _ =>
ob (α:=(Int) ⊕ (Int)) (
ob (α:=(Int) ⊕ (Int)) (
cy (nK n l1 x5 x6) n (0,0)) fun r2=>match r2 with
| .inl v0 =>
some (.inl v0)
| .inr v1 =>
some (.inr v1)) fun r3=>match r3 with
| .inl _ =>
some (1,0)
| .inr v2 =>
br (!decide (v2=0)) (
some (2,0)) (
some (0,0))))
def Fy (n:Nat) (l1:List (Int × Int)) (x5:Int) (x6:Int):(Bool × Int)→Option ((Bool × Int) ⊕ ((Unit) ⊕ (Bool))):=fun(v1,v0) =>
br (decide (v0<(l1.length:Int))) (
ob (α:=(Unit) ⊕ (Bool)) (
gd (bX v0 l1.length) (
ob (l1[v0.toNat]?) fun(x4,x3) =>
ob (CH n l1 (IntKind.wrap .i64 (v0+1))) fun(r1,r0) =>
ob (FA n x4 x3 r1 r0 x5 x6) fun r2 =>
br (r2) (
some (.inl ())) (
ob (
br (!((decide (x6<x3)) == (decide (x6<r0)))) (
ob (CC n x4 x3 r1 r0 x5 x6) fun r3 =>
some ((decide (0<r3)) == (decide (x3<r0)))) (
some false)) fun v2 =>
br (v2) (
some (.inr (!v1))) (
some (.inr v1))))) fun r4=>match r4 with
| .inl _ =>
some (.inr (.inl ()))
| .inr v3 =>
some (.inl (v3,IntKind.wrap .i64 (v0+1)))) (
some (.inr (.inr v1)))
def Hf (n:Nat) (l1:List (Int × Int)) (x5:Int) (x6:Int):Option (Int) :=
ob (α:=(Unit) ⊕ (Bool)) (
cy (Fy n l1 x5 x6) n (false,0)) fun r0=>match r0 with
| .inl _ =>
some 1
| .inr v0 =>
br (v0) (
some 2) (
some 0)
def Ha (n:Nat) (l1:List (Int × Int)) (x5:Int) (x6:Int):Option (Int × Int) :=
ob (Ga n l1) fun r9 =>
br (!decide (r9=0)) (
some (0,r9)) (
ob (GX n x5 x6) fun r12 =>
br (r12) (
some (0,2)) (
ob (Hf n l1 x5 x6) fun r15 =>
some (r15,0)))
def GM (n:Nat) (x10:Int) (x11:Int) (x9:Int) (x12:Int) (x13:Int) (x14:Int) (v1:Int) (v2:Int) (l2:List (Int × Int)):Int→Option ((Int) ⊕ ((Unit) ⊕ (Unit))):=fun v0 =>
br (decide (v0<3)) (
gd (bX v0 3) (
ob ([(x10,x11),(IntKind.wrap .i64 ((IntKind.wrap .i64 x9)+(IntKind.wrap .i64 x12)),IntKind.wrap .i64 ((IntKind.wrap .i64 x13)+(IntKind.wrap .i64 x14))),(v1,v2)][v0.toNat]?) fun(x3,x4) =>
ob (CD n l2 x3 x4) fun(r0,r1) =>
ob (Ha n l2 x3 x4) fun(r2,r3) =>
ob (
br (!decide (r0=r2)) (
some true) (
some (!decide (r1=r3)))) fun v3 =>
br (v3) (
some (.inr (.inl ()))) (
some (.inl (IntKind.wrap .i64 (v0+1)))))) (
some (.inr (.inr ())))
def GB (n:Nat) (l3:List (Int × Int)) (l4:List (Int × Int)) (l5:List (Int × Int)) (l6:List (Int × Int)) (x3:Nat) (x4:Int) (x10:Int) (x9:Int) (x11:Int) (x12:Int) (x13:Int):Int→Option ((Int) ⊕ ((Unit) ⊕ (Unit))):=fun v0 =>
br (decide (v0<4)) (
gd (bX v0 4) (
ob ([l3,l4,l5,l6][v0.toNat]?) fun l2 =>
ob (Ey n l2) fun(r0,r1) =>
ob (Hs n l2) fun(r2,r3) =>
ob (Ez n l2) fun(r4,r5) =>
ob (Hi n l2) fun(r6,r7) =>
ob (Hn n l2) fun(l7,r8) =>
ob (GW n l2) fun(l8,r9) =>
ob (
br (!decide (r0=r2)) (
some true) (
br (!decide (r1=r3)) (
some true) (
br (!(r4 == r6)) (
some true) (
br (!decide (r5=r7)) (
some true) (
br (!decide (r8=r9)) (
some true) (
ob (EA n l7 l8) fun r10 =>
some (!r10))))))) fun v1 =>
br (v1) (
some (.inr (.inl ()))) (
ob (
br (decide (1<(l2.length:Int))) (
gd (decide ((l2.length:Int)≠0)) (
gd (bX (Int.tmod (IntKind.wrap .i64 ((x3:Nat):Int)) (l2.length:Int)) l2.length) (
ob (l2[(Int.tmod (IntKind.wrap .i64 ((x3:Nat):Int)) (l2.length:Int)).toNat]?) fun(x14,x15) =>
gd (bX 0 l2.length) (
ob (l2[(0:Int).toNat]?) fun(x16,x17) =>
ob (some (IntKind.wrap .i64 ((IntKind.wrap .i64 (Int.tdiv x14 2))+(IntKind.wrap .i64 (Int.tdiv x16 2))))) fun y0 =>
gd (bX 0 l2.length) (
ob (some (IntKind.wrap .i64 ((IntKind.wrap .i64 (Int.tdiv x15 2))+(IntKind.wrap .i64 (Int.tdiv x17 2))))) fun y1 =>
some (y0,y1)))))) (
some (0,0))) fun(v2,v3) =>
ob (α:=(Unit) ⊕ (Unit)) (
cy (GM n x4 x10 x9 x11 x12 x13 v2 v3 l2) n 0) fun r11=>match r11 with
| .inl _ =>
some (.inr (.inl ()))
| .inr _ =>
some (.inl (IntKind.wrap .i64 (v0+1)))))) (
some (.inr (.inr ())))
def F8 (n:Nat) (l1:List (Int × Int)) (l2:List (Nat)) (x9:Int) (x3:Int) (x10:Nat) (x11:Bool) (x12:Bool) (x13:Nat) (x4:Nat) (x14:Nat) (x15:Int) (x16:Int) (x17:Nat) (x18:Nat) (x19:Nat) (x20:Int) (x21:Int) (x22:Int) (x23:Int) (x24:Int) (x25:Int):Option (Bool) :=
ob (Hj n l1 l2 x9 x3 x10 x11 x12 x13 x4 x14 x15 x16 x17 x18 x19 x20 x21) fun(l3,l4,l5,l6) =>
ob (α:=(Unit) ⊕ (Unit)) (
cy (GB n l3 l4 l5 l6 x4 x22 x23 x9 x24 x3 x25) n 0) fun r0=>match r0 with
| .inl _ =>
some false
| .inr _ =>
ob (Gm n) fun r1 =>
some r1
end Go.Proofs.YthmekkhpddehjaaGreat
end

section
namespace Go.Proofs.YthmekkhpddehjaaGreat
open Go Go.Ab Go.Ab.W
def FL (n:Nat) (l1:List (Int × Int)):Option (Bool) :=
ob (Ez n l1) fun(r6,r7) =>
br (r6) (
some (decide (r7=0))) (
some false)
def ET (n:Nat) (l1:List (Int × Int)) (l5:List (Int × Int)):Option (Bool) :=
ob (Ec n l1) fun(l10,r14) =>
br (decide (r14=0)) (
ob (EA n l10 l5) fun r17 =>
some r17) (
some false)
def xy (_:Nat) (l1:List (Int × Int)):(List (Int × Int) × Int)→Option ((List (Int × Int) × Int) ⊕ (List (Int × Int))):=fun(l25,v27) =>
br (decide (v27<(((l1.drop (0:Int).toNat).take ((mi (l1.length:Int) (25:Int):Int).toNat-(0:Int).toNat)).length:Int))) (
gd (bX v27 (((l1.drop (0:Int).toNat).take ((mi (l1.length:Int) (25:Int):Int).toNat-(0:Int).toNat)).length)) (
ob (((l1.drop (0:Int).toNat).take ((mi (l1.length:Int) (25:Int):Int).toNat-(0:Int).toNat))[v27.toNat]?) fun(x48,x49) =>
gd (lim (l25++[(IntKind.wrap .i64 x48,IntKind.wrap .i64 x49)]).length) (
some (.inl ((l25++[(IntKind.wrap .i64 x48,IntKind.wrap .i64 x49)]),IntKind.wrap .i64 (v27+1)))))) (
some (.inr l25))
def xQ (n:Nat) (l2:List (Int × Int)) (l3:List (Int × Int)):Int→Option ((Int) ⊕ ((Unit) ⊕ (Unit))):=fun v0 =>
br (decide (v0<(l2.length:Int))) (
gd (bX v0 l2.length) (
ob (l2[v0.toNat]?) fun(x3,x4) =>
ob (CD n l3 x3 x4) fun(r0,r1) =>
ob (
br (!decide (r1=0)) (
some true) (
some (decide (r0=0)))) fun v1 =>
br (v1) (
some (.inr (.inl ()))) (
some (.inl (IntKind.wrap .i64 (v0+1)))))) (
some (.inr (.inr ())))
def xJ (_:Nat) (l2:List (Int × Int)) (x3:Int) (x4:Int):(Bool × Int)→Option ((Bool × Int) ⊕ (Bool)):=fun(v1,v0) =>
br (decide (v0<(l2.length:Int))) (
ob (
gd (bX v0 l2.length) (
ob (l2[v0.toNat]?) fun(x10,x11) =>
br (v1) (
some true) (
some (decide (x3=x10) && decide (x4=x11))))) fun v2 =>
some (.inl (v2,IntKind.wrap .i64 (v0+1)))) (
some (.inr v1))
def yN (n:Nat) (l2:List (Int × Int)) (l3:List (Int × Int)):Int→Option ((Int) ⊕ ((Unit) ⊕ (Unit))):=fun v0 =>
br (decide (v0<(l2.length:Int))) (
gd (bX v0 l2.length) (
ob (l2[v0.toNat]?) fun(x3,x4) =>
ob (
cy (xJ n l3 x3 x4) n (false,0)) fun v1 =>
br (!v1) (
some (.inr (.inl ()))) (
some (.inl (IntKind.wrap .i64 (v0+1)))))) (
some (.inr (.inr ())))
def Et (n:Nat) (l2:List (Int × Int)) (l3:List (Int × Int)):Int→Option ((Int) ⊕ ((Unit) ⊕ (Unit))):=fun v0 =>
br (decide (v0<(l2.length:Int))) (
gd (bX v0 l2.length) (
ob (l2[v0.toNat]?) fun(x3,x4) =>
ob (CD n l3 x3 x4) fun(r0,r1) =>
ob (
br (!decide (r1=0)) (
some true) (
some (decide (r0=0)))) fun v1 =>
br (v1) (
some (.inr (.inl ()))) (
some (.inl (IntKind.wrap .i64 (v0+1)))))) (
some (.inr (.inr ())))
def F5 (n:Nat) (l1:List (Int × Int)) (x5:Nat):Option (Bool) :=
ob (Gm n) fun r2 =>
br (!r2) (
some false) (
gd (okB 0 (mi (l1.length:Int) (25:Int)) l1.length) (
ob (
cy (xy n l1) n (([]:List (Int × Int)),0)) fun l2 =>
ob (Ec n l2) fun(l3,r0) =>
br (!decide (r0=0)) (
some (decide (r0=4))) (
ob (Ey n l3) fun(r3,r4) =>
ob (
br (!decide (r4=0)) (
some true) (
br (decide (r3≤0)) (
some true) (
ob (FL n l3) fun r5 =>
br (!r5) (
some true) (
ob (ET n l3 l3) fun r6 =>
some (!r6))))) fun v0 =>
br (v0) (
some false) (
ob (α:=(Unit) ⊕ (Unit)) (
cy (xQ n l2 l3) n 0) fun r7=>match r7 with
| .inl _ =>
some false
| .inr _ =>
ob (α:=(Unit) ⊕ (Unit)) (
cy (yN n l3 l2) n 0) fun r8=>match r8 with
| .inl _ =>
some false
| .inr _ =>
gd (decide (IntKind.wrap .i64 ((l2.length:Int)+1)≠0)) (
ob (some (Int.tmod (IntKind.wrap .i64 ((x5:Nat):Int)) (IntKind.wrap .i64 ((l2.length:Int)+1)))) fun y0 =>
gd (okB 0 y0 l2.length) (
ob (Ec n ((l2.drop (0:Int).toNat).take ((y0:Int).toNat-(0:Int).toNat))) fun(l4,r1) =>
br (!decide (r1=0)) (
some (decide (r1=4))) (
ob (α:=(Unit) ⊕ (Unit)) (
cy (Et n l4 l3) n 0) fun r9=>match r9 with
| .inl _ =>
some false
| .inr _ =>
some true)))))))
end Go.Proofs.YthmekkhpddehjaaGreat
end

section
namespace Go.Proofs.YthmekkhpddehjaaGreat
open Go Go.Ab Go.Ab.W
set_option maxRecDepth 10000
theorem zC {l:List (Int × Int)}:((l.map jW).flatten).length=l.length*2:=by rw[bB (w:=2) (fun e he=>by obtain⟨x,_,rfl⟩:=List.mem_map.1 he; rfl),List.length_map]
theorem BW (n:Nat) {m0 m:AMem} {ps:List Pc} (h:Hp m0 m ps) {k nn:Nat} {a:Option Addr} {l r:List (Int × Int)} (hp:pk ps k=some (.sl a 2 nn (l.map (eP (eI .i64) (eI .i64))))) (hF:Gj n l=some r) :
  aR bh 50 [.slice a nn nn,.func (.func 51) #[] #[]] m (fun v m'=>∃_:Unit,v = .tuple #[]∧Hp m0 m' (bM ps k (.sl a 2 nn (r.map (eP (eI .i64) (eI .i64)))))):=by
 unfold Gj at hF;obtain⟨hlim,hF⟩:=al hF;cases hF;rcases h.get hp with⟨rfl,e2,rfl,_⟩|⟨b,tg,rfl,hO⟩
 ·have hl:l = []:=List.map_eq_nil_iff.1 e2;subst hl;refine aR.bU (p:=⟨ie⟩) rfl (v:=.tuple #[]) (m':=m) rfl ⟨(),rfl,?_⟩;rw[List.mergeSort_nil,xN _ _ _ hp];exact h
 ·obtain⟨h1,h2,h3,h4,h5,h6,h7⟩:=hO;have hn:l.length=nn:=by simpa using h4
  subst hn;have hw:oi m b l.length l.length=some ((l.map jW).flatten,tg):=by
   unfold oi;rcases h6 with rfl|rfl<;>simp only[h3]<;>rw[if_pos ⟨trivial,zC,oF _⟩]
  refine aR.bU (p:=⟨ie⟩) rfl (v:=.tuple #[]) (m':=m.set b (.cells ((l.mergeSort cB).map jW).flatten tg)) ?_ ⟨(),rfl,?_⟩
  ·show ie [.slice (some ⟨b,0,none⟩) l.length l.length,.func (.func 51) #[] #[]] m=_
   simp only[ie,hw,lT];rw[if_pos ⟨⟨rfl,rfl⟩,hlim⟩]
  ·refine h.write hp rfl rfl rfl rfl (.inr ⟨b,tg,rfl,h1,?_,?_,?_,?_,h6,h7⟩)
   ·rw[AMem.next_set]; exact h2
   ·rw[AMem.ba,if_pos rfl]
   ·simp
   ·intro e he;obtain⟨x,_,rfl⟩:=List.mem_map.1 he
    rfl
end Go.Proofs.YthmekkhpddehjaaGreat
end
