/- A part of the proof. -/
import Derived.Test.YtmndpgfbkicndaaCp7
set_option linter.all false
namespace Go.Proofs.Ytmndpgfbkicndaa
section
open Go Go.Ab Go.Ab.W Go.Ab.B Jd
def pI{P:TO Ed->Ed->Bool}:∀{E d:TO Ed},bJ P d E=none->∀a e b,E=a++e::b->P (d++a) e=false
 | [],_,_,a,e,b,h=>by cases a<;>cases h
 | x::E,d,h0,a,e,b,h=>by
  rw[bJ] at h0
  by_cases c:P d x=true
  rw[QH c] at h0; cases h0
  ·rw[QF c] at h0;cases a with
   | nil =>
    rw[RR] at h;cases h;rw[Rr];exact Bool.eq_false_iff.2 c
   | cons y a =>
    rw[Sn] at h;cases h;have:=pI h0 a e b rfl;rwa[Ry] at this
def uc{q:Ed->Ed->Bool}{P:TO Ed->Ed->Bool}(hP:∀d e,P d e=d.any (q e)){E:TO Ed}(h:bJ P [] E=none):E.Pairwise fun x e=>q e x=false:=by
 rw[List.pairwise_iff_forall_sublist];intro x e hs;obtain⟨a,b,c,rfl⟩:∃a b c:TO Ed,E=a++x::b++e::c:=by
  have key:∀{E:TO Ed},[x,e].Sublist E->∃a b c:TO Ed,E=a++x::b++e::c:=by
   intro E
   induction E with
   | nil=>intro h; cases h
   | cons y E ih =>
    intro h;cases h with
    | cons _ h =>
     obtain⟨a,b,c,rfl⟩:=ih h;exact⟨y::a,b,c,rfl⟩
    | cons_cons _ h =>
     have hm:e∈E:=List.singleton_sublist.1 h;obtain⟨b,c,rfl⟩:=List.append_of_mem hm;exact⟨[],b,c,rfl⟩
  exact key hs
 have:=pI h (a++x::b) e c rfl;rw[RR,hP,List.any_eq_false] at this;exact Bool.eq_false_iff.2 (this x (by simp))
def yw{q:Ed->Bool}{P:TO Ed->Ed->Bool}(hP:∀d e,P d e=q e){E:TO Ed}(h:bJ P [] E=none):∀e∈E,q e=false:=fun e he=>by
 obtain⟨a,b,rfl⟩:=List.append_of_mem he;rw[<-hP _ e];exact pI h a e b rfl
def E9{pts:TO I2}{F:TO Fc}(h:(JQ pts F).1<=0):bJ zE [] (sE F)=none/\bJ (xO pts) [] (sE F)=none/\bJ (uC pts F) [] (sE F)=none/\bJ (zz pts F) [] (sE F)=none:=by
 unfold JQ at h;cases h1:bJ zE [] (sE F) with
 | some v=>rw[h1] at h; dsimp only at h; omega
 | none =>
 rw[h1] at h;cases h2:bJ (xO pts) [] (sE F) with
 | some v=>rw[h2] at h; dsimp only at h; omega
 | none =>
 rw[h2] at h;cases h3:bJ (uC pts F) [] (sE F) with
 | some v=>rw[h3] at h; dsimp only at h; omega
 | none =>
 rw[h3] at h;cases h4:bJ (zz pts F) [] (sE F) with
 | some v=>rw[h4] at h; dsimp only at h; omega
 | none=>exact⟨rfl,rfl,rfl,rfl⟩
def iT{α:Type}(g:Nat->TO α):∀k,acc g k=(List.range k).flatMap g
 | 0=>rfl
 | k+1=>by rw[acc,iT g k,List.range_succ,List.flatMap_append]; simp
def rm{α β:Type}(g:α->TO β)(d:α)(l:TO α):((List.range l.length).flatMap fun i=>g (l.getD i d))=l.flatMap g:=by
 have:l=(List.range l.length).map fun i=>l.getD i d:=by
  apply List.ext_getElem
  simp
  intro i h1 h2; simp[h1]
 conv=>rhs; rw[this]
 rw[List.flatMap_map]
def kh{α β:Type}{f g:α->TO β}:∀{l:TO α},(∀a∈l,f a=g a)->l.flatMap f=l.flatMap g
 | [],_=>rfl
 | a::l,h=>by rw[Sz,Sz,h a Q7,kh fun b hb=>h b (QQ _ hb)]
def gE(pts:TO I2)(e:Ed):Eg:=(gA pts e.1,gA pts e.2.1)
def AF(pts:TO I2)(f:Fc):Fce:=⟨cJ pts f.1 1,f.2.map fun l=>cJ pts l 1⟩
section
variable{pts:TO I2}{F:TO Fc}
def HK{l:TO Int}(h0:l≠[])(i:Nat):nx (cJ pts l 1) (i+1)=gA pts (l.getD ((i+1)%l.length) 0):=by
 rw[<-wC (Ru _ (List.length_pos_iff.2 h0))];exact jD _ (by rw[dM,Nat.mod_mod])
def FP{l:TO Int}{f r:Nat}:(rE l f r).map (gE pts)=iq (cJ pts l 1):=by
 unfold rE iq;rw[iT,List.map_flatMap,dM,List.map_eq_flatMap]
 by_cases h0:l=[]
 subst h0; rfl
 refine kh fun i hi=>?_;rw[HK h0,wC (RB.1 hi)]
 rfl
def Ms(rs:SR)(f:Nat):(fE rs f).map (gE pts)=rs.flatMap fun l=>iq (cJ pts l 1):=by
 unfold fE;rw[iT,List.map_flatMap,<-rm (fun l=>iq (cJ pts l 1)) [] rs];exact kh fun r _=>FP
def Az(f:Fc):(AF pts f).es=(f.1::f.2).flatMap fun l=>iq (cJ pts l 1):=by
 unfold Fce.es AF
 dsimp only
 rw[Sz,Sz,List.flatMap_map]
def LB:(sE F).map (gE pts)=(F.map (AF pts)).flatMap Fce.es:=by
 unfold sE;rw[iT,List.map_flatMap,List.flatMap_map,<-rm (fun f=>(AF pts f).es) ([],[]) F];exact kh fun f _=>by rw[Ms,Az]; rfl
def E8(hv:Fcs pts F){a b:Int}(ha:0<=a/\a<pts.length)(hb:0<=b/\b<pts.length)(e:gA pts a=gA pts b):a=b:=by
 have key:∀{i j:Nat},i<j->j<pts.length->nx pts i≠nx pts j:=fun{i j} hij hj e=>hv.one j hj (by
  rw[<-e];unfold nx;rw[R9 (by omega),QN,QG (by omega)]
  exact Ri.2 ⟨i,by rw[QX]; omega,by rw[List.getElem_take]; rfl⟩)
 have pn:∀{a:Int},0<=a/\a<pts.length->gA pts a=nx pts a.toNat:=fun{a} ha=>by
  unfold gA nx;rw[R9 (by omega)]
 rw[pn ha,pn hb] at e;rcases Nat.lt_trichotomy a.toNat b.toNat with g|g|g
 exact Q1 e (key g (by omega))
 omega
 exact Q1 e.symm (key g (by omega))
def I9{l:TO Int}(h0:l≠[])(e:Ed):(∃i,i<(cJ pts l 2).length/\cz (nx (cJ pts l 2) i) (nx (cJ pts l 2) (i+1)) (uy pts e))↔¬oJ (cJ pts l 1) (gE pts e):=by
 have hne:cJ pts l 1≠[]:=fun e=>h0 (Rh.1 (by have:=dM pts l 1; rw[e] at this; exact this.symm))
 have hm:uy pts e=sI (gE pts e):=rfl;unfold oJ;rw[hm,vH];constructor
 rintro⟨i,hi,hb⟩ ho;rw[Q0] at hi;rw[cB _ hne,cB _ hne] at hb;exact ho _ (Iu hi) hb
 intro hn;refine QI fun hc=>hn fun g hg hb=>hc ?_;obtain⟨i,hi,rfl⟩:=Rj.1 hg;exact⟨i,by rw[Q0]; exact RB.1 hi,by rw[cB _ hne,cB _ hne]; exact hb⟩
def rr{l:TO Int}(h0:l≠[])(e:Ed):(side (cJ pts l 2) (uy pts e)=2↔oJ (cJ pts l 1) (gE pts e)/\wM (cJ pts l 1) (gE pts e)≠0)/\(side (cJ pts l 2) (uy pts e)=0↔oJ (cJ pts l 1) (gE pts e)/\wM (cJ pts l 1) (gE pts e)=0):=by
 have hne:cJ pts l 1≠[]:=fun e=>h0 (Rh.1 (by have:=dM pts l 1; rw[e] at this; exact this.symm))
 have hw:dh (cJ pts l 2) (uy pts e)=wM (cJ pts l 1) (gE pts e):=by rw[Of hne,vH]; rfl
 have ho:=I9 (pts:=pts) h0 e;unfold side;rw[hw]
 by_cases c:oJ (cJ pts l 1) (gE pts e)
 rw[QF (fun k=>ho.1 k c)]
 by_cases w:wM (cJ pts l 1) (gE pts e)=0
 rw[QH w]; exact⟨⟨fun k=>Q1 k (by decide),fun k=>Q1 w k.2⟩,⟨fun _=>⟨c,w⟩,fun _=>rfl⟩⟩
 rw[QF w]; exact⟨⟨fun _=>⟨c,w⟩,fun _=>rfl⟩,⟨fun k=>Q1 k (by decide),fun k=>Q1 k.2 w⟩⟩
 rw[QH (ho.2 c)];exact⟨⟨fun k=>Q1 k (by decide),fun k=>Q1 k.1 c⟩,⟨fun k=>Q1 k (by decide),fun k=>Q1 k.1 c⟩⟩
def BN{o:TO Int}{h:SR}(h0:o≠[])(h1:∀l∈h,l≠[])(e:Ed):He pts o h (uy pts e)=true↔(oJ (cJ pts o 1) (gE pts e)/\wM (cJ pts o 1) (gE pts e)≠0)/\∀l∈h,oJ (cJ pts l 1) (gE pts e)/\wM (cJ pts l 1) (gE pts e)=0:=by
 unfold He;rw[QJ,QR,(rr h0 e).1,QS];refine and_congr_right fun _=>⟨fun k l hl=>(rr (h1 l hl) e).2.1 (of_decide_eq_true (k l hl)),fun k l hl=>QM ((rr (h1 l hl) e).2.2 (k l hl))⟩
def qO(hv:Fcs pts F){f:Nat}(hf:f<F.length):∀l∈aj F f,l≠[]:=fun l hl e=>by
 obtain⟨e1,_⟩:=mn hv hf l hl;obtain⟨_,g3,_⟩:=fT rfl e1;rw[e] at g3; simp at g3
def IU{f:Fc}(h:ME pts f=true)(ha:∀r∈f.1::f.2,kU (cJ pts r 1)≠0):0<kU (cJ pts f.1 1)/\∀l∈f.2,kU (cJ pts l 1)<0:=by
 unfold ME at h;have hn:∀i,i<(f.1::f.2).length->po pts (f.1::f.2) i=none:=by
  rcases cA (f:=po pts (f.1::f.2)) (e:=.inr ()) (f.1::f.2).length 0 with⟨h1,h2⟩|⟨j,_,h2,h3⟩
  exact fun i hi=>h1 i (by omega) (by omega)
  ·exfalso;cases hs:bL (po pts (f.1::f.2)) (.inr ()) (f.1::f.2).length 0 with
   | inl u=>rw[hs] at h; cases h
   | inr u =>
    rw[hs] at h3;unfold po at h3
    split at h3
    split at h3<;>cases h3
    cases h3
 have at_:∀i (hi:i<(f.1::f.2).length),(decide (i=0)==decide (0<kU (cJ pts (f.1::f.2)[i] 1)))=true:=fun i hi=>by
  have:=hn i hi;unfold po at this;rw[QG hi] at this
  dsimp only at this
  refine QI fun hc=>?_;rw[QF hc] at this; cases this
 constructor
 have:=at_ 0 (by simp)
 rw[QM rfl] at this;exact of_decide_eq_true (by simpa using this)
 intro l hl;obtain⟨j,hj,rfl⟩:=Ri.1 hl;have:=at_ (j+1) (by simpa using hj)
 rw[QO (by omega)] at this
 have h1:¬0<kU (cJ pts f.2[j] 1):=by
  have:decide (0<kU (cJ pts f.2[j] 1))=false:=by simpa using this
  exact of_decide_eq_false this
 have:=ha f.2[j] (QQ _ (Q5 hj));omega
def xE{x y:Ed}(h:gY pts x y=false)(hs:oV x y=false):Mt (gE pts x) (gE pts y):=by
 unfold gY at h;rw[hs,QF (by decide)] at h
 unfold Mt gE
 dsimp only
 by_cases c:nF (gA pts x.1) (gA pts x.2.1) (gA pts y.1) (gA pts y.2.1)=1
 rw[QH c] at h;refine .inr ⟨c,?_⟩;refine QI fun hc=>?_;have n1:x.1≠y.1:=fun e=>hc (.inl (by rw[e]))
 have n2:x.1≠y.2.1:=fun e=>hc (.inr (.inl (by rw[e])))
 have n3:x.2.1≠y.1:=fun e=>hc (.inr (.inr (.inl (by rw[e]))))
 have n4:x.2.1≠y.2.1:=fun e=>hc (.inr (.inr (.inr (by rw[e]))))
 rw[QO n1,QO n2,QO n3,QO n4] at h;cases h
 rw[QF c] at h;exact .inl (of_decide_eq_true (by simpa using h))
def uM{f r:Nat}(hf:f<F.length)(hr:r<(aj F f).length)(h0:(aj F f)[r]≠[]){e:Eg}(he:e∈iq (cJ pts (aj F f)[r] 1)):∃x∈sE F,gE pts x=e/\x.2.2.1=(f:Int)/\x.2.2.2=(r:Int):=by
 rw[<-FP (f:=f) (r:=r)] at he;obtain⟨x,hx,rfl⟩:=Rj.1 he;refine⟨x,?_,rfl,?_⟩
 unfold sE fE;rw[iT];refine R0.2 ⟨f,RB.2 hf,?_⟩;rw[iT];refine R0.2 ⟨r,RB.2 hr,?_⟩;rw[QN,QG hr];exact hx
 unfold rE at hx;rw[iT] at hx;obtain⟨i,_,hi⟩:=R0.1 hx;rw[QW.1 hi];exact⟨rfl,rfl⟩
def NoF.cx(h:NoF pts F):CxOk (F.map (AF pts)):=by
 have hv:=h.vf;obtain⟨t1,t2,t3,t4⟩:=E9 h.ed;have hS:∀x∈sE F,AA pts x:=D0 hv (QK _);have rof:∀f∈F,∃i,i<F.length/\aj F i=f.1::f.2:=fun f hf=>by
  obtain⟨i,hi,rfl⟩:=Ri.1 hf;refine⟨i,hi,?_⟩;unfold aj;rw[QN,QG hi]; rfl
 have vr:∀f∈F,∀l∈f.1::f.2,VR (cJ pts l 1):=fun f hf l hl=>by
  obtain⟨i,hi,e⟩:=rof f hf;exact(qZ.1 (mn hv hi l (by rw[e]; exact hl)).2).vr
 have tu:∀f∈F,0<kU (cJ pts f.1 1)/\∀l∈f.2,kU (cJ pts l 1)<0:=fun f hf=>IU (hv.tu f hf) (JT (hv.va f hf));have p1:=uc (q:=fun e x=>decide (e.1=x.1)&&decide (e.2.1=x.2.1)) (fun d e=>rfl) t1;have p2:=uc (q:=fun e x=>gY pts e x) (fun d e=>rfl) t2;have p3:=yw (q:=fun e=>uC pts F [] e) (fun d e=>rfl) t3;have p4:=yw (q:=fun e=>zz pts F [] e) (fun d e=>rfl) t4;have allE:(F.map (AF pts)).flatMap Fce.es=(sE F).map (gE pts):=LB.symm;have gne:∀x∈sE F,∀y∈sE F,gE pts x=gE pts y->x.1=y.1/\x.2.1=y.2.1:=fun x hx y hy e=>by
  have a:=hS x hx;have b:=hS y hy;unfold gE at e;exact⟨E8 hv a.1 b.1 (Rf Prod.fst e),E8 hv a.2.1 b.2.1 (Rf Prod.snd e)⟩
 refine⟨fun f hf=>?_,fun f hf l hl=>?_,?_,fun e he g hg h1 h2=>?_,fun f hf k hk e he=>?_,fun i j hi hj hij e he hw=>?_⟩
 obtain⟨f,hf',rfl⟩:=Rj.1 hf;exact⟨vr f hf' _ Q7,(tu f hf').1⟩
 obtain⟨f,hf',rfl⟩:=Rj.1 hf;unfold AF at hl;obtain⟨l',hl',rfl⟩:=Rj.1 hl;exact⟨vr f hf' _ (QQ _ hl'),(tu f hf').2 l' hl'⟩
 rw[allE];refine List.pairwise_map.2 (List.Pairwise.imp_of_mem (fun{x y} hx hy hn e=>?_) p1);obtain⟨a,b⟩:=gne x hx y hy e;rw[QM a.symm,QM b.symm] at hn;cases hn
 rw[allE] at he hg;obtain⟨x,hx,rfl⟩:=Rj.1 he;obtain⟨y,hy,rfl⟩:=Rj.1 hg;have ns:∀{x y:Ed},gE pts y≠gE pts x->gE pts y≠((gE pts x).2,(gE pts x).1)->oV x y=false/\oV y x=false:=fun{x y} h1 h2=>by
  have key:∀{x y:Ed},gE pts y≠gE pts x->gE pts y≠((gE pts x).2,(gE pts x).1)->oV x y=false:=fun{x y} h1 h2=>by
   refine Bool.eq_false_iff.2 fun k=>?_;unfold oV at k;rw[RO,QJ,QJ] at k;rcases k with⟨a,b⟩|⟨a,b⟩
   exact h1 (by unfold gE; rw[of_decide_eq_true a,of_decide_eq_true b])
   exact h2 (by unfold gE; dsimp only; rw[of_decide_eq_true a,of_decide_eq_true b])
  refine⟨key h1 h2,key (Ne.symm h1) fun k=>h2 ?_⟩;rw[k]
 obtain⟨s1,s2⟩:=ns h1 h2;have hne:x≠y:=fun k=>h1 (by rw[k])
 have:gY pts y x=false\/gY pts x y=false:=by
  obtain⟨i,hi,rfl⟩:=Ri.1 hx;obtain⟨j,hj,rfl⟩:=Ri.1 hy;rcases Nat.lt_trichotomy i j with k|k|k
  exact .inl (List.pairwise_iff_getElem.1 p2 i j hi hj k)
  subst k; exact Q1 rfl hne
  exact .inr (List.pairwise_iff_getElem.1 p2 j i hj hi k)
 rcases this with k|k
 exact xE k s2
 exact(xE k s1).symm
 obtain⟨f,hf',rfl⟩:=Rj.1 hf;obtain⟨i,hi,ei⟩:=rof f hf';have hlen:(AF pts f).hs.length=f.2.length:=by unfold AF; exact Q0 _
 have hk':k<f.2.length:=by omega
 have hr:k+1<(aj F i).length:=by rw[ei]; simpa using hk'
 have hat:(aj F i)[k+1]=f.2[k]:=by simp[ei]
 have ring:∀j (hj:j<(AF pts f).hs.length),(AF pts f).hs[j]=cJ pts (f.2[j]'(by omega)) 1:=fun j hj=>List.getElem_map _
 rw[ring] at he;obtain⟨x,hx,rfl,x1,x2⟩:=uM hi hr (qO hv hi _ (Q5 hr)) (e:=e) (by rw[hat]; exact he)
 have:=p3 x hx;have ne:∀l∈f.1::f.2,l≠[]:=fun l hl=>qO hv hi l (by rw[ei]; exact hl)
 unfold uC at this;rw[x1,x2,QO (by omega),Rq,RE] at this
 have hF:F.getD ((i:Int)).toNat ([],[])=f:=by
  rw[Rb];unfold aj at ei;have a:=(List.cons.inj ei).1;have b:=(List.cons.inj ei).2;exact Rz a b
 rw[hF] at this;have e1:(((k+1:Nat):Int)-1).toNat=k:=by omega
 have e2:((k+1:Nat):Int).toNat=k+1:=by omega
 rw[e1,e2] at this;have this:He pts f.1 (f.2.take k++f.2.drop (k+1)) (uy pts x)=true:=by
  cases hc:He pts f.1 (f.2.take k++f.2.drop (k+1)) (uy pts x)
  rw[hc] at this; cases this
  rfl
 have:=(BN (ne _ Q7) (fun l hl=>ne l (QQ _ (by
  rcases Q3.1 hl with q|q
  exact R3 q
  exact R4 q))) x).1 this
 refine⟨this.1,fun j hj hjk=>?_⟩;rw[ring];refine this.2 _ (Q3.2 ?_);have hj':j<f.2.length:=by omega
 rcases Nat.lt_or_gt_of_ne hjk with q|q
 exact .inl (Ri.2 ⟨j,by rw[QX]; omega,by rw[List.getElem_take]⟩)
 exact .inr (Ri.2 ⟨j-(k+1),by rw[Rt]; omega,by rw[List.getElem_drop]; congr 1; omega⟩)
 rw[Q0] at hi hj;rw[List.getElem_map] at he hw;have ri:aj F i=F[i].1::F[i].2:=by
  unfold aj;rw[QN,QG hi]; rfl
 have rj:F.getD j ([],[])=F[j]:=by rw[QN,QG hj]; rfl
 rw[Az] at he;obtain⟨l,hl,hel⟩:=R0.1 he;rw[<-ri] at hl;obtain⟨r,hr,rfl⟩:=Ri.1 hl;obtain⟨x,hx,rfl,x1,x2⟩:=uM hi hr (qO hv hi _ hl) hel;have:=p4 x hx;unfold zz at this;rw[List.any_eq_false] at this;refine this j (RB.2 hj) ?_;unfold K4;rw[x1,QO (by omega),Rq,RE,rj]
 have rj':aj F j=F[j].1::F[j].2:=by unfold aj; rw[rj]
 have ne:∀l∈F[j].1::F[j].2,l≠[]:=fun l hl=>qO hv hj l (by rw[rj']; exact hl)
 refine(BN (ne _ Q7) (fun l hl=>ne l (QQ _ hl)) x).2 ⟨hw.1,fun l hl=>hw.2 _ ?_⟩;unfold AF;exact Rj.2 ⟨l,hl,rfl⟩
end
end
section
open Go Go.Ab Go.Ab.W
def IJ:F6 200000=some true:=by kernel_rfl
end
section
open Go Go.Ab Go.Ab.W Go.Ab.B Jd
noncomputable def qF (q:Nat->Bool) (k:Nat):Int:=match bL (fun i=>if q i then some (.inl (i:Int)) else none) (.inr ():Int⊕TP) k 0 with|.inl v=>v|.inr _=>-1
section
variable{pts:TO I2}{F:TO Fc}(n:Nat)
def Eh(h:NoF pts F)(hc:Dl n pts F=some 0){p:I2}(hp:Nr p)(hn:99999<n):J9 n pts F p.1 p.2=some (qF (toQ pts F p) F.length,0):=by
 have hv:=h.vf;have hfl:=hv.flen;have hw:Nw p:=Kb hp;unfold J9;rw[hc,ai,QM rfl,Rv,gw,FT,ai,aE (oW.2 hp)];have e1:bH (zn n F pts p.1 p.2) n 0=some (bL (fun i=>if toQ pts F p i then some (.inl (i:Int)) else none) (.inr ()) F.length 0):=by
  refine cQ (len:=F.length) (fun i hi=>?_) ?_ F.length 0 n (by omega) (by omega)
  ·obtain⟨ho,h8,hh⟩:=wv hv hi;unfold zn toQ
   try dsimp only
   rw[aF (by omega),aA hi,aY,bG (eJ hi),ai]
   try dsimp only
   rw[HG n hv.near ho hh h8 hw (by omega),ai]
   cases Ac pts (F.getD i ([],[])).1 (F.getD i ([],[])).2 p
   rw[gw,jw n hv (by omega),ai,FA n hv (fb hv i).1 (mn hv hi) hw (by omega),ai,Bool.false_or,aw (by omega)]
   rcases I3 (q:=BW pts (aj F i) p) (len:=(aj F i).length) with⟨j,g1,g2⟩|⟨g1,g2⟩
   rw[g1,g2];simp only[ai];rw[QM (by omega)]; rfl
   rw[g1,g2]; rfl
   rw[iz,ai,iz,Sv]; rfl
  ·unfold zn
   try dsimp only
   rw[aE (by omega)]
 rw[e1,ai];unfold qF;cases bL (fun i=>if toQ pts F p i then some (.inl (i:Int)) else none) (.inr ():Int⊕TP) F.length 0<;>rfl
def LK(h:NoF pts F)(hc:Dl n pts F=some 0){i j:Nat}(hi:i<F.length)(hj:j<(aj F i).length)(hn:99999<n):NQ n pts F (i:Int) ((j:Int)-1)=some (cJ pts ((aj F i).getD j []) 1,0):=by
 have hv:=h.vf;have h9:=(fb hv i).1;have hl:=(mn hv hi _ (Q5 hj)).1;obtain⟨hx,g3,g4⟩:=fT rfl hl;have hat:(aj F i)[(((j:Nat):Int)).toNat]? = some (aj F i)[j]:=bG (QG hj);have hj2:j<(F.getD i ([],[])).2.length+1:=by unfold aj at hj; rw[Rl] at hj; exact hj
 unfold NQ;rw[hc,ai,QM rfl,Rv,gw,aE (by omega),aE (by omega),aE (by omega),aA hi,aY,bG (eJ hi),ai]
 try dsimp only
 rw[QO (by omega),ai,gw,aY,ai]
 try dsimp only
 rw[jw n hv (by omega),ai,show S6 ((j:Int)-1+1)=(j:Int) from by rw[aC (by omega) (by omega)]; omega,aA hj,aY,hat,ai,ml n hv.near hx (.inl rfl) (by omega) (by omega),ai]
 rw[QN,QG hj]; rfl
def Kl(h:NoF pts F){i j:Nat}(hi:i<F.length)(hj:j<(aj F i).length){p:I2}(hp:Nr p)(hn:99999<n):MF n (cJ pts ((aj F i).getD j []) 1) p.1 p.2=some (side (cJ pts ((aj F i).getD j []) 1) p,0):=by
 have hv:=h.vf;have eg:(aj F i).getD j []=(aj F i)[j]:=by rw[QN,QG hj]; rfl
 rw[eg];obtain⟨h1,h2⟩:=mn hv hi _ (Q5 hj);obtain⟨hx,g3,g4⟩:=fT rfl h1;have h64:OP (cJ pts (aj F i)[j] 1):=fun q hq=>by
  obtain⟨k,hk,rfl⟩:=Ri.1 hq;have:=wo hv.near hx g3 k;unfold nx at this;rw[R9 hk,QN,QG hk] at this;unfold Nr at this;unfold lD;simp only[Option.getD_some] at this;omega
 unfold Nr at hp;rw[KU n h64 (p:=p) (by unfold lD; omega) (by rw[dM]; omega) (by omega),QH h2,QF (oW.2 (by unfold Nr; exact hp))]
noncomputable def Hq (pts:TO I2) (rs:SR) (p:I2) (j:Nat):Bool:=(List.range j).all fun r=>if r=0 then decide (side (cJ pts (rs.getD r []) 1) p=2) else decide (side (cJ pts (rs.getD r []) 1) p=0)
def IG(o:TO Int)(hs:SR)(p:I2):Hq pts (o::hs) p (o::hs).length=Ac pts o hs p:=by
 unfold Hq Ac;rw[Rl,List.range_succ_eq_map,Sk,List.all_map]
 congr 1
 have:hs=(List.range hs.length).map fun i=>hs.getD i []:=by
  apply List.ext_getElem
  simp
  intro i h1 h2; simp[h1]
 conv=>rhs; rw[this]
 rw[List.all_map]
 congr 1
def JC(h:NoF pts F)(hc:Dl n pts F=some 0){i:Nat}(hi:i<F.length){p:I2}(hp:Nr p)(hn:99999<n) :
  bH (CP n (i:Int) F pts p.1 p.2) n (true,false,-1)=some (.inr (Ac pts (F.getD i ([],[])).1 (F.getD i ([],[])).2 p,(List.range (aj F i).length).any (BW pts (aj F i) p))):=by
 have hv:=h.vf;have h4:=(fb hv i).1;have hlen:(aj F i).length=(F.getD i ([],[])).2.length+1:=rfl;have key:=fI (B:=CP n (i:Int) F pts p.1 p.2) (len:=(aj F i).length) (fun j (s:Bool×Bool)=>(s.1,s.2,(j:Int)-1)) (fun j s=>s=(Hq pts (aj F i) p j,(List.range j).any (BW pts (aj F i) p))) (fun r=>r=.inr (Hq pts (aj F i) p (aj F i).length,(List.range (aj F i).length).any (BW pts (aj F i) p))) (fun j s hj hs=>.inl ?_) (fun s hs=>⟨_,?_,rfl⟩) (aj F i).length 0 (true,false) n (by omega) (by omega) rfl
 obtain⟨r,h2,h0⟩:=key;have e:Ac pts (F.getD i ([],[])).1 (F.getD i ([],[])).2 p=Hq pts (aj F i) p (aj F i).length:=(IG _ _ p).symm;rw[e,<-h0];exact h2
 ·refine⟨(Hq pts (aj F i) p (j+1),(List.range (j+1)).any (BW pts (aj F i) p)),?_,rfl⟩;have e0:Hq pts (aj F i) p (j+1)=(Hq pts (aj F i) p j &&(if j=0 then decide (side (cJ pts ((aj F i).getD j []) 1) p=2) else decide (side (cJ pts ((aj F i).getD j []) 1) p=0))):=by
   unfold Hq;rw[List.range_succ,SK];simp
  have e2:(List.range (j+1)).any (BW pts (aj F i) p)=((List.range j).any (BW pts (aj F i) p)||decide (side (cJ pts ((aj F i).getD j []) 1) p=1)):=by
   rw[List.range_succ,List.any_append];simp[BW]
  unfold CP
  try dsimp only
  rw[aA hi,aY,bG (eJ hi),ai]
  try dsimp only
  rw[aF (by omega),LK n h hc hi hj hn,ai]
  try dsimp only
  rw[Kl n h hi hj hp hn,ai]
  try dsimp only
  rw[QM rfl,Rv,gw,ai,gw,e0,e2,hs]
  try dsimp only
  generalize Hq pts (aj F i) p j=A;generalize(List.range j).any (BW pts (aj F i) p)=B;generalize side (cJ pts ((aj F i).getD j []) 1) p=s;have hB:ob (br B (some true) (some (decide (s=1)))) (fun v0=>br A (br (decide ((j:Int)-1<0)) (br (decide (s=2)) (some (.inr (true,v0))) (br (decide (0<=(j:Int)-1)) (some (.inr (decide (s=0),v0))) (some (.inr (false,v0))))) (br (decide (0<=(j:Int)-1)) (some (.inr (decide (s=0),v0))) (some (.inr (false,v0))))) (some (.inr (false,v0))))=some (.inr (A &&(if j=0 then decide (s=2) else decide (s=0)),B||decide (s=1)):TP ⊕(Bool×Bool)):=by
   have h3:br B (some true) (some (decide (s=1)))=some (B||decide (s=1)):=by cases B<;>rfl
   rw[h3,ai];cases A
   rfl
   rw[iz,RE]
   by_cases h1:j=0
   rw[QH h1,aF (by omega)]
   by_cases h0:s=2
   rw[aF h0,QM h0]
   rw[aE h0,aE (by omega),QO h0]
   rw[QF h1,aE (by omega),aF (by omega)]
  rw[hB,ai]
  try dsimp only
  rw[aC (by omega) (by omega),show(j:Int)-1+1=((j+1:Nat):Int)-1 by omega]
 ·unfold CP
  try dsimp only
  rw[aA hi,aY,bG (eJ hi),ai]
  try dsimp only
  rw[aE (by omega),hs]
def JS(q:Nat->Bool)(k:Nat)(v:Int):Prop:=(v = -1/\∀i,i<k->q i=false)\/∃j:Nat,j<k/\v=(j:Int)/\q j=true/\∀i,i<j->q i=false
def rq(q:Nat->Bool):∀k i,(bL (fun i=>if q i then some (.inl (i:Int)) else none) (.inr ():Int⊕TP) k i=.inr ()/\∀j,i<=j->j<i+k->q j=false) \/
  ∃j:Nat,i<=j/\j<i+k/\bL (fun i=>if q i then some (.inl (i:Int)) else none) (.inr ():Int⊕TP) k i=.inl (j:Int)/\q j=true/\∀m,i<=m->m<j->q m=false
 | 0,i=>.inl ⟨rfl,fun j h1 h2=>by omega⟩
 | k+1,i=>by
  unfold bL;cases hq:q i
  rw[QF (by decide)]
  dsimp only
  rcases rq q k (i+1) with⟨h1,h2⟩|⟨j,h1,h2,h3,h4,h5⟩
  refine .inl ⟨h1,fun j a b=>?_⟩
  by_cases c:j=i
  rw[c,hq]
  exact h2 j (by omega) (by omega)
  refine .inr ⟨j,by omega,by omega,h3,h4,fun m a b=>?_⟩
  by_cases c:m=i
  rw[c,hq]
  exact h5 m (by omega) b
  rw[QH rfl];exact .inr ⟨i,by omega,by omega,rfl,hq,fun m a b=>by omega⟩
def GB(q:Nat->Bool)(k:Nat):JS q k (qF q k):=by
 unfold qF;rcases rq q k 0 with⟨h1,h2⟩|⟨j,h1,h2,h3,h4,h5⟩
 rw[h1];exact .inl ⟨rfl,fun i hi=>h2 i (by omega) (by omega)⟩
 rw[h3];exact .inr ⟨j,by omega,rfl,h4,fun i hi=>h5 i (by omega) hi⟩
def JS.uniq{q:Nat->Bool}{k:Nat}{v w:Int}(h:JS q k v)(g:JS q k w):v=w:=by
 rcases h with⟨rfl,h⟩|⟨i,i1,rfl,i2,i3⟩<;>rcases g with⟨rfl,g⟩|⟨j,j1,rfl,j2,j3⟩
 rfl
 rw[h j j1] at j2; cases j2
 rw[g i i1] at i2; cases i2
 rcases Nat.lt_trichotomy i j with k|k|k
 rw[j3 i k] at i2; cases i2
 rw[k]
 rw[i3 j k] at j2; cases j2
def JS.step{q:Nat->Bool}{k:Nat}{v:Int}(h:JS q k v):JS q (k+1) (if q k&&decide (v<0) then(k:Int) else v):=by
 cases hq:q k
 rw[Bool.false_and,QF (by decide)]
 rcases h with⟨rfl,h⟩|⟨i,i1,rfl,i2,i3⟩
 refine .inl ⟨rfl,fun i hi=>?_⟩
 by_cases c:i=k
 rw[c,hq]
 exact h i (by omega)
 exact .inr ⟨i,by omega,rfl,i2,i3⟩
 rw[RE];rcases h with⟨rfl,h⟩|⟨i,i1,rfl,i2,i3⟩
 rw[QH (by decide)]
 exact .inr ⟨k,by omega,rfl,hq,h⟩
 rw[QF (by simp)]
 exact .inr ⟨i,by omega,rfl,i2,i3⟩
noncomputable def DW (pts:TO I2) (F:TO Fc) (p:I2):Nat->Nat
 | 0=>0
 | k+1=>DW pts F p k+if Ac pts (F.getD k ([],[])).1 (F.getD k ([],[])).2 p then 1 else 0
def zk{i:Nat}(h:NoF pts F)(hi:i<F.length){p:I2}(hg:Ac pts (F.getD i ([],[])).1 (F.getD i ([],[])).2 p=true):(AF pts F[i]).has p:=by
 have e:F.getD i ([],[])=F[i]:=by rw[QN,QG hi]; rfl
 rw[e] at hg;unfold Ac at hg;rw[QJ,QR,QS] at hg;obtain⟨h1,h2⟩:=hg;have sd:∀(l:TO I2),(side l p=2->(∀i,i<l.length->¬cz (nx l i) (nx l (i+1)) p)/\dh l p≠0)/\(side l p=0->(∀i,i<l.length->¬cz (nx l i) (nx l (i+1)) p)/\dh l p=0):=fun l=>by
  unfold side
  by_cases c:∃i,i<l.length/\cz (nx l i) (nx l (i+1)) p
  rw[QH c]; exact⟨fun k=>Q1 k (by decide),fun k=>Q1 k (by decide)⟩
  rw[QF c];have hn:∀i,i<l.length->¬cz (nx l i) (nx l (i+1)) p:=fun i hi hb=>c ⟨i,hi,hb⟩
  by_cases w:dh l p=0
  rw[QH w]; exact⟨fun k=>Q1 k (by decide),fun _=>⟨hn,w⟩⟩
  rw[QF w]; exact⟨fun _=>⟨hn,w⟩,fun k=>Q1 k (by decide)⟩
 refine⟨fun e he=>?_,((sd _).1 h1).2,fun l hl=>?_⟩
 rw[Az] at he;obtain⟨l,hl,hel⟩:=R0.1 he;obtain⟨k,hk,rfl⟩:=Rj.1 hel;rcases QY.1 hl with rfl|hl
 exact((sd _).1 h1).1 k (RB.1 hk)
 exact((sd _).2 (of_decide_eq_true (h2 l hl))).1 k (RB.1 hk)
 unfold AF at hl;obtain⟨l',hl',rfl⟩:=Rj.1 hl;exact((sd _).2 (of_decide_eq_true (h2 l' hl'))).2
def vR(h:NoF pts F)(p:I2):∀k,k<=F.length->DW pts F p k<=1/\(DW pts F p k=1->∃i,i<k/\Ac pts (F.getD i ([],[])).1 (F.getD i ([],[])).2 p=true)
 | 0,_=>⟨RF 1,fun h=>by cases h⟩
 | k+1,hk=>by
  obtain⟨h1,h2⟩:=vR h p k (by omega)
  rw[DW];cases hg:Ac pts (F.getD k ([],[])).1 (F.getD k ([],[])).2 p
  rw[QF (by decide)]
  refine⟨by omega,fun e=>?_⟩
  obtain⟨i,hi,g⟩:=h2 (by omega)
  exact⟨i,by omega,g⟩
  rw[QH rfl];have:DW pts F p k≠1:=fun e=>by
   obtain⟨i,hi,g⟩:=h2 e;have a:=zk h (i:=i) (by omega) g
   have b:=zk h (i:=k) (by omega) hg
   have hl:(F.map (AF pts)).length=F.length:=Q0 _;refine h.cx.LG (i:=i) (j:=k) (by omega) (by omega) (by omega) (p:=p) ?_ ?_
   rw[List.getElem_map]; exact a
   rw[List.getElem_map]; exact b
  exact⟨by omega,fun _=>⟨k,by omega,hg⟩⟩
def I4(h:NoF pts F)(hc:Dl n pts F=some 0){p:I2}(hp:Nr p)(hn:99999<n) :
  bH (CY n F pts p.1 p.2) n (0,-1,0)=some (.inr ((DW pts F p F.length:Int),qF (toQ pts F p) F.length)):=by
 have hfl:=h.vf.flen;have key:=fI (B:=CY n F pts p.1 p.2) (len:=F.length) (fun i (s:Int×Int)=>(s.1,s.2,(i:Int))) (fun i s=>s.1=(DW pts F p i:Int)/\JS (toQ pts F p) i s.2) (fun r=>r=.inr ((DW pts F p F.length:Int),qF (toQ pts F p) F.length)) (fun i s hi hs=>.inl ?_) (fun s hs=>⟨_,?_,rfl⟩) F.length 0 (0,-1) n (by omega) (by omega) ⟨rfl,.inl ⟨rfl,fun i hi=>by omega⟩⟩
 obtain⟨r,h2,h3⟩:=key;rw[<-h3]; exact h2
 ·obtain⟨c,v⟩:=s;obtain⟨h0,h1⟩:=hs
  dsimp only at h0 h1
  have h4:=(vR h p i (by omega)).1
  have hst:=h1.step;refine⟨((DW pts F p (i+1):Nat),if toQ pts F p i&&decide (v<0) then(i:Int) else v),?_,rfl,hst⟩
  have et:toQ pts F p i=(Ac pts (F.getD i ([],[])).1 (F.getD i ([],[])).2 p ||(List.range (aj F i).length).any (BW pts (aj F i) p)):=rfl;unfold CY
  try dsimp only
  rw[aF (by omega),JC n h hc hi hp hn,ai]
  try dsimp only
  rw[DW,et];generalize Ac pts (F.getD i ([],[])).1 (F.getD i ([],[])).2 p=A;generalize(List.range (aj F i).length).any (BW pts (aj F i) p)=B;have w1:S6 (c+1)=c+1:=aC (by omega) (by omega)
  have e0:ob (br A (some (S6 (c+1))) (some c)) (fun v0=>ob (br A (some (decide (v<0))) (br B (some (decide (v<0))) (some false))) fun v1=>br v1 (some (.inr (v0,(i:Int)))) (some (.inr (v0,v))))=some (.inr (((DW pts F p i+if A=true then 1 else 0:Nat):Int),if(A||B)&&decide (v<0) then(i:Int) else v):TP ⊕(Int×Int)):=by
   rw[w1,h0];cases A<;>cases B
   rfl
   by_cases c:v<0
   simp only[QM c]; rfl
   simp only[QO c]; rfl
   by_cases c:v<0
   simp only[QM c]; rfl
   simp only[QO c]; rfl
   by_cases c:v<0
   simp only[QM c]; rfl
   simp only[QO c]; rfl
  rw[e0,ai]
  try dsimp only
  rw[aw (by omega)]
 ·obtain⟨c,v⟩:=s;obtain⟨h0,h1⟩:=hs
  dsimp only at h0 h1
  unfold CY
  try dsimp only
  rw[aE (by omega),h0,h1.uniq (GB _ _)]
end
def IP(n:Nat)(x1 x2:Nat)(l3 l7:TO Nat)(x11:Bool)(x12 x13 x14:Nat)(x15 x16 x17:Int)(x18 x19 x20:Nat)(x21 x22 x23:Int)(x24 x25:Nat)(h13:x13<256)(h14:x14<256)(h19:x19<256)(h20:x20<256)(hn:99999<n)(hw:F6 n=some true) :
  F5 n x1 x2 l3 l7 x11 x12 x13 x14 x15 x16 x17 x18 x19 x20 x21 x22 x23 x24 x25=some true:=by
 unfold F5;obtain⟨c,d,e,h7,_,_,_,_⟩:=N8 n x1 x2 l3 l7 x11 x12 x13 x14 x15 x16 x17 x18 x19 x20 x21 x22 x23 h13 h14 h19 h20 (by omega)
 rw[hw,ai,Rv,gw,h7,ai]
 try dsimp only
 have hm1:x24%24<24:=Ru _ (by decide)
 have hm2:x25%20<20:=Ru _ (by decide)
 rw[aC (x:=((x24%24:Nat):Int)) (by omega) (by omega),aC (x:=((x25%20:Nat):Int)) (by omega) (by omega),aC (by omega) (by omega),aC (by omega) (by omega)]
 obtain⟨p,hp,hpe⟩:∃p:I2,Nr p/\p=(((x24%24:Nat):Int)-1,((x25%20:Nat):Int)-1):=⟨_,by unfold Nr; dsimp only; omega,rfl⟩
 have hO:bH (Cw n c.1 c.2 d.1 d.2 e.1 e.2) n (p.1,p.2,0)=some (.inr ()):=by
  have key:=fI (B:=Cw n c.1 c.2 d.1 d.2 e.1 e.2) (len:=3) (fun i (_:TP)=>(p.1,p.2,(i:Int))) (fun _ _=>True) (fun r=>r=.inr ()) (fun i s hi hs=>.inl ⟨(),?_,trivial⟩) (fun s hs=>⟨_,?_,rfl⟩) 3 0 () n (by omega) (by omega) trivial
  obtain⟨r,h1,h2⟩:=key;rw[<-h2]; exact h1
  ·have hi':i < [(c.1,c.2),(d.1,d.2),(e.1,e.2)].length:=hi;have hx:=QG hi';generalize [(c.1,c.2),(d.1,d.2),(e.1,e.2)][i]=x at hx;obtain⟨q,G⟩:=x;obtain⟨r,a1,a3⟩:=Ju n q G hn;unfold Cw
   try dsimp only
   rw[aF (by omega),aA hi,aY,bG hx,ai]
   try dsimp only
   by_cases hr:r=0
   ·have h:=a3 hr;rw[hr] at a1;rw[Eh n h a1 hp hn,ai]
    try dsimp only
    rw[QM rfl,Rv,gw,I4 n h a1 hp hn,ai]
    try dsimp only
    have:=(vR h p G.length (QK _)).1;rw[aE (by omega),QM rfl,Rv,ai,gw,ai]
    try dsimp only
    rw[aw (by omega)]
   ·have:J9 n q G p.1 p.2=some (0,r):=by
     unfold J9;rw[a1,ai,QO hr,Rq,iz]
    rw[this,ai]
    try dsimp only
    rw[QO hr,Rq,iz,ai]
    try dsimp only
    rw[aw (by omega)]
  ·unfold Cw
   try dsimp only
   rw[aE (by omega)]
 rw[hpe] at hO;rw[hO,ai]
end
end Go.Proofs.Ytmndpgfbkicndaa
