/- A part of the proof. -/
import Derived.Test.YtmndpgfbkicndaaCe2
import Derived.ChangeStays
import Derived.ChangeShapes
import Derived.OpenShut
import Derived.RowKit
import Derived.Maps.RangeRun
import Derived.Test.YtmndpgfbkicndaaRows
import Derived.ProofKit
import Derived.Stop.Joined
set_option linter.all false
section
namespace Go.Ab.W
open Go Go.Ab
def ob{α β:Type}(o:YA α)(f:α->YA β):YA β :=
 match o with
 | some x=>f x
 | none=>none
def gd{β:Type}(b:Bool)(k:YA β):YA β :=
 match b with
 | true=>k
 | false=>none
def br{β:Type}(b:Bool)(k l:YA β):YA β :=
 match b with
 | true=>k
 | false=>l
section
variable{α β:Type}
def J{o:YA α}{f:α->YA β}{r:β}(h:ob o f=some r):∃x,o=some x/\f x=some r:=by
 cases o with
 | none=>cases h
 | some x=>exact⟨x,rfl,h⟩
def aD{b:Bool}{k:YA β}{r:β}(h:gd b k=some r):b=true/\k=some r:=by
 cases b with
 | false=>cases h
 | true=>exact⟨rfl,h⟩
def aa{b:Bool}{k l:YA β}{r:β}(h:br b k l=some r):(b=true/\k=some r)\/(b=false/\l=some r):=by
 cases b with
 | false=>exact .inr ⟨rfl,h⟩
 | true=>exact .inl ⟨rfl,h⟩
def cM(i:Int)(n:Nat):Bool:=decide (0<=i/\i.toNat<n)
def qS{i:Int}{n:Nat}(h:cM i n=true):0<=i/\i.toNat<n:=of_decide_eq_true h
def kV{f:α->β}{xs:YB α}{i:Nat}{x:α}(h:xs[i]? = some x):(xs.map f)[i]? = some (f x):=by
 rw[VQ,h]; rfl
def aW{i:Int}{n:Nat}(h:0<=i/\i.toNat<n):0<n:=by omega
def okB(lo hi:Int)(n:Nat):Bool:=decide (0<=lo/\lo<=hi/\hi<=(n:Int))
def vC{lo hi:Int}{n:Nat}(h:okB lo hi n=true):0<=lo/\lo<=hi/\hi<=(n:Int):=of_decide_eq_true h
end
def eI(k:IntKind)(x:Int):YB XI:=[.int k x]
def eN(k:IntKind)(x:Nat):YB XI:=[.int k (x:Int)]
def eP{α β:Type}(f:α->YB XI)(g:β->YB XI)(p:α×β):YB XI:=f p.1++g p.2
structure Enc{α:Type}(f:α->YB XI)(w:Nat):Prop where
 len:∀x,(f x).length=w
 one:∀x,(f x).all mh=true
def uV(k:IntKind):Enc (eI k) 1:=⟨fun _=>rfl,fun _=>rfl⟩
def Ui(k:IntKind):Enc (eN k) 1:=⟨fun _=>rfl,fun _=>rfl⟩
def Gs{α β:Type}{f:α->YB XI}{g:β->YB XI}{w v:Nat}(h:Enc f w)(h':Enc g v):Enc (eP f g) (w+v) :=
 ⟨fun x=>by simp[eP,h.len,h'.len],fun x=>by simp only[eP,List.all_append,h.one,h'.one,Wy]⟩
def Enc.uc{α:Type}{f:α->YB XI}{w:Nat}(h:Enc f w)(xs:YB α):∀e∈xs.map f,e.length=w:=fun e he=>by
 obtain⟨x,_,rfl⟩:=Vi.1 he; exact h.len x
def Enc.db{α:Type}{f:α->YB XI}{w:Nat}(h:Enc f w)(xs:YB α):W.db (xs.map f):=Dj h.one xs
def Ld{α:Type}{f:α->YB XI}{xs:YB α}{i:Nat}{x:α}:(xs.map f).set i (f x)=(xs.set i x).map f:=(List.map_set).symm
def MC{α:Type}{f:α->YB XI}{xs:YB α}{i k:Nat}:((xs.map f).drop i).take k=((xs.drop i).take k).map f:=by rw[<-List.map_drop,<-List.map_take]
def LJ{α:Type}{f:α->YB XI}{n:Nat}{x:α}:List.replicate n (f x)=(List.replicate n x).map f:=by simp
def mi{α:Type}[LT α][DecidableRel (α:=α) (· < ·)](a b:α):α:=if b<a then b else a
def ma{α:Type}[LT α][DecidableRel (α:=α) (· < ·)](a b:α):α:=if a<b then b else a
section
variable{k kd:IntKind}{ty:XJ}{P:XL}
def qj(a b:Nat)(hb:0<b):bW .rem ty P (.int k (a:Int)) (.int k (b:Int))=some (.int k ((a%b:Nat):Int)):=by
 rw[D0 _ _ _ (by omega),Int.tmod_eq_emod_of_nonneg (Int.natCast_nonneg _),<-Int.natCast_emod]
def Kh(a b:Nat):bW .eql ty P (.int k (a:Int)) (.int k (b:Int))=some (.bool (decide (a=b))):=by rw[jv]; congr 2; exact decide_eq_decide.2 Int.ofNat_inj
def CZ(a b:Int):bW .neq ty P (.int k a) (.int k b)=some (.bool (!decide (a=b))):=by
 rw[Ls]; congr 2; by_cases h:a=b<;>simp[h]
def cu(a b:Int)(h:decide (b≠0)=true):bW .rem ty P (.int k a) (.int k b)=some (.int k (a.tmod b)):=D0 k a b (of_decide_eq_true h)
def NG(a:Int):Gq .neg (.int k a)=some (.int k (k.wrap (0-a))):=rfl
def lV{s d:XJ}{x:Int}(hs:(P.underlying s).isSome=true)(hd:P.underlying d=some (.int k)):lj P s d (.int kd x)=some (.int k (k.wrap x)):=by
 cases h:P.underlying s with
 | none=>rw[h] at hs; cases hs
 | some u=>simp only[lj,h,hd]
def nk(a b:Int){ts:YD XJ}(m:Yq):bg P .min ts [.int k a,.int k b] m=some (.int k (mi a b),m):=rfl
def Al(a b:Int){ts:YD XJ}(m:Yq):bg P .max ts [.int k a,.int k b] m=some (.int k (ma a b),m):=rfl
def Nb{a b:Bool}(hu:P.underlying ty=some .bool):bW .eql ty P (.bool a) (.bool b)=some (.bool (a==b)):=by
 simp only[bW,Op.maxDepth,k8,hu,Vx]
end
def fg{c:Bool}(h:c=true):(c==true)=true:=by rw[h]; rfl
def tD{c:Bool}(h:c=false):(c==false)=true:=by rw[h]; rfl
def E9{c:Bool}(h:c=true):(c==false)=false:=by rw[h]; rfl
def zn{c:Bool}(h:c=false):(c==true)=false:=by rw[h]; rfl
section
variable{E:Env}{n:Nat}{m0:Yq}{fs:Fs}{ps:YB Pc}{x y:XK}{v:XI}{ty:XJ}
def Ar{c:XK}{b:Bool}(hc:ev E fs c=some (.bool b))(hb:b=true)(h:ev E fs x=some v):Od E m0 fs ps (.pick c x y) v ps:=Iw (by rw[hc,hb]) h
def Cb{c:XK}{b:Bool}(hc:ev E fs c=some (.bool b))(hb:b=false)(h:ev E fs y=some v):Od E m0 fs ps (.pick c x y) v ps:=SA (by rw[hc,hb]) h
def vy{α:Type}{f:α->YB XI}{elem ty2:XJ}{w k k2 c0 l l1:Nat}{a a0:XG}{xs ys:YB α}{ars:YD XK}{p0:Pc}(he:Enc f w)(ht:SlT E.P ty elem w)(h3:∃e2,E.P.underlying ty2=some (.slice e2))(ha:ia E fs ars.toList=some [.slice a l l,.slice a0 l1 c0])(hp:pk ps k=some (.sl a w l (xs.map f)))(h1:pk ps k2=some p0)(hr:IsRd p0 a0 c0 w l1 (ys.map f))(hl:lim (xs++ys).length=true) :
  Ox E m0 fs ps (.call ⟨.builtin .append,ars,#[ty,ty2]⟩) (fun a':XG=>.slice a' (xs++ys).length (xs++ys).length) (fun a'=>bJ ps k (.sl a' w (xs++ys).length ((xs++ys).map f))):=by
 intro t m hf hm;have h0:l=xs.length:=by
  have:=hm.get hp;rcases this with⟨h4,h0,_⟩|⟨b,tg,_,h0⟩
  rw[h4,W5.1 h0]; rfl
  have:=h0.2.2.2.1; rw[Vf] at this; exact this.symm
 have h2:l1=ys.length:=by
  have:=(hm.rd h1 hr).1; rw[Vf] at this; exact this.symm
 have:=MA (m0:=m0) ht h3 ha hp h1 hr (he.uc ys) (he.db ys) (by rw[h0,h2,<-Vd]; exact hl) t m hf hm
 have e0:xs.map f++ys.map f=(xs++ys).map f:=W6.symm;have e2:l+l1=(xs++ys).length:=by rw[h0,h2,Vd]
 rw[e0,e2] at this;exact this
def Ca{α:Type}{f:α->YB XI}{elem:XJ}{k cap w l:Nat}{lo hi:Int}{a:XG}{xs:YB α}{lx hx:YA XK}{lv hv:YA XI}(ht:SlT E.P ty elem w)(hv':ev E fs x=some (.slice a l cap))(e1:jJ E fs lx=some lv)(e2:jJ E fs hx=some hv)(hp:pk ps k=some (.rd a cap w l (xs.map f)))(hb:okB lo hi l=true)(hl:lv=none/\lo=0\/∃k,lv=some (.int k lo))(hh:hv=none/\hi=(l:Int)\/∃k,hv=some (.int k hi)) :
  Ox E m0 fs ps (.slice ty x lx hx none) (fun r:XG×Nat=>.slice r.1 ((xs.drop lo.toNat).take (hi.toNat-lo.toNat)).length r.2) (fun r=>.rd r.1 r.2 w ((xs.drop lo.toNat).take (hi.toNat-lo.toNat)).length (((xs.drop lo.toNat).take (hi.toNat-lo.toNat)).map f)::ps):=by
 intro t m hf hm;obtain⟨b1,b2,b3⟩:=vC hb;have h1:xs.length=l:=by have:=(hm.get hp).1; rw[Vf] at this; exact this
 have elo:((lo.toNat:Nat):Int)=lo:=Ws b1;have ehi:((hi.toNat:Nat):Int)=hi:=Ws (by omega)
 have hlen:((xs.drop lo.toNat).take (hi.toNat-lo.toNat)).length=hi.toNat-lo.toNat:=by rw[Vw,VZ,h1]; omega
 have:=QO (m0:=m0) (lo:=lo.toNat) (hi:=hi.toNat) ht hv' e1 e2 hp (by omega) (by omega) (by
  rcases hl with⟨h,h'⟩|⟨k,h⟩
  exact .inl ⟨h,by omega⟩
  exact .inr ⟨k,by rw[elo]; exact h⟩) (by
  rcases hh with⟨h,h'⟩|⟨k,h⟩
  exact .inl ⟨h,by omega⟩
  exact .inr ⟨k,by rw[ehi]; exact h⟩) t m hf hm
 rw[MC] at this;rw[hlen];exact this
def tw{α:Type}{f:α->YB XI}{ag:Bool}{sz b w l j c k:Nat}{xs:YB α}{x1 x2:α}{tg:Tag}(ht:TyI E.P ty ag sz)(hx:ev E fs x=some (ptr b (j*w+c)))(hy:ev E fs y=some v)(hp:pk ps k=some (.arr b w l (xs.map f) tg))(he:xs[j]? = some x1)(hv:LY (f x1) c v sz=some (f x2)):Od E m0 fs ps (.store ty x y) undef (bJ ps k (.arr b w l ((xs.set j x2).map f) tg)):=by
 have:=pV (m0:=m0) ht hx hy hp (kV he) hv;rwa[Ld] at this
end
def Lr:Tag->Bool
 | .more _=>false
 | _=>true
def sn{fs:Fs}:sub fs []:=trivial
def sc{fs l:Fs}{i:Nat}{v:XI}(h:lk fs i=some v)(k:sub fs l):sub fs ((i,v)::l):=⟨h,k⟩
def cI{k:IntKind}{e y:Int}(h:some e=some y):some (Value.int k e)=some (.int k y):=by rw[U9 h]
def U1{k:IntKind}{e y:Int}{m:Yq}(h:some e=some y):some (Value.int k e,m)=some (.int k y,m):=by rw[U9 h]
section
variable{P:XL}{ty el:XJ}{w len:Nat}
def Rg(h:ArT P ty el len w){b o i:Nat}{kd:IntKind}(hi:i<len):cq P ty (ptr b o) (.int kd (i:Int))=some (ptr b (o+i*w)):=Pw h.und h.known h.size hi
def qt{cs:YD XI}{off sz:Nat}{v:XI}(h:TyI P ty true sz)(hv:(Value.agg (cs.extract off (off+sz)))=v):dA P ty cs off=some v:=by
 simp only[dA,h.known,h.agg,h.size,V4,VG,if_false,if_true,hv]
def CF{cs:YD XI}{off sz:Nat}{v:XI}(h:TyI P ty false sz)(hv:cs[off]? = some v):dA P ty cs off=some v:=by
 simp only[dA,h.known,h.agg,V4,VG,if_false,hv]
def zi(h:ArT P ty el len w){cs:YD XI}{i:Nat}{kd:IntKind}{v:XI}(hi:i<len)(hp:dA P el cs (i*w)=some v):iB P ty (.agg cs) (.int kd (i:Int))=some v:=by
 simp only[iB,h.und,h.size,VH];rw[U5 ⟨by omega,by omega⟩]; exact hp
structure BdT(P:XL)(ty:XJ)(z:XI)(offs:YB (Nat×Nat)):Prop where
 bd:∀parts,(parts.all fun p=>Nat.blt p.1 offs.length)=true->nw P ty parts=(jZ (fun i=>offs[i]?) z.cells.toList parts).map fun cs=>.agg cs.toArray
def UN(P:XL)(ty:XJ)(z:XI)(offs:YB (Nat×Nat)):Prop :=
 bp P ty=some z/\match P.underlying ty with
  | some (.struct fields)=>fields.toList.all (fun f=>known P f.type)=true/\fields.toList.map (fun f=>(f.offset,aE P f.type))=offs
  | some (.array n elem)=>known P elem=true/\(List.range n).map (fun i=>(i*aE P elem,aE P elem))=offs
  | _=>False
def ot{p q:Nat->YA (Nat×Nat)}{n:Nat}(h:∀i,i<n->p i=q i):∀(parts:YB (Nat×XI)) (cs:YB XI),(parts.all fun p=>Nat.blt p.1 n)=true->jZ p cs parts=jZ q cs parts
 | [],_,_=>rfl
 |(i,v)::rest,cs,hp=>by
  rw[W0,Va] at hp;have hi:i<n:=by have:=hp.1; rwa[Xn] at this
  simp only[jZ,h i hi];cases q i with
  | none=>rfl
  | some r=>simp only[]; split; rfl; exact ot h rest _ hp.2
def BdT.of{z:XI}{offs:YB (Nat×Nat)}(h:UN P ty z offs):BdT P ty z offs:=⟨fun parts hp=>by
 obtain⟨hz,h⟩:=h;unfold nw;rw[hz];cases hu:P.underlying ty with
 | none=>rw[hu] at h; exact h.elim
 | some u =>
  rw[hu] at h;cases u with
  | struct fields =>
   simp only at h ⊢;rw[U5 h.1]
   congr 1
   refine ot (n:=offs.length) (fun i hi=>?_) parts _ hp;rw[<-h.2,VQ]; simp
  | array n elem =>
   simp only at h ⊢;rw[U5 h.1]
   congr 1
   refine ot (n:=offs.length) (fun i hi=>?_) parts _ hp;have hl:offs.length=n:=by rw[<-h.2]; simp
   rw[<-h.2,VQ,List.getElem?_range (by omega)]; rfl
  | _=>exact h.elim⟩
def Uk(P:XL)(ty:XJ)(offs:YB (Nat×Nat)):Bool :=
 match P.underlying ty with
 | some (.struct fields)=>fields.toList.all (fun f=>known P f.type)&&decide (fields.toList.map (fun f=>(f.offset,aE P f.type))=offs)
 | some (.array n elem)=>known P elem&&decide ((List.range n).map (fun i=>(i*aE P elem,aE P elem))=offs)
 | _=>false
def BdT.mk'{z:XI}{offs:YB (Nat×Nat)}(hz:bp P ty=some z)(h:Uk P ty offs=true):BdT P ty z offs:=by
 refine .of ⟨hz,?_⟩;unfold Uk at h;cases hu:P.underlying ty with
 | none=>rw[hu] at h; cases h
 | some u =>
  rw[hu] at h;cases u with
  | struct fields=>simp only[Va,Vm] at h ⊢; exact h
  | array n elem=>simp only[Va,Vm] at h ⊢; exact h
  | _=>cases h
def cQ{z r:XI}{offs:YB (Nat×Nat)}{parts:YB (Nat×XI)}{cs:YB XI}(h:BdT P ty z offs)(hp:(parts.all fun p=>Nat.blt p.1 offs.length)=true)(hr:jZ (fun i=>offs[i]?) z.cells.toList parts=some cs)(e:Value.agg cs.toArray=r):nw P ty parts=some r:=by
 rw[h.bd parts hp,hr]; exact Vs some e
def cz{n:Nat}{vs:YB (Nat×XI)}{z:XI}{cs:YB XI}(ht:SlT P ty el w)(hz:bp P el=some z)(h1:((bl z.cells.toList n).all aP&&Nat.ble (n*w) 16777216)=true)(hr:jZ (fun i=>some (i*w,w)) (bl z.cells.toList n) vs=some cs):SP P el w n vs=some cs:=by
 have hzs:z.cells.size=w:=by have:=ht.zero; rw[hz] at this; simp only[Xx,Va,beq_iff_eq] at this; exact this.1
 have:gq P el n=some (bl z.cells.toList n):=by simp only[gq,hz,ht.size]; rw[U5 hzs]
 simp only[SP,this,h1]; exact hr
def I3{xs ys:YD XI}{b:Bool}(h:P.eqGuardType P.depth ty=false)(hb:k8 P Op.maxDepth ty (.agg xs) (.agg ys)=some b):bW .eql ty P (.agg xs) (.agg ys)=some (.bool b):=by
 simp only[bW,h,VG,if_false,hb,Vx]
def Sj{xs ys:YD XI}{b:Bool}(h:P.eqGuardType P.depth ty=false)(hb:k8 P Op.maxDepth ty (.agg xs) (.agg ys)=some b):bW .neq ty P (.agg xs) (.agg ys)=some (.bool (!b)):=by
 simp only[bW,h,VG,if_false,hb,Vx]
def RH{k:IntKind}(hu:P.underlying ty=some (.array 2 el))(hk:known P el=true)(hs:aE P el=1)(ha:eh P el=false)(he:P.underlying el=some (.int k))(a b c d:Int):k8 P Op.maxDepth ty (.agg #[.int k a,.int k b]) (.agg #[.int k c,.int k d])=some (decide (a=c)&&decide (b=d)):=by
 have e1:∀x y:Int,k8 P 9999 el (.int k x) (.int k y)=some (decide (x=y)):=fun x y=>by
  simp only[k8,he,if_true]; rfl
 have p0:∀x y:Int,dA P el #[.int k x,.int k y] 0=some (.int k x):=fun x y=>by simp only[dA,hk,ha]; rfl
 have p1:∀x y:Int,dA P el #[.int k x,.int k y] 1=some (.int k y):=fun x y=>by simp only[dA,hk,ha]; rfl
 show k8 P (9999+1) ty _ _=_
 unfold k8;simp only[hu,hk,if_true,hs]
 show iL (k8 P 9999) P _ _ [(el,0*1),(el,1*1)]=_
 simp only[iL,Xg,Nat.one_mul,p0,p1,e1]
 by_cases h:a=c
 simp only[h,decide_true,WH]
 by_cases h2:b=d<;>simp[h2]
 simp[h]
end
section
variable{E:Env}{n:Nat}{m0:Yq}{fs:Fs}{ps:YB Pc}{x y:XK}{v:XI}{ty:XJ}
variable{ops:YD Oper}{os:YB Oper}{K:Tm->Yq->Prop}{dr:Bool}
def Wo.len{α:Type}{f:α->YB XI}{k w l:Nat}{a:XG}{xs:YB α}(hp:pk ps k=some (.sl a w l (xs.map f)))(h:l=xs.length->Wo dr E n ops K os m0 fs ps):Wo dr E n ops K os m0 fs ps:=by
 have key:∀m,Hp m0 m ps->l=xs.length:=fun m hm=>by
  rcases hm.get hp with⟨h0,h1,_⟩|⟨b,tg,_,h1⟩
  rw[h0,W5.1 h1]; rfl
  have:=h1.2.2.2.1; rw[Vf] at this; exact this.symm
 cases dr with
 | false=>exact fun t m hf hm=>h (key m hm) t m hf hm
 | true=>exact fun t m w hf hm hw=>h (key m hm) t m w hf hm hw
end
def gu{ops:YD Oper}{fs:Fs}{j d:Nat}{b:Bool}(hd:(ops[j]?).bind (·.dst)=some d)(h:lk fs d=some undef):xJ ops fs (some (j,b)) false:=fun t d' o ty p af hf=>by
 rw[Ip];have hat:=hf d _ h;unfold fS;rw[hd];unfold Tm.at at hat;cases hg:Trie.get t d with
 | none=>simp only[hg]
 | some v=>rw[hg] at hat; have hv:v=undef:=hat; subst hv; simp only[hg]; rfl
def Kj(k:IntKind)(a b:Int):Int:=k.wrap (BitVec.ofInt k.bits a &&& BitVec.ofInt k.bits b).toNat
section
variable{P:XL}{ty:XJ}{k:IntKind}
def OM(a b:Int):bW .and ty P (.int k a) (.int k b)=some (.int k (Kj k a b)):=by simp only[bW,if_true,Kj]
end
section
variable{E:Env}{n:Nat}{m0:Yq}{fs:Fs}{ps:YB Pc}{x y:XK}{v:XI}{ty:XJ}
def Hz{α:Type}{V:α->XI}{N:α->YB Pc}{a b:XI}(hx:ev E fs x=some a)(hy:ev E fs y=some b)(h:∀m,Hp m0 m ps->∃z,iB E.P ty a b=some (V z)/\Hp m0 m (N z)):Ox E m0 fs ps (.index ty x y) V N :=
 fun t m hf hm=>⟨fun b hb=>(by simp[aM] at hb),fun K hK=>by
  obtain⟨z,h1,h2⟩:=h m hm;rw[Go.Ab.MI (hf.ev hx) (hf.ev hy) h1]; exact hK z m h2⟩
end
def Hp.dup{m0 m:Yq}{ps:YB Pc}{a:XG}{k cap w l:Nat}{es:XF}(h:Hp m0 m ps)(hp:pk ps k=some (.rd a cap w l es)):Hp m0 m (.rd a cap w l es::ps):=h.more hp rfl (h.get hp) rfl fun _ h=>h
end Go.Ab.W
section
open Go Go.Ab Go.Ab.W
abbrev Ye:=@Wo.len
end
end
section
namespace Go.Ab
open Go Go.Ab.W
def Qt(j:aR)(u:XI):∃v,VR j v u:=by
 match h:u with
 | .agg cs =>
  have:∀i (hi:i<cs.size),∃v,VR j v cs[i]:=fun i hi=>Qt j cs[i];refine⟨.agg (Array.ofFn fun i:Fin cs.size=>Classical.choose (this i.1 i.2)),.agg (by simp) fun i a b=>?_⟩
  have hi:i<cs.size:=b;have:=Wi (this i hi)
  simpa using this
 | .tuple cs =>
  have:∀i (hi:i<cs.size),∃v,VR j v cs[i]:=fun i hi=>Qt j cs[i];refine⟨.tuple (Array.ofFn fun i:Fin cs.size=>Classical.choose (this i.1 i.2)),.tuple (by simp) fun i a b=>?_⟩
  have hi:i<cs.size:=b;have:=Wi (this i hi)
  simpa using this
 | .bool b=>exact⟨_,.bool b⟩
 | .int k n=>exact⟨_,.int k n⟩
 | .float k b=>exact⟨_,.junk rfl⟩
 | .complex k a b=>exact⟨_,.junk rfl⟩
 | .string s=>exact⟨_,.string s⟩
 | .pointer none=>exact⟨_,.pnil⟩
 | .pointer (some a)=>exact⟨_,.junk rfl⟩
 | .slice none l c=>exact⟨_,.snil l c⟩
 | .slice (some a) l c=>exact⟨_,.junk rfl⟩
 | .map none=>exact⟨_,.mnil⟩
 | .map (some r)=>exact⟨_,.junk rfl⟩
 | .chan r=>exact⟨_,.junk rfl⟩
 | .func f a b=>exact⟨_,.junk rfl⟩
 | .nilFunc=>exact⟨_,.nilFunc⟩
 | .iface t v=>exact⟨_,.junk rfl⟩
 | .nilIface=>exact⟨_,.nilIface⟩
termination_by SizeOf.sizeOf u
decreasing_by
 all_goals
  subst h;have:=Array.sizeOf_getElem cs i hi;simp only[Value.agg.sizeOf_spec,Value.tuple.sizeOf_spec];omega
open Classical in
noncomputable def seen (j:aR) (v':XI):XI:=if aP v' then v' else match v' with
 | .slice (some _) 0 _=>.slice (some ⟨0,0,some 0⟩) 0 0
 | .slice (some a) (l+1) c=>if a.spot=none/\j a.block=some ⟨a.block,none⟩ then .slice (some a) (l+1) c else Classical.choose (Qt j (.slice (some a) (l+1) c))
 | v'=>Classical.choose (Qt j v')
def EY(j:aR)(v':XI):VR j (seen j v') v':=by
 unfold seen
 split
 rename_i h; exact .aP h
 split
 exact .gV
 rename_i a l c _
 split
 rename_i h;obtain⟨b,o,s⟩:=a;obtain⟨h1,h2⟩:=h;cases h1;exact .slice (k:=⟨b,none⟩) h2 rfl
 exact Wi (Qt j _)
 exact Wi (Qt j _)
def Mq{j:aR}{a:Addr}{l c:Nat}(h0:l≠0)(h1:a.spot=none)(h2:j a.block=some ⟨a.block,none⟩):seen j (.slice (some a) l c)=.slice (some a) l c:=by
 obtain⟨l,rfl⟩:∃k,l=k+1:=⟨l-1,by omega⟩
 unfold seen;rw[U3 (fun h=>by cases h)]
 dsimp only
 rw[U5 ⟨h1,h2⟩]
def IU{j:aR}{a:Addr}{c:Nat}:seen j (.slice (some a) 0 c)=.slice (some ⟨0,0,some 0⟩) 0 0:=by
 unfold seen;rw[U3 (fun h=>by cases h)]
def uy{j:aR}{v':XI}(h:aP v'=true):seen j v'=v':=by unfold seen; rw[U5 h]
def eU(W:XM):aR:=fun b=>if b<W.heap.size then some ⟨b,none⟩ else none
noncomputable def fI (W:XM):Yq:={ next:=W.heap.size,wl:=W.heap.size,objs:=.nil,base:=fun b=>match W.heap[b]? with
 | some (.cells c _ _)=>some (.cells (c.toList.map (seen (eU W))) .ro)
 | _=>none}
def vA(W:XM)(b:Nat):(fI W).get b=match W.heap[b]? with
 | some (.cells c _ _)=>some (.cells (c.toList.map (seen (eU W))) .ro)
 | _=>none:=by
 simp[Yq.get,fI,Heap.get_nil]
def zy{W:XM}{b:Nat}{c:YD XI}{t:XJ}{fz:Nat×Nat}(h:W.heap[b]? = some (.cells c t fz)):(fI W).get b=some (.cells (c.toList.map (seen (eU W))) .ro):=by
 rw[vA,h]
def OC{E:Env}{W:XM}(hg:E.glob<=W.heap.size):MR E (eU W) (fI W) W:=by
 have hj:∀b k,eU W b=some k->b<W.heap.size/\k=⟨b,none⟩:=by
  intro b k h;unfold eU at h
  split at h
  rename_i hb; cases h; exact⟨hb,rfl⟩
  cases h
 refine⟨fun b k h=>?_,fun b o k ho h=>?_,fun b b' k k' h h' _ _ hc=>?_,fun g hgl=>?_⟩
 obtain⟨h1,rfl⟩:=hj b k h;exact⟨h1,h1⟩
 obtain⟨h1,rfl⟩:=hj b k h;rw[vA] at ho
 split at ho
 rename_i c t fz hc;cases ho;refine⟨_,hc,⟨rfl,by simp⟩,fun i v hi=>?_⟩
 rw[VQ] at hi;obtain⟨x,hx,rfl⟩:=W1.1 hi;exact⟨x,by simpa using hx,EY _ _⟩
 cases ho
 obtain⟨_,rfl⟩:=hj b k h;obtain⟨_,rfl⟩:=hj b' k' h';exact hc
 unfold eU;rw[XQ]
inductive Lf where
 | int (k:IntKind)
 | bool
 | sl (e:XJ)
 deriving DecidableEq
def EO(Gu:XJ->YA (YB Lf))(P:XL):YB Field->Nat->YA (YB Lf)
 | [],_=>some []
 | f::fs,off=>match Gu f.type,EO Gu P fs (off+P.cellsOf f.type) with
  | some l,some r=>if f.offset=off/\l.length=P.cellsOf f.type then some (l++r) else none
  | _,_=>none
def Gu(P:XL):Nat->XJ->YA (YB Lf)
 | 0,_=>none
 | d+1,t=>match P.underlying t with
  | some (.int k)=>some [.int k]
  | some .bool=>some [.bool]
  | some (.slice e)=>some [.sl e]
  | some (.array n e)=>match Gu P d e with
   | some l=>if l.length=P.cellsOf e/\P.cellsOf t=n*P.cellsOf e then some (List.replicate n l).flatten else none
   | none=>none
  | some (.struct fs)=>match EO (Gu P d) P fs.toList 0 with
   | some l=>if l.length=P.cellsOf t then some l else none
   | none=>none
  | _=>none
def sZ{H:Type}(enc:XJ×XI->H)(P:XL)(W:XM)(base:Nat)(sp:Nat->Bool)(held:Bool):Lf->XI->Prop
 | .int k,v=>∃n,v=.int k n/\(Lit.int k n).wf=true
 | .bool,v=>∃b,v=.bool b
 | .sl e,v=>(v=.slice none 0 0)\/∃(a:Addr) (len cap:Nat) (n:Nat),v=.slice (some a) len cap/\len<=cap/\cap<=maxLen/\base<=a.block /\
   ∀i,i<len->∃cs x,W.cells? base (a.add (i*P.cellsOf e)) (P.cellsOf e)=some cs/\DataW.trod enc P W base sp held n e cs=some x
inductive All2{α β:Type}(R:α->β->Prop):YB α->YB β->Prop
 | nil:All2 R [] []
 | cons {a:α} {b:β} {l:YB α} {r:YB β} (h:R a b) (t:All2 R l r):All2 R (a::l) (b::r)
def All2.append{α β:Type}{R:α->β->Prop}{l l':YB α}{r r':YB β}(h:All2 R l r)(h':All2 R l' r'):All2 R (l++l') (r++r'):=by
 induction h with
 | nil=>exact h'
 | cons h _ ih=>exact .cons h ih
section
variable{H:Type}{enc:XJ×XI->H}{P:XL}{W:XM}{base:Nat}{sp:Nat->Bool}{held:Bool}
theorem xV{R:Lf->XI->Prop}{l:YB Lf}:∀(n w:Nat) (cs:YB XI),cs.length=n*w->(∀i,i<n->All2 R l ((cs.drop (i*w)).take w))->All2 R (List.replicate n l).flatten cs
 | 0,w,cs,hl,_=>by
  have:cs=[]:=VJ.1 (by simpa using hl)
  subst this; exact .nil
 | n+1,w,cs,hl,h=>by
  rw[List.replicate_succ,V0];have h0:=h 0 (by omega)
  simp only[Xg,W3] at h0;have hw:w<=cs.length:=by rw[hl,WW]; omega
  rw[<-List.take_append_drop w cs];refine All2.append h0 (xV n w _ (by rw[VZ,hl,WW]; omega) fun i hi=>?_)
  have:=h (i+1) (by omega)
  rw[Xj];have e:w+i*w=(i+1)*w:=by rw[WW]; omega
  rw[e]; exact this
theorem Bz:∀(d:Nat) (t:XJ) (L:YB Lf),Gu P d t=some L->∀(n:Nat) (cs:YB XI) (x:DataW H×YB MemPlace),DataW.trod enc P W base sp held n t cs=some x->All2 (sZ enc P W base sp held) L cs:=by
 intro d
 induction d with
 | zero=>intro t L h; cases h
 | succ d ih =>
  intro t L hL n cs x hx;unfold Gu at hL
  split at hL
  rename_i k hu;cases hL;obtain⟨m,rfl,_,hwf⟩:=DataW.trod_int hu hx;exact .cons ⟨m,rfl,hwf⟩ .nil
  rename_i hu;cases hL;obtain⟨b,rfl,_⟩:=DataW.trod_bool hu hx;exact .cons ⟨b,rfl⟩ .nil
  rename_i e hu;cases hL;rcases DataW.trod_slice hu hx with⟨rfl,_⟩|⟨a,len,cap,elems,rest,m,rfl,rfl,_,hb,h1,h2,h3,h4,_⟩
  exact .cons (.inl rfl) .nil
  refine .cons (.inr ⟨a,len,cap,m,rfl,h1,h2,hb,fun i hi=>?_⟩) .nil;have:=h4 i hi;have hi':i<elems.length:=by omega
  rw[U4 hi'] at this;obtain⟨cs,h5,h6⟩:=Option.bind_eq_some_iff.1 this;exact⟨cs,_,h5,h6⟩
  rename_i m e hu
  split at hL
  rename_i l hl
  split at hL
  rename_i hc;cases hL;obtain⟨xs,m',rfl,_,hcl,hxl,hel⟩:=DataW.trod_array hu hx;refine xV m (P.cellsOf e) cs (hcl.trans hc.2) fun i hi=>?_;have:=hel i hi;rw[U4 (by omega)] at this
  exact ih e l hl m' _ _ this
  cases hL
  cases hL
  ·rename_i fs hu
   split at hL
   ·rename_i l hl
    split at hL
    ·rename_i hc;cases hL;obtain⟨xs,m',rfl,_,hcl,hxl,hel⟩:=DataW.trod_struct hu hx;have hfield:∀f∈fs.toList,∃y,DataW.trod enc P W base sp held m' f.type ((cs.drop f.offset).take (P.cellsOf f.type))=some y:=by
      intro f hf;obtain⟨i,hi,hif⟩:=List.getElem_of_mem hf;have hi':i<fs.size:=by simpa using hi
      have:=hel i f (by rw[<-hif]; simp[hi'])
      rw[U4 (by omega)] at this
      exact⟨_,this⟩
     have key:∀(l1:YB Field) (off:Nat) (r:YB Lf),EO (Gu P d) P l1 off=some r->(∀f∈l1,∃y,DataW.trod enc P W base sp held m' f.type ((cs.drop f.offset).take (P.cellsOf f.type))=some y)->All2 (sZ enc P W base sp held) r ((cs.drop off).take r.length):=by
      intro l1
      induction l1 with
      | nil=>intro off r hr _; cases hr; simp only[WJ,List.take_zero]; exact .nil
      | cons f l1 ih1 =>
       intro off r hr hf;unfold EO at hr
       split at hr
       rename_i l2 r2 hl2 hr2
       split at hr
       rename_i ho;cases hr;obtain⟨y,hy⟩:=hf f (by simp)
       have h1:=ih f.type l2 hl2 m' _ _ hy;have h2:=ih1 _ _ hr2 fun g hg=>hf g (by simp[hg])
       rw[ho.1,<-ho.2] at h1;rw[<-ho.2] at h2;have:=All2.append h1 h2;rw[Vd,List.take_add,Xj];exact this
       cases hr
       cases hr
     have:=key fs.toList 0 _ hl hfield;rw[W3,hc,<-hcl,List.take_length] at this;exact this
    cases hL
   cases hL
  cases hL
end
end Go.Ab
end
section
namespace Go.Ab
open Go Go.Ab.W Go.ChangeShapes Go.WideShapes Go.RowKit
section
variable{H:Type}{enc:XJ×XI->H}{P:XL}{W:XM}{sp:Nat->Bool}{held:Bool}
theorem Bc{a:Addr}(h:a.spot=none)(n:Nat):a.add n=⟨a.block,a.off+n,none⟩:=by
 unfold Addr.add
 split
 rename_i e; subst e; cases a; cases h; rfl
 rfl
theorem sF{W:XM}{a:Addr}{v:XI}(h:W.cell? a=some v):a.spot=none/\∃c t fz,W.heap[a.block]? = some (.cells c t fz)/\c[a.off]? = some v:=by
 unfold World.cell? at h
 split at h
 rename_i c t fz hc
 split at h
 cases h
 rename_i hs;refine⟨by simpa using hs,c,t,fz,hc,h⟩
 cases h
theorem Lw{α:Type}{f:α->YB XI}{R:α->Prop}{e w:Nat}(hw:P.cellsOf e=w)(hw0:0<w)(hsz:0<W.heap.size)
  (hdec:∀n cs x,DataW.trod enc P W 0 sp held n e cs=some x->∃p,cs.map (seen (eU W))=f p/\R p) {v:XI} (h:sZ enc P W 0 sp held (.sl e) v) :
  ∃(a:XG) (cap:Nat) (l:YB α),seen (eU W) v=.slice a l.length cap/\(∀b,mz a=some b->b<W.heap.size)/\Rd (fI W) a cap w l.length (l.map f)/\(∀p∈l,R p)/\l.length<=maxLen:=by
 rcases h with rfl|⟨a,len,cap,n,rfl,h1,h2,_,h3⟩
 exact⟨none,0,[],uy rfl,fun b h=>(by cases h),Rd.nil _ _,fun p hp=>(by cases hp),V9 _⟩
 by_cases h0:len=0
 subst h0;exact⟨some ⟨0,0,some 0⟩,0,[],IU,fun b h=>(by cases h; exact hsz),⟨rfl,U8 _,.inr (.inl ⟨0,0,rfl,rfl,rfl,hsz⟩)⟩,fun p hp=>(by cases hp),V9 _⟩
 rw[hw] at h3;have hg:∀i:Fin len,∃(p:α) (cs:YB XI),W.cells? 0 (a.add (i.1*w)) w=some cs/\cs.map (seen (eU W))=f p/\R p:=by
  intro i;obtain⟨cs,x,h4,h5⟩:=h3 i.1 i.2;obtain⟨p,he,hR⟩:=hdec _ _ _ h5;exact⟨p,cs,h4,he,hR⟩
 obtain⟨g,q,hg⟩:∃(g:Fin len->α) (q:Fin len->YB XI),∀i,W.cells? 0 (a.add (i.1*w)) w=some (q i)/\(q i).map (seen (eU W))=f (g i)/\R (g i):=⟨fun i=>Classical.choose (hg i),fun i=>Classical.choose (Wi (hg i)),fun i=>Wi (Wi (hg i))⟩;have hat:∀(i:Fin len) (k:Nat),k<w->W.cell? ((a.add (i.1*w)).add k)=(q i)[k]?:=fun i k hk=>(World.cells?_some (hg i).1).2.2 k hk;have hql:∀i,(q i).length=w:=fun i=>(World.cells?_some (hg i).1).2.1;have hfl:∀i,(f (g i)).length=w:=fun i=>by rw[<-(hg i).2.1,Vf,hql]
 have hsm:∀(i:Fin len) (k:Nat),k<w->∃x,(q i)[k]? = some x:=fun i k hk=>⟨_,U4 (by rw[hql]; exact hk)⟩
 have hspot:a.spot=none:=by
  obtain⟨x,hx⟩:=hsm ⟨0,by omega⟩ 0 hw0
  have:=hat ⟨0,by omega⟩ 0 hw0
  rw[hx] at this;have:=(sF this).1
  simpa [Addr.add] using this
 obtain⟨c,t,fz,hc⟩:∃c t fz,W.heap[a.block]? = some (.cells c t fz):=by
  obtain⟨x,hx⟩:=hsm ⟨0,by omega⟩ 0 hw0
  have:=hat ⟨0,by omega⟩ 0 hw0
  rw[hx] at this;obtain⟨_,c,t,fz,hc,_⟩:=sF this;refine⟨c,t,fz,?_⟩
  simpa [Addr.add] using hc
 have hcell:∀(i:Fin len) (k:Nat),k<w->c[a.off+i.1*w+k]? =(q i)[k]?:=by
  intro i k hk;obtain⟨x,hx⟩:=hsm i k hk;have:=hat i k hk;rw[hx] at this;rw[hx];rw[Bc hspot,Bc rfl] at this;obtain⟨_,c',t',fz',hc',h6⟩:=sF this;rw[hc] at hc';cases hc';exact h6
 have hb:a.block<W.heap.size:=by
  rcases V3 a.block W.heap.size with h|h
  exact h
  rw[Array.getElem?_eq_none h] at hc; cases hc
 have ha:a=⟨a.block,a.off,none⟩:=by cases a; cases hspot; rfl
 refine⟨some a,cap,List.ofFn g,?_,fun b h=>?_,?_,fun p hp=>?_,?_⟩
 rw[List.length_ofFn];exact Mq h0 hspot (by unfold eU; rw[U5 hb])
 cases h; exact hb
 refine⟨by simp,by simpa using h1,.inr (.inr ⟨a.block,a.off,by rw[<-ha],hb,_,_,zy hc,fun sz e=>(by cases e),fun i e he=>?_⟩)⟩
 rw[VQ] at he;obtain⟨p,hp,rfl⟩:=W1.1 he;have hi:i<len:=by
  have:=(Vn.1 hp).1
  simpa using this
 have hpg:p=g ⟨i,hi⟩:=by
  rw[List.getElem?_ofFn] at hp;simp[hi] at hp;exact hp.symm
 subst hpg;refine⟨?_,hfl _⟩;apply Wg;intro k
 by_cases hk:k<w
 rw[List.getElem?_take_of_lt hk,Wl,VQ];have h7:=hcell ⟨i,hi⟩ k hk;obtain⟨x,hx⟩:=hsm ⟨i,hi⟩ k hk;rw[hx] at h7;have h8:c.toList[a.off+i*w+k]? = some x:=by simpa using h7
 rw[h8,<-(hg ⟨i,hi⟩).2.1,VQ,hx]
 rw[V8 (by rw[Vw]; omega),V8 (by rw[hfl]; omega)]
 obtain⟨i,hi,rfl⟩:=List.getElem_of_mem hp;simp only[List.getElem_ofFn];exact(hg _).2.2
 rw[List.length_ofFn]; omega
theorem Hh{α:Type}{f:α->YB XI}{R:α->Prop}{e w:Nat}(hw:P.cellsOf e=w)(hw0:0<w)(hsz:0<W.heap.size)(hf:∀p,(f p).all aP=true)
  (hdec:∀n cs x,DataW.trod enc P W 0 sp held n e cs=some x->∃p,cs=f p/\R p) {v:XI} (h:sZ enc P W 0 sp held (.sl e) v) :
  ∃(a:XG) (cap:Nat) (l:YB α),VR (eU W) (.slice a l.length cap) v/\Rd (fI W) a cap w l.length (l.map f)/\(∀p∈l,R p)/\l.length<=maxLen:=by
 obtain⟨a,cap,l,h1,_,h2,h3,h4⟩:=Lw (f:=f) (R:=R) hw hw0 hsz (fun n cs x hx=>by
  obtain⟨p,rfl,hR⟩:=hdec n cs x hx;refine⟨p,?_,hR⟩;have:∀(l:YB XI),l.all aP=true->l.map (seen (eU W))=l:=fun l hl=>by
   induction l with
   | nil=>rfl
   | cons x l ih =>
    rw[W0,Va] at hl;rw[V6,uy hl.1,ih hl.2]
  exact this _ (hf p)) h
 exact⟨a,cap,l,by rw[<-h1]; exact EY _ _,h2,h3,h4⟩
theorem lM{base:Nat}{v:XI}(h:sZ enc P W base sp held (.int .u8) v):∃n:Nat,v=.int .u8 (n:Int)/\n<256:=by
 obtain⟨n,rfl,hw⟩:=h;have:=bounds_u8 hw;exact⟨n.toNat,by rw[Ws this.1],by omega⟩
theorem pj{base:Nat}{v:XI}(h:sZ enc P W base sp held (.int .i64) v):∃n:Int,v=.int .i64 n/\-9223372036854775808<=n/\n<=9223372036854775807:=by
 obtain⟨n,rfl,hw⟩:=h;exact⟨n,rfl,bounds_i64 hw⟩
theorem cj{α β:Type}{R:α->β->Prop}{a:α}{l:YB α}{r:YB β}(h:All2 R (a::l) r):∃b r',r=b::r'/\R a b/\All2 R l r':=by
 cases h with
 | cons h t=>exact⟨_,_,rfl,h,t⟩
theorem wh{α β:Type}{R:α->β->Prop}{r:YB β}(h:All2 R [] r):r=[]:=by cases h; rfl
theorem yP{P:XL}{w:XM}{r:Reach}{base t n e:Nat}{v:XI}(ht:P.underlying t=some (.array n e))(h:Value.okWide P w r base t v):∃cs,v=.agg cs/\cs.size=P.cellsOf t:=by
 simp only[Value.okWide,ht] at h;obtain⟨cs,h1,h2,_⟩:=h;exact⟨cs,h1,h2⟩
theorem vT{base d t n:Nat}{cs:YD XI}{L:YB Lf}{x:DataW H×YB MemPlace}(hl:Gu P d t=some L)(h:DataW.trod enc P W base sp held n t (Value.agg cs).cells.toList=some x):All2 (sZ enc P W base sp held) L cs.toList:=Bz d t L hl n _ x h
theorem GV{j:aR}{l:YB XI}{cs:YD XI}(h:LR j l cs.toList):VR j (.agg l.toArray) (.agg cs):=.F5 (by simpa using h)
theorem p8{T:XJ->Prop}(K:Kids P T)(hsz:∀{t e:XJ},T t->P.underlying t=some (.slice e)->0<P.cellsOf e){W':XM}{sp':Nat->Bool}:∀{ts:YB XJ} {vs:YB XI} {ds:YB (DataW H)} {ps:YB MemPlace},
  (∀t∈ts,T t)->DataW.TrodAll enc P W 0 (fun _=>true) true ts vs ds ps->(∀p∈ps,W.sameAt W' p)->(∀p∈ps,sp' p.block=true)->DataW.TrodAll enc P W' 0 sp' true ts vs ds ps
 | [],[],[],_,_,h,_,_=>h
 | t::ts,v::vs,d::ds,_,hT,⟨p,q,⟨n,hn⟩,hs,e⟩,h1,h2=>by
  subst e;refine⟨p,q,⟨n,DataW.trod_stays K hsz (fun h=>(by cases h)) (hT t (by simp)) hn (fun x hx=>h1 x (by simp[hx])) fun x hx=>h2 x (by simp[hx])⟩,p8 K hsz (fun t' ht'=>hT t' (by simp[ht'])) hs (fun x hx=>h1 x (by simp[hx])) (fun x hx=>h2 x (by simp[hx])),rfl⟩
theorem Gk{w w':XM}{p:MemPlace}(h:w'.heap[p.block]? = w.heap[p.block]?):w.sameAt w' p:=by
 cases p with
 | cell b o=>simp only[World.sameAt,World.cell?]; rw[show w'.heap[b]? = w.heap[b]? from h]
 | map b=>simp only[World.sameAt]; rw[show w'.heap[b]? = w.heap[b]? from h]
def sizedB(P:XL):Bool:=(List.range P.types.size).all fun t=>match P.underlying t with
 | some (.slice e)=>decide (0<P.cellsOf e)
 | _=>true
theorem Fi(h:sizedB P=true){t e:XJ}(ht:t<P.types.size)(hu:P.underlying t=some (.slice e)):0<P.cellsOf e:=by
 have:=Vo.1 h t (by simpa using ht)
 rw[hu] at this
 simpa using this
theorem HO{f:Func}{s:ChangeSpec}{W':XM}{args:YD XI}{ds:YB (DataW H)}{before:YB MemPlace}{tb:XJ}{fresh handsOn:Bool}(hlo:laidOutB P=true)(hm:mapsRowed P=true)(hsz:sizedB P=true)
  (hvars:s.vars=[]) (hres:f.resultTypes.toList=[tb]) (hrs:f.resultTypes.size=1) (htb:P.underlying tb=some .bool) (hpt:∀t∈f.params.toList,t<P.types.size) (hfn:s.fn H ds ={ results:=[.lit (.bool true)],args:=ds,vars:=[]})
  (hW:DataW.Whole enc P f.params.toList s.vars false W args.toList ds [] before) {E:Env} (hcalm:j6 E W W') (hg:∀c,c<W.heap.size->W'.heap[c]? = W.heap[c]?) :
  s.post enc P f false fresh handsOn false W args (.bool true) W':=by
 have hW':=hW;obtain⟨p,q,hA,hV,rfl,_,_⟩:=hW;rw[hvars] at hV;obtain⟨_,rfl⟩:=trodVars_none hV;have hlt:=hW'.lt;refine⟨ds,[],_,[],p,[],hW',?_,?_,?_,tA hcalm hg _,fun h=>by cases h⟩
 rw[VX,hfn,hres]
 show DataW.TrodAll enc P W' _ _ handsOn [tb] ((Value.bool true).resultList f.resultTypes.size) [.lit (.bool true)] []
 rw[hrs];exact trodAll_mk1 (shut_bool htb true)
 rw[VX,hfn];refine p8 (kids_rows hlo hm) (fun ht hu=>Fi hsz ht hu) hpt hA (fun x hx=>Gk (hg _ (hlt x (by simp[hx])))) fun x hx=>by
  have:=hlt x (by simp[hx])
  simpa using this
 rw[VX,hfn,hvars];exact rfl
end
end Go.Ab
end
section
namespace Go.Ab.W
open Go Go.Ab
attribute [local irreducible] Tm.at Trie.set Trie.get Yq.get Yq.set Yq.alloc Yq.ww Yq.kill
section
variable{E:Env}{n:Nat}{m0:Yq}{fs:Fs}{ps ps':YB Pc}{ops:YD Oper}{os:YB Oper}{K:Tm->Yq->Prop}{prs:YB (Nat×Nat)}
variable{ty:XJ}{p:String}{af:YD Edge}{d:Nat}{o:Op}{g:YA (Nat×Bool)}{v:XI}
inductive Nk
 | any
 | call
 | rd (b:Nat)
 | wr (b:Nat)
 | low (b:Nat)
 | kp (l:YB Nat)
 | rn (o:YA Nat)
 | ka (l:YB (YA Nat))
def Nk.of:Nk->Note->Prop
 | .any,_=>True
 | .call,x=>x.next<=x.wl
 | .rd b,x=>x.read=some b
 | .wr b,x=>x.wrote=some b
 | .low b,x=>b<x.wl
 | .kp l,x=>∀b∈l,x.kept b=true
 | .rn o,x=>x.read=o
 | .ka l,x=>∀b,some b∈l->x.kept b=true
def NR:YB Nk->YB Note->Prop
 | [],[]=>True
 | b::bs,x::xs=>gi x=true/\b.of x/\NR bs xs
 | _,_=>False
def NR.at:∀{bs:YB Nk} {ns:YB Note} {i:Nat} {b:Nk},NR bs ns->bs[i]? = some b->∃x,ns[i]? = some x/\b.of x
 | b::bs,x::xs,0,c,h,e=>by simp only[VB,Option.some.injEq] at e; subst e; exact⟨x,rfl,h.2.1⟩
 | b::bs,x::xs,i+1,c,h,e=>by rw[VV] at e ⊢; exact NR.at h.2.2 e
 | [],[],i,c,h,e=>by simp at e
 | [],_::_,_,_,h,_=>h.elim
 | _::_,[],_,_,h,_=>h.elim
def NR.all:∀{bs:YB Nk} {ns:YB Note},NR bs ns->ns.all gi=true
 | [],[],_=>rfl
 | _::_,_::_,h=>by rw[W0,h.1,NR.all h.2.2]; rfl
 | [],_::_,h=>h.elim
 | _::_,[],h=>h.elim
def NR.snoc:∀{bs:YB Nk} {ns:YB Note} {b:Nk} {x:Note},NR bs ns->gi x=true->b.of x->NR (bs++[b]) (ns++[x])
 | [],[],_,_,_,h1,h2=>⟨h1,h2,trivial⟩
 | _::_,_::_,_,_,h,h1,h2=>⟨h.1,h.2.1,NR.snoc h.2.2 h1 h2⟩
 | [],_::_,_,_,h,_,_=>h.elim
 | _::_,[],_,_,h,_,_=>h.elim
def Nk.QT:Nk->Bool
 | .call=>true
 | _=>false
def Fq(ops:YD Oper)(ss:YB Nk)(p:Nat×Nat):Prop :=
 match ss[p.1]?,ss[p.2]? with
  | some (.rd b),some (.wr b')=>b≠b'/\aA (ops.getD p.1 default).op=false
  | some (.wr b),some (.rd b')=>b'≠b/\aA (ops.getD p.2 default).op=false
  | some (.rd b),some (.low b')=>b<=b'/\aA (ops.getD p.1 default).op=false
  | some (.low b),some (.rd b')=>b'<=b/\aA (ops.getD p.2 default).op=false
  | some (.rd b),some (.kp l)=>b∈l/\aA (ops.getD p.1 default).op=false
  | some (.kp l),some (.rd b)=>b∈l/\aA (ops.getD p.2 default).op=false
  | some (.rd b),some (.ka l)=>some b∈l/\aA (ops.getD p.1 default).op=false
  | some (.ka l),some (.rd b)=>some b∈l/\aA (ops.getD p.2 default).op=false
  | some (.rn o),some (.ka l)=>o∈l/\aA (ops.getD p.1 default).op=false
  | some (.ka l),some (.rn o)=>o∈l/\aA (ops.getD p.2 default).op=false
  | some a,some b=>((a.QT || !(aA (ops.getD p.1 default).op)) &&(b.QT || !(aA (ops.getD p.2 default).op)))=true
  | _,_=>False
def dQ(ops:YD Oper)(ss:YB Nk):YB (Nat×Nat)->Prop
 | []=>True
 | p::ps=>Fq ops ss p/\dQ ops ss ps
def Lq(ops:YD Oper)(ss:YB Nk):YB (Nat×Nat)->Bool
 | []=>true
 | p::ps=>(match ss[p.1]?,ss[p.2]? with
  | some (.rd _),some (.wr _)=>false
  | some (.wr _),some (.rd _)=>false
  | some (.rd _),some (.low _)=>false
  | some (.low _),some (.rd _)=>false
  | some (.rd _),some (.kp _)=>false
  | some (.kp _),some (.rd _)=>false
  | some (.rd _),some (.ka _)=>false
  | some (.ka _),some (.rd _)=>false
  | some (.rn _),some (.ka _)=>false
  | some (.ka _),some (.rn _)=>false
  | some a,some b=>((a.QT || !(aA (ops.getD p.1 default).op)) &&(b.QT || !(aA (ops.getD p.2 default).op)))
  | _,_=>false)&&Lq ops ss ps
def dQ.all{ops:YD Oper}{ss:YB Nk}:∀{ps:YB (Nat×Nat)},Lq ops ss ps=true->dQ ops ss ps
 | [],_=>trivial
 | p::ps,h=>by
  simp only[Lq,Va] at h;refine⟨?_,dQ.all h.2⟩;have h1:=h.1;unfold Fq
  split at h1
  cases h1
  cases h1
  cases h1
  cases h1
  cases h1
  cases h1
  cases h1
  cases h1
  cases h1
  cases h1
  rename_i a b ha hb hn1 hn2;exact h1
  cases h1
def dQ.nil{ops:YD Oper}{ss:YB Nk}:dQ ops ss []:=trivial
section
variable{ops:YD Oper}{ss:YB Nk}{ps:YB (Nat×Nat)}{i j b b':Nat}{l:YB Nat}{o:YA Nat}{la:YB (YA Nat)}
def dQ.step(h:Lq ops ss [(i,j)]=true)(k:dQ ops ss ps):dQ ops ss ((i,j)::ps):=⟨(dQ.all h).1,k⟩
def dQ.rw(h1:ss[i]? = some (.rd b))(h2:ss[j]? = some (.wr b'))(he:aA (ops.getD i default).op=false)(hne:b≠b')(k:dQ ops ss ps):dQ ops ss ((i,j)::ps):=by
 refine⟨?_,k⟩;simp only[Fq,h1,h2]; exact⟨hne,he⟩
def dQ.rk(h1:ss[i]? = some (.rd b))(h2:ss[j]? = some (.kp l))(he:aA (ops.getD i default).op=false)(hm:b∈l)(k:dQ ops ss ps):dQ ops ss ((i,j)::ps):=by
 refine⟨?_,k⟩;simp only[Fq,h1,h2]; exact⟨hm,he⟩
def dQ.kr(h1:ss[i]? = some (.kp l))(h2:ss[j]? = some (.rd b))(he:aA (ops.getD j default).op=false)(hm:b∈l)(k:dQ ops ss ps):dQ ops ss ((i,j)::ps):=by
 refine⟨?_,k⟩;simp only[Fq,h1,h2]; exact⟨hm,he⟩
end
def LD{r e:Note}(h:e.next<=e.wl):Note.ok r e=true:=by
 unfold Note.ok
 split
 rfl
 rename_i b _
 by_cases hb:b<e.wl
 simp[hb]
 have:e.next<=b:=by omega
 simp[this]
def Ey{r e:Note}{b b':Nat}(h1:r.read=some b)(h2:e.wrote=some b')(hne:b≠b'):Note.ok r e=true:=by
 unfold Note.ok;rw[h1,h2];simp[hne]
def BK{r e:Note}{b b':Nat}(h1:r.read=some b)(h2:b'<e.wl)(hne:b<=b'):Note.ok r e=true:=by
 unfold Note.ok;rw[h1];simp[show b<e.wl by omega]
def DT{r e:Note}{b:Nat}{l:YB Nat}(h1:r.read=some b)(h2:∀b∈l,e.kept b=true)(hm:b∈l):Note.ok r e=true:=by
 unfold Note.ok;rw[h1];simp[h2 b hm]
def zx{r e:Note}{b:Nat}{l:YB (YA Nat)}(h1:r.read=some b)(h2:∀b,some b∈l->e.kept b=true)(hm:some b∈l):Note.ok r e=true:=by
 unfold Note.ok;rw[h1];simp[h2 b hm]
def EK{r e:Note}{o:YA Nat}{l:YB (YA Nat)}(h1:r.read=o)(h2:∀b,some b∈l->e.kept b=true)(hm:o∈l):Note.ok r e=true:=by
 cases o with
 | none=>unfold Note.ok; rw[h1]
 | some b=>exact zx h1 h2 hm
def Nk.ok{a b:Nk}{x y:Note}(_:a.of x)(hy:b.of y)(h:b.QT=true):Note.ok x y=true:=by
 cases b with
 | call=>exact LD hy
 | _=>cases h
def B4{ops:YD Oper}{ss:YB Nk}{ns:YB Note}(h:NR ss ns):∀{prs:YB (Nat×Nat)},dQ ops ss prs->prs.all (eu ns ops)=true
 | [],_=>rfl
 | p::prs,hk=>by
  rw[W0,B4 h hk.2,Bool.and_true];have h1:=hk.1;unfold Fq at h1
  split at h1
  rename_i b b' ha hb;obtain⟨x,hx1,hx2⟩:=h.at ha;obtain⟨y,hy1,hy2⟩:=h.at hb;simp only[eu,hx1,hy1,Ey hx2 hy2 h1.1,h1.2,Xt,VW,Xs,Wy]
  rename_i b b' ha hb;obtain⟨x,hx1,hx2⟩:=h.at ha;obtain⟨y,hy1,hy2⟩:=h.at hb;simp only[eu,hx1,hy1,Ey hy2 hx2 h1.1,h1.2,Xt,VW,Xs,Wy]
  rename_i b b' ha hb;obtain⟨x,hx1,hx2⟩:=h.at ha;obtain⟨y,hy1,hy2⟩:=h.at hb;simp only[eu,hx1,hy1,BK hx2 hy2 h1.1,h1.2,Xt,VW,Xs,Wy]
  rename_i b b' ha hb;obtain⟨x,hx1,hx2⟩:=h.at ha;obtain⟨y,hy1,hy2⟩:=h.at hb;simp only[eu,hx1,hy1,BK hy2 hx2 h1.1,h1.2,Xt,VW,Xs,Wy]
  rename_i b b' ha hb;obtain⟨x,hx1,hx2⟩:=h.at ha;obtain⟨y,hy1,hy2⟩:=h.at hb;simp only[eu,hx1,hy1,DT hx2 hy2 h1.1,h1.2,Xt,VW,Xs,Wy]
  rename_i b b' ha hb;obtain⟨x,hx1,hx2⟩:=h.at ha;obtain⟨y,hy1,hy2⟩:=h.at hb;simp only[eu,hx1,hy1,DT hy2 hx2 h1.1,h1.2,Xt,VW,Xs,Wy]
  rename_i b l ha hb;obtain⟨x,hx1,hx2⟩:=h.at ha;obtain⟨y,hy1,hy2⟩:=h.at hb;simp only[eu,hx1,hy1,zx hx2 hy2 h1.1,h1.2,Xt,VW,Xs,Wy]
  rename_i b l ha hb;obtain⟨x,hx1,hx2⟩:=h.at ha;obtain⟨y,hy1,hy2⟩:=h.at hb;simp only[eu,hx1,hy1,zx hy2 hx2 h1.1,h1.2,Xt,VW,Xs,Wy]
  rename_i b l ha hb;obtain⟨x,hx1,hx2⟩:=h.at ha;obtain⟨y,hy1,hy2⟩:=h.at hb;simp only[eu,hx1,hy1,EK hx2 hy2 h1.1,h1.2,Xt,VW,Xs,Wy]
  rename_i b l ha hb;obtain⟨x,hx1,hx2⟩:=h.at ha;obtain⟨y,hy1,hy2⟩:=h.at hb;simp only[eu,hx1,hy1,EK hy2 hx2 h1.1,h1.2,Xt,VW,Xs,Wy]
  rename_i a b _ _ _ _ _ _ _ _ _ _ ha hb;obtain⟨x,hx1,hx2⟩:=h.at ha;obtain⟨y,hy1,hy2⟩:=h.at hb;simp only[Va,Wv,Wa] at h1;simp only[eu,hx1,hy1,Va,Wv,Wa];refine⟨?_,?_⟩
  rcases h1.2 with h2|h2
  exact .inr (Nk.ok hx2 hy2 h2)
  exact .inl h2
  rcases h1.1 with h2|h2
  exact .inr (Nk.ok hy2 hx2 h2)
  exact .inl h2
  exact h1.elim
def NR.rev:∀{bs:YB Nk} {ns:YB Note},NR bs ns->NR bs.reverse ns.reverse
 | [],[],_=>trivial
 | b::bs,x::xs,h=>by
  rw[List.reverse_cons,List.reverse_cons];exact(NR.rev h.2.2).snoc h.1 h.2.1
 | [],_::_,h=>h.elim
 | _::_,[],h=>h.elim
variable{ss:YB Nk}
def Wn(E:Env)(n:Nat)(ops:YD Oper)(prs:YB (Nat×Nat))(K:Tm->Yq->Prop)(os:YB Oper)(ss:YB Nk)(m0:Yq)(fs:Fs)(ps:YB Pc):Prop :=
 ∀t m ns,Fr t fs->Hp m0 m ps->NR ss ns->jn E n ops (fun t m ns=>(prs.all (eu ns ops)&&ns.all gi)=true/\K t m) os t m ns
def Wn.nil{Q:Yr->Tm->Yq->Prop}(hk:∀m,Hp m0 m ps->dQ ops ss.reverse prs)(h:At Q .normal m0 fs ps):Wn E n ops prs (Q .normal) [] ss m0 fs ps:=fun t m ns hf hm hn=>by
 refine⟨?_,h t m hf hm⟩;rw[B4 hn.rev (hk m hm),hn.rev.all]; rfl
def Wn.xg{α:Type}{V:α->XI}{N:α->YB Pc}{c:Nk}(h:∀t m,Fr t fs->Hp m0 m ps->m.wl=m.next->(∀b,aM E t o=some b->b<m.next)/\∀K:XI->Yq->Prop,(∀x m',Hp m0 m' (N x)->c.of { read:=aM E t o,wl:=m'.wl,next:=m.next,wrote:=fj E t o,kept:=jX m m'}->K (V x) m')->bj E t m o K)
  (hg:xJ ops fs g true) (dst:YA Nat) (hd:∀d,dst=some d->Nat.blt d n=true) (k:∀x,Wn E n ops prs K os (c::ss) m0 (match dst with|some d=>(d,V x)::fs|none=>fs) (N x)):Wn E n ops prs K (⟨dst,o,ty,p,af,g⟩::os) ss m0 fs ps:=by
 intro t m ns hf hm hn;simp only[jn,hg t _ _ _ _ _ hf,if_true];have hx:=hm.ext.next
 have hm':Hp m0 (m.ww m.next) ps:=hm.ww (by omega)
 have hwl:(m.ww m.next).wl=(m.ww m.next).next:=by rw[Yq.wl_ww,Yq.next_ww]
 have e0:({ next:=m.next,wl:=m.next,objs:=m.objs,base:=m.base}:Yq)=m.ww m.next:=by unfold Yq.ww; rfl
 rw[e0];obtain⟨h1,h2⟩:=h t _ hf hm' hwl;rw[Yq.next_ww] at h1;refine bj.A (h2 _ fun x m' hm'' hc=>?_);rw[Yq.next_ww] at hc;have hw:=hm''.ext.wl;have e1:({ next:=m'.next,wl:=min m.wl m'.wl,objs:=m'.objs,base:=m'.base}:Yq)=m'.ww (min m.wl m'.wl):=by unfold Yq.ww; rfl
 have hw0:=hm.ext.wl;have hfin:Hp m0 (m'.ww (min m.wl m'.wl)) (N x):=hm''.ww (by omega)
 have hkp:jX (m.ww m.next) m'=jX m m':=by
  funext b
  unfold jX;rw[Yq.get_ww]
 rw[hkp] at hc;have hnr:NR (c::ss) ({ read:=aM E t o,wl:=m'.wl,next:=m.next,wrote:=fj E t o,kept:=jX m m'}::ns):=⟨xY h1,hc,hn⟩
 cases dst with
 | none=>exact⟨t,rfl,by rw[e1]; exact k x t _ _ hf hfin hnr⟩
 | some d =>
  have hd':d<n:=by have:=hd d rfl; rwa[Xn] at this
  exact⟨t.set d (V x),by rw[dq,U5 hd'],by rw[e1]; exact k x _ _ _ hf.set hfin hnr⟩
def Wn.x{α:Type}{V:α->XI}{N:α->YB Pc}(h:Ox E m0 fs ps o V N)(hg:xJ ops fs g true)(hd:Nat.blt d n=true)(k:∀x,Wn E n ops prs K os (.any::ss) m0 ((d,V x)::fs) (N x)):Wn E n ops prs K (⟨some d,o,ty,p,af,g⟩::os) ss m0 fs ps :=
 Wn.xg (c:=.any) (fun t m hf hm _=>⟨(h t m hf hm).1,fun K hK=>(h t m hf hm).2 K fun x m' h1=>hK x m' h1 trivial⟩) hg (some d) (fun d' e=>by cases e; exact hd) k
def Wn.x0{α:Type}{V:α->XI}{N:α->YB Pc}(h:Ox E m0 fs ps o V N)(hg:xJ ops fs g true)(k:∀x,Wn E n ops prs K os (.any::ss) m0 fs (N x)):Wn E n ops prs K (⟨none,o,ty,p,af,g⟩::os) ss m0 fs ps :=
 Wn.xg (c:=.any) (fun t m hf hm _=>⟨(h t m hf hm).1,fun K hK=>(h t m hf hm).2 K fun x m' h1=>hK x m' h1 trivial⟩) hg none (fun d' e=>by cases e) k
def DK:XI->Bool
 | .int _ _|.bool _|.slice _ _ _|.map _|.pointer _=>true
 | _=>false
def Rv:XI->Bool
 | .func (.func _) a c=>a.toList.all DK&&c.toList.all DK
 | v=>DK v
def Fg{α:Type}(ps:YB Pc)(N:α->YB Pc):YB Nat->Prop
 | []=>True
 | b::l=>(∃cs k,pk ps k=some (.obj b (.cells cs .own))/\cs.all Rv=true/\∀x,∃k',pk (N x) k'=some (.obj b (.cells cs .own)))/\Fg ps N l
def HJ{m m':Yq}{b:Nat}(h:m.get b=m'.get b):jX m m' b=true:=by
 unfold jX;rw[Wv];exact .inr (@decide_eq_true _ (Classical.propDecidable _) h)
def Fg.kept{α:Type}{N:α->YB Pc}{m m':Yq}{x:α}(hm:Hp m0 m ps)(hm':Hp m0 m' (N x)):∀{l:YB Nat},Fg ps N l->∀b∈l,jX m m' b=true
 | [],_,b,hb=>by cases hb
 | c::l,h,b,hb=>by
  rcases Vu.1 hb with rfl|hb
  obtain⟨cs,k,h1,h2,h3⟩:=h.1;obtain⟨k',h4⟩:=h3 x;exact HJ (by rw[(hm.get h1).2.2,(hm'.get h4).2.2])
  exact Fg.kept hm hm' h.2 b hb
def Wn.xk{α:Type}{V:α->XI}{N:α->YB Pc}{l:YB Nat}(h:Ox E m0 fs ps o V N)(hl:Fg ps N l)(hg:xJ ops fs g true)(hd:Nat.blt d n=true)(k:∀x,Wn E n ops prs K os (.kp l::ss) m0 ((d,V x)::fs) (N x)):Wn E n ops prs K (⟨some d,o,ty,p,af,g⟩::os) ss m0 fs ps :=
 Wn.xg (c:=.kp l) (fun t m hf hm _=>⟨(h t m hf hm).1,fun K hK=>(h t m hf hm).2 K fun x m' h1=>hK x m' h1 (Fg.kept hm h1 hl)⟩) hg (some d) (fun d' e=>by cases e; exact hd) k
def Hp.ne{m:Yq}{i j b b':Nat}{x y:Pc}(h:Hp m0 m ps)(hx:pk ps i=some x)(hy:pk ps j=some y)(hb:x.tQ=some b)(hb':y.tQ=some b')(hne:i≠j)(ho:x.own=true):b≠b':=fun e=>(fN h.apart hx hy hne).1 b (Pc.Rj ho hb) (.inl (by rw[e]; exact hb'))
def Oc(E:Env)(m0:Yq)(fs:Fs)(ps:YB Pc)(o:Op){α:Type}(V:α->XI)(N:α->YB Pc):Prop :=
 ∀t m,Fr t fs->Hp m0 m ps->m.wl=m.next->(∀b,aM E t o=some b->b<m.next)/\∀K:XI->Yq->Prop,(∀x m',Hp m0 m' (N x)->m.next<=m'.wl->K (V x) m')->bj E t m o K
def QW{α:Type}{V:α->XI}{N:α->YB Pc}{f:XK}{g:YI}{ars:YD XK}{ts:YD XJ}{args:YB XI}(hf:ev E fs f=some (.func (.func g) #[] #[]))(ha:ia E fs ars.toList=some args)(hc:∀m,Hp m0 m ps->aK E g args m (fun v m'=>∃x,v=V x/\Hp m m' (N x)))(ho:∀x,yp (N x)=true):Oc E m0 fs ps (.call ⟨.value f,ars,ts⟩) V (fun x=>N x++ps) :=
 fun t m hfr hm hwl=>⟨fun b hb=>(by simp[aM] at hb),fun K hK=>by
  show lh E (an E t f) (bC E t ars.toList) m _
  rw[hfr.ev hf,hfr.ia ha,qz];refine(hc m hm).mono fun v m' ⟨x,e,h⟩=>?_;rw[e];refine hK x m' (hm.after h fun p hp=>Vo.1 (ho x) p hp) ?_;have:=h.ext.wl;omega⟩
def Wn.c{α:Type}{V:α->XI}{N:α->YB Pc}(h:Oc E m0 fs ps o V N)(hg:xJ ops fs g true)(hd:Nat.blt d n=true)(k:∀x,Wn E n ops prs K os (.call::ss) m0 ((d,V x)::fs) (N x)):Wn E n ops prs K (⟨some d,o,ty,p,af,g⟩::os) ss m0 fs ps :=
 Wn.xg (c:=.call) (fun t m hf hm hw=>⟨(h t m hf hm hw).1,fun K hK=>(h t m hf hm hw).2 K fun x m' h1 h2=>hK x m' h1 h2⟩) hg (some d) (fun d' e=>by cases e; exact hd) k
def Wn.od(h:Od E m0 fs ps o v ps')(hd:Nat.blt d n=true)(k:Wn E n ops prs K os (.any::ss) m0 ((d,v)::fs) ps'):Wn E n ops prs K (⟨some d,o,ty,p,af,none⟩::os) ss m0 fs ps:=Wn.x h.x gn hd fun _=>k
def Wn.o0(h:Od E m0 fs ps o v ps')(k:Wn E n ops prs K os (.any::ss) m0 fs ps'):Wn E n ops prs K (⟨none,o,ty,p,af,none⟩::os) ss m0 fs ps:=Wn.x0 h.x gn fun _=>k
def Wn.og(h:Od E m0 fs ps o v ps')(hg:xJ ops fs g true)(hd:Nat.blt d n=true)(k:Wn E n ops prs K os (.any::ss) m0 ((d,v)::fs) ps'):Wn E n ops prs K (⟨some d,o,ty,p,af,g⟩::os) ss m0 fs ps:=Wn.x h.x hg hd fun _=>k
def Wn.Tk{x:XK}{b off:Nat}{ty':XJ}(hx:ev E fs x=some (ptr b off))(h:Od E m0 fs ps (.load ty' x) v ps')(hg:xJ ops fs g true)(hd:Nat.blt d n=true)(k:Wn E n ops prs K os (.rd b::ss) m0 ((d,v)::fs) ps'):Wn E n ops prs K (⟨some d,.load ty' x,ty,p,af,g⟩::os) ss m0 fs ps :=
 Wn.xg (V:=fun _:YC=>v) (N:=fun _=>ps') (c:=.rd b) (fun t m hf hm _=>⟨(h t m hf hm).1,fun K hK=>(h t m hf hm).2 K fun m' h1=>hK () m' h1 (by show aM E t (.load ty' x)=some b; simp only[aM,hf.ev hx]; rfl)⟩) hg (some d) (fun d' e=>by cases e; exact hd) fun _=>k
def Wn.yX{x:XK}{b off:Nat}{ty':XJ}(hx:ev E fs x=some (ptr b off))(h:Od E m0 fs ps (.load ty' x) v ps')(hd:Nat.blt d n=true)(k:Wn E n ops prs K os (.rd b::ss) m0 ((d,v)::fs) ps'):Wn E n ops prs K (⟨some d,.load ty' x,ty,p,af,none⟩::os) ss m0 fs ps:=Wn.Tk hx h gn hd k
def Wn.TB{x y:XK}{b off:Nat}{ty':XJ}(hx:ev E fs x=some (ptr b off))(h:Od E m0 fs ps (.store ty' x y) v ps')(hg:xJ ops fs g true)(k:Wn E n ops prs K os (.wr b::ss) m0 fs ps'):Wn E n ops prs K (⟨none,.store ty' x y,ty,p,af,g⟩::os) ss m0 fs ps :=
 Wn.xg (V:=fun _:YC=>v) (N:=fun _=>ps') (c:=.wr b) (fun t m hf hm _=>⟨(h t m hf hm).1,fun K hK=>(h t m hf hm).2 K fun m' h1=>hK () m' h1 (by show fj E t (.store ty' x y)=some b; simp only[fj,hf.ev hx]; rfl)⟩) hg none (fun d' e=>by cases e) fun _=>k
def Wn.KI{x y:XK}{b off:Nat}{ty':XJ}(hx:ev E fs x=some (ptr b off))(h:Od E m0 fs ps (.store ty' x y) v ps')(k:Wn E n ops prs K os (.wr b::ss) m0 fs ps'):Wn E n ops prs K (⟨none,.store ty' x y,ty,p,af,none⟩::os) ss m0 fs ps:=Wn.TB hx h gn k
def Wn.s(hg:xJ ops fs g false)(hd:Nat.blt d n=true)(k:Wn E n ops prs K os (.call::ss) m0 ((d,undef)::fs) ps):Wn E n ops prs K (⟨some d,o,ty,p,af,g⟩::os) ss m0 fs ps:=by
 have hd':d<n:=by rwa[Xn] at hd
 intro t m ns hf hm hn;simp only[jn,hg t _ _ _ _ _ hf,VG,if_false];exact⟨t.set d undef,by rw[dq,U5 hd'],k _ _ _ hf.set hm ⟨rfl,U8 _,hn⟩⟩
def Wn.au(h:ai m0 ps ps')(k:Wn E n ops prs K os ss m0 fs ps'):Wn E n ops prs K os ss m0 fs ps:=fun t m ns hf hm hn=>k t m ns hf (h m hm) hn
def Wn.open{k w l:Nat}{a:XG}{es:XF}(hp:pk ps k=some (.sl a w l es))(hl:0<l)(h:∀b tg,a=some ⟨b,0,none⟩->tv tg=true->Wn E n ops prs K os ss m0 fs (bJ ps k (.arr b w l es tg))):Wn E n ops prs K os ss m0 fs ps:=by
 intro t m ns hf hm hn;rcases hm.get hp with⟨h1,_⟩|⟨b,tg,rfl,h1⟩
 omega
 exact h b tg rfl (by rcases h1.2.2.2.2.2.1 with rfl|rfl<;>rfl) t m ns hf (hm.put hp rfl rfl rfl (U8 _) hm.ext h1 fun _ _ _=>rfl) hn
def Wn.bP{k w l cap:Nat}{a:XG}{es:XF}(hp:pk ps k=some (.rd a cap w l es))(hl:0<l)(h:∀b o,a=some ⟨b,o,none⟩->Wn E n ops prs K os ss m0 fs (.ro b o w l es::ps)):Wn E n ops prs K os ss m0 fs ps:=by
 intro t m ns hf hm hn;obtain⟨h1,h2,h3⟩:=hm.get hp;rcases h3 with⟨_,h3⟩|⟨_,_,_,h3,_⟩|⟨b,o,rfl,h3⟩
 omega
 omega
 exact h b o rfl t m ns hf (hm.more hp rfl ⟨h1,h3⟩ rfl fun b' hb=>hb) hn
def Wn.len{α:Type}{f:α->YB XI}{k w l:Nat}{a:XG}{xs:YB α}(hp:pk ps k=some (.sl a w l (xs.map f)))(h:l=xs.length->Wn E n ops prs K os ss m0 fs ps):Wn E n ops prs K os ss m0 fs ps:=fun t m ns hf hm hn=>by
 refine h ?_ t m ns hf hm hn;rcases hm.get hp with⟨h0,h1,_⟩|⟨b,tg,_,h1⟩
 rw[h0,W5.1 h1]; rfl
 have:=h1.2.2.2.1; rw[Vf] at this; exact this.symm
def Wk.ef{fn:YI}{ro:YA Nat}{Q:Yr->Tm->Yq->Prop}{id:Nat}(hp:lQ ops=some prs)(h:Wn E n ops prs (Q .normal) ops.toList [] m0 fs ps):Wk E n fn ro (.region id ops true) Q m0 fs ps:=fun t m hf hm=>.draw hp (h t m [] hf hm trivial)
end
section
variable{E:Env}{n:Nat}{fn:YI}{m0:Yq}{fs:Fs}{ps:YB Pc}{Q:Yr->Tm->Yq->Prop}
def mw(fn:YI)(t:Tm)(n:Nat)(params:YD Tmp)(assign body:Code)(s:LoopState)(p:YA Code):Ys:=.loop { state:=s,pending:=p,fn:=fn,tmps:=t,n:=n,params:=params,assign:=assign,body:=body}
structure Rn where
 st:LoopState
 pe:YA Code
 ps:YB Pc
def Wk.JN{ro:YA Nat}{f:XK}{params:YD Tmp}{assign body:Code}{g:YI}{first cap:YD XI}{F:Func}{c:Code}{rs:YB ResultVar}{N:Nat}{γ:Type}{X:γ->Rn}
  (hf:ev E fs f=some (.func (.func g) first cap)) (hp:E.cZ g=none) (hfn:E.P.funcs[g]? = some F) (hb:F.body=some c) (hrs:F.results.toList=rs) (hN:max (first.toList.length+1+cap.toList.length) F.ntmps=N)
  (hro:∀m,Hp m0 m ps->match ro with|none=>True|some l=>∃r,m.get l=some (.loop r))
  (h:∀t l rc,Fr t fs->rc=mw fn t n params assign body->Wk E N g none c (j5 E rs (fun _ m'=>∃y,Hp m0 m' (.obj l (rc (X y).st (X y).pe)::(X y).ps))) m0 (pL (first.toList++[.func (.yield l) #[] #[]]++cap.toList) 0 []) (.obj l (rc .ready none)::ps))
  (hst:∀y,(X y).st≠.busy) (k:∀y,(match(X y).pe with|none=>At Q .normal m0 fs (X y).ps|some c=>Wk E n fn ro c Q m0 fs (X y).ps)):Wk E n fn ro (.rangeFunc f params assign body) Q m0 fs ps:=by
 intro t m hfr hm;have hl:Hp m0 (m.alloc (mw fn t n params assign body .ready none)) (.obj m.next (mw fn t n params assign body .ready none)::ps) :=
  hm.cons (by rw[Yq.next_alloc]; omega) (hm.ext.alloc _) (fun b hb=>by rw[Yq.aU,XP]) ⟨hm.ext.next,by rw[Yq.next_alloc]; omega,by rw[Yq.aU,U5 rfl]⟩ fun b hb=>by cases hb; exact U8 _
 have hlen:(first.toList++[Value.func (.yield m.next) #[] #[]]++cap.toList).length=first.toList.length+1+cap.toList.length:=by simp; omega
 obtain⟨v,m2,⟨k1,hk1⟩,y,h2⟩:=aS (N:=N) hp hfn hb hrs (by rw[hlen]; exact hN) hl (h t m.next _ hfr rfl)
 have hg0:=h2.get (k:=0) rfl;have hg:m2.get m.next=some (mw fn t n params assign body (X y).st (X y).pe):=hg0.2.2
 have hlo:m0.next<=m.next:=hm.ext.next
 have h3:Hp m0 (m2.set m.next (mw fn t n params assign body .exhausted (X y).pe)) (X y).ps:=by
  have:=h2.write (k:=0) (o':=mw fn t n params assign body .exhausted (X y).pe) (p':=.obj m.next (mw fn t n params assign body .exhausted (X y).pe)) rfl rfl rfl rfl rfl ⟨hlo,by rw[Yq.next_set]; exact hg0.2.1,by rw[Yq.bz,U5 rfl]⟩
  refine⟨this.ext,fun p hp=>this.ok p (by simp[bJ,hp]),?_⟩
  have hpw:=this.apart;rw[iv,VA] at hpw;exact hpw.2
 have hev:an E t f=some (.func (.func g) first cap):=by
  cases f with
  | tmp i=>exact hfr.ev hf
  | const c=>exact hfr.ev hf
  | global g=>exact hfr.ev hf
  | func g=>exact hfr.ev hf
 have hao:lE E ⟨t,n,fn,ro⟩ m f=true:=by
  have:=hro m hm;cases ro with
  | none=>simp only[lE,hev,hp]; rfl
  | some l0 =>
   obtain⟨r0,hr0⟩:=this;simp only[lE,hev,hp,hr0]; rfl
 have hk:=k y;cases hpe:(X y).pe with
 | none =>
  rw[hpe] at hk hg h3;refine⟨.normal,t,_,bG (k:=k1) ?_,hk t _ hfr h3⟩;have hst':=hst y;simp only[step,hev,hao];have hk1':run E k1 (.call g (first.toList++[Value.func (.yield m.next) #[] #[]]++cap.toList) (m.alloc (.loop { state:=.ready,pending:=none,fn:=fn,tmps:=t,n:=n,params:=params,assign:=assign,body:=body})))=some (.val v m2):=hk1
  rw[hk1'];have hg':m2.get m.next=some (.loop { state:=(X y).st,pending:=none,fn:=fn,tmps:=t,n:=n,params:=params,assign:=assign,body:=body}):=hg
  simp only[hg'];cases hs:(X y).st with
  | busy=>exact Vr hs hst'
  | _=>rfl
 | some c' =>
  rw[hpe] at hk hg h3;obtain⟨e2,t2,m3,⟨k2,hk2⟩,q⟩:=hk t _ hfr h3;refine⟨e2,t2,m3,bG (k:=max k1 k2) ?_,q⟩;have hst':=hst y;simp only[step,hev,hao];have hk1':run E (max k1 k2) (.call g (first.toList++[Value.func (.yield m.next) #[] #[]]++cap.toList) (m.alloc (.loop { state:=.ready,pending:=none,fn:=fn,tmps:=t,n:=n,params:=params,assign:=assign,body:=body})))=some (.val v m2):=mI (Nat.le_max_left k1 k2) hk1
  rw[hk1'];have hg':m2.get m.next=some (.loop { state:=(X y).st,pending:=some c',fn:=fn,tmps:=t,n:=n,params:=params,assign:=assign,body:=body}):=hg
  simp only[hg'];have hk2':run E (max k1 k2) (.code c' ⟨t,n,fn,ro⟩ (m2.set m.next (.loop { state:=.exhausted,pending:=some c',fn:=fn,tmps:=t,n:=n,params:=params,assign:=assign,body:=body})))=some (.code e2 t2 m3):=mI (Nat.le_max_right k1 k2) hk2
  cases hs:(X y).st with
  | busy=>exact Vr hs hst'
  | _=>simp only[hk2']
def Wk.range{f:XK}{params:YD Tmp}{assign body:Code}{g:YI}{first cap:YD XI}{F:Func}{c:Code}{rs:YB ResultVar}{N:Nat}{γ:Type}{X:γ->Rn}
  (hf:ev E fs f=some (.func (.func g) first cap)) (hp:E.cZ g=none) (hfn:E.P.funcs[g]? = some F) (hb:F.body=some c) (hrs:F.results.toList=rs) (hN:max (first.toList.length+1+cap.toList.length) F.ntmps=N)
  (h:∀t l rc,Fr t fs->rc=mw fn t n params assign body->Wk E N g none c (j5 E rs (fun _ m'=>∃y,Hp m0 m' (.obj l (rc (X y).st (X y).pe)::(X y).ps))) m0 (pL (first.toList++[.func (.yield l) #[] #[]]++cap.toList) 0 []) (.obj l (rc .ready none)::ps))
  (hst:∀y,(X y).st≠.busy) (k:∀y,(match(X y).pe with|none=>At Q .normal m0 fs (X y).ps|some c=>Wk E n fn none c Q m0 fs (X y).ps)):Wk E n fn none (.rangeFunc f params assign body) Q m0 fs ps :=
 Wk.JN hf hp hfn hb hrs hN (fun _ _=>trivial) h hst k
def Wk.PO{l0 k0 f0 n0:Nat}{t0:Tm}{params0:YD Tmp}{assign0 body0:Code}{r0:LoopState->YA Code->Ys}{s0:LoopState}{p0:YA Code}{f:XK}{params:YD Tmp}{assign body:Code}{g:YI}{first cap:YD XI}{F:Func}{c:Code}{rs:YB ResultVar}{N:Nat}{γ:Type}{X:γ->Rn}
  (hf:ev E fs f=some (.func (.func g) first cap)) (hp:E.cZ g=none) (hfn:E.P.funcs[g]? = some F) (hb:F.body=some c) (hrs:F.results.toList=rs) (hN:max (first.toList.length+1+cap.toList.length) F.ntmps=N)
  (h0:r0=mw f0 t0 n0 params0 assign0 body0) (h1:pk ps k0=some (.obj l0 (r0 s0 p0)))
  (h:∀t l rc,Fr t fs->rc=mw fn t n params assign body->Wk E N g none c (j5 E rs (fun _ m'=>∃y,Hp m0 m' (.obj l (rc (X y).st (X y).pe)::(X y).ps))) m0 (pL (first.toList++[.func (.yield l) #[] #[]]++cap.toList) 0 []) (.obj l (rc .ready none)::ps))
  (hst:∀y,(X y).st≠.busy) (k:∀y,(match(X y).pe with|none=>At Q .normal m0 fs (X y).ps|some c=>Wk E n fn (some l0) c Q m0 fs (X y).ps)):Wk E n fn (some l0) (.rangeFunc f params assign body) Q m0 fs ps :=
 Wk.JN hf hp hfn hb hrs hN (fun m hm=>by subst h0; exact⟨_,(hm.get h1).2.2⟩) h hst k
def KF:YB Tmp->YB XI->Fs->Fs
 | p::ps,v::vs,fs=>KF ps vs ((p,v)::fs)
 | _,_,fs=>fs
def Ek(n:Nat):YB Tmp->YB XI->Bool
 | p::ps,_::vs=>Nat.blt p n&&Ek n ps vs
 | [],[]=>true
 | _,_=>false
def ES{n:Nat}:∀{ps:YB Tmp} {vs:YB XI} {t:Tm} {fs:Fs},Ek n ps vs=true->Fr t fs->∃t',jF n t ps vs=some t'/\Fr t' (KF ps vs fs)/\ps.length=vs.length
 | p::ps,v::vs,t,fs,h,hf=>by
  simp only[Ek,Va] at h;obtain⟨t',h1,h2,h3⟩:=ES (ps:=ps) (vs:=vs) (t:=t.set p v) (fs:=(p,v)::fs) h.2 hf.set;exact⟨t',by simp only[jF,h.1]; exact h1,h2,by simp[h3]⟩
 | [],[],t,fs,_,hf=>⟨t,rfl,hf,rfl⟩
 | [],_::_,_,_,h,_=>by cases h
 | _::_,[],_,_,h,_=>by cases h
def yq{f:XK}{l:Nat}{first cap:YD XI}{ars:YD XK}{ts:YD XJ}{args:YB XI}{k k1 fn' n':Nat}{rc:LoopState->YA Code->Ys}{t0:Tm}{params:YD Tmp}{assign body:Code}{f0:Fs}{γA γ:Type}{GA:γA->En}{G:γ->En}
  (hf:ev E fs f=some (.func (.yield l) first cap)) (ha:ia E fs ars.toList=some args) (hp:pk ps k=some (.obj l (rc .ready none))) (hrc:rc=mw fn' t0 n' params assign body) (h3:Fr t0 f0) (hpar:Ek n' params.toList (first.toList++args)=true)
  (hA:Wk E n' fn' (some l) assign (oa m0 GA) m0 (KF params.toList (first.toList++args) f0) ps) (hAe:∀y,(GA y).e=.normal) (h0:∀y,pk (GA y).ps k1=some (.obj l (rc .ready none)))
  (hB:∀y,Wk E n' fn' (some l) body (oa m0 G) m0 (GA y).fs (bJ (GA y).ps k1 (.obj l (rc .busy none)))) (hG:∀y,pk (G y).ps 0=some (.obj l (rc .busy none))) :
  Ox E m0 fs ps (.call ⟨.value f,ars,ts⟩) (fun y:γ=>.bool (jN (G y).e).isNone) (fun y=>bJ (G y).ps 0 (.obj l (rc (if(jN (G y).e).isNone then .ready else .done) (jN (G y).e)))):=by
 subst hrc;intro t m hfr hm;refine⟨fun b hb=>(by simp[aM] at hb),fun K hK=>?_⟩
 have hev:an E t f=some (.func (.yield l) first cap):=by
  cases f with
  | tmp i=>exact hfr.ev hf
  | const c=>exact hfr.ev hf
  | global g=>exact hfr.ev hf
  | func g=>exact hfr.ev hf
 show lh E (an E t f) (bC E t ars.toList) m K
 rw[hev,hfr.ia ha]
 show DQ E l (first.toList++args) m K
 obtain⟨t2,hset,h4,hlen⟩:=ES (t:=t0) hpar h3;obtain⟨e0,t1,m1,⟨ka,hka⟩,ya,h2,h5,h3'⟩:=hA t2 m h4 hm;rw[hAe] at h2;subst h2;have h6:m.get l=some (mw fn' t0 n' params assign body .ready none):=(hm.get hp).2.2;have h7:m1.get l=some (mw fn' t0 n' params assign body .ready none):=(h3'.get (h0 ya)).2.2;have hbusy:Hp m0 (m1.set l (mw fn' t0 n' params assign body .busy none)) (bJ (GA ya).ps k1 (.obj l (mw fn' t0 n' params assign body .busy none))) :=
  h3'.write (h0 ya) rfl rfl rfl rfl ⟨(h3'.get (h0 ya)).1,by rw[Yq.next_set]; exact(h3'.get (h0 ya)).2.1,by rw[Yq.bz,U5 rfl]⟩
 obtain⟨e2,t3,m2,⟨kb,hkb⟩,y,h8,h10,h1⟩:=hB ya t1 _ h5 hbusy;have h9:m2.get l=some (mw fn' t0 n' params assign body .busy none):=(h1.get (hG y)).2.2;have hfin:Hp m0 (m2.set l (mw fn' t0 n' params assign body (if(jN e2).isNone then .ready else .done) (jN e2))) (bJ (G y).ps 0 (.obj l (mw fn' t0 n' params assign body (if(jN e2).isNone then .ready else .done) (jN e2)))) :=
  h1.write (hG y) rfl rfl rfl rfl ⟨(h1.get (hG y)).1,by rw[Yq.next_set]; exact(h1.get (hG y)).2.1,by rw[Yq.bz,U5 rfl]⟩
 refine⟨.bool (jN e2).isNone,m2.set l (mw fn' t0 n' params assign body (if(jN e2).isNone then .ready else .done) (jN e2)),bG (k:=max ka kb) ?_,?_⟩
 have hka':run E (max ka kb) (.code assign ⟨t2,n',fn',some l⟩ m)=some (.code .normal t1 m1):=mI (Nat.le_max_left ka kb) hka;have hkb':run E (max ka kb) (.code body ⟨t1,n',fn',some l⟩ (m1.set l (.loop { state:=.busy,pending:=none,fn:=fn',tmps:=t0,n:=n',params:=params,assign:=assign,body:=body})))=some (.code e2 t3 m2):=mI (Nat.le_max_right ka kb) hkb;have hg0':m.get l=some (.loop { state:=.ready,pending:=none,fn:=fn',tmps:=t0,n:=n',params:=params,assign:=assign,body:=body}):=h6;have hg1':m1.get l=some (.loop { state:=.ready,pending:=none,fn:=fn',tmps:=t0,n:=n',params:=params,assign:=assign,body:=body}):=h7;have hg2':m2.get l=some (.loop { state:=.busy,pending:=none,fn:=fn',tmps:=t0,n:=n',params:=params,assign:=assign,body:=body}):=h9;have hsz:¬((first.toList++args).length≠params.size):=by rw[<-hlen]; simp
 simp only[step,hg0',U3 hsz,hset,hka',hg1',hkb',hg2']
 rfl
 subst h8;exact hK y _ hfin
end
section
variable{E:Env}{n:Nat}{m0 m1 m m':Yq}{fs:Fs}{ps:YB Pc}{ops:YD Oper}{os:YB Oper}{K:Tm->Yq->Prop}{x y:XK}{ty:XJ}
end
section
variable{α β:Type}[DecidableEq α]
def cV(k:α):YB (α×β)->Nat->YA (Nat×β)
 | [],_=>none
 | e::es,i=>if k=e.1 then some (i,e.2) else cV k es (i+1)
def bR(xs:YB (α×β))(k:α):YA β:=(cV k xs 0).map (·.2)
def fX(xs:YB (α×β))(k:α)(v:β):YB (α×β) :=
 match cV k xs 0 with
 | some p=>xs.set p.1 (k,v)
 | none=>xs++[(k,v)]
def eM(kE:α->XI)(vE:β->XI)(p:α×β):XI×XI:=(kE p.1,vE p.2)
structure KeyE(P:XL)(kt:XJ)(kE:α->XI):Prop where
 eq:∀a b,k8 P Op.maxDepth kt (kE a) (kE b)=some (decide (a=b))
 ok:∀a,lA P kt (kE a)=true
 plain:∀a,bH (kE a)=true
 same:∀a,Instr.sameBits 10000 (kE a) (kE a)=true
def su{P:XL}{kt:XJ}{kE:α->XI}{vE:β->XI}(hk:KeyE P kt kE)(k:α):∀(xs:YB (α×β)) (i:Nat),nL P kt (kE k) (xs.map (eM kE vE)) i=some ((cV k xs i).map fun p=>(p.1,vE p.2))
 | [],_=>rfl
 | e::es,i=>by
  simp only[V6,nL,eM,hk.eq,cV]
  by_cases h:k=e.1
  rw[Vc h,U5 h]; rfl
  rw[Vj h,U3 h];exact su hk k es (i+1)
omit [DecidableEq α] in
def vQ{kE:α->XI}{vE:β->XI}(k:α)(v:β):∀(xs:YB (α×β)) (i:Nat),i<xs.length->sj (xs.map (eM kE vE)) i (kE k) (vE v)=(xs.set i (k,v)).map (eM kE vE)
 | [],i,h=>by cases h
 | e::es,0,_=>rfl
 | e::es,i+1,h=>by
  simp only[V6,sj,List.set_cons_succ];rw[vQ k v es i (by simpa using h)]
def AX(k:α):∀(xs:YB (α×β)) (i:Nat) (p:Nat×β),cV k xs i=some p->i<=p.1/\p.1<i+xs.length/\xs[p.1-i]? = some (k,p.2)
 | [],_,_,h=>by cases h
 | e::es,i,p,h=>by
  unfold cV at h
  split at h
  rename_i hk; cases h; subst hk; simp
  obtain⟨h1,h2,h3⟩:=AX k es (i+1) p h;refine⟨by omega,by simp; omega,?_⟩
  obtain⟨d,hd⟩:∃d,p.1-i=d+1:=⟨p.1-i-1,by omega⟩
  rw[hd,VV,<-h3]
  congr 1; omega
end
section
variable{E:Env}{n:Nat}{m0 m:Yq}{fs:Fs}{ps:YB Pc}{x y z:XK}{ty:XJ}
variable{α β:Type}[DecidableEq α]
def By{P:XL}{kt et b:Nat}{kE:α->XI}{vE:β->XI}{z0:β}{xs:YB (α×β)}{k:α}{c:Bool}(hu:P.underlying ty=some (.map kt et))(hk:KeyE P kt kE)(hz:bp P et=some (vE z0))(hzp:bH (vE z0)=true)(hg:m.get b=some (.map (xs.map (eM kE vE)))) :
  jy P ty (.map (some b)) (kE k) c m=some (if c then .tuple #[vE ((bR xs k).getD z0),.bool (bR xs k).isSome] else vE ((bR xs k).getD z0)):=by
 simp only[jy,hu,mapOf,hg,hz,hk.ok,if_true,su hk,bR];cases cV k xs 0 with
 | none=>simp only[Option.map_none,hzp,if_true,Option.getD_none,Option.isSome_none]
 | some p=>simp only[Vx,Option.getD_some,Option.isSome_some]
def TF{kt et b q:Nat}{kE:α->XI}{vE:β->XI}{z0:β}{xs:YB (α×β)}{k:α}(hu:E.P.underlying ty=some (.map kt et))(hk:KeyE E.P kt kE)(hz:bp E.P et=some (vE z0))(hzp:bH (vE z0)=true)(hx:ev E fs x=some (.map (some b)))(hy:ev E fs y=some (kE k))(hp:pk ps q=some (.obj b (.map (xs.map (eM kE vE))))) :
  Od E m0 fs ps (.lookup ty x y false) (vE ((bR xs k).getD z0)) ps :=
 fun t m hf h=>⟨fun b' hb'=>by
  simp only[aM,hf.ev hx] at hb';cases hb'; exact(h.get hp).2.1,fun K hK=>by
  have:=By (c:=false) (k:=k) hu hk hz hzp (h.get hp).2.2;unfold bj;simp only[qn,fM,hf.ev hx,hf.ev hy,this,Vx];exact hK m h⟩
def Sh{kt et b q:Nat}{kE:α->XI}{vE:β->XI}{z0:β}{xs:YB (α×β)}{k:α}(hu:E.P.underlying ty=some (.map kt et))(hk:KeyE E.P kt kE)(hz:bp E.P et=some (vE z0))(hzp:bH (vE z0)=true)(hx:ev E fs x=some (.map (some b)))(hy:ev E fs y=some (kE k))(hp:pk ps q=some (.obj b (.map (xs.map (eM kE vE))))) :
  Od E m0 fs ps (.lookup ty x y true) (.tuple #[vE ((bR xs k).getD z0),.bool (bR xs k).isSome]) ps :=
 fun t m hf h=>⟨fun b' hb'=>by
  simp only[aM,hf.ev hx] at hb';cases hb'; exact(h.get hp).2.1,fun K hK=>by
  have:=By (c:=true) (k:=k) hu hk hz hzp (h.get hp).2.2;unfold bj;simp only[qn,fM,hf.ev hx,hf.ev hy,this,Vx];exact hK m h⟩
def NO{kt et b q:Nat}{kE:α->XI}{vE:β->XI}{z0 v:β}{xs:YB (α×β)}{k:α}(hu:E.P.underlying ty=some (.map kt et))(hk:KeyE E.P kt kE)(hz:bp E.P et=some (vE z0))(hzp:bH (vE z0)=true)(hx:ev E fs x=some (.map (some b)))(hy:ev E fs y=some (kE k))(hp:pk ps q=some (.obj b (.map (xs.map (eM kE vE)))))(hv:some ((bR xs k).getD z0)=some v) :
  Od E m0 fs ps (.lookup ty x y false) (vE v) ps:=by
 cases hv;exact TF hu hk hz hzp hx hy hp
def Jj{kt et b q:Nat}{kE:α->XI}{vE:β->XI}{z0 v:β}{c:Bool}{xs:YB (α×β)}{k:α}(hu:E.P.underlying ty=some (.map kt et))(hk:KeyE E.P kt kE)(hz:bp E.P et=some (vE z0))(hzp:bH (vE z0)=true)(hx:ev E fs x=some (.map (some b)))(hy:ev E fs y=some (kE k))(hp:pk ps q=some (.obj b (.map (xs.map (eM kE vE)))))(hv:some ((bR xs k).getD z0,(bR xs k).isSome)=some (v,c)) :
  Od E m0 fs ps (.lookup ty x y true) (.tuple #[vE v,.bool c]) ps:=by
 cases hv;exact Sh hu hk hz hzp hx hy hp
def FH{kt et b q:Nat}{kE:α->XI}{vE:β->XI}{xs:YB (α×β)}{k:α}{v:β}(hu:E.P.underlying ty=some (.map kt et))(hk:KeyE E.P kt kE)(hx:ev E fs x=some (.map (some b)))(hy:ev E fs y=some (kE k))(hz:ev E fs z=some (vE v))(hp:pk ps q=some (.obj b (.map (xs.map (eM kE vE))))) :
  Od E m0 fs ps (.mapUpdate ty x y z) undef (bJ ps q (.obj b (.map ((fX xs k v).map (eM kE vE))))) :=
 fun t m hf h=>⟨fun b' hb'=>by simp[aM] at hb',fun K hK=>by
  have hg:=(h.get hp).2.2;have hup:j8 E.P ty (.map (some b)) (kE k) (vE v) m=some (m.set b (.map ((fX xs k v).map (eM kE vE)))):=by
   simp only[j8,hu,hg,hk.ok,if_true,su hk,fX];cases hfd:cV k xs 0 with
   | none=>simp only[Option.map_none,W6,V6,List.map_nil]; rfl
   | some p =>
    obtain⟨h1,h2,h3⟩:=AX k xs 0 p hfd;simp only[WK] at h3;have hst:tJ (xs.map (eM kE vE)) p.1 (kE k)=true:=by
     simp only[tJ,VQ,h3,Vx,eM,hk.plain,hk.same,Wy]
    simp only[Vx,hst,if_true];rw[vQ k v xs p.1 (by omega)]
  unfold bj;simp only[qn,fM,hf.ev hx,hf.ev hy,hf.ev hz,hup,Vx];exact hK _ (h.write hp rfl rfl rfl rfl ⟨(h.get hp).1,by rw[Yq.next_set]; exact(h.get hp).2.1,by rw[Yq.bz,U5 rfl]⟩)⟩
def sA{γ:Type}{f:γ->YB XI}{xs:YB γ}{k cap w l:Nat}{a:XG}(h:Hp m0 m ps)(hp:pk ps k=some (.rd a cap w l (xs.map f))):l=xs.length:=by
 have:=(h.get hp).1;rw[Vf] at this;exact this.symm
def Mb{P:XL}{kt:XJ}{k:IntKind}(hu:P.underlying kt=some (.int k)):KeyE P kt (fun n:Int=>.int k n) where
 eq:=fun a b=>by
  simp only[Op.maxDepth,k8,hu,if_true]
  by_cases h:a=b
  subst h; simp
  simp[h]
 ok:=fun a=>by simp only[lA,hu]
 plain:=fun a=>rfl
 same:=fun a=>by simp[Instr.sameBits]
end
def nX(ps:YB Pc)(j:Nat)(ks:YB Nat):YA (YB Pc) :=
 match aq ps ks with
 | some qs=>some (qs++ps.drop j)
 | none=>none
def Mn:∀{ps:YB Pc} {j:Nat} {r:Pc},r∈ps.drop j->∃k,j<=k/\pk ps k=some r:=by
 intro ps j r h;obtain⟨k,hk⟩:=kY h;refine⟨j+k,by omega,?_⟩
 have key:∀(ps:YB Pc) (j k:Nat),pk (ps.drop j) k=pk ps (j+k):=by
  intro ps
  induction ps with
  | nil=>intro j k; rw[List.drop_nil]; cases(j+k)<;>rfl
  | cons p l ih =>
   intro j k;cases j with
   | zero=>rw[W3,VC]
   | succ j=>rw[List.drop_succ_cons,ih,Nat.succ_add]; rfl
 rw[<-key]; exact hk
section
variable{E:Env}{n:Nat}{m0 m:Yq}{fs:Fs}{ps ps':YB Pc}{x y z:XK}{ty:XJ}
def ai.nX(j:Nat)(ks:YB Nat)(hnd:mD ks=true)(hlt:ks.all (fun k=>Nat.blt k j)=true)(e:W.nX ps j ks=some ps'):ai m0 ps ps':=by
 intro m h;unfold W.nX at e
 split at e
 rename_i qs hq;have e:=U9 e;subst e;have h1:=h.aq ks hnd hq;refine⟨h.ext,fun p hp=>?_,Wd.2 ⟨h1.apart,h.apart.sublist (List.drop_sublist _ _),fun p hp q hq'=>?_⟩⟩
 rcases Vq.1 hp with hp|hp
 exact h1.ok p hp
 exact h.ok p (WD hp)
 obtain⟨k,hk,hk2⟩:=rQ hq p hp;obtain⟨k',hk',hk2'⟩:=Mn hq';have:=Vo.1 hlt k hk;rw[Xn] at this;exact fN h.apart hk2 hk2' (by omega)
 cases e
def RS{b q:Nat}{kt et:XJ}{es:YB (XI×XI)}{ars:YD XK}(hu:E.P.underlying ty=some (.map kt et))(ha:ia E fs ars.toList=some [.map (some b)])(hp:pk ps q=some (.obj b (.map es))) :
  Od E m0 fs ps (.call ⟨.builtin .len,ars,#[ty]⟩) (.int .i64 (es.length:Int)) ps :=
 fun t m hf h=>⟨fun b' hb'=>by
  simp only[aM,hf.ia ha] at hb';cases hb'; exact(h.get hp).2.1,fun K hK=>by
  have:bg E.P .len #[ty] [.map (some b)] m=some (.int .i64 (es.length:Int),m):=by
   have ht:(#[ty]:YD XJ)[0]? = some ty:=rfl;simp only[bg,ht,VE,hu,mapOf,(h.get hp).2.2,Vx]
  rw[Go.Ab.dn (hf.ia ha) this]; exact hK m h⟩
def Dk{α:Type}{b q l:Nat}{kt et:XJ}{xs:YB α}{f:α->XI×XI}{ars:YD XK}(hu:E.P.underlying ty=some (.map kt et))(ha:ia E fs ars.toList=some [.map (some b)])(hp:pk ps q=some (.obj b (.map (xs.map f))))(hl:xs.length=l) :
  Od E m0 fs ps (.call ⟨.builtin .len,ars,#[ty]⟩) (.int .i64 (l:Int)) ps:=by
 have:=RS (m0:=m0) hu ha hp;rw[Vf,hl] at this;exact this
def KY{P:XL}{kt el:XJ}{k:IntKind}(hu:P.underlying kt=some (.array 2 el))(hk:known P el=true)(hs:aE P el=1)(ha:eh P el=false)(he:P.underlying el=some (.int k)):KeyE P kt (fun p:Int×Int=>.agg #[.int k p.1,.int k p.2]) where
 eq:=fun a b=>by
  rw[RH hu hk hs ha he]
  congr 1
  by_cases h:a=b
  subst h; simp
  have:¬(a.1=b.1/\a.2=b.2):=fun⟨h1,h2⟩=>h (VN h1 h2);rw[Vj h,<-V5,Vj this]
 ok:=fun a=>by
  have hkk:dH P el=true:=by simp only[dH,he]
  simp only[lA,hu,hkk,hk,hs,WH]
  rfl
 plain:=fun a=>rfl
 same:=fun a=>by simp[Instr.sameBits]
end
end Go.Ab.W
section
open Go Go.Ab Go.Ab.W
abbrev X5:=@Wn.nil
abbrev XU:=@Wn.od
abbrev Yf:=@Wn.og
abbrev Yd:=@Wn.s
abbrev Yh:=@Wn.au
abbrev Ya:=@Wk.ef
end
end
section
namespace Go.Ab.W
open Go Go.Ab
set_option maxRecDepth 10000
attribute [local irreducible] Tm.at Trie.set Trie.get Yq.get Yq.set Yq.alloc Yq.ww
def rX(ps:YB Pc):∀(k:Nat) (p:Pc),pk ps k=some p->bJ ps k p=ps:=by
 induction ps with
 | nil=>intro k p h; exact nomatch h
 | cons q l ih =>
  intro k p h;cases k with
  | zero=>rw[jA] at h; cases h; rfl
  | succ k=>rw[eE] at h; simp only[bJ,ih k p h]
section
variable{E:Env}{n:Nat}{m0:Yq}{fs:Fs}{ps:YB Pc}{x y z:XK}{v:XI}{ty ty2:XJ}
def EH{elem lo hi mx b o len cap w k:Nat}{cs:YB XI}{tg:Tag}{lx hx kx:YA XK}{l h q:YA XI}(ht:SlT E.P ty elem w)(hv:ev E fs x=some (.slice (some ⟨b,o,none⟩) len cap))(e1:jJ E fs lx=some l)(e2:jJ E fs hx=some h)(e3:jJ E fs kx=some q)
  (hp:pk ps k=some (.obj b (.cells cs tg))) (htg:Lr tg=true) (hb:bT len cap l h q=some (lo,hi,mx)) {o':Nat} (ho:o'=if mx=lo then o else o+lo*w) :
  Od E m0 fs ps (.slice ty x lx hx kx) (.slice (some ⟨b,o',none⟩) (hi-lo) (mx-lo)) ps :=
 fun t m hf hm=>⟨fun b' hb'=>by
  have:dT (.slice (some ⟨b,o,none⟩) len cap)=some b:=rfl;simp only[aM,hf.ev hv,VE,this] at hb';cases hb'; exact(hm.get hp).2.1,fun K hK=>by
  have hg:=(hm.get hp).2.2;have hs:cd E.P ty (.slice (some ⟨b,o,none⟩) len cap) l h q m=some (.slice (some ⟨b,o',none⟩) (hi-lo) (mx-lo)):=by
   subst ho;cases tg with
   | more s=>cases htg
   | ro=>simp only[cd,ht.und,ht.known,if_true,hg,hb,ht.size]; split<;>rfl
   | own=>simp only[cd,ht.und,ht.known,if_true,hg,hb,ht.size]; split<;>rfl
  rw[Go.Ab.pa (hf.ev hv) (hf.jJ e1) (hf.jJ e2) (hf.jJ e3) hs]; exact hK m hm⟩
def Mu{m:Yq}{b o l c w q k:Nat}{cs:YB XI}{tg:Tag}(hm:Hp m0 m ps)(hp:pk ps k=some (.obj b (.cells cs tg)))(h0:q≠0)(hl:o+q*w<=cs.length):cW w (.slice (some ⟨b,o,none⟩) l c) q m=some ((cs.drop o).take (q*w)):=by
 have hg:=(hm.get hp).2.2;have h1:((cs.drop o).take (q*w)).length=q*w:=by simp; omega
 simp only[cW,U3 h0,Yq.ek,hg,U5 h1]
def QM{elem w b o l c k:Nat}{cs zs:YB XI}{tg:Tag}{ars:YD XK}(ht:SlT E.P ty elem w)(ha:ia E fs ars.toList=some [.slice (some ⟨b,o,none⟩) l c])(hp:pk ps k=some (.obj b (.cells cs tg)))(htg:tv tg=true)
  (h0:l≠0) (hz:gq E.P elem l=some zs) (hzp:zs.all aP=true) (hne:zs≠[]) (hl:o+zs.length<=cs.length) :
  Od E m0 fs ps (.call ⟨.builtin .clear,ars,#[ty]⟩) undef (bJ ps k (.obj b (.cells (aB cs o zs) tg))) :=
 fun t m hf hm=>⟨fun b' hb'=>by simp[aM] at hb',fun K hK=>by
  have hg:=(hm.get hp).2.2;have hst:m.cU b o zs=some (m.set b (.cells (aB cs o zs) tg)):=by
   cases zs with
   | nil=>exact Vr rfl hne
   | cons a' new =>
    cases tg with
    | ro=>cases htg
    | own=>simp only[Yq.cU,hg,U5 hl]
    | more s=>simp only[Yq.cU,hg,U5 hl]
  obtain⟨q,rfl⟩:=Nat.exists_eq_succ_of_ne_zero h0;have:bg E.P .clear #[ty] [.slice (some ⟨b,o,none⟩) (q+1) c] m=some (undef,m.set b (.cells (aB cs o zs) tg)):=by
   have hty:(#[ty]:YD XJ)[0]? = some ty:=rfl;simp only[bg,hty,zl,ht.und,hz,hzp,if_true,hst,Vx]
   rfl
  rw[Go.Ab.dn (hf.ia ha) this];exact hK _ (hm.write hp rfl rfl rfl rfl ⟨(hm.get hp).1,by rw[Yq.next_set]; exact(hm.get hp).2.1,by rw[Yq.bz,U5 rfl]⟩)⟩
end
end Go.Ab.W
end
section
namespace Go.Ab.W
open Go Go.Ab
attribute [local irreducible] Tm.at Trie.set Trie.get Yq.get Yq.set Yq.alloc Yq.ww Yq.kill
section
variable{α:Type}
end
section
variable{E:Env}{n:Nat}{m0 m:Yq}{fs:Fs}{ps:YB Pc}{x y z:XK}{ty:XJ}
end
section
variable{E:Env}{n:Nat}{m0 m:Yq}{fs:Fs}{ps:YB Pc}
def uD(l:YB Pc):Bool:=l.all Pc.bound
def Be{α:Type}{V:α->XI}{N:α->YB Pc}{f:XK}{g:YI}{ars:YD XK}{ts:YD XJ}{args:YB XI}(hf:ev E fs f=some (.func (.func g) #[] #[]))(ha:ia E fs ars.toList=some args)(hc:∀m,Hp m0 m ps->aK E g args m (fun v m'=>∃x,v=V x/\Hp m m' (N x++[.gen (wG (nA ps))])))(ho:∀x,uD (N x)=true):Ox E m0 fs ps (.call ⟨.value f,ars,ts⟩) V (fun x=>N x++ps) :=
 nq hf ha fun m hm=>by
  simp only[Wc,VX];exact(hc m hm).mono fun v m' ⟨x,e,h⟩=>⟨x,e,hm.It h fun p hp=>Vo.1 (ho x) p hp⟩
def RP{α:Type}{V:α->XI}{N:α->YB Pc}{f:XK}{g:YI}{ars:YD XK}{ts:YD XJ}{args:YB XI}(hf:ev E fs f=some (.func (.func g) #[] #[]))(ha:ia E fs ars.toList=some args)(hc:∀m,Hp m0 m ps->aK E g args m (fun v m'=>∃x,v=V x/\Hp m m' (N x++[.gen (wG (nA ps))])))(ho:∀x,uD (N x)=true):Oc E m0 fs ps (.call ⟨.value f,ars,ts⟩) V (fun x=>N x++ps) :=
 fun t m hfr hm hwl=>⟨fun b hb=>(by simp[aM] at hb),fun K hK=>by
  show lh E (an E t f) (bC E t ars.toList) m _
  rw[hfr.ev hf,hfr.ia ha,qz];refine(hc m hm).mono fun v m' ⟨x,e,h⟩=>?_;rw[e];refine hK x m' (hm.It h fun p hp=>Vo.1 (ho x) p hp) ?_;have:=h.ext.wl;omega⟩
end
section
variable{E:Env}{n:Nat}{m0:Yq}{fs:Fs}{ps:YB Pc}{ops:YD Oper}{os:YB Oper}{dr:Bool}
def Wo.zW{K:Tm->Yq->Prop}{α:Type}{f:α->YB XI}{k w l cap:Nat}{a:XG}{xs:YB α}(hp:pk ps k=some (.rd a cap w l (xs.map f)))(h:l=xs.length->Wo dr E n ops K os m0 fs ps):Wo dr E n ops K os m0 fs ps:=by
 have key:∀m,Hp m0 m ps->l=xs.length:=fun m hm=>sA hm hp;cases dr with
 | false=>exact fun t m hf hm=>h (key m hm) t m hf hm
 | true=>exact fun t m w hf hm hw=>h (key m hm) t m w hf hm hw
def Wn.zW{prs:YB (Nat×Nat)}{K:Tm->Yq->Prop}{ss:YB Nk}{α:Type}{f:α->YB XI}{k w l cap:Nat}{a:XG}{xs:YB α}(hp:pk ps k=some (.rd a cap w l (xs.map f)))(h:l=xs.length->Wn E n ops prs K os ss m0 fs ps):Wn E n ops prs K os ss m0 fs ps :=
 fun t m ns hf hm hn=>h (sA hm hp) t m ns hf hm hn
end
section
variable{E:Env}{m0:Yq}{fs:Fs}{ps:YB Pc}{ty:XJ}
end
section
variable{E:Env}{m0:Yq}{fs:Fs}{ps:YB Pc}{ty:XJ}
end
end Go.Ab.W
end
section
namespace Go.Ab.W
open Go Go.Ab
section
variable{α:Type}
end
section
variable{α:Type}{E:Env}{m0 m:Yq}{fs:Fs}{ps:YB Pc}{f:α->YB XI}{w:Nat}
variable{x:XK}{ty:XJ}
variable{N:Nat}{ops:YD Oper}{os:YB Oper}{dr:Bool}
end
attribute [local irreducible] Tm.at Trie.set Trie.get Yq.get Yq.set Yq.alloc Yq.ww Yq.kill
section
variable{α:Type}{E:Env}{m0 m:Yq}{fs:Fs}{ps:YB Pc}{f:α->YB XI}{w:Nat}{ty:XJ}
def Sl{β:Type}{V:β->XI}{N:β->YB Pc}{fo:XK}{g:YI}{ars:YD XK}{ts:YD XJ}{args:YB XI}(hf:ev E fs fo=some (.func (.func g) #[] #[]))(ha:ia E fs ars.toList=some args)(hc:∀m,Hp m0 m ps->aK E g args m (fun v m'=>∃x,v=V x/\Hp m m' (N x)))(ho:∀x,∀p∈N x,p.bound=true/\∀b,p.any b->p.ow b):Ox E m0 fs ps (.call ⟨.value fo,ars,ts⟩) V (fun x=>N x++ps) :=
 nq hf ha fun m hm=>by
  simp only[Wc,VX];exact(hc m hm).mono fun v m' ⟨x,e,h⟩=>⟨x,e,hm.DC h (fun p hp=>(ho x p hp).1) fun p hp b hb=>.inl (Pc.s9 (h.ok p hp) (ho x p hp).1 ((ho x p hp).2 b hb))⟩
def Sn{β:Type}{V:β->XI}{N:β->YB Pc}{fo:XK}{g:YI}{ars:YD XK}{ts:YD XJ}{args:YB XI}(hf:ev E fs fo=some (.func (.func g) #[] #[]))(ha:ia E fs ars.toList=some args)(hc:∀m,Hp m0 m ps->aK E g args m (fun v m'=>∃x,v=V x/\Hp m m' (N x)))(ho:∀x,∀p∈N x,p.bound=true/\∀b,p.any b->p.ow b):Oc E m0 fs ps (.call ⟨.value fo,ars,ts⟩) V (fun x=>N x++ps) :=
 fun t m hfr hm hwl=>⟨fun b hb=>(by simp[aM] at hb),fun K hK=>by
  show lh E (an E t fo) (bC E t ars.toList) m _
  rw[hfr.ev hf,hfr.ia ha,qz];refine(hc m hm).mono fun v m' ⟨x,e,h⟩=>?_;rw[e];refine hK x m' (hm.DC h (fun p hp=>(ho x p hp).1) fun p hp b hb=>.inl (Pc.s9 (h.ok p hp) (ho x p hp).1 ((ho x p hp).2 b hb))) ?_;have:=h.ext.wl;omega⟩
def Mx{β:Type}{V:β->XI}{N:β->YB Pc}{x:XK}{b off:Nat}(hx:ev E fs x=some (ptr b off))(hb:∀m,Hp m0 m ps->b<m.next)(h:∀m,Hp m0 m ps->∃z,eB E.P ty (ptr b off) m=some (V z)/\Hp m0 m (N z)):Ox E m0 fs ps (.load ty x) V N :=
 fun t m hf hm=>⟨fun b' hb'=>by
  have hx':an E t x=some (ptr b off):=hf.ev hx;simp only[aM,hx',VE] at hb';cases hb'; exact hb m hm,fun K hK=>by
  obtain⟨z,h1,h2⟩:=h m hm;rw[Go.Ab.HL (hf.ev hx) h1]; exact hK z m h2⟩
end
section
variable{α:Type}{E:Env}{n:Nat}{m0 m:Yq}{fs:Fs}{ps:YB Pc}{f:α->YB XI}{w:Nat}{ops:YD Oper}{os:YB Oper}{prs:YB (Nat×Nat)}{K:Tm->Yq->Prop}{ss:YB Nk}
end
def Rc(m:Yq)(RW:XH)(rb:Nat)(row:YB (Bool×YB Nat)):Prop :=
 rb<m.next/\∃vs,m.get rb=some (.cells vs .own)/\vs.length=row.length*2/\∀(j:Nat) (x:Bool×YB Nat),row[j]? = some x->vs[j*2]? = some (.bool x.1)/\∃a c,vs[j*2+1]? = some (.slice a x.2.length c)/\Rd m a c 1 x.2.length (x.2.map (eN .u64))/\∀b,mz a=some b->RW b
def Tn(ρ:Nat->Nat)(L:YB (YB (Bool×YB Nat)))(x:Nat):Prop:=∃i row,L[i]? = some row/\row≠[]/\x=ρ i
structure MatAt(m:Yq)(b n:Nat)(ρ:Nat->Nat)(RW:XH)(L:YB (YB (Bool×YB Nat))):Prop where
 lt:b<m.next
 len:n=L.length
 cells:∃cs,m.get b=some (.cells cs .own)/\cs.length=n/\∀(i:Nat) (row:YB (Bool×YB Nat)),L[i]? = some row->(row=[]/\cs[i]? = some (.slice none 0 0))\/(row≠[]/\cs[i]? = some (.slice (some ⟨ρ i,0,none⟩) row.length row.length))
 rows:∀(i:Nat) (row:YB (Bool×YB Nat)),L[i]? = some row->row≠[]->Rc m RW (ρ i) row
 rw:∀x,RW x->x<m.next/\x≠b/\¬Tn ρ L x
 out:∀(i:Nat) (row:YB (Bool×YB Nat)),L[i]? = some row->row≠[]->ρ i≠b
 inj:∀(i j:Nat) (row row':YB (Bool×YB Nat)),L[i]? = some row->L[j]? = some row'->row≠[]->row'≠[]->ρ i=ρ j->i=j
section
variable{E:Env}{m0 m:Yq}{fs:Fs}{ps:YB Pc}{x y:XK}{ty:XJ}{b n:Nat}{ρ:Nat->Nat}{RW:Nat->Prop}{L:YB (YB (Bool×YB Nat))}
end
section
variable{E:Env}{m0 m:Yq}{fs:Fs}{ps:YB Pc}{x y z:XK}{ty:XJ}{H:Nat->Prop}{M:YB (YA Nat×YB (Int×Bool))}
end
end Go.Ab.W
end
section
namespace Go.Ab.W
open Go Go.Ab
section
variable{P:XL}{ty el:XJ}
def oO{eq:XJ->XI->XI->YA Bool}{xs ys:YD XI}{t off:Nat}{rest:YB (XJ×Nat)}{x y:XI}{b r:Bool}(h1:dA P t xs off=some x)(h2:dA P t ys off=some y)(h3:eq t x y=some b)(h4:iL eq P xs ys rest=some r):iL eq P xs ys ((t,off)::rest)=some (b&&r):=by
 unfold iL;rw[h1,h2]
 dsimp only
 rw[h3];cases b with
 | true=>exact h4
 | false=>rfl
end
section
variable{P:XL}{ty:XJ}
def GK(P:XL)(ty u v:XJ)(k l:IntKind):Bool:=match P.underlying ty with
 | some (.struct fs) => !(P.stoodInHeld ty || fs.any (·.name == "_")) && (fs.toList.map (fun f => (f.type, f.offset)) == [(u, 0), (v, 1)]) && known P u && known P v && (match P.underlying u, P.underlying v with | some (.int k'), some (.int l') => k' == k && l' == l | _, _ => false)
 | _=>false
def w8 {u v : XJ} {k l : IntKind} (h : GK P ty u v k l = true) : ∃ fs, P.underlying ty = some (.struct fs) /\ (P.stoodInHeld ty || fs.any (·.name == "_")) = false /\ fs.toList.map (fun f => (f.type, f.offset)) = [(u, 0), (v, 1)] /\
  known P u=true/\known P v=true/\P.underlying u=some (.int k)/\P.underlying v=some (.int l):=by
 unfold GK at h
 split at h
 rename_i fs hf;simp only[Va,Wa,beq_iff_eq] at h;obtain⟨⟨⟨⟨h1,h2⟩,h3⟩,h4⟩,h5⟩:=h
 split at h5
 rename_i k' l' e1 e2;simp only[Va,beq_iff_eq] at h5;obtain⟨rfl,rfl⟩:=h5;exact⟨fs,hf,h1,h2,h3,h4,e1,e2⟩
 cases h5
 cases h
def xW{el:XJ}{k:IntKind}(he:P.underlying el=some (.int k))(d:Nat)(x y:Int):k8 P (d+1) el (.int k x) (.int k y)=some (decide (x=y)):=by
 simp only[k8,he,if_true]
 rfl
def NX{u v:XJ}{k l:IntKind}(h:GK P ty u v k l=true)(a c b d:Int) :
  k8 P Op.maxDepth ty (.agg #[.int k a,.int l b]) (.agg #[.int k c,.int l d])=some (decide (a=c)&&decide (b=d)):=by
 obtain⟨fs,hf,h1,h2,h3,h4,h5,h6⟩:=w8 h;have a1:eh P u=false:=by simp only[eh,h5]
 have a2:eh P v=false:=by simp only[eh,h6]
 have p0:∀x y:XI,dA P u #[x,y] 0=some x:=fun x y=>by simp only[dA,h3,a1]; rfl
 have p1:∀x y:XI,dA P v #[x,y] 1=some y:=fun x y=>by simp only[dA,h4,a2]; rfl
 show k8 P (9999+1) ty _ _=_
 unfold k8;simp only[hf,h1,VG,if_false,h2];rw[oO (p0 _ _) (p0 _ _) (xW h5 9998 a c) (oO (p1 _ _) (p1 _ _) (xW h6 9998 b d) rfl)];simp only[Bool.and_true]
def Jk{u v:XJ}{k l:IntKind}(h:GK P ty u v k l=true):KeyE P ty (fun p:Int×Int=>.agg #[.int k p.1,.int l p.2]) where
 eq:=fun a b=>by
  rw[NX h]
  congr 1
  by_cases h:a=b
  subst h; simp
  have:¬(a.1=b.1/\a.2=b.2):=fun⟨h1,h2⟩=>h (VN h1 h2);rw[Vj h,<-V5,Vj this]
 ok:=fun a=>by
  obtain⟨fs,hf,h1,h2,h3,h4,h5,h6⟩:=w8 h;have k1:dH P u=true:=by simp only[dH,h5]
  have k2:dH P v=true:=by simp only[dH,h6]
  have e:fs.toList.all (fun f=>dH P f.type&&known P f.type&&decide (f.offset<(#[Value.int k a.1,.int l a.2]:YD XI).size)) =
    (fs.toList.map fun f=>(f.type,f.offset)).all fun x=>dH P x.1&&known P x.1&&decide (x.2<(#[Value.int k a.1,.int l a.2]:YD XI).size):=by rw[List.all_map]; rfl
  simp only[lA,hf];rw[e,h2];simp only[W0,List.all_nil,k1,k2,h3,h4]
  rfl
 plain:=fun a=>rfl
 same:=fun a=>by simp[Instr.sameBits]
def Oj{k:IntKind}(a b c d:Int){ts:YD XJ}(m:Yq):bg P .max ts [.int k a,.int k b,.int k c,.int k d] m=some (.int k (ma (ma (ma a b) c) d),m):=rfl
end
attribute [local irreducible] Tm.at Trie.set Trie.get Yq.get Yq.set Yq.alloc Yq.ww Yq.kill
section
variable{E:Env}{n:Nat}{m0 m:Yq}{fs:Fs}{ps:YB Pc}{x y:XK}{ty:XJ}
def pF(a:XG)(cap w l:Nat)(es:XF):GPc where
 ow b:=mz a=some b
 rd _:=False
 P m:=es.length=l/\(∀e∈es,e.length=w)/\0<w/\l<=cap/\((a=none/\cap=0)\/∃b jk tg,a=some ⟨b,0,none⟩/\b<m.next/\m.get b=some (.cells (es.flatten++jk) tg)/\(tg=.own\/tg=.more w)/\(es.flatten++jk).length=cap*w)
 st m m' h hn hg:=by
  obtain⟨h1,h2,h3,h4,h5⟩:=h;refine⟨h1,h2,h3,h4,?_⟩;rcases h5 with h5|⟨b,jk,tg,rfl,h6,h7,h8⟩
  exact .inl h5
  exact .inr ⟨b,jk,tg,rfl,by omega,by rw[hg b (.inl rfl) h6]; exact h7,h8⟩
 lt m b h hb:=by
  obtain⟨_,_,_,_,h5⟩:=h;rcases hb with hb|hb
  rcases h5 with⟨rfl,_⟩|⟨b',_,_,rfl,h6,_⟩
  cases hb
  cases hb; exact h6
  exact hb.elim
variable{α:Type}{f:α->YB XI}{elem:XJ}{k cap w l:Nat}{a:XG}{es:XF}{xs:YB α}
def ai.zr(hp:pk ps k=some (.sl a w l es)):ai m0 ps (bJ ps k (.gen (pF a l w l es))):=fun m h=>by
 have h0:=h.get hp;refine h.Gm hp (fun b hb=>.inl (.inl ⟨rfl,?_⟩)) (fun b hb=>.inl (.inl ?_)) (U8 _) h.ext ⟨?_,fun _ b hb=>?_⟩ fun _ _ _=>rfl
 rcases hb with hb|hb
 cases hb.1
 exact hb
 rcases hb with hb|hb
 cases hb
 rcases hb with hb|hb
 exact hb
 exact hb.elim
 rcases h0 with⟨rfl,rfl,rfl,h1⟩|⟨b,tg,rfl,h1⟩
 exact⟨rfl,fun e he=>(by cases he),h1,U8 _,.inl ⟨rfl,rfl⟩⟩
 exact⟨h1.2.2.2.1,h1.2.2.2.2.1,h1.2.2.2.2.2.2,U8 _,.inr ⟨b,[],tg,rfl,h1.2.1,by rw[VX]; exact h1.2.2.1,h1.2.2.2.2.2.1,by rw[VX,cF h1.2.2.2.2.1,h1.2.2.2.1]⟩⟩
 have hb:mz a=some b:=hb;rcases h0 with⟨_,_,rfl,_⟩|⟨b',tg,rfl,h1⟩
 cases hb
 cases hb; exact h1.1
def Pt{a:XG}{cap w l:Nat}{es:XF}(h:(pF a cap w l es).P m):Rd m a cap w l es:=by
 obtain⟨h1,h2,h3,h4,h5⟩:=h;refine⟨h1,h4,?_⟩;rcases h5 with⟨rfl,rfl⟩|⟨b,jk,tg,rfl,h6,h7,h8,h9⟩
 exact .inl ⟨rfl,by omega⟩
 refine .inr (.inr ⟨b,0,rfl,h6,_,tg,h7,fun sz e=>by rcases h8 with h|h<;>rw[h] at e<;>cases e; rfl,fun i e he=>?_⟩)
 have hi:i<es.length:=(Vn.1 he).1;have hl:=h2 e (VD he);refine⟨?_,hl⟩;have:=qM h2 he;rw[VC,List.drop_append_of_le_length (by rw[cF h2]; exact V1 w (by omega)),List.take_append_of_le_length,this]
 rw[VZ,cF h2];have:(i+1)*w<=es.length*w:=V1 w hi;rw[V2] at this; omega
def ai.GH(hp:pk ps k=some (.gen (pF a cap w l es))):ai m0 ps (bJ ps k (.rd a cap w l es)):=fun m h =>
 h.Gm hp (fun b hb=>.inl (.inr (by rcases hb with hb|hb; cases hb.1; exact hb.elim))) (fun b hb=>.inl (.inr (.inl (by rcases hb with hb|hb; exact hb; exact hb.elim)))) (U8 _) h.ext (Pt (h.get hp).1) fun _ _ _=>rfl
def ai.UB{i:Nat}(hp:pk ps k=some (.gen (pF a cap w l es)))(hi:i<=l):ai m0 ps (bJ ps k (.gen (pF a cap w i (es.take i)))):=fun m h=>by
 refine h.Gm hp (fun b hb=>.inl (.inr (by rcases hb with hb|hb; cases hb.1; exact hb))) (fun b hb=>.inl (.inr (by rcases hb with hb|hb; cases hb; exact hb))) (U8 _) h.ext ⟨?_,fun _ b hb=>(h.get hp).2 rfl b hb⟩ fun _ _ _=>rfl
 obtain⟨h1,h2,h3,h4,h5⟩:=(h.get hp).1;refine⟨by rw[Vw]; omega,fun e he=>h2 e (WC he),h3,by omega,?_⟩
 rcases h5 with h5|⟨b,jk,tg,rfl,h6,h7,h8,h9⟩
 exact .inl h5
 have e:es.flatten++jk=(es.take i).flatten++((es.drop i).flatten++jk):=by rw[<-VT,<-Wz,List.take_append_drop]
 exact .inr ⟨b,(es.drop i).flatten++jk,tg,rfl,h6,by rw[<-e]; exact h7,h8,by rw[<-e]; exact h9⟩
def Na{ys:YB α}{hi:Int}{hx:YA XK}{kd:IntKind}(ht:SlT E.P ty elem w)(hv:ev E fs x=some (.slice a l cap))(e2:jJ E fs hx=some (some (.int kd hi)))(hp:pk ps k=some (.gen (pF a cap w l (xs.map f))))(hb:okB 0 hi l=true)(h0:0<l)(hys:xs.take hi.toNat=ys) :
  Od E m0 fs ps (.slice ty x none hx none) (.slice a ys.length cap) (bJ ps k (.gen (pF a cap w ys.length (ys.map f)))) :=
 fun t m hf hm=>by
  subst hys;have hP:=(hm.get hp).1;obtain⟨h1,h2,h3,h4,h5⟩:=hP;obtain⟨_,b2,b3⟩:=vC hb;have hlen:(xs.take hi.toNat).length=hi.toNat:=by rw[Vw]; rw[Vf] at h1; omega
  rcases h5 with⟨_,h⟩|⟨b,jk,tg,rfl,h6,h7,h8,h9⟩
  omega
  refine⟨fun b' hb'=>?_,fun K hK=>?_⟩
  have:dT (.slice (some ⟨b,0,none⟩) l cap)=some b:=rfl;simp only[aM,hf.ev hv,VE,this] at hb';cases hb'; exact h6
  have hbd:bT l cap none (some (.int kd hi)) none=some (0,hi.toNat,cap):=oV (V9 _) (by omega) (.inl ⟨rfl,rfl⟩) (.inr ⟨kd,by rw[Ws b2]⟩)
  have hs:cd E.P ty (.slice (some ⟨b,0,none⟩) l cap) none (some (.int kd hi)) none m=some (.slice (some ⟨b,0,none⟩) hi.toNat cap):=by
   rcases h8 with rfl|rfl
   simp only[cd,ht.und,ht.known,if_true,h7,hbd,ht.size,Xg,Wf,WK,ite_self]
   simp only[cd,ht.und,ht.known,if_true,h7,hbd,ht.size,Xg,Wf,WK];rw[U3 (by simp),XP]
  rw[Go.Ab.pa (hf.ev hv) (hf.jJ rfl) (hf.jJ e2) (hf.jJ rfl) hs,<-hlen];refine hK m ?_;have:=ai.UB (m0:=m0) (i:=(xs.take hi.toNat).length) hp (by rw[hlen]; omega) m hm
  rwa[<-List.map_take,show xs.take (xs.take hi.toNat).length=xs.take hi.toNat by rw[hlen]] at this
def CP {P:XL} {ty2 n0 c0:Nat} {a0:XG} {es2:XF} (ht:SlT P ty elem w) (h10:∃e2,P.underlying ty2=some (.slice e2)) (h:Hp m0 m ps) (hp:pk ps k=some (.gen (pF a cap w l es))) (hr:Rd m a0 c0 w n0 es2) (h7:∀e ∈ es2,e.length=w) (ho:db es2) (hl:lim (l+n0)=true) :
  ∃a' cap' m',bS P ty (some ty2) (.slice a l cap) (.slice a0 n0 c0) m=some (.slice a' (l+n0) cap',m')/\Hp m0 m' (bJ ps k (.gen (pF a' cap' w (l+n0) (es++es2)))):=by
 obtain⟨e2,h11⟩:=h10;obtain⟨inf,h12,h13,h14⟩:=ht.bytes;have hln:l+n0<=1073741824:=V7 hl;have hc:=hr.cells;have hlen2:es2.flatten.length=n0*w:=by rw[cF h7,hr.1]
 have hnew:dZ P elem (some ty2) (.slice a0 n0 c0) m=some (n0,es2.flatten):=by
  simp only[dZ,VE,h11,ht.size];have:cW w (.slice a0 n0 c0) n0 m=some es2.flatten:=hc;rw[this]; rfl
 have hfit:(P.info? elem).any (fun i=>cS i.bytes (l+n0)&&i.bytes != 0)=true:=by
  rw[h12];have hmul:(2*(l+n0)+2000)*inf.bytes<=(2*1073741824+2000)*1024:=Wr (by omega) h14
  simp only[Xx,cS,Va,Vm,bne_iff_ne,ne_eq];exact⟨by omega,h13⟩
 have hzero:(bp P elem).any (fun z=>z.cells.size==w&&z.cells.toList.all aP)=true:=ht.zero;have hpos:=ht.pos;have h15:(w==0)=false:=by simp; omega
 have hguard:(!(known P elem)||aE P elem==0 || !aZ es2.flatten || !(P.info? elem).any (fun i=>cS i.bytes (l+n0)&&i.bytes != 0)||es2.flatten.length != n0*aE P elem || !(bp P elem).any (fun z=>z.cells.size==aE P elem&&z.cells.toList.all aP))=false:=by
  rw[ht.size,ht.known,hfit,hzero,gF ho,h15,hlen2]; simp
 have hpc:=h.get hp;have hext:=h.ext;have hnew':∀{mm:Yq} {q:XF},q.length=l+n0->(∀e∈q,e.length=w)->(pF (some ⟨mm.next,0,none⟩) (l+n0) w (l+n0) q).P (mm.alloc (.cells q.flatten (.more w))):=fun{mm q} h0 h2 =>
  ⟨h0,h2,hpos,U8 _,.inr ⟨mm.next,[],.more w,rfl,by rw[Yq.next_alloc]; omega,by rw[Yq.aU,U5 rfl,VX],.inr rfl,by rw[VX,cF h2,h0]⟩⟩
 obtain⟨h0,h2,h18,h19,h16⟩:=hpc.1;have h3:(es++es2).length=l+n0:=by rw[Vd,h0,hr.1]
 have h4:∀e∈es++es2,e.length=w:=fun e he=>(Vq.1 he).elim (h2 e) (h7 e);have hfl:es.flatten.length=l*w:=by rw[cF h2,h0]
 have o5:∀b,(Pc.gen (pF a cap w l es)).ow b↔mz a=some b:=fun b=>⟨fun hb=>by rcases hb with hb|hb; cases hb.1; exact hb,fun hb=>.inr hb⟩
 have fresh:∀{mm:Yq} {c':Nat},m.next<=mm.next->Ext m0 mm->(∀b,mz a≠some b->b<m.next->mm.get b=m.get b)->∀{o:Ys},(pF (some ⟨mm.next,0,none⟩) c' w (l+n0) (es++es2)).P (mm.alloc o)->Hp m0 (mm.alloc o) (bJ ps k (.gen (pF (some ⟨mm.next,0,none⟩) c' w (l+n0) (es++es2)))):=fun{mm c'} hn he hg {o} hP =>
  h.Gm hp (fun b hb=>.inr (by rcases hb with hb|hb; cases hb.1; cases hb; exact hn)) (fun b hb=>.inr (by rcases hb with hb|hb; cases hb; rcases hb with hb|hb; cases hb; exact hn; exact hb.elim)) (by rw[Yq.next_alloc]; omega) (he.alloc _) ⟨hP,fun _ b hb=>by cases hb; exact VK hext.next hn⟩ fun b hb hlt=>by
   rw[Yq.aU,XP]; exact hg b (fun e=>hb ((o5 b).2 e)) hlt
 rcases h16 with⟨rfl,rfl⟩|⟨b,jk,tg,rfl,h17,h1,h6,h8⟩
 obtain rfl:l=0:=by omega
 obtain rfl:es=[]:=VJ.1 h0
 by_cases h5:n0=0
 subst h5;obtain rfl:es2=[]:=VJ.1 hr.1;refine⟨none,0,m,?_,?_⟩
 unfold bS;simp only[ht.und,hnew];rw[U3 (by rw[hguard]; exact VS)]
 rfl
 refine h.Gm hp (fun b hb=>.inl (.inr (by rcases hb with hb|hb; cases hb.1; exact hb))) (fun b hb=>.inl (.inr (by rcases hb with hb|hb; cases hb; exact hb))) (U8 _) h.ext ⟨⟨rfl,fun e he=>(by cases he),hpos,U8 _,.inl ⟨rfl,rfl⟩⟩,fun _ b hb=>(by cases hb)⟩ fun _ _ _=>rfl
 refine⟨some ⟨m.next,0,none⟩,n0,m.alloc (.cells es2.flatten (.more w)),?_,?_⟩
 unfold bS;simp only[ht.und,hnew];rw[U3 (by rw[hguard]; exact VS)]
 simp only[ht.size];rw[U3 (by simp),U3 h5,VC]
 have:=hnew' (mm:=m) (q:=[]++es2) h3 h4;rw[VC] at this ⊢;exact(by simpa using fresh (mm:=m) (c':=n0) (U8 _) hext (fun _ _ _=>rfl) (by simpa using this))
 ·have hlo:=hpc.2 rfl b rfl
  by_cases hcap:l+n0<=cap
  ·have hjk:n0*w<=jk.length:=by
    rw[Vd,hfl] at h8;have:=V1 w hcap;rw[WW] at this;omega
   have hsp:aB (es.flatten++jk) (l*w) es2.flatten=(es++es2).flatten++jk.drop (n0*w):=by
    have e0:=sR es.flatten jk es2.flatten 0;rw[Wf,hfl] at e0;rw[e0,Wz,VT]
    congr 1
    refine Wg fun i=>?_;rw[aQ,VC,WK,Xi,hlen2]
    by_cases hi:i<n0*w
    rw[U5 ⟨V9 _,hi,by omega⟩,U5 hi]
    rw[XP,U3 hi,Wl]
    congr 1; omega
   have hlenS:((es++es2).flatten++jk.drop (n0*w)).length=cap*w:=by
    rw[<-hsp,bc,h8]
   by_cases hz:es2.flatten=[]
   
   have h5:n0=0:=by
    rw[hz,WJ] at hlen2;rcases Nat.mul_eq_zero.1 hlen2.symm with e|e
    exact e
    omega
   subst h5;obtain rfl:es2=[]:=VJ.1 hr.1;refine⟨some ⟨b,0,none⟩,cap,m,?_,?_⟩
   unfold bS;simp only[ht.und,hnew];rw[U3 (by rw[hguard]; exact VS)]
   simp only[h1];rw[U5 hcap];simp[Yq.cU]
   rw[VX,Wf];refine h.Gm hp (fun b hb=>.inl hb) (fun b hb=>.inl hb) (U8 _) h.ext hpc fun _ _ _=>rfl
   ·refine⟨some ⟨b,0,none⟩,cap,m.set b (.cells ((es++es2).flatten++jk.drop (n0*w)) tg),?_,?_⟩
    ·have hst:m.cU b (0+l*w) es2.flatten=some (m.set b (.cells ((es++es2).flatten++jk.drop (n0*w)) tg)):=by
      rw[VC,<-hsp];have hfit':l*w+es2.flatten.length<=(es.flatten++jk).length:=by rw[hlen2,Vd,hfl]; omega
      cases h9:es2.flatten with
      | nil=>exact Vr h9 hz
      | cons v vs =>
       rw[h9] at hfit';rcases h6 with rfl|rfl<;>simp only[Yq.cU,h1]<;>rw[U5 hfit']
     unfold bS;simp only[ht.und,hnew];rw[U3 (by rw[hguard]; exact VS)]
     simp only[h1,ht.size];rw[U5 hcap,hst]; rfl
    refine h.Gm hp (fun b' hb=>.inl (by rcases hb with hb|hb; cases hb.1; exact .inr hb)) (fun b' hb=>.inl (by rcases hb with hb|hb; cases hb; exact .inr hb)) (by rw[Yq.next_set]; exact U8 _) (hext.set hlo _) ⟨⟨h3,h4,hpos,hcap,.inr ⟨b,jk.drop (n0*w),tg,rfl,by rw[Yq.next_set]; exact h17,by rw[Yq.bz,U5 rfl],h6,hlenS⟩⟩,fun _ b' hb=>by cases hb; exact hlo⟩ fun b' hb hlt=>?_
    rw[Yq.bz,U3 (fun e=>hb ((o5 b').2 (by rw[e]; rfl)))]
  have htake:(es.flatten++jk).take (l*w)=es.flatten:=by rw[List.take_append_of_le_length (by omega),WG (by omega)]
  rcases h6 with rfl|rfl
  refine⟨some ⟨m.next,0,none⟩,l+n0,m.alloc (.cells (es.flatten++es2.flatten) (.more w)),?_,?_⟩
  unfold bS;simp only[ht.und,hnew];rw[U3 (by rw[hguard]; exact VS)]
  simp only[ht.size,h1];rw[U3 hcap];have hld:m.ek b 0 (l*w)=some es.flatten:=by
   simp only[Yq.ek,h1,W3,htake];rw[U5 hfl]
  simp only[hld]
  have:=hnew' (mm:=m) h3 h4;rw[Wz] at this;exact fresh (U8 _) hext (fun _ _ _=>rfl) this
  refine⟨some ⟨(m.kill b).next,0,none⟩,l+n0,(m.kill b).alloc (.cells (es.flatten++es2.flatten) (.more w)),?_,?_⟩
  unfold bS;simp only[ht.und,hnew];rw[U3 (by rw[hguard]; exact VS)]
  simp only[ht.size,h1];rw[U3 hcap];simp only[and_self,if_true,htake,hfl,Yq.next_kill]
  have hk:Ext m0 (m.kill b):=⟨by rw[Yq.next_kill]; exact hext.next,fun x hx=>by rw[Yq.dv,XP]; exact hext.same x hx,by
   rw[Yq.wl_kill];have:=hext.wl; omega⟩
  have:=hnew' (mm:=m.kill b) h3 h4;rw[Wz] at this;exact fresh (by rw[Yq.next_kill]; exact U8 _) hk (fun b' hb' hlt=>by rw[Yq.dv,U3 (fun e=>hb' (by rw[e]; rfl))]) this
end
section
variable{E:Env}{n:Nat}{m0:Yq}{fs:Fs}{ps:YB Pc}{ops:YD Oper}{os:YB Oper}{K:Tm->Yq->Prop}{dr:Bool}
end
section
variable{E:Env}{n:Nat}{m0 m:Yq}{fs:Fs}{ps:YB Pc}{x y:XK}{ty:XJ}{v:XI}
end
section
variable{α γ:Type}[DecidableEq α]
end
section
variable{α γ:Type}[DecidableEq α]{E:Env}{m0 m:Yq}{fs:Fs}{ps:YB Pc}{f:γ->YB XI}{w:Nat}{kE:α->XI}
variable{x y z:XK}{ty:XJ}
omit [DecidableEq α] in
def M9{ars:YD XK}{elem l cap:Nat}(hu:E.P.underlying ty=some (.slice elem))(ha:ia E fs ars.toList=some [.slice none l cap]):Od E m0 fs ps (.call ⟨.builtin .cap,ars,#[ty]⟩) (.int .i64 (cap:Int)) ps :=
 fun t m hf h=>⟨fun b hb'=>by
  simp only[aM,hf.ia ha] at hb';have:dT (.slice none l cap)=none:=rfl;rw[this] at hb'; exact(Option.some_ne_none _ hb'.symm).elim,fun K hK=>by
  have:bg E.P .cap #[ty] [.slice none l cap] m=some (.int .i64 (cap:Int),m):=by
   have ht:(#[ty]:YD XJ)[0]? = some ty:=rfl;simp only[bg,ht,VE,hu]
  rw[Go.Ab.dn (hf.ia ha) this]; exact hK m h⟩
def SG{elem:XJ}{hx:YA XK}{hv:YA XI}(ht:SlT E.P ty elem w)(hv':ev E fs x=some (.slice none 0 0))(e2:jJ E fs hx=some hv)(hh:hv=none\/∃k,hv=some (.int k 0)) :
  Od E m0 fs ps (.slice ty x none hx none) (.slice none 0 0) ps :=
 fun t m hf h=>⟨fun b hb'=>by
  simp only[aM,hf.ev hv',VE] at hb';have e:dT (.slice none 0 0)=none:=rfl;rw[e] at hb';exact(Option.some_ne_none _ hb'.symm).elim,fun K hK=>by
  have hb:bT 0 0 none hv none=some (0,0,0):=by
   have:=oV (n:=0) (cap:=0) (lo:=0) (hi:=0) (U8 _) (U8 _) (l:=none) (h:=hv) (.inl ⟨rfl,rfl⟩) (hh.imp (fun e=>⟨e,rfl⟩) fun e=>e);exact this
  have hs:cd E.P ty (.slice none 0 0) none hv none m=some (.slice none 0 0):=by
   simp only[cd,ht.und,ht.known,if_true,hb]
  rw[Go.Ab.pa (hf.ev hv') (hf.jJ (x:=none) rfl) (hf.jJ e2) rfl hs];exact hK m h⟩
def wY{l:YB XI}(h:l.all aP=true):aZ l=true:=by
 unfold aZ;rw[Vo] at h ⊢;intro v hv;have:=h v hv;cases v<;>first|rfl|cases this
def OO{β:Type}{g:β->YB XI}{z0:β}{elem ty2:XJ}{kd:IntKind}{i:Int}{z:XI}{ars:YD XK}(ht:SlT E.P ty elem w)(ht2:E.P.underlying ty2=some (.int kd))(ha:ia E fs ars.toList=some [.slice none 0 0,.int .i64 i])(hi:decide (0<i)=true)(hl:lim i.toNat=true)(hz:bp E.P elem=some z)(hp:z.cells.toList.all aP=true)(hzf:z.cells.toList=g z0) :
  Ox E m0 fs ps (.call ⟨.builtin .append,ars,#[ty,ty2]⟩) (fun b=>.slice (some ⟨b,0,none⟩) i.toNat i.toNat) (fun b=>.arr b w i.toNat ((List.replicate i.toNat z0).map g) (.more w)::ps):=by
 obtain⟨n,rfl⟩:∃n:Nat,i=n:=⟨i.toNat,by have:=of_decide_eq_true hi; omega⟩
 have hn:0<n:=by have:=of_decide_eq_true hi; omega
 rw[VH] at hl ⊢;rw[<-LJ,<-hzf];have hzs:z.cells.size=w:=by have:=ht.zero; rw[hz] at this; simp only[Xx,Va,beq_iff_eq] at this; exact this.1
 refine .made (ob:=fun _=>.cells (List.replicate n z.cells.toList).flatten (.more w)) (p:=fun b=>.arr b w n (List.replicate n z.cells.toList) (.more w)) (fun t=>by simp[aM]) (fun t m hfr K=>?_) (fun _=>rfl) fun _ _ _ h1 h2 h3=>⟨h1,h2,h3,by simp,fun e he=>by rw[List.eq_of_mem_replicate he]; simpa using hzs,.inr rfl,ht.pos⟩
 have hln:n<=1073741824:=V7 hl;obtain⟨inf,hi1,hi2,hi3⟩:=ht.bytes;have hzz:gq E.P elem n=some (List.replicate n z.cells.toList).flatten:=by
  simp only[gq,hz,ht.size];rw[U5 hzs,sJ]
 have hall:(List.replicate n z.cells.toList).flatten.all aP=true:=by
  rw[Vo];intro v hv;obtain⟨l,h1,h2⟩:=List.mem_flatten.1 hv;rw[List.eq_of_mem_replicate h1] at h2;exact Vo.1 hp v h2
 have hnew:dZ E.P elem (some ty2) (.int .i64 (n:Int)) m=some (n,(List.replicate n z.cells.toList).flatten):=by
  simp only[dZ,VE,ht2];rw[XQ,VH,hzz,VE,U5 hall]
 have hfit:(E.P.info? elem).any (fun i=>cS i.bytes (0+n)&&i.bytes != 0)=true:=by
  rw[hi1];have hmul:(2*(0+n)+2000)*inf.bytes<=(2*1073741824+2000)*1024:=Wr (by omega) hi3
  simp only[Xx,cS,Va,Vm,bne_iff_ne,ne_eq];exact⟨by omega,hi2⟩
 have hzero:(bp E.P elem).any (fun z=>z.cells.size==w&&z.cells.toList.all aP)=true:=ht.zero;have hpos:=ht.pos;have hw0:(w==0)=false:=by simp; omega
 have hlen:(List.replicate n z.cells.toList).flatten.length=n*w:=by rw[cF (w:=w) (fun e he=>by rw[List.eq_of_mem_replicate he]; simpa using hzs),List.length_replicate]
 have hone:aZ (List.replicate n z.cells.toList).flatten=true:=wY hall;have hguard:(!(known E.P elem)||aE E.P elem==0 || !aZ (List.replicate n z.cells.toList).flatten || !(E.P.info? elem).any (fun i=>cS i.bytes (0+n)&&i.bytes != 0) ||(List.replicate n z.cells.toList).flatten.length != n*aE E.P elem || !(bp E.P elem).any (fun z=>z.cells.size==aE E.P elem&&z.cells.toList.all aP))=false:=by
  rw[ht.size,ht.known,hfit,hzero,hone,hw0,hlen]; simp
 have this:bg E.P .append #[ty,ty2] [.slice none 0 0,.int .i64 (n:Int)] m=some (.slice (some ⟨m.next,0,none⟩) n n,m.alloc (.cells (List.replicate n z.cells.toList).flatten (.more w))):=by
  show bS E.P ty (some ty2) (.slice none 0 0) (.int .i64 (n:Int)) m=_
  unfold bS;simp only[ht.und,hnew];rw[U3 (by rw[hguard]; exact VS)]
  simp only[ne_eq,not_true_eq_false,or_self,if_false,ht.size];rw[XP]
 rw[Go.Ab.dn (hfr.ia ha) this]
end
structure Rep(α:Type) where
 w:Nat
 G:Type
 V:α->G->YB XI
 A:Yq->(Nat->Prop)->α->G->Prop
 N:α->G->(Nat->Prop)->YB Pc
 mono:∀{m:Yq} {R R':XH} {x:α} {g:G},A m R x g->(∀b,R b->R' b)->A m R' x g
 st:∀{m m':Yq} {R:XH} {x:α} {g:G},A m R x g->m.next<=m'.next->(∀b,R b->b<m.next->m'.get b=m.get b)->A m' R x g
 len:∀x g,(V x g).length=w
 one:∀x g,(V x g).all mh=true
 hN:∀{lo:Nat} {m:Yq} {R:XH} {x:α} {g:G},A m R x g->(∀b,R b->b<m.next)->∀p∈N x g R,p.ok lo m/\(∀b,¬p.ow b)/\∀b,p.any b->R b
section
variable{α β:Type}
def Deep(r:Rep α)(m:Yq)(R:XH)(L:YB α)(es:XF):Prop :=
 es.length=L.length/\∀(i:Nat) (x:α),L[i]? = some x->∃g,es[i]? = some (r.V x g)/\r.A m R x g
def Deep.mono{r:Rep α}{m:Yq}{R R':XH}{L:YB α}{es:XF}(h:Deep r m R L es)(hR:∀b,R b->R' b):Deep r m R' L es :=
 ⟨h.1,fun i x hi=>by obtain⟨g,h1,h2⟩:=h.2 i x hi; exact⟨g,h1,r.mono h2 hR⟩⟩
def Deep.st{r:Rep α}{m m':Yq}{R:XH}{L:YB α}{es:XF}(h:Deep r m R L es)(hn:m.next<=m'.next)(hg:∀b,R b->b<m.next->m'.get b=m.get b):Deep r m' R L es :=
 ⟨h.1,fun i x hi=>by obtain⟨g,h1,h2⟩:=h.2 i x hi; exact⟨g,h1,r.st h2 hn hg⟩⟩
def Deep.nil{r:Rep α}{m:Yq}{R:XH}:Deep r m R [] []:=⟨rfl,fun i x h=>by simp at h⟩
def Deep.cons{r:Rep α}{m:Yq}{R:XH}{L:YB α}{es:XF}{x:α}{g:r.G}(hx:r.A m R x g)(h:Deep r m R L es):Deep r m R (x::L) (r.V x g::es) :=
 ⟨by simp[h.1],fun i y hi=>by
  cases i with
  | zero=>cases hi; exact⟨g,rfl,hx⟩
  | succ i=>exact h.2 i y (by simpa using hi)⟩
def Deep.append{r:Rep α}{m:Yq}{R:XH}{L L':YB α}{es es':XF}(h:Deep r m R L es)(h':Deep r m R L' es'):Deep r m R (L++L') (es++es') :=
 ⟨by simp[h.1,h'.1],fun i y hi=>by
  by_cases hlt:i<L.length
  rw[VU hlt] at hi;rw[VU (by rw[h.1]; exact hlt)]
  exact h.2 i y hi
  rw[VO (by omega)] at hi
  rw[VO (by rw[h.1]; omega),h.1]
  exact h'.2 _ y hi⟩
def Deep.sub{r:Rep α}{m:Yq}{R:XH}{L:YB α}{es:XF}(h:Deep r m R L es)(lo k:Nat):Deep r m R ((L.drop lo).take k) ((es.drop lo).take k) :=
 ⟨by simp[h.1],fun i y hi=>by
  rw[Wj] at hi ⊢
  split at hi
  rename_i hlt;rw[U5 hlt,Wl];rw[Wl] at hi;exact h.2 _ y hi
  cases hi⟩
def Deep.set{r:Rep α}{m:Yq}{R:XH}{L:YB α}{es:XF}{x:α}{g:r.G}(h:Deep r m R L es)(j:Nat)(hx:r.A m R x g):Deep r m R (L.set j x) (es.set j (r.V x g)) :=
 ⟨by simp[h.1],fun i y hi=>by
  rw[List.getElem?_set] at hi ⊢
  split at hi
  rename_i e;subst e
  split at hi
  rename_i hlt;cases hi;rw[U5 rfl,U5 (by rw[h.1]; exact hlt)]
  exact⟨g,rfl,hx⟩
  cases hi
  rename_i e;rw[U3 e];exact h.2 i y hi⟩
def Deep.db{r:Rep α}{m:Yq}{R:XH}{L:YB α}{es:XF}(h:Deep r m R L es):W.db es:=fun e he=>by
 obtain⟨i,hi,rfl⟩:=Vz.1 he;obtain⟨g,h1,_⟩:=h.2 i (L[i]'(by rw[<-h.1]; exact hi)) (by simp)
 rw[U4 hi] at h1;rw[U9 h1]; exact r.one _ _
def Deep.width{r:Rep α}{m:Yq}{R:XH}{L:YB α}{es:XF}(h:Deep r m R L es):∀e∈es,e.length=r.w:=fun e he=>by
 obtain⟨i,hi,rfl⟩:=Vz.1 he;obtain⟨g,h1,_⟩:=h.2 i (L[i]'(by rw[<-h.1]; exact hi)) (by simp)
 rw[U4 hi] at h1;rw[U9 h1]; exact r.len _ _
def cE(r:Rep α)(R:XH)(L:YB α)(es:XF):GPc where
 ow _:=False
 rd b:=R b
 P m:=Deep r m R L es/\∀b,R b->b<m.next
 st _ _ h hn hg:=⟨h.1.st hn fun b hb hlt=>hg b (.inr hb) hlt,fun b hb=>Vt (h.2 b hb) hn⟩
 lt _ b h hb:=hb.elim (fun h=>h.elim) (h.2 b)
def ep{r:Rep α}{R:XH}{L:YB α}{es:XF}{b:Nat}:¬Pc.ow (.gen (cE r R L es)) b:=fun h=>h.elim (fun h=>by cases h.1) fun h=>h
def oY{r:Rep α}{R:XH}{L:YB α}{es:XF}{b:Nat}(h:Pc.any (.gen (cE r R L es)) b):R b:=h.elim (fun h=>by cases h) fun h=>h.elim (fun h=>h.elim) id
def vX{a:XG}{cap w n:Nat}{es:XF}{b:Nat}:¬Pc.ow (.rd a cap w n es) b:=fun h=>h.elim (fun h=>by cases h.1) fun h=>h.elim
def CR{a:XG}{cap w n:Nat}{es:XF}{b:Nat}(h:Pc.any (.rd a cap w n es) b):mz a=some b:=h.elim id fun h=>h.elim
def rS(f:α->YB XI)(w:Nat):Rep (YB α) where
 w:=1
 G:=XG×Nat
 V l g:=[.slice g.1 l.length g.2]
 A m R l g:=Rd m g.1 g.2 w l.length (l.map f)/\∀b,mz g.1=some b->R b
 N l g _:=[.rd g.1 g.2 w l.length (l.map f)]
 mono h hR:=⟨h.1,fun b hb=>hR b (h.2 b hb)⟩
 st h hn hg:=⟨h.1.lS hn fun b hb hlt=>hg b (h.2 b hb) hlt,h.2⟩
 len _ _:=rfl
 one _ _:=rfl
 hN h _ p hp:=by
  rw[Vb.1 hp];exact⟨h.1,fun b=>vX,fun b hb=>h.2 b (CR hb)⟩
def rL(r:Rep α):Rep (YB α) where
 w:=1
 G:=XG×Nat×XF
 V l g:=[.slice g.1 l.length g.2.1]
 A m R l g:=Rd m g.1 g.2.1 r.w l.length g.2.2/\(∀b,mz g.1=some b->R b)/\Deep r m R l g.2.2
 N l g R:=[.rd g.1 g.2.1 r.w l.length g.2.2,.gen (cE r R l g.2.2)]
 mono h hR:=⟨h.1,fun b hb=>hR b (h.2.1 b hb),h.2.2.mono hR⟩
 st h hn hg:=⟨h.1.lS hn fun b hb hlt=>hg b (h.2.1 b hb) hlt,h.2.1,h.2.2.st hn hg⟩
 len _ _:=rfl
 one _ _:=rfl
 hN h hlt p hp:=by
  rcases Vu.1 hp with rfl|hp
  exact⟨h.1,fun b=>vX,fun b hb=>h.2.1 b (CR hb)⟩
  rw[Vb.1 hp];exact⟨⟨⟨h.2.2,hlt⟩,fun _ b hb=>hb.elim⟩,fun b=>ep,fun b hb=>oY hb⟩
def rP(r:Rep α)(s:Rep β):Rep (α×β) where
 w:=r.w+s.w
 G:=r.G×s.G
 V x g:=r.V x.1 g.1++s.V x.2 g.2
 A m R x g:=r.A m R x.1 g.1/\s.A m R x.2 g.2
 N x g R:=r.N x.1 g.1 R++s.N x.2 g.2 R
 mono h hR:=⟨r.mono h.1 hR,s.mono h.2 hR⟩
 st h hn hg:=⟨r.st h.1 hn hg,s.st h.2 hn hg⟩
 len x g:=by rw[Vd,r.len,s.len]
 one x g:=by rw[List.all_append,r.one,s.one]; rfl
 hN h hlt p hp:=by
  rcases Vq.1 hp with hp|hp
  exact r.hN h.1 hlt p hp
  exact s.hN h.2 hlt p hp
end
section
variable{α β:Type}{E:Env}{n:Nat}{m0 m:Yq}{fs:Fs}{ps:YB Pc}{r:Rep α}{r2:Rep β}{x:XK}{ty:XJ}
def xi:∀(l:YB Pc) (k:Nat),pk (l++ps) (l.length+k)=pk ps k
 | [],k=>by rw[Wc,WJ,VC]
 | p::l,k=>by rw[WY,VF,show l.length+1+k=(l.length+k)+1 by omega,eE,xi l k]
def Hp.JT{q:Nat}{p:Pc}(h:Hp m0 m ps)(hq:pk ps q=some p)(hpo:∀b,¬p.ow b):∀new:YB Pc,(∀r∈new,r.ok m0.next m/\(∀b,¬r.ow b)/\∀b,r.any b->p.any b)->Hp m0 m (new++ps)
 | [],_=>h
 | r::l,hl=>(h.JT hq hpo l fun r' h'=>hl r' (Ve _ h')).Bi (k:=l.length+q) (by rw[xi]; exact hq) hpo (hl r (Vp ..)).1 (hl r (Vp ..)).2.1 (hl r (Vp ..)).2.2
def QI{ag:Bool}{sz b o w j c q off:Nat}{R:XH}{L:YB α}{es:XF}{z:α}{V:r.G->XI}{N:r.G->YB Pc}(ht:TyI E.P ty ag sz)(hx:ev E fs x=some (ptr b off))(ho:off=o+j*w+c)(hli:∀m,Hp m0 m ps->rM m b o w es)(hq:pk ps q=some (.gen (cE r R L es)))(hl:L[j]? = some z)(hv:∀g,Ag ag sz (r.V z g) c=some (V g))(hs:yO ag sz c w=true)(hN:∀g,N g=r.N z g R++ps):Ox E m0 fs ps (.load ty x) V N:=by
 subst ho;refine Mx hx (fun m hm=>(hli m hm).1) fun m hm=>?_;have hP:=(hm.get hq).1;obtain⟨g,h1,h2⟩:=hP.1.2 j z hl;have hs:=yh hs;refine⟨g,rN ht (hli m hm) h1 (hv g) hs.1 hs.2,?_⟩;rw[hN];exact hm.JT hq (fun b=>ep) _ fun p hp=>by
  obtain⟨a1,a2,a3⟩:=r.hN h2 hP.2 p hp;exact⟨a1,a2,fun b hb=>.inr (.inr (a3 b hb))⟩
def RZ{k b o w l:Nat}{es:XF}(hp:pk ps k=some (.ro b o w l es)):∀m,Hp m0 m ps->rM m b o w es:=fun _ h=>(h.get hp).2
def Hp.yb{j q:Nat}{R:XH}{L:YB α}{es:XF}{z:α}(hm:Hp m0 m ps)(hq:pk ps q=some (.gen (cE r R L es)))(hl:L[j]? = some z):∃g,es[j]? = some (r.V z g)/\Hp m0 m (r.N z g R++ps):=by
 have hP:=(hm.get hq).1;obtain⟨g,h1,h2⟩:=hP.1.2 j z hl;exact⟨g,h1,hm.JT hq (fun b=>ep) _ fun p hp=>by
  obtain⟨a1,a2,a3⟩:=r.hN h2 hP.2 p hp;exact⟨a1,a2,fun b hb=>.inr (.inr (a3 b hb))⟩⟩
def Lf(m0:Yq)(ps:YB Pc)(r:Rep α)(z:α)(g:r.G)(S:XH):Prop:=∀m,Hp m0 m ps->r.A m S z g/\∀b,S b->∃q∈ps,(∀b,¬q.ow b)/\q.any b
def Lf.s{f:α->YB XI}{a:XG}{k cap w:Nat}{l:YB α}(hp:pk ps k=some (.rd a cap w l.length (l.map f))):Lf m0 ps (rS f w) l (a,cap) (fun b=>mz a=some b):=fun _ hm =>
 ⟨⟨hm.get hp,fun _ h=>h⟩,fun _ hb=>⟨_,jO hp,fun _=>vX,.inl hb⟩⟩
def Lf.s0{f:α->YB XI}{w:Nat}:Lf m0 ps (rS f w) [] (none,0) (fun _=>False):=fun _ _=>⟨⟨Rd.nil _ _,fun _ h=>(by cases h)⟩,fun _ h=>h.elim⟩
def Lf.l{a:XG}{k cap w q:Nat}{R:XH}{l:YB α}{es:XF}(hp:pk ps k=some (.rd a cap w l.length es))(hq:pk ps q=some (.gen (cE r R l es)))(hw:r.w=w):Lf m0 ps (rL r) l (a,cap,es) (fun b=>mz a=some b\/R b):=fun _ hm=>by
 subst hw;exact⟨⟨hm.get hp,fun _ h=>.inl h,(hm.get hq).1.1.mono fun _ h=>.inr h⟩,fun _ hb=>hb.elim (fun hb=>⟨_,jO hp,fun _=>vX,.inl hb⟩) fun hb=>⟨_,jO hq,fun _=>ep,.inr (.inr hb)⟩⟩
def Lf.l0:Lf m0 ps (rL r) [] (none,0,[]) (fun _=>False):=fun _ _=>⟨⟨Rd.nil _ _,fun _ h=>(by cases h),Deep.nil⟩,fun _ h=>h.elim⟩
def Lf.p{z:α}{y:β}{g:r.G}{g':r2.G}{S S':XH}(h:Lf m0 ps r z g S)(h':Lf m0 ps r2 y g' S'):Lf m0 ps (rP r r2) (z,y) (g,g') (fun b=>S b\/S' b):=fun m hm =>
 ⟨⟨r.mono (h m hm).1 fun _ h=>.inl h,r2.mono (h' m hm).1 fun _ h=>.inr h⟩,fun b hb=>hb.elim ((h m hm).2 b) ((h' m hm).2 b)⟩
def jg(m0:Yq)(ps:YB Pc)(r:Rep α)(L:YB α)(es:XF)(S:XH):Prop:=∀m,Hp m0 m ps->Deep r m S L es/\∀b,S b->∃q∈ps,(∀b,¬q.ow b)/\q.any b
def jg.nil:jg m0 ps r [] [] (fun _=>False):=fun _ _=>⟨.nil,fun _ h=>h.elim⟩
def jg.cons{z:α}{g:r.G}{S S':XH}{L:YB α}{es:XF}(h:Lf m0 ps r z g S)(h':jg m0 ps r L es S'):jg m0 ps r (z::L) (r.V z g::es) (fun b=>S b\/S' b):=fun m hm =>
 ⟨.cons (r.mono (h m hm).1 fun _ h=>.inl h) ((h' m hm).1.mono fun _ h=>.inr h),fun b hb=>hb.elim ((h m hm).2 b) ((h' m hm).2 b)⟩
def Hp.K2{S:XH}{p:Pc}(h:Hp m0 m ps)(hp:p.ok m0.next m)(ho:∀b,¬p.ow b)(ha:∀b,p.any b->∃q∈ps,(∀b,¬q.ow b)/\q.any b):Hp m0 m (p::ps) :=
 ⟨h.ext,fun q hq=>by
  rcases Vu.1 hq with rfl|hq
  exact hp
  exact h.ok q hq,VA.2 ⟨fun q hq=>⟨fun b h1 _=>ho b h1,fun b h1 h2=>by
  obtain⟨q',hq',h3,h4⟩:=ha b h2;obtain⟨i,hi⟩:=kY hq;obtain⟨j,hj⟩:=kY hq'
  by_cases e:i=j
  subst e;rw[hi] at hj;exact h3 b (by rw[<-U9 hj]; exact h1)
  exact(fN h.apart hi hj e).1 b h1 h4⟩,h.apart⟩⟩
def ai.dp{L:YB α}{es:XF}{S:XH}(h:jg m0 ps r L es S):ai m0 ps (.gen (cE r S L es)::ps):=fun m hm=>by
 obtain⟨h1,h2⟩:=h m hm;refine hm.K2 (S:=S) ⟨⟨h1,fun b hb=>?_⟩,fun _ b hb=>hb.elim⟩ (fun _=>ep) fun b hb=>h2 b (oY hb);obtain⟨q,hq,_,h4⟩:=h2 b hb;exact Pc.fY (hm.ok q hq) h4
def ai.HT:ai m0 ps (.gen (cE r (fun _=>False) [] [])::ps):=ai.dp .nil
def Hp.JX{q:Nat}{R S:XH}{L L':YB α}{es es':XF}(h:Hp m0 m ps)(hq:pk ps q=some (.gen (cE r R L es)))(h1:Deep r m (fun b=>R b\/S b) L' es')(h2:∀b,S b->∃q∈ps,(∀b,¬q.ow b)/\q.any b):Hp m0 m (bJ ps q (.gen (cE r (fun b=>R b\/S b) L' es'))):=by
 have hP:=h.get hq;refine⟨h.ext,fun p hp=>?_,jK hq (fun p hp ha=>⟨fun b h3 _=>(ep h3).elim,fun b h3 h4=>?_⟩) h.apart⟩
 rcases xw hp with hp|rfl
 exact h.ok p hp
 refine⟨⟨h1,fun b hb=>hb.elim (hP.1.2 b) fun hb=>?_⟩,fun _ b hb=>hb.elim⟩;obtain⟨q',hq',_,h5⟩:=h2 b hb;exact Pc.fY (h.ok q' hq') h5
 rcases oY h4 with h4|h4
 exact ha.2 b h3 (.inr (.inr h4))
 obtain⟨q',hq',h5,h6⟩:=h2 b h4;obtain⟨i,hi⟩:=kY hp;obtain⟨j,hj⟩:=kY hq'
 by_cases e:i=j
 subst e;rw[hi] at hj;exact h5 b (by rw[<-U9 hj]; exact h3)
 exact(fN h.apart hi hj e).1 b h3 h6
def ai.AS{q j:Nat}{R S:XH}{L:YB α}{es:XF}{z:α}{g:r.G}(hq:pk ps q=some (.gen (cE r R L es)))(h:Lf m0 ps r z g S):ai m0 ps (bJ ps q (.gen (cE r (fun b=>R b\/S b) (L.set j z) (es.set j (r.V z g))))):=fun m hm =>
 hm.JX hq (((hm.get hq).1.1.mono fun _ h=>.inl h).set j (r.mono (h m hm).1 fun _ h=>.inr h)) (h m hm).2
def ai.Eu{q q2:Nat}{R S:XH}{L L':YB α}{es es':XF}(hq:pk ps q=some (.gen (cE r R L es)))(hq2:pk ps q2=some (.gen (cE r S L' es'))):ai m0 ps (bJ ps q (.gen (cE r (fun b=>R b\/S b) (L++L') (es++es')))):=fun m hm =>
 hm.JX hq (((hm.get hq).1.1.mono fun _ h=>.inl h).append ((hm.get hq2).1.1.mono fun _ h=>.inr h)) fun _ hb=>⟨_,jO hq2,fun _=>ep,.inr (.inr hb)⟩
def ai.ID{q:Nat}{R:XH}{L:YB α}{es:XF}(hq:pk ps q=some (.gen (cE r R L es))):ai m0 ps (.gen (cE r R L es)::ps):=fun m hm =>
 hm.Bi hq (fun _=>ep) (hm.get hq) (fun _=>ep) fun _ h=>h
def Pc.wA{lo w l:Nat}{a:XG}{es:XF}(h:Pc.ok lo m (.sl a w l es)):l=es.length:=by
 rcases h with⟨h0,h1,_⟩|⟨b,tg,_,h1⟩
 rw[h0,h1]; rfl
 exact h1.2.2.2.1.symm
def Bm{elem ty2:XJ}{w k k2 q q2 c0 l l1:Nat}{a a0:XG}{R S:XH}{L L':YB α}{es es':XF}{ars:YD XK}{p0:Pc}(ht:SlT E.P ty elem w)(h3:∃e2,E.P.underlying ty2=some (.slice e2))(ha:ia E fs ars.toList=some [.slice a l l,.slice a0 l1 c0])(hp:pk ps k=some (.sl a w l es))(hq:pk ps q=some (.gen (cE r R L es)))(h1:pk ps k2=some p0)(hr:IsRd p0 a0 c0 w l1 es')(h0:pk ps q2=some (.gen (cE r S L' es')))(hw:r.w=w)(hl:lim (L++L').length=true) :
  Ox E m0 fs ps (.call ⟨.builtin .append,ars,#[ty,ty2]⟩) (fun y:XG ×(Nat->Prop)=>.slice y.1 (L++L').length (L++L').length) (fun y=>bJ (bJ ps q (.gen (cE r y.2 (L++L') (es++es')))) k (.sl y.1 w (L++L').length (es++es'))):=fun t m hf hm=>⟨fun b hb=>(by simp[aM] at hb),fun K hK=>by
 have e1:l=L.length:=by rw[Pc.wA (hm.get hp),(hm.get hq).1.1.1]
 have e2:l1=L'.length:=by rw[<-(hm.rd h1 hr).1,(hm.get h0).1.1.1]
 have e0:l+l1=(L++L').length:=by rw[e1,e2,Vd]
 have h4:=ai.Eu (m0:=m0) hq h0 m hm;have hkq:k≠q:=fun e=>by rw[e,hq] at hp; cases hp
 have h5:pk (bJ ps q (.gen (cE r (fun b=>R b\/S b) (L++L') (es++es')))) k=some (.sl a w l es):=by
  have:∀(l:YB Pc) (q k:Nat) (x:Pc),k≠q->pk (bJ l q x) k=pk l k:=by
   intro l
   induction l with
   | nil=>intro q k x _; rfl
   | cons p l ih =>
    intro q k x hne;cases q with
    | zero =>
     cases k with
     | zero=>exact Vr rfl hne
     | succ k=>rfl
    | succ q =>
     cases k with
     | zero=>rfl
     | succ k=>rw[dK,eE,eE]; exact ih q k x fun e=>hne (by rw[e])
  rw[this ps q k _ hkq]; exact hp
 obtain⟨a',m',h6,h2⟩:=rB (n:=l) ht h3 h4 h5 (hm.rd h1 hr) (fun e he=>by rw[<-hw]; exact(hm.get h0).1.1.width e he) (hm.get h0).1.1.db (by rw[e0]; exact hl)
 have:bg E.P .append #[ty,ty2] [.slice a l l,.slice a0 l1 c0] m=some (.slice a' (l+l1) (l+l1),m'):=h6;rw[Go.Ab.dn (hf.ia ha) this];rw[e0] at h2 ⊢;exact hK (a',_) m' h2⟩
def NW{elem:XJ}{k q cap w l:Nat}{lo hi:Int}{a:XG}{R:XH}{L:YB α}{es:XF}{lx hx:YA XK}{lv hv:YA XI}(ht:SlT E.P ty elem w)(hv':ev E fs x=some (.slice a l cap))(e1:jJ E fs lx=some lv)(e2:jJ E fs hx=some hv)(hp:pk ps k=some (.rd a cap w l es))(hq:pk ps q=some (.gen (cE r R L es)))(hb:okB lo hi l=true)(hl:lv=none/\lo=0\/∃k,lv=some (.int k lo))(hh:hv=none/\hi=(l:Int)\/∃k,hv=some (.int k hi)) :
  Ox E m0 fs ps (.slice ty x lx hx none) (fun z:XG×Nat=>.slice z.1 ((L.drop lo.toNat).take (hi.toNat-lo.toNat)).length z.2) (fun z=>.rd z.1 z.2 w ((L.drop lo.toNat).take (hi.toNat-lo.toNat)).length ((es.drop lo.toNat).take (hi.toNat-lo.toNat))::.gen (cE r R ((L.drop lo.toNat).take (hi.toNat-lo.toNat)) ((es.drop lo.toNat).take (hi.toNat-lo.toNat)))::ps):=by
 intro t m hf hm;obtain⟨b1,b2,b3⟩:=vC hb;have h1:es.length=l:=(hm.get hp).1;have h2:es.length=L.length:=(hm.get hq).1.1.1;have elo:((lo.toNat:Nat):Int)=lo:=Ws b1;have ehi:((hi.toNat:Nat):Int)=hi:=Ws (by omega)
 have hlen:((L.drop lo.toNat).take (hi.toNat-lo.toNat)).length=hi.toNat-lo.toNat:=by rw[Vw,VZ,<-h2,h1]; omega
 obtain⟨g1,g2⟩:=QO (m0:=m0) (lo:=lo.toNat) (hi:=hi.toNat) ht hv' e1 e2 hp (by omega) (by omega) (by
  rcases hl with⟨h,h'⟩|⟨k,h⟩
  exact .inl ⟨h,by omega⟩
  exact .inr ⟨k,by rw[elo]; exact h⟩) (by
  rcases hh with⟨h,h'⟩|⟨k,h⟩
  exact .inl ⟨h,by omega⟩
  exact .inr ⟨k,by rw[ehi]; exact h⟩) t m hf hm
 refine⟨g1,fun K hK=>g2 K fun z m' hm'=>?_⟩;have h3:=hK z m';rw[hlen] at h3;refine h3 ?_;have hq':pk (.rd z.1 z.2 w (hi.toNat-lo.toNat) ((es.drop lo.toNat).take (hi.toNat-lo.toNat))::ps) (q+1)=some (.gen (cE r R L es)):=hq;have h5:=hm'.Bi (q:=.gen (cE r R ((L.drop lo.toNat).take (hi.toNat-lo.toNat)) ((es.drop lo.toNat).take (hi.toNat-lo.toNat)))) hq' (fun _=>ep) ⟨⟨(hm'.get hq').1.1.sub _ _,(hm'.get hq').1.2⟩,fun _ b hb=>hb.elim⟩ (fun _=>ep) fun b hb=>hb;refine⟨h5.ext,fun p hp=>h5.ok p ?_,?_⟩
 rcases Vu.1 hp with rfl|hp
 exact Ve _ (Vp ..)
 rcases Vu.1 hp with rfl|hp
 exact Vp ..
 exact Ve _ (Ve _ hp)
 obtain⟨x1,x2⟩:=VA.1 h5.apart;obtain⟨x3,x4⟩:=VA.1 x2;refine VA.2 ⟨fun p hp=>?_,VA.2 ⟨fun p hp=>x1 p (Ve _ hp),x4⟩⟩;rcases Vu.1 hp with rfl|hp
 exact Pc.iw (x1 _ (Vp ..))
 exact x3 p hp
def Hp.dp{q:Nat}{R:XH}{L:YB α}{es:XF}(h:Hp m0 m ps)(hq:pk ps q=some (.gen (cE r R L es))):(cE r R L es).P m:=(h.get hq).1
def Hp.pG{R:XH}{L:YB α}{es:XF}(h:Hp m0 m ps)(ho:∀p∈ps,∀b,¬p.ow b)(hd:(cE r R L es).P m):Hp m0 m (.gen (cE r R L es)::ps) :=
 ⟨h.ext,fun p hp=>by
  rcases Vu.1 hp with rfl|hp
  exact⟨hd,fun _ b hb=>hb.elim⟩
  exact h.ok p hp,VA.2 ⟨fun q hq=>⟨fun b h1 _=>(ep h1).elim,fun b h1 _=>(ho q hq b h1).elim⟩,h.apart⟩⟩
def Hp.dc{a:XG}{cap w l:Nat}{es:XF}(h:Hp m0 m ps)(ho:∀p∈ps,∀b,¬p.ow b)(hr:Rd m a cap w l es):Hp m0 m (.rd a cap w l es::ps) :=
 ⟨h.ext,fun p hp=>by
  rcases Vu.1 hp with rfl|hp
  exact hr
  exact h.ok p hp,VA.2 ⟨fun q hq=>⟨fun b h1 _=>(vX h1).elim,fun b h1 _=>(ho q hq b h1).elim⟩,h.apart⟩⟩
def Hp.Iy{l0:YB Pc}{H R:XH}{L:YB α}{es:XF}(h:Hp m0 m (l0++[.gen (wG H)]))(ho:∀p∈l0,∀b,¬p.ow b)(hd:(cE r R L es).P m)(ha:∀b,R b->¬H b):Hp m0 m (.gen (cE r R L es)::(l0++[.gen (wG H)])) :=
 ⟨h.ext,fun p hp=>by
  rcases Vu.1 hp with rfl|hp
  exact⟨hd,fun _ b hb=>hb.elim⟩
  exact h.ok p hp,VA.2 ⟨fun q hq=>⟨fun b h1 _=>(ep h1).elim,fun b h1 h2=>by
  rcases Vq.1 hq with hq|hq
  exact(ho q hq b h1).elim
  rw[Vb.1 hq] at h1;rcases h1 with h1|h1
  cases h1.1
  exact ha b (oY h2) h1⟩,h.apart⟩⟩
def Hp.qG{l0:YB Pc}{H:XH}{a:XG}{cap w l:Nat}{es:XF}(h:Hp m0 m (l0++[.gen (wG H)]))(ho:∀p∈l0,∀b,¬p.ow b)(hr:Rd m a cap w l es)(ha:∀b,mz a=some b->¬H b):Hp m0 m (.rd a cap w l es::(l0++[.gen (wG H)])) :=
 ⟨h.ext,fun p hp=>by
  rcases Vu.1 hp with rfl|hp
  exact hr
  exact h.ok p hp,VA.2 ⟨fun q hq=>⟨fun b h1 _=>(vX h1).elim,fun b h1 h2=>by
  rcases Vq.1 hq with hq|hq
  exact(ho q hq b h1).elim
  rw[Vb.1 hq] at h1;rcases h1 with h1|h1
  cases h1.1
  exact ha b (CR h2) h1⟩,h.apart⟩⟩
def eL:∀p ∈([]:YB Pc),∀b,¬p.ow b:=fun _ h=>by cases h
def fH{l:YB Pc}{a:XG}{cap w k:Nat}{es:XF}(h:∀p∈l,∀b,¬p.ow b):∀p ∈(Pc.rd a cap w k es::l),∀b,¬p.ow b:=fun p hp=>by
 rcases Vu.1 hp with rfl|hp
 exact fun _=>vX
 exact h p hp
def SN{l:YB Pc}{R:XH}{L:YB α}{es:XF}(h:∀p∈l,∀b,¬p.ow b):∀p ∈(Pc.gen (cE r R L es)::l),∀b,¬p.ow b:=fun p hp=>by
 rcases Vu.1 hp with rfl|hp
 exact fun _=>ep
 exact h p hp
def Hp.iA{q:Nat}{R:XH}{L:YB α}{es:XF}(h:Hp m0 m ps)(hq:pk ps q=some (.gen (cE r R L es))):∀b,R b->¬nA ps b:=fun b hb ⟨p,hp,h1⟩=>by
 obtain⟨i,hi⟩:=kY hp
 by_cases e:i=q
 rw[e,hq] at hi;rw[<-U9 hi] at h1;exact ep h1
 exact(fN h.apart hi hq e).1 b h1 (.inr (.inr hb))
end
section
variable{α:Type}{E:Env}{n:Nat}{m0:Yq}{fs:Fs}{ps:YB Pc}{ops:YD Oper}{os:YB Oper}{dr:Bool}{K:Tm->Yq->Prop}{r:Rep α}
def Wo.qE{β:Type}{N:β->YB Pc}(h:∀m,Hp m0 m ps->∃y,Hp m0 m (N y))(k:∀y,Wo dr E n ops K os m0 fs (N y)):Wo dr E n ops K os m0 fs ps:=by
 cases dr with
 | false=>intro t m hf hm; obtain⟨y,hy⟩:=h m hm; exact k y t m hf hy
 | true=>intro t m w hf hm hw; obtain⟨y,hy⟩:=h m hm; exact k y t m w hf hy hw
def Wo.yb{j q:Nat}{R:XH}{L:YB α}{es:XF}{z:α}{N:r.G->YB Pc}(hq:pk ps q=some (.gen (cE r R L es)))(hl:L[j]? = some z)(hN:∀g,N g=r.N z g R++ps)(k:∀g,es[j]? = some (r.V z g)->Wo dr E n ops K os m0 fs (N g)):Wo dr E n ops K os m0 fs ps:=by
 cases dr with
 | false=>intro t m hf hm; obtain⟨g,h1,h2⟩:=hm.yb hq hl; exact k g h1 t m hf (by rw[hN]; exact h2)
 | true=>intro t m w hf hm hw; obtain⟨g,h1,h2⟩:=hm.yb hq hl; exact k g h1 t m w hf (by rw[hN]; exact h2) hw
end
section
variable{α:Type}{E:Env}{n:Nat}{m0:Yq}{fs:Fs}{ps:YB Pc}{ops:YD Oper}{os:YB Oper}{dr:Bool}{K:Tm->Yq->Prop}{r:Rep α}{prs:YB (Nat×Nat)}{ss:YB Nk}
def Wn.qE{β:Type}{N:β->YB Pc}(h:∀m,Hp m0 m ps->∃y,Hp m0 m (N y))(k:∀y,Wn E n ops prs K os ss m0 fs (N y)):Wn E n ops prs K os ss m0 fs ps:=fun t m ns hf hm hn=>by
 obtain⟨y,hy⟩:=h m hm; exact k y t m ns hf hy hn
def Wo.dp{L:YB α}{es:XF}{S:XH}(h:jg m0 ps r L es S)(k:∀R,Wo dr E n ops K os m0 fs (.gen (cE r R L es)::ps)):Wo dr E n ops K os m0 fs ps:=X0 (ai.dp h) (k _)
def Wo.AS{q j:Nat}{R S:XH}{L:YB α}{es:XF}{z:α}{g:r.G}(hq:pk ps q=some (.gen (cE r R L es)))(h:Lf m0 ps r z g S)(k:∀R',Wo dr E n ops K os m0 fs (bJ ps q (.gen (cE r R' (L.set j z) (es.set j (r.V z g)))))):Wo dr E n ops K os m0 fs ps:=X0 (ai.AS hq h) (k _)
def nD{m:Yq}{q:Nat}{R:XH}{L:YB α}{es:XF}(hm:Hp m0 m ps)(hq:pk ps q=some (.gen (cE r R L es))):es.length=L.length:=(hm.get hq).1.1.1
def G2{lo k w l:Nat}{m:Yq}{p:Pc}{a:XG}{es:XF}(hm:Hp m0 m ps)(hp:pk ps k=some p)(h:p=.sl a w l es\/(∃c,p=.rd a c w l es)\/∃b tg,p=.arr b w l es tg):l=es.length:=by
 have h0:=hm.get hp;rcases h with rfl|⟨c,rfl⟩|⟨b,tg,rfl⟩
 exact Pc.wA h0
 exact h0.1.symm
 exact h0.2.2.2.1.symm
def Wo.kj{k q w l:Nat}{a:XG}{p:Pc}{R:XH}{L:YB α}{es:XF}(hp:pk ps k=some p)(hp':p=.sl a w l es\/(∃c,p=.rd a c w l es)\/∃b tg,p=.arr b w l es tg)(hq:pk ps q=some (.gen (cE r R L es)))(h:l=L.length->Wo dr E n ops K os m0 fs ps):Wo dr E n ops K os m0 fs ps:=by
 have key:∀m,Hp m0 m ps->l=L.length:=fun m hm=>(G2 (lo:=0) hm hp hp').trans (nD hm hq);cases dr with
 | false=>exact fun t m hf hm=>h (key m hm) t m hf hm
 | true=>exact fun t m w hf hm hw=>h (key m hm) t m w hf hm hw
def Wn.kj{k q w l:Nat}{a:XG}{p:Pc}{R:XH}{L:YB α}{es:XF}(hp:pk ps k=some p)(hp':p=.sl a w l es\/(∃c,p=.rd a c w l es)\/∃b tg,p=.arr b w l es tg)(hq:pk ps q=some (.gen (cE r R L es)))(h:l=L.length->Wn E n ops prs K os ss m0 fs ps):Wn E n ops prs K os ss m0 fs ps :=
 fun t m ns hf hm hn=>h ((G2 (lo:=0) hm hp hp').trans (nD hm hq)) t m ns hf hm hn
end
def Qr(m:Yq)(S:XH)(qs:YB Pc):Prop:=(∀p∈qs,p.ok 0 m/\p.bound=true/\(∀b,p.any b->p.ow b)/\∀b,p.ow b->S b)/\qs.Pairwise Pc.apart
def Qr.st{m m':Yq}{S:XH}{qs:YB Pc}(h:Qr m S qs)(hn:m.next<=m'.next)(hg:∀b,S b->b<m.next->m'.get b=m.get b):Qr m' S qs :=
 ⟨fun p hp=>⟨Pc.gJ (h.1 p hp).1 hn fun b hb hlt=>hg b ((h.1 p hp).2.2.2 b ((h.1 p hp).2.2.1 b hb)) hlt,(h.1 p hp).2⟩,h.2⟩
def Pc.RK{lo:Nat}{m:Yq}{p:Pc}(h:p.ok 0 m)(hl:∀b,p.ow b->lo<=b):p.ok lo m:=by
 cases p with
 | obj b o=>exact⟨hl b (.inl ⟨rfl,rfl⟩),h.2⟩
 | arr b w n es tg=>exact⟨hl b (.inl ⟨rfl,rfl⟩),h.2⟩
 | sl a w n es =>
  rcases h with h|⟨b,tg,rfl,h⟩
  exact .inl h
  exact .inr ⟨b,tg,rfl,hl b (.inl ⟨rfl,rfl⟩),h.2⟩
 | rd a cap w n es=>exact h
 | ro b o w n es=>exact h
 | gen g=>exact⟨h.1,fun _ b hb=>hl b (.inr hb)⟩
section
variable{m0 m:Yq}{ps qs:YB Pc}
def Hp.perm{ps':YB Pc}(h:Hp m0 m ps)(hp:ps.Perm ps'):Hp m0 m ps' :=
 ⟨h.ext,fun p hm=>h.ok p (hp.mem_iff.2 hm),hp.pairwise h.apart fun h=>Pc.iw h⟩
def Hp.RM{g:GPc}(h:Hp m0 m (.gen g::ps))(hf:g.fr=false)(hB:Qr m g.ow qs):Hp m0 m (qs++ps):=by
 have h0:=h.ok _ (Vp ..);have ha:=VA.1 h.apart;refine⟨h.ext,fun p hp=>?_,Wd.2 ⟨hB.2,ha.2,fun p hp q hq=>⟨fun b h1 h2=>?_,fun b h1 h2=>?_⟩⟩⟩
 rcases Vq.1 hp with hp|hp
 exact Pc.RK (hB.1 p hp).1 fun b hb=>h0.2 hf b ((hB.1 p hp).2.2.2 b hb)
 exact h.ok p (Ve _ hp)
 exact(ha.1 q hq).1 b (.inr ((hB.1 p hp).2.2.2 b h1)) h2
 exact(ha.1 q hq).2 b h1 (.inr (.inl ((hB.1 p hp).2.2.2 b ((hB.1 p hp).2.2.1 b h2))))
def Hp.NV(h:Hp m0 m (qs++ps))(ho:∀p∈qs,p.bound=true/\∀b,p.any b->p.ow b):Qr m (nA qs) qs :=
 ⟨fun p hp=>⟨Pc.EX (h.ok p (Vl _ hp)) (V9 _),(ho p hp).1,(ho p hp).2,fun b hb=>⟨p,hp,hb⟩⟩,(Wd.1 h.apart).1⟩
def Hp.Ur{g:GPc}(h:Hp m0 m (qs++ps))(ho:∀p∈qs,p.bound=true/\∀b,p.any b->p.ow b)(hP:g.P m)(hw:∀b,g.ow b->nA qs b)(hr:∀b,¬g.rd b):Hp m0 m (.gen g::ps):=by
 obtain⟨h1,h2,h3⟩:=Wd.1 h.apart;have hany:∀b,Pc.any (.gen g) b->nA qs b:=fun b hb=>hb.elim (fun h=>by cases h) fun hb=>hb.elim (hw b) fun hb=>Vr hb (hr b)
 refine⟨h.ext,fun p hp=>?_,VA.2 ⟨fun q hq=>⟨fun b a c=>?_,fun b a c=>?_⟩,h2⟩⟩
 rcases Vu.1 hp with rfl|hp
 refine⟨hP,fun _ b hb=>?_⟩;obtain⟨p,hp,hb⟩:=hw b hb;exact Pc.s9 (h.ok p (Vl _ hp)) (ho p hp).1 hb
 exact h.ok p (Vv _ hp)
 obtain⟨p,hp,hb⟩:=hany b (Pc.jo a);exact(h3 p hp q hq).1 b hb c
 obtain⟨p,hp,hb⟩:=hany b c;exact(h3 p hp q hq).2 b a (Pc.jo hb)
end
structure Orp{α:Type}(r:Rep α) where
 G:Type
 V:α->G->YB XI
 N:α->G->YB Pc
 len:∀x g,(V x g).length=r.w
 one:∀x g,(V x g).all mh=true
 own:∀x g,∀p∈N x g,p.bound=true/\∀b,p.any b->p.ow b
 IQ:∀{m:Yq} {x:α} {g:G} {S:XH},(∀p∈N x g,p.ok 0 m)->(∀p∈N x g,∀b,p.any b->S b)->∃g',V x g=r.V x g'/\r.A m S x g'
section
variable{α β:Type}{r:Rep α}{r2:Rep β}
def j9(o:Orp r):YB α->XF->YB Pc->Prop
 | [],[],qs=>qs=[]
 | x::L,e::es,qs=>∃g qs',e=o.V x g/\qs=o.N x g++qs'/\j9 o L es qs'
 | _,_,_=>False
def j9.append{o:Orp r}:∀{L L':YB α} {es es':XF} {qs qs':YB Pc},j9 o L es qs->j9 o L' es' qs'->j9 o (L++L') (es++es') (qs++qs')
 | [],_,[],_,_,_,h,h'=>by cases h; exact h'
 | x::L,L',e::es,es',_,qs',h,h'=>by
  obtain⟨g,q1,h1,rfl,h3⟩:=h;exact⟨g,q1++qs',h1,by rw[VT],h3.append h'⟩
 | [],_,_::_,_,_,_,h,_=>h.elim
 | _::_,_,[],_,_,_,h,_=>h.elim
def j9.split{o:Orp r}:∀{L:YB α} {es:XF} {qs:YB Pc} (j:Nat),j9 o L es qs->∃q1 q2,qs=q1++q2/\j9 o (L.take j) (es.take j) q1/\j9 o (L.drop j) (es.drop j) q2
 | [],[],_,j,h=>by cases h; exact⟨[],[],rfl,by simp[j9],by simp[j9]⟩
 | x::L,e::es,_,0,h=>⟨[],_,rfl,rfl,h⟩
 | x::L,e::es,_,j+1,h=>by
  obtain⟨g,q1,h1,rfl,h3⟩:=h;obtain⟨p1,p2,rfl,h4,h5⟩:=j9.split j h3;exact⟨o.N x g++p1,p2,by rw[VT],⟨g,p1,h1,rfl,h4⟩,h5⟩
 | [],_::_,_,_,h=>h.elim
 | _::_,[],_,_,h=>h.elim
def j9.own{o:Orp r}:∀{L:YB α} {es:XF} {qs:YB Pc},j9 o L es qs->∀p∈qs,p.bound=true/\∀b,p.any b->p.ow b
 | [],[],_,h=>by cases h; exact fun p hp=>by cases hp
 | x::L,e::es,_,h=>by
  obtain⟨g,q1,h1,rfl,h3⟩:=h;intro p hp;rcases Vq.1 hp with hp|hp
  exact o.own x g p hp
  exact h3.own p hp
 | [],_::_,_,h=>h.elim
 | _::_,[],_,h=>h.elim
def j9.IQ{o:Orp r}{m:Yq}{S:XH}:∀{L:YB α} {es:XF} {qs:YB Pc},j9 o L es qs->(∀p∈qs,p.ok 0 m)->(∀p∈qs,∀b,p.any b->S b)->Deep r m S L es
 | [],[],_,h,_,_=>.nil
 | x::L,e::es,_,h,h1,h2=>by
  obtain⟨g,q1,rfl,rfl,h5⟩:=h;obtain⟨g',e1,e2⟩:=o.IQ (fun p hp=>h1 p (Vl _ hp)) fun p hp=>h2 p (Vl _ hp);rw[e1];exact .cons e2 (h5.IQ (fun p hp=>h1 p (Vv _ hp)) fun p hp=>h2 p (Vv _ hp))
 | [],_::_,_,h,_,_=>h.elim
 | _::_,[],_,h,_,_=>h.elim
def j9.len{o:Orp r}:∀{L:YB α} {es:XF} {qs:YB Pc},j9 o L es qs->es.length=L.length
 | [],[],_,_=>rfl
 | _::_,_::_,_,h=>by obtain⟨_,_,_,_,h⟩:=h; simp[h.len]
 | [],_::_,_,h=>h.elim
 | _::_,[],_,h=>h.elim
def j9.cells{o:Orp r}:∀{L:YB α} {es:XF} {qs:YB Pc},j9 o L es qs->∀e∈es,e.length=r.w/\e.all mh=true
 | [],[],_,_=>fun e he=>by cases he
 | x::L,e::es,_,h=>by
  obtain⟨g,_,rfl,_,h⟩:=h;intro e' he;rcases Vu.1 he with rfl|he
  exact⟨o.len x g,o.one x g⟩
  exact h.cells e' he
 | [],_::_,_,h=>h.elim
 | _::_,[],_,h=>h.elim
def cY(o:Orp r)(S:XH)(L:YB α)(es:XF):GPc where
 ow b:=S b
 rd _:=False
 P m:=(∃qs,j9 o L es qs/\Qr m S qs)/\∀b,S b->b<m.next
 st _ _ h hn hg:=by
  obtain⟨⟨qs,h1,h2⟩,h3⟩:=h;exact⟨⟨qs,h1,h2.st hn fun b hb hlt=>hg b (.inl hb) hlt⟩,fun b hb=>Vt (h3 b hb) hn⟩
 lt _ b h hb:=hb.elim (h.2 b) fun h=>h.elim
def CA{a:XG}{w n:Nat}{es:XF}{b:Nat}(h:Pc.any (.sl a w n es) b):Pc.ow (.sl a w n es) b:=h.elim (fun h=>.inl ⟨rfl,h⟩) fun h=>h.elim
def oS(f:α->YB XI)(w:Nat):Orp (rS f w) where
 G:=XG
 V l a:=[.slice a l.length l.length]
 N l a:=[.sl a w l.length (l.map f)]
 len _ _:=rfl
 one _ _:=rfl
 own _ _ p hp:=by rw[Vb.1 hp]; exact⟨rfl,fun b hb=>CA hb⟩
 IQ {m x g S} h h':=by
  have h1:=h _ (Vb.2 rfl);exact⟨(g,x.length),rfl,Pc.FK (p:=.sl g w x.length (x.map f)) h1 (.sl ..),fun b hb=>h' _ (Vb.2 rfl) b (.inl hb)⟩
def oL(o:Orp r):Orp (rL r) where
 G:=XG×XF ×(Nat->Prop)
 V l g:=[.slice g.1 l.length l.length]
 N l g:=[.sl g.1 r.w l.length g.2.1,.gen (cY o g.2.2 l g.2.1)]
 len _ _:=rfl
 one _ _:=rfl
 own _ _ p hp:=by
  rcases Vu.1 hp with rfl|hp
  exact⟨rfl,fun b hb=>CA hb⟩
  rw[Vb.1 hp];exact⟨rfl,fun b hb=>hb.elim (fun h=>by cases h) fun h=>h.elim (fun h=>.inr h) fun h=>h.elim⟩
 IQ {m x g S} h h':=by
  have h1:=h _ (Vp ..);obtain⟨⟨⟨qs,h2,h3⟩,_⟩,_⟩:=h _ (Ve _ (Vb.2 rfl));refine⟨(g.1,x.length,g.2.1),rfl,Pc.FK (p:=.sl g.1 r.w x.length g.2.1) h1 (.sl ..),fun b hb=>h' _ (Vp ..) b (.inl hb),h2.IQ (fun p hp=>(h3.1 p hp).1) fun p hp b hb=>?_⟩;exact h' _ (Ve _ (Vb.2 rfl)) b (.inr (.inl ((h3.1 p hp).2.2.2 b ((h3.1 p hp).2.2.1 b hb))))
def oP(o:Orp r)(o2:Orp r2):Orp (rP r r2) where
 G:=o.G×o2.G
 V x g:=o.V x.1 g.1++o2.V x.2 g.2
 N x g:=o.N x.1 g.1++o2.N x.2 g.2
 len x g:=by rw[Vd,o.len,o2.len]; rfl
 one x g:=by rw[List.all_append,o.one,o2.one]; rfl
 own x g p hp:=by
  rcases Vq.1 hp with hp|hp
  exact o.own _ _ p hp
  exact o2.own _ _ p hp
 IQ h h':=by
  obtain⟨g1,e1,a1⟩:=o.IQ (fun p hp=>h p (Vl _ hp)) fun p hp=>h' p (Vl _ hp);obtain⟨g2,e2,a2⟩:=o2.IQ (fun p hp=>h p (Vv _ hp)) fun p hp=>h' p (Vv _ hp);exact⟨(g1,g2),by rw[e1,e2]; rfl,a1,a2⟩
end
section
variable{α:Type}{r:Rep α}{o:Orp r}{E:Env}{n:Nat}{m0 m:Yq}{fs:Fs}{ps:YB Pc}
def Hp.wS{x:α}{g:o.G}(h:Hp m0 m (o.N x g++ps)):Hp m0 m (.gen (cY o (nA (o.N x g)) [x] [o.V x g])::ps) :=
 h.Ur (o.own x g) ⟨⟨_,⟨g,[],rfl,(VX _).symm,rfl⟩,h.NV (o.own x g)⟩,fun b ⟨p,hp,hb⟩=>Pc.fY (h.ok p (Vl _ hp)) (Pc.jo hb)⟩ (fun _ h=>h) fun _ h=>h
def Hp.Ef(h:Hp m0 m ps):Hp m0 m (.gen (cY o (fun _=>False) [] [])::ps) :=
 h.NC (U8 _) h.ext (fun _ _=>rfl) ⟨⟨⟨[],rfl,fun p hp=>(by cases hp),.nil⟩,fun _ h=>h.elim⟩,fun _ _ h=>h.elim⟩ fun b hb=>hb.elim (fun h=>by cases h) fun h=>h.elim (fun h=>h.elim) fun h=>h.elim
def Hp.zV{S:XH}{L:YB α}{es:XF}(h:Hp m0 m (.gen (cY o S L es)::ps)):∃qs,j9 o L es qs/\Hp m0 m (qs++ps):=by
 obtain⟨⟨qs,h1,h2⟩,_⟩:=(h.ok _ (Vp ..)).1;exact⟨qs,h1,h.RM rfl h2⟩
def Hp.uj{L:YB α}{es:XF}{qs:YB Pc}(h:Hp m0 m (qs++ps))(ho:j9 o L es qs):Hp m0 m (.gen (cY o (nA qs) L es)::ps) :=
 h.Ur ho.own ⟨⟨qs,ho,h.NV ho.own⟩,fun b ⟨p,hp,hb⟩=>Pc.fY (h.ok p (Vl _ hp)) (Pc.jo hb)⟩ (fun _ h=>h) fun _ h=>h
def Hp.Gw{S S':XH}{L L':YB α}{es es':XF}(h:Hp m0 m (.gen (cY o S L es)::.gen (cY o S' L' es')::ps)):∃S'',Hp m0 m (.gen (cY o S'' (L++L') (es++es'))::ps):=by
 obtain⟨q1,h1,h2⟩:=h.zV;obtain⟨q2,h3,h4⟩:=(h2.perm (ps':=.gen (cY o S' L' es')::(q1++ps)) List.perm_middle).zV;have h5:Hp m0 m ((q1++q2)++ps):=h4.perm (by rw[<-VT]; exact List.Perm.append_right _ List.perm_append_comm)
 exact⟨_,h5.uj (h1.append h3)⟩
def Hp.KU{S:XH}{L:YB α}{es:XF}{j:Nat}{x:α}(h:Hp m0 m (.gen (cY o S L es)::ps))(hl:L[j]? = some x):∃g S1 S2,es[j]? = some (o.V x g)/\Hp m0 m (o.N x g++(.gen (cY o S1 (L.take j) (es.take j))::.gen (cY o S2 (L.drop (j+1)) (es.drop (j+1)))::ps)):=by
 obtain⟨qs,h1,h2⟩:=h.zV;obtain⟨q1,q2,rfl,h3,h4⟩:=h1.split j;have hj:j<L.length:=(Vn.1 hl).1;have hje:j<es.length:=by rw[h1.len]; exact hj
 have hd:L.drop j=x::L.drop (j+1):=by
  rw[W9 hj];rw[U4 hj] at hl;rw[U9 hl]
 rw[hd,W9 hje] at h4;obtain⟨g,q3,e1,rfl,h5⟩:=h4;have p1:Hp m0 m (q1++(q3++(o.N x g++ps))):=h2.perm (by
  rw[VT,VT];refine List.Perm.append_left _ ?_;rw[<-VT,<-VT];exact List.Perm.append_right _ List.perm_append_comm)
 have p2:=p1.uj h3;have p3:Hp m0 m (q3++(.gen (cY o (nA q1) (L.take j) (es.take j))::(o.N x g++ps))):=p2.perm List.perm_middle.symm;have p4:=p3.uj h5;refine⟨g,_,_,by rw[U4 hje,e1],p4.perm (ps':=o.N x g++(.gen (cY o (nA q1) (L.take j) (es.take j))::.gen (cY o (nA q3) (L.drop (j+1)) (es.drop (j+1)))::ps)) ?_⟩
 exact(List.Perm.swap _ _ _).trans ((List.Perm.cons _ List.perm_middle.symm).trans List.perm_middle.symm)
def iH{γ:Type}{l:YB γ}{j:Nat}(y:γ)(h:j<l.length):l.set j y=l.take j++y::l.drop (j+1):=by
 rw[List.set_eq_take_append_cons_drop,U5 h]
def Hp.E8{S1 S2:XH}{L:YB α}{es:XF}{j:Nat}{x y:α}{e:YB XI}{g:o.G}(h:Hp m0 m (o.N y g++(.gen (cY o S1 (L.take j) (es.take j))::.gen (cY o S2 (L.drop (j+1)) (es.drop (j+1)))::ps)))(hl:L[j]? = some x)(he:es[j]? = some e):∃S,Hp m0 m (.gen (cY o S (L.set j y) (es.set j (o.V y g)))::ps):=by
 have h1:=h.wS;have h2:Hp m0 m (.gen (cY o S1 (L.take j) (es.take j))::.gen (cY o (nA (o.N y g)) [y] [o.V y g])::.gen (cY o S2 (L.drop (j+1)) (es.drop (j+1)))::ps):=h1.perm (List.Perm.swap _ _ _);obtain⟨S3,h3⟩:=h2.Gw;obtain⟨S4,h4⟩:=h3.Gw;refine⟨S4,?_⟩;rw[iH y (Vn.1 hl).1,iH _ (Vn.1 he).1];rw[VT,VT] at h4;exact h4
def Hp.vP{S:XH}{L:YB α}{es:XF}(h:Hp m0 m (.gen (cY o S L es)::ps)):Hp m0 m (.gen (cE r S L es)::ps):=by
 have h0:=h.ok _ (Vp ..);have ha:=VA.1 h.apart;obtain⟨⟨qs,h1,h2⟩,h3⟩:=h0.1;refine⟨h.ext,fun p hp=>?_,VA.2 ⟨fun q hq=>⟨fun b a _=>(ep a).elim,fun b a c=>(ha.1 q hq).2 b a (.inr (.inl (oY c)))⟩,ha.2⟩⟩;rcases Vu.1 hp with rfl|hp
 exact⟨⟨h1.IQ (fun p hp=>(h2.1 p hp).1) fun p hp b hb=>(h2.1 p hp).2.2.2 b ((h2.1 p hp).2.2.1 b hb),h3⟩,fun _ b hb=>hb.elim⟩
 exact h.ok p (Ve _ hp)
def uZ{S:XH}{L:YB α}{es:XF}{q:Nat}(h:Hp m0 m ps)(hq:pk ps q=some (.gen (cY o S L es))):es.length=L.length:=by
 obtain⟨⟨qs,h1,_⟩,_⟩:=(h.get hq).1;exact h1.len
end
section
variable{α:Type}{E:Env}{n:Nat}{m0 m:Yq}{fs:Fs}{ps:YB Pc}{r:Rep α}{x:XK}{ty elem:XJ}
def AQ:∀{l:YB Pc} {q k:Nat} {x:Pc},k≠q->pk (bJ l q x) k=pk l k:=by
 intro l
 induction l with
 | nil=>intro q k x _; rfl
 | cons p l ih =>
  intro q k x hne;cases q with
  | zero =>
   cases k with
   | zero=>exact Vr rfl hne
   | succ k=>rfl
  | succ q =>
   cases k with
   | zero=>rfl
   | succ k=>rw[dK,eE,eE]; exact ih fun e=>hne (by rw[e])
def jg.rep{z:α}{g:r.G}{S:XH}(h:Lf m0 ps r z g S)(k:Nat):jg m0 ps r (List.replicate k z) ((List.replicate k (r.V z g)).map fun e=>e) S:=fun m hm=>by
 refine⟨?_,(h m hm).2⟩;rw[List.map_id'];refine⟨by simp,fun i y hi=>?_⟩
 obtain⟨hi1,hi2⟩:=Vn.1 hi;rw[List.length_replicate] at hi1;rw[List.getElem_replicate] at hi2;subst hi2;exact⟨g,by rw[List.getElem?_replicate,U5 hi1],(h m hm).1⟩
def OU{k q cap w l:Nat}{a:XG}{R:XH}{L:YB α}{es:XF}{hi:Int}{hx:YA XK}{kd:IntKind}(ht:SlT E.P ty elem w)(hv:ev E fs x=some (.slice a l cap))(e2:jJ E fs hx=some (some (.int kd hi)))(hp:pk ps k=some (.gen (pF a cap w l es)))(hq:pk ps q=some (.gen (cE r R L es)))(hb:okB 0 hi l=true)(h0:0<l) :
  Od E m0 fs ps (.slice ty x none hx none) (.slice a (L.take hi.toNat).length cap) (bJ (bJ ps q (.gen (cE r R (L.take hi.toNat) (es.take hi.toNat)))) k (.gen (pF a cap w (L.take hi.toNat).length (es.take hi.toNat)))):=fun t m hf hm=>by
 have hkq:k≠q:=fun e=>by
  have h1:=(hm.get hp).1;rw[e,hq] at hp;have:=Vs (fun p:YA Pc=>match p with|some (.gen g)=>g.ow|_=>fun _=>False) hp
  simp only[cE,pF] at this;obtain⟨_,_,_,h4,h5⟩:=h1;rcases h5 with⟨_,h⟩|⟨b,_,_,ha,_⟩
  omega
  have:=congrFun this b;rw[ha] at this;exact this.mpr rfl
 have hlen:es.length=L.length:=nD hm hq;have h1:=ai.dp (m0:=m0) (ps:=ps) (r:=r) (L:=L.take hi.toNat) (es:=es.take hi.toNat) (S:=R) (fun m hm=>⟨by have:=(hm.get hq).1.1.sub 0 hi.toNat; simpa using this,fun b hb=>⟨_,jO hq,fun _=>ep,.inr (.inr hb)⟩⟩)
 have h2:=Na (α:=YB XI) (f:=fun e=>e) (xs:=es) (ys:=es.take hi.toNat) (m0:=m0) (ps:=ps) ht hv e2 (by rw[List.map_id']; exact hp) hb h0 rfl t m hf hm
 refine⟨h2.1,fun K hK=>h2.2 K fun m' hm'=>?_⟩;have e3:(L.take hi.toNat).length=(es.take hi.toNat).length:=by rw[Vw,Vw,hlen]
 rw[e3] at hK;refine hK m' ?_;rw[List.map_id'] at hm';have hq':pk (bJ ps k (.gen (pF a cap w (es.take hi.toNat).length (es.take hi.toNat)))) q=some (.gen (cE r R L es)):=by rw[AQ (Ne.symm hkq)]; exact hq
 have h3:=hm'.Gm (m':=m') (p':=.gen (cE r R (L.take hi.toNat) (es.take hi.toNat))) hq' (fun b hb=>(ep hb).elim) (fun b hb=>.inl (.inr (.inr (oY hb)))) (U8 _) hm'.ext ⟨⟨by have:=(hm'.get hq').1.1.sub 0 hi.toNat; simpa using this,(hm'.get hq').1.2⟩,fun _ b hb=>hb.elim⟩ fun _ _ _=>rfl
 have:∀(l:YB Pc) (i j:Nat) (x y:Pc),i≠j->bJ (bJ l i x) j y=bJ (bJ l j y) i x:=by
  intro l
  induction l with
  | nil=>intro i j x y _; rfl
  | cons p l ih =>
   intro i j x y hne;cases i with
   | zero =>
    cases j with
    | zero=>exact Vr rfl hne
    | succ j=>rfl
   | succ i =>
    cases j with
    | zero=>rfl
    | succ j=>rw[dK,dK,dK,dK,ih i j x y fun e=>hne (by rw[e])]
 rw[this _ q k _ _ (Ne.symm hkq)];exact h3
def Ov{ty2:XJ}{w k q q2 cap l c0 l1:Nat}{a a0:XG}{R S:XH}{L L':YB α}{es es':XF}{ars:YD XK}(ht:SlT E.P ty elem w)(h2:∃e2,E.P.underlying ty2=some (.slice e2))(ha:ia E fs ars.toList=some [.slice a l cap,.slice a0 l1 c0])(hp:pk ps k=some (.gen (pF a cap w l es)))(hq:pk ps q=some (.gen (cE r R L es)))(hkq:Nat.beq k q=false)(hr:∀m,Hp m0 m ps->Rd m a0 c0 w l1 es')(h0:pk ps q2=some (.gen (cE r S L' es')))(hw:r.w=w)(hl:lim (L++L').length=true) :
  Ox E m0 fs ps (.call ⟨.builtin .append,ars,#[ty,ty2]⟩) (fun y:XG×Nat ×(Nat->Prop)=>.slice y.1 (L++L').length y.2.1) (fun y=>bJ (bJ ps q (.gen (cE r y.2.2 (L++L') (es++es')))) k (.gen (pF y.1 y.2.1 w (L++L').length (es++es')))):=fun t m hf hm=>⟨fun b hb=>(by simp[aM] at hb),fun K hK=>by
 have e1:l=L.length:=by rw[<-(hm.get hp).1.1,nD hm hq]
 have e2:l1=L'.length:=by rw[<-(hr m hm).1,nD hm h0]
 have e0:l+l1=(L++L').length:=by rw[e1,e2,Vd]
 have h3:=ai.Eu (m0:=m0) hq h0 m hm;have h4:pk (bJ ps q (.gen (cE r (fun b=>R b\/S b) (L++L') (es++es')))) k=some (.gen (pF a cap w l es)):=by rw[AQ (Xq hkq)]; exact hp
 obtain⟨a',cap',m',h5,h1⟩:=CP ht h2 h3 h4 (hr m hm) (fun e he=>by rw[<-hw]; exact(hm.get h0).1.1.width e he) (hm.get h0).1.1.db (by rw[e0]; exact hl)
 have:bg E.P .append #[ty,ty2] [.slice a l cap,.slice a0 l1 c0] m=some (.slice a' (l+l1) cap',m'):=h5;rw[Go.Ab.dn (hf.ia ha) this];rw[e0] at h1 ⊢;exact hK (a',cap',_) m' h1⟩
end
end Go.Ab.W
section
open Go Go.Ab Go.Ab.W
abbrev X6:=@Hp.dc
abbrev Yj:=@Wo.kj
end
end
section
namespace Go.Ab
open Go
open Go.ChangeMaps (setBlock)
section
variable{E:Env}{n:Nat}{fn:YI}{ro:YA Nat}
def js(E:Env)(n:Nat)(fn:YI)(ro:YA Nat)(c:Code)(Q:Yr->Tm->Yq->Prop)(t:Tm)(m:Yq):Prop :=
 ∀(j:aR) (w:XM) (a:Act) (F:Fence) (N:Nat),MR E j m w->TR n j t a.tmps->lJ j ro F->Marks N w a.defers->N<=w.heap.size ->
  c.wpIn F 0 E.P (fun e' a' w'=>∃e t' m',Q e t' m'/\nG E j m w N n e t' m' e' a' w') a w
variable{Q Q':Yr->Tm->Yq->Prop}{t:Tm}{m:Yq}{c x y:Code}
def js.of(hE:EnvOk E)(h:ck E n fn ro c Q t m):js E n fn ro c Q t m:=fun j w a F N hm ht hro hd hN=>by
 obtain⟨e,t',m',⟨k,hk⟩,q⟩:=h;obtain⟨e0,t0,m0,hr,H⟩:=qC hE k _ _ hk;cases hr;exact wpIn_mono (H j w a F N hm ht hro hd hN) fun e' a' w' hq=>⟨e,t',m',q,hq⟩
def js.R5(h:js E n fn ro x (pQ (js E n fn ro y Q) Q) t m):js E n fn ro (.seq x y) Q t m:=fun j w a F N hm ht hro hd hN=>by
 refine wpIn_seq (wpIn_mono (h j w a F N hm ht hro hd hN) ?_);rintro e' a' w' ⟨e,t',m',q,hc⟩;obtain⟨rfl,j',s,ht',hd'⟩:=hc;cases e with
 | normal=>exact wpIn_mono (q j' w' a' F N s.mr ht' (hro.mono s.le) hd' (VK hN s.size)) fun _ _ _ ⟨e2,t2,m2,q2,c2⟩=>⟨e2,t2,m2,q2,c2.from hm s⟩
 | exit id=>exact⟨.exit id,t',m',q,rfl,j',s,ht',hd'⟩
 | ret=>exact⟨.ret,t',m',q,rfl,j',s,ht',hd'⟩
def js.seq(hE:EnvOk E)(h:ck E n fn ro x (pQ (js E n fn ro y Q) Q) t m):js E n fn ro (.seq x y) Q t m:=.R5 (.of hE h)
def Hm{j:aR}{m:Yq}{w:XM}(h:MR E j m w){r:Nat}(hr:∀b k,j b=some k->(m.get b).isSome=true->k.c≠r){w1:XM}(hw:w1=w\/w1=w.drew)(hE:¬E.mono){o o':Obj}(ho:w.heap[r]? = some o):MR E j m (setBlock w1 r o')/\w.heap.size=(setBlock w1 r o').heap.size/\(∀c,c≠r->(setBlock w1 r o').heap[c]? = w.heap[c]?)/\j6 E w (setBlock w1 r o'):=by
 have hh:w1.heap=w.heap:=by rcases hw with rfl|rfl<;>rfl
 have hs:w.heap.size=(setBlock w1 r o').heap.size:=by simp[setBlock,hh]
 have hg:∀c,c≠r->(setBlock w1 r o').heap[c]? = w.heap[c]?:=fun c hc=>by
  show(w1.heap.setIfInBounds r o')[c]? = _
  rw[hh,WI (Ne.symm hc)]
 refine⟨⟨fun b k e=>⟨(h.lt b k e).1,hs ▸(h.lt b k e).2⟩,fun b o k hgt e=>?_,h.inj,h.glob⟩,hs,hg,?_⟩
 obtain⟨o1,h1,h2⟩:=h.obj b o k hgt e;exact⟨o1,by rw[hg _ (hr b k e (by rw[hgt]; rfl))]; exact h1,h2⟩
 rcases hw with rfl|rfl<;>exact⟨rfl,rfl,rfl,fun e=>Vr e hE⟩
def B8{j:aR}{m:Yq}{w:XM}(h:MR E j m w){r:Nat}{a:YA Nat}{b0:Nat}{s:YD Nat}{d:Nat}(hr:w.heap[r]? = some (.mapIter a b0 s d)):∀b k,j b=some k->(m.get b).isSome=true->k.c≠r:=by
 intro b k hb hl he;cases hg:m.get b with
 | none=>rw[hg] at hl; cases hl
 | some o =>
  obtain⟨o',h1,h2⟩:=h.obj b o k hg hb;rw[he,hr] at h1;cases h1;cases o<;>exact h2.elim
def wF{w:XM}{N:Nat}{ds:YB Deferred}(hm:Marks N w ds){r:Nat}{w':XM}{a:YA Nat}{b0:Nat}{s:YD Nat}{d:Nat}(hr:w.heap[r]? = some (.mapIter a b0 s d))(hg:∀c,c≠r->w'.heap[c]? = w.heap[c]?):Marks N w' ds:=by
 obtain⟨rs,h1,h2,h3⟩:=hm;refine⟨rs,h1,h2,fun x hx=>⟨(h3 x hx).1,?_⟩⟩;rw[hg x fun e=>by subst e; have:=(h3 _ hx).2; rw[hr] at this; cases this]
 exact(h3 x hx).2
end
def Rx(w:XM)(r c:Nat)(ents:YD MapEntry)(clock:Nat)(S:YB Nat)(cnt:Nat):Prop :=
 ∃since seen c0,w.heap[r]? = some (.mapIter (some c) since seen c0)/\w.heap[c]? = some (.map ents clock)/\(∀x∈ents.toList,x.born<since)/\since<=c0/\since<=clock/\(∀i x,ents[i]? = some x->(seen.contains x.born=true↔i∈S))/\(leftOf ents seen).size=cnt
def vc:∀(n:Nat) (S:YB Nat),S.Nodup->(∀i∈S,i<n)->(∀i,i<n->i∈S)->S.Perm (List.range n)
 | 0,S,_,h2,_=>by
  cases S with
  | nil=>exact List.Perm.refl _
  | cons a l=>exact Vr (h2 a (by simp)) (by omega)
 | n+1,S,h1,h2,h3=>by
  have hm:n∈S:=h3 n (by omega)
  have hp:=List.perm_cons_erase hm;have ih:=vc n (S.erase n) (h1.erase n) (fun i hi=>by
   have h4:=h2 i (List.mem_of_mem_erase hi);have h5:i≠n:=fun e=>by subst e; exact(List.Nodup.not_mem_erase h1) hi
   omega) fun i hi=>(List.mem_erase_of_ne (by omega)).2 (h3 i (by omega))
  rw[WS];exact hp.trans ((List.Perm.cons n ih).trans (List.perm_append_singleton n (List.range n)).symm)
section
variable{E:Env}{n:Nat}{fn:YI}{ro:YA Nat}
def eval_put{a:Act}{d:Tmp}{v:XI}(h:d<a.tmps.size):(a.put (some d) v).eval (.tmp d)=v:=by
 simp[Act.put,Act.eval,h]
def GZ(hE:EnvOk E)(hmono:¬E.mono){B B' i2 i3:Nat}{oN oX oE:Oper}{rest:YB Oper}{o5:YD Oper}{X:Code}{d0 e0 e2 f0:Tmp}
  (hN:oN.op=.next (.tmp d0) false/\oN.dst=some e0/\oN.guard=none) (hX:oX.op=.extract (.tmp e0) 0/\oX.dst=some e2/\oX.guard=none) (hOE:oE.op=.entry (.tmp d0)/\oE.dst=some f0/\oE.guard=none) (h6:o5.toList=oE::rest)
  (h3:e0<n) (h4:e2<n) (h12:f0<n) (h13:e0≠d0) (h14:e2≠d0) (_hd3:f0≠d0)
  {mb:Yq} {w0:XM} {j0:aR} (h15:MR E j0 mb w0) {bm bi:Nat} {es:YB (XI×XI)} {lim:Nat} (hbm:mb.get bm=some (.map es)) (hbl:bm<lim)
  (Inv:YB Nat->Tm->Yq->Prop) (hExt:∀S t m,Inv S t m->m.get bm=some (.map es)/\lim<=m.wl/\t.at d0=ptr bi 0)
  (hstep:∀S i e t m,S.Nodup->(∀i∈S,i<es.length)->i∉S->es[i]? = some e->Inv S t m->qi E n o5 (fun t' m'=>ck E n fn ro X (fun e' t'' m''=>e'=.normal/\Inv (S++[i]) t'' m'') t' m') rest (((t.set e0 (.tuple #[.bool true,e.1,e.2])).set e2 (.bool true)).set f0 (.tuple #[e.1,e.2])) m)
  {r:Nat} (h30:w0.heap.size<=r) {kb:Blk} {ents:YD MapEntry} {clock:Nat} (hinc:rz ents clock) (a3:YB Deferred) (N:Nat) :
  ∀(K:Nat) (S:YB Nat) (cnt:Nat) (t:Tm) (m:Yq) (j:aR) (w:XM) (a:Act) (F:Fence),cnt<K->S.Nodup->(∀i∈S,i<es.length)->Inv S t m->Sim E j0 mb w0 j m w->TR n j t a.tmps->lJ j ro F->Marks N w a.defers->N<=w.heap.size ->
   j bi=some ⟨r,none⟩->j bm=some kb->ER j es ents.toList->Rx w r kb.c ents clock S cnt ->
   qh F 0 E.P (.seq (.region i2 #[oN,oX] false) (.seq (.cond (.tmp e2) .skip (.exit B)) (.block B' (.seq (.region i3 o5 false) X))))
    (fun e' a' w'=>∃S t' m',S.Perm (List.range es.length)/\Inv S t' m'/\nG E j0 mb w0 N n (.exit B) ((t'.set e0 (.tuple #[.bool false])).set e2 (.bool false)) m' e' a' w') a w:=by
 intro K
 induction K with
 | zero=>intro S cnt t m j w a F hc; exact Vr hc (by omega)
 | succ K ih =>
  intro S cnt t m j w a F hc hnd hSl hinv s ht hro hmk hNw hjr hjm her Ka;have hlen:es.length=ents.size:=by have:=her.len; simpa using this
  obtain⟨hg,hwl,htd⟩:=hExt S t m hinv;obtain⟨since,seen,c0,i1,i2',i3',i4,i5,i0,i6⟩:=Ka;refine lY (wpIn_seq (wpIn_region ?_));have hiter:a.eval (.tmp d0)=.pointer (some ⟨r,0,none⟩):=by
   have hv:=ht.2 d0;rw[htd] at hv
   show a.tmps.getD d0 undef=_
   generalize hx:a.tmps.getD d0 undef=x at hv;cases hv with
   | ptr hj=>rw[hjr] at hj; cases hj; rfl
  have hsz:a.tmps.size=n:=ht.1;have hlist:List.range (#[oN,oX]:YD Oper).size=[0,1]:=rfl;rw[hlist];have w0':Region.wanted oN (yielded #[oN,oX] a.tmps)=true:=by simp[Region.wanted,hN.2.2]
  have g0:(#[oN,oX]:YD Oper)[0]? = some oN:=rfl;have g1:(#[oN,oX]:YD Oper)[1]? = some oX:=rfl;simp only[wpOpsIn,g0,g1,w0',if_true];have hexN:execOp a.eval oN=(do pure (.value (<-Instr.next (.pointer (some ⟨r,0,none⟩)) false oN.type))):=by simp only[execOp,hN.1,hiter]
  have hdN:∀c,oN.op≠.defer c:=fun c e=>by rw[hN.1] at e; cases e
  have hdX:∀c,oX.op≠.defer c:=fun c e=>by rw[hX.1] at e; cases e
  have hbmj:bm<m.next:=(s.mr.lt bm kb hjm).1
  rcases run_next_at (P:=E.P) w oN.type r kb.c since c0 seen ents clock i1 i2' i3' i4 with⟨q0,hrun⟩|⟨x,hx,w1,h9,hrun⟩
  ·
   refine dS hro.wide hdN (by rw[hexN]; exact mX.value hrun) ?_
   have h1:TR n j (t.set e0 (.tuple #[.bool false])) (a.put oN.dst (.tuple #[.bool false])).tmps:=ht.put (t':=t.set e0 (.tuple #[.bool false])) (.tuple' (LR.cons (.bool false) (.nil j))) (by rw[hN.2.1,dq,U5 h3])
   rw[hN.2.1] at h1 ⊢;have w1':Region.wanted oX (yielded #[oN,oX] (a.put (some e0) (.tuple #[.bool false])).tmps)=true:=by simp[Region.wanted,hX.2.2]
   rw[U5 w1'];have hexX:execOp (a.put (some e0) (.tuple #[.bool false])).eval oX=(do pure (.value (<-Instr.extract (.tuple #[.bool false]) 0))):=by
    simp only[execOp,hX.1];rw[eval_put (v:=.tuple #[.bool false]) (d:=e0) (a:=a) (hsz.symm▸h3)]
   refine dS hro.wide hdX (v:=.bool false) (w':=w) (by rw[hexX]; exact mX.value rfl) ?_
   have h0:=h1.put (t':=(t.set e0 (.tuple #[.bool false])).set e2 (.bool false)) (dst:=oX.dst) (.bool false) (by rw[hX.2.1,dq,U5 h4])
   rw[hX.2.1] at h0 ⊢;refine wpIn_seq (wpIn_cond_false (eval_put (by simp only[Act.put,Array.size_setIfInBounds]; exact hsz.symm▸h4)) (wpIn_exit ?_))
   refine⟨S,t,m,vc _ S hnd hSl fun i hi=>?_,hinv,rfl,j,s,h0,hmk⟩;have hi':i<ents.size:=by omega
   refine(i0 i _ (WE hi')).1 ?_;cases hcs:seen.contains (ents[i]'hi').born with
   | true=>rfl
   | false =>
    have:(ents[i]'hi') ∈(leftOf ents seen).toList:=by
     unfold leftOf;simp[hcs];exact fun h=>by simp_all
    rw[Xf q0] at this;simp at this
  
  obtain⟨hxm,hxs⟩:=mem_left hx;obtain⟨i,hi⟩:=List.mem_iff_getElem?.1 hxm;have hi':ents[i]? = some x:=by simpa using hi
  have hiS:i∉S:=fun h=>by rw[(i0 i x hi').2 h] at hxs; cases hxs
  have hil:i<es.length:=by rw[hlen]; exact(Vh.1 hi').1
  obtain⟨y,hy,hky,hvy⟩:=her.get (U4 hil);rw[hi] at hy;cases hy;have hne:∀b k,j b=some k->(m.get b).isSome=true->k.c≠r:=B8 s.mr i1;have hcr:kb.c≠r:=hne bm kb hjm (by rw[hg]; rfl)
  obtain⟨p2,p1,p0,p3⟩:=Hm s.mr hne h9 hmono (o':=.mapIter (some kb.c) since (seen.push x.born) clock) i1;have s1:Sim E j0 mb w0 j m (setBlock w1 r (.mapIter (some kb.c) since (seen.push x.born) clock)) :=
   { ext:=s.ext,le:=s.le,new:=s.new,mr:=p2,size:=by rw[<-p1]; exact s.size,full:=s.full,away:=s.away,fresh:=s.fresh,frame:=fun c hc H=>by rw[p0 c (by omega)]; exact s.frame c hc H,calm:=s.calm.trans p3}
  have m2:=wF hmk i1 p0;refine dS hro.wide hdN (by rw[hexN]; exact mX.value hrun) ?_
  generalize h16:setBlock w1 r (.mapIter (some kb.c) since (seen.push x.born) clock)=w2 at s1 m2 p1 p0;have h5:w2.heap[r]? = some (.mapIter (some kb.c) since (seen.push x.born) clock):=by
   rw[<-h16];have hh:w1.heap=w.heap:=by rcases h9 with rfl|rfl<;>rfl
   have hrl:=(Vh.1 i1).1;simp[setBlock,hh,hrl]
  have h7:w2.heap[kb.c]? = some (.map ents clock):=by rw[p0 _ hcr]; exact i2'
  have hvT:VR j (.tuple #[.bool true,(es[i]'hil).1,(es[i]'hil).2]) (.tuple #[.bool true,x.key,x.val]):=.tuple' (LR.cons (.bool true) (LR.cons hky (LR.cons hvy (.nil j))));have h1:=ht.put (t':=t.set e0 (.tuple #[.bool true,(es[i]'hil).1,(es[i]'hil).2])) (dst:=oN.dst) hvT (by rw[hN.2.1,dq,U5 h3])
  rw[hN.2.1] at h1 ⊢;have w1':Region.wanted oX (yielded #[oN,oX] (a.put (some e0) (.tuple #[.bool true,x.key,x.val])).tmps)=true:=by simp[Region.wanted,hX.2.2]
  rw[U5 w1'];have hexX:execOp (a.put (some e0) (.tuple #[.bool true,x.key,x.val])).eval oX=(do pure (.value (<-Instr.extract (.tuple #[.bool true,x.key,x.val]) 0))):=by
   simp only[execOp,hX.1];rw[eval_put (v:=.tuple #[.bool true,x.key,x.val]) (d:=e0) (a:=a) (hsz.symm▸h3)]
  refine dS hro.wide hdX (v:=.bool true) (w':=w2) (by rw[hexX]; exact mX.value rfl) ?_
  have h0:=h1.put (t':=(t.set e0 (.tuple #[.bool true,(es[i]'hil).1,(es[i]'hil).2])).set e2 (.bool true)) (dst:=oX.dst) (.bool true) (by rw[hX.2.1,dq,U5 h4])
  rw[hX.2.1] at h0 ⊢;generalize h8:(a.put (some e0) (.tuple #[.bool true,x.key,x.val])).put (some e2) (.bool true)=a0 at h0;have hdef2:a0.defers=a.defers:=by rw[<-h8]; rfl
  have h17:a0.eval (.tmp e2)=.bool true:=by rw[<-h8]; exact eval_put (by simp only[Act.put,Array.size_setIfInBounds]; exact hsz.symm▸h4)
  have h18:a0.eval (.tmp d0)=.pointer (some ⟨r,0,none⟩):=by
   rw[<-h8]
   show(((a.tmps.setIfInBounds e0 _).setIfInBounds e2 _).getD d0 undef)=_
   have h2:a.tmps.getD d0 undef=.pointer (some ⟨r,0,none⟩):=hiter;simp only[Array.getD_eq_getD_getElem?] at h2 ⊢;rw[WI h14,WI h13];exact h2
  refine wpIn_seq (wpIn_cond_true h17 (wpIn_skip ?_));refine wpIn_block (wpIn_seq (wpIn_region ?_));have h19:List.range o5.size=0::List.range' 1 (o5.size-1):=by
   have:o5.size=rest.length+1:=by have:=Vs List.length h6; simpa using this
   rw[this,List.range_eq_range']
   rfl
  rw[h19];have g3:o5[0]? = some oE:=by have:=Vs (·[0]?) h6; simpa using this
  have w2':Region.wanted oE (yielded o5 a0.tmps)=true:=by simp[Region.wanted,hOE.2.2]
  simp only[wpOpsIn,g3,w2',if_true];have hdE:∀c,oE.op≠.defer c:=fun c e=>by rw[hOE.1] at e; cases e
  have hexE:execOp a0.eval oE=(do pure (.value (<-Instr.entry (.pointer (some ⟨r,0,none⟩))))):=by simp only[execOp,hOE.1,h18]
  refine dS hro.wide hdE (by rw[hexE]; exact mX.value (run_entry_at w2 r kb.c since seen ents clock x h5 h7 hxm hinc.2)) ?_
  have hvE:VR j (.tuple #[(es[i]'hil).1,(es[i]'hil).2]) (.tuple #[x.key,x.val]):=.tuple' (LR.cons hky (LR.cons hvy (.nil j)));have h10:=h0.put (t':=((t.set e0 (.tuple #[.bool true,(es[i]'hil).1,(es[i]'hil).2])).set e2 (.bool true)).set f0 (.tuple #[(es[i]'hil).1,(es[i]'hil).2])) (dst:=oE.dst) hvE (by rw[hOE.2.1,dq,U5 h12])
  rw[hOE.2.1] at h10 ⊢;have hdef3:(a0.put (some f0) (.tuple #[x.key,x.val])).defers=a.defers:=by rw[<-hdef2]; rfl
  have hst:=hstep S i _ t m hnd hSl hiS (U4 hil) hinv;obtain⟨k1,t0,m4,h20,hX4⟩:=pg (pf hst);have hrun3:=lO (ops:=o5) (n:=n) (tf:=t0) (mf:=m4) (F:=F) (qC hE k1) hro.wide (Q:=Exit.then (fun a' w'=>X.wpIn F 0 E.P (Exit.inBlock B' (Exit.then (fun a' w'=>qh F 0 E.P (.seq (.region i2 #[oN,oX] false) (.seq (.cond (.tmp e2) .skip (.exit B)) (.block B' (.seq (.region i3 o5 false) X)))) (fun e' a' w'=>∃S t' m',S.Perm (List.range es.length)/\Inv S t' m'/\nG E j0 mb w0 N n (.exit B) ((t'.set e0 (.tuple #[.bool false])).set e2 (.bool false)) m' e' a' w') a' w')
    (fun e' a' w'=>∃S t' m',S.Perm (List.range es.length)/\Inv S t' m'/\nG E j0 mb w0 N n (.exit B) ((t'.set e0 (.tuple #[.bool false])).set e2 (.bool false)) m' e' a' w'))) a' w')
    (Exit.inBlock B' (Exit.then (fun a' w'=>qh F 0 E.P (.seq (.region i2 #[oN,oX] false) (.seq (.cond (.tmp e2) .skip (.exit B)) (.block B' (.seq (.region i3 o5 false) X)))) (fun e' a' w'=>∃S t' m',S.Perm (List.range es.length)/\Inv S t' m'/\nG E j0 mb w0 N n (.exit B) ((t'.set e0 (.tuple #[.bool false])).set e2 (.bool false)) m' e' a' w') a' w')
    (fun e' a' w'=>∃S t' m',S.Perm (List.range es.length)/\Inv S t' m'/\nG E j0 mb w0 N n (.exit B) ((t'.set e0 (.tuple #[.bool false])).set e2 (.bool false)) m' e' a' w')))) s1.mr a.defers ?_ rest 1 _ m j w2 (a0.put (some f0) (.tuple #[x.key,x.val])) (by rw[h6]; rfl) h20 (.refl s1.mr) h10 hdef3
  exact hrun3
  
  intro j3 w4 a1 s3 h21 h22;obtain⟨e1,t1,m3,⟨k3,h23⟩,h24,hinv5⟩:=hX4;subst h24;obtain⟨e3,t2,m7,h25,H6⟩:=qC hE k3 _ _ h23;cases h25;have m5:Marks N w4 a1.defers:=by rw[h22]; exact m2.Ie s1.mr s3
  refine wpIn_mono (H6 j3 w4 a1 F N s3.mr h21 (hro.mono s3.le) m5 (by have:=s3.size; omega)) ?_
  rintro e4 a2 w3 ⟨rfl,j2,s4,h26,m6⟩;have s2:Sim E j m w2 j2 m3 w3:=s3.trans s1.mr s4;have hk5':=hExt _ _ _ hinv5;have h27:∀b k,j b=some k->(m.get b).isSome=true->k.c≠r:=B8 s1.mr h5;have h28:w3.heap[r]? = w2.heap[r]?:=s2.frame r (Vh.1 h5).1 fun b k hb hl he=>Vr he (h27 b k hb hl);have h29:w3.heap[kb.c]? = w2.heap[kb.c]?:=s2.frame kb.c (Vh.1 h7).1 fun b k hb hl he=>by
   have:=s1.mr.inj b bm k kb hb hjm hl (by rw[hg]; rfl) he
   omega
  refine ih (S++[i]) _ t1 m3 j2 w3 a2 F ?_ ?_ ?_ hinv5 (s1.trans h15 s2) h26 ((hro.mono s3.le).mono s4.le) m6 (by have:=s2.size; omega) (s2.le _ _ hjr) (s2.le _ _ hjm) (her.mono s2.le)
   ⟨since,seen.push x.born,clock,by rw[h28]; exact h5,by rw[h29]; exact h7,i3',i5,i5,fun i' x' hx'=>?_,rfl⟩
  have:=left_shrinks ents seen x hx;omega
  exact List.nodup_append.2 ⟨hnd,by simp,fun p hp q hq=>by rw[Vb] at hq; subst hq; exact fun e=>hiS (e▸hp)⟩
  intro p hp;rcases Vq.1 hp with hp|hp
  exact hSl p hp
  rw[Vb.1 hp]; exact hil
  have hcp:(seen.push x.born).contains x'.born=true↔(seen.contains x'.born=true\/x'.born=x.born):=by simp[Array.mem_push]
  rw[hcp,i0 i' x' hx',Vq,Vb];refine or_congr Iff.rfl ⟨fun e=>?_,fun e=>?_⟩
  have h11:(ents.toList.map (·.born))[i']? = some x'.born:=by rw[VQ]; simp[hx']
  have h2:(ents.toList.map (·.born))[i]? = some x.born:=by rw[VQ]; simp[hi']
  have hl':i'<(ents.toList.map (·.born)).length:=(Vn.1 h11).1;exact(List.getElem_inj (h₀:=hl') (h₁:=(Vn.1 h2).1) hinc.2).1 (by
   rw[(Vn.1 h11).2,(Vn.1 h2).2,e])
  subst e; rw[hi'] at hx'; cases hx'; rfl
end
section
variable{E:Env}{n:Nat}{fn:YI}{ro:YA Nat}
def MR.Rm{j:aR}{m:Yq}{w:XM}(h:MR E j m w)(x:Nat):MR E j (m.ww x) w :=
 ⟨fun b k e=>by rw[Yq.next_ww]; exact h.lt b k e,fun b o k ho=>by rw[Yq.get_ww] at ho; exact h.obj b o k ho,fun b b' k k' e e'=>by rw[Yq.get_ww,Yq.get_ww]; exact h.inj b b' k k' e e',h.glob⟩
def PX{j j':aR}{m m':Yq}{w w':XM}{x:Nat}(s:Sim E j (m.ww x) w j' m' w'):Sim E j m w j' (m'.ww (min m.wl m'.wl)) w' where
 ext:=⟨by have:=s.ext.next; rwa[Yq.next_ww] at this ⊢,by rw[Yq.wl_ww]; omega,fun b hb hl=>by
  rw[Yq.wl_ww] at hl;have:=s.ext.same b (by rw[Yq.next_ww]; exact hb) (by omega)
  rwa[Yq.get_ww] at this ⊢,fun b hb hn=>by
  have:=s.ext.dead b (by rw[Yq.next_ww]; exact hb) (by rw[Yq.get_ww]; exact hn)
  rwa[Yq.get_ww]⟩
 le:=s.le
 new:=fun b k h h'=>by have:=s.new b k h h'; rwa[Yq.next_ww] at this
 mr:=s.mr.Rm _
 size:=s.size
 full:=fun b h h' hl=>by
  rw[Yq.next_ww] at h';rw[Yq.get_ww] at hl;exact s.full b (by rw[Yq.next_ww]; exact h) h' hl
 away:=fun b hb hn=>by
  have:=s.away b (by rw[Yq.next_ww]; exact hb) hn
  rwa[Yq.get_ww] at this ⊢
 fresh:=fun b k h h'=>by
  rcases s.fresh b k h h' with hf|⟨b0,k0,a1,a2,a3,a4⟩
  exact .inl hf
  rw[Yq.get_ww] at a2;exact .inr ⟨b0,k0,a1,a2,a3,by rw[Yq.wl_ww]; omega⟩
 frame:=fun c hc H=>s.frame c hc fun b k hb hl he=>by
  rw[Yq.get_ww] at hl;have:=H b k hb hl he;rw[Yq.wl_ww] at this; omega
 calm:=s.calm
def mR(m:Yq):Yq:=((m.alloc (.cells [] .own)).kill m.next).ww (m.next+1)
def eo(m:Yq):(mR m).next=m.next+1:=by unfold mR; rw[Yq.next_ww,Yq.next_kill,Yq.next_alloc]
def yx(m:Yq):(mR m).wl=m.next+1:=by unfold mR; rw[Yq.wl_ww]
def iY(m:Yq)(b:Nat):(mR m).get b=if b=m.next then none else m.get b:=by
 unfold mR;rw[Yq.get_ww,Yq.dv,Yq.aU]
 split<;>rfl
def GU{j:aR}{m:Yq}{w:XM}(h:MR E j m w)(o:Obj):Sim E j (m.ww (m.next+1)) w (j.set m.next ⟨w.heap.size,none⟩) (mR m) (w.alloc o):=by
 have hn:j m.next=none:=h.oI
 have hget:∀c,c<w.heap.size->(w.alloc o).heap[c]? = w.heap[c]?:=fun c hc=>by
  show(w.heap.push o)[c]? = w.heap[c]?
  rw[WO,XP]
 refine⟨⟨by rw[Yq.next_ww,eo]; omega,by rw[Yq.wl_ww,yx]; omega,fun b hb _=>?_,fun b hb hd=>?_⟩,aR.qw _ hn,fun b k e e'=>?_,⟨fun b k e=>?_,fun b a k ha e=>?_,fun b b' k k' e e' hl hl' hc=>?_,fun g hg=>?_⟩,by rw[World.size_alloc]; omega,fun b hb hb' hl=>?_,fun b hb hj=>?_,fun b k e e'=>?_,fun c hc _=>hget c hc,⟨rfl,rfl,rfl,fun _=>U8 _⟩⟩
 rw[Yq.next_ww] at hb;rw[iY,XP,Yq.get_ww]
 rw[Yq.next_ww] at hb;rw[Yq.get_ww] at hd;rw[iY,XP,hd]
 by_cases hb:b=m.next
 rw[hb,Yq.next_ww]; exact U8 _
 rw[aR.bV _ _ hb,e'] at e; cases e
 rw[eo,World.size_alloc]
 by_cases hb:b=m.next
 subst hb; rw[aR.cn] at e; cases e;exact⟨Xb _,Xb _⟩
 rw[aR.bV _ _ hb] at e;exact⟨Nat.lt_succ_of_lt (h.lt b k e).1,Nat.lt_succ_of_lt (h.lt b k e).2⟩
 rw[iY] at ha
 split at ha
 cases ha
 rename_i hb;rw[aR.bV _ _ hb] at e;obtain⟨o',h1,h2⟩:=h.obj b a k ha e;exact⟨o',by rw[hget _ (h.lt b k e).2]; exact h1,h2.mono (aR.qw _ hn)⟩
 rw[iY] at hl hl'
 split at hl
 cases hl
 rename_i hb
 split at hl'
 cases hl'
 rename_i hb';rw[aR.bV _ _ hb] at e;rw[aR.bV _ _ hb'] at e';exact h.inj b b' k k' e e' hl hl' hc
 have h1:=h.glob g hg;have hlt:=(h.lt g _ h1).1;rw[aR.bV _ _ (by omega)]; exact h1
 rw[Yq.next_ww] at hb;rw[eo] at hb';rw[iY,XQ] at hl
 cases hl
 rw[Yq.next_ww] at hb;rw[iY,XP,Yq.get_ww]
 by_cases hb:b=m.next
 subst hb; rw[aR.cn] at e; cases e;exact .inl (U8 _)
 rw[aR.bV _ _ hb,e'] at e; cases e
def js.mapRange(hE:EnvOk E)(hmono:¬E.mono){B B' i1 i2 i3:Nat}{o1 o2 oN oX oE:Oper}{rest:YB Oper}{o5:YD Oper}{X:Code}{d1 d0 e0 e2 f0:Tmp}{mt kt et:XJ}
  (h1:o1.dst=some d1/\o1.guard=none) (h0:o2.op=.range mt (.tmp d1)/\o2.dst=some d0/\o2.guard=none) (hmt:E.P.underlying mt=some (.map kt et))
  (hN:oN.op=.next (.tmp d0) false/\oN.dst=some e0/\oN.guard=none) (hX:oX.op=.extract (.tmp e0) 0/\oX.dst=some e2/\oX.guard=none) (hOE:oE.op=.entry (.tmp d0)/\oE.dst=some f0/\oE.guard=none) (h5:o5.toList=oE::rest)
  (hb:d1<n/\d0<n/\e0<n/\e2<n/\f0<n) (h6:e0≠d0) (h7:e2≠d0) (h8:f0≠d0)
  {Q:Yr->Tm->Yq->Prop} {t:Tm} {m:Yq} {bm:Nat} {es:YB (XI×XI)} (hld:fM E t m o1.op=some (.map (some bm),m)) (hbm:m.get bm=some (.map es)) (hbl:bm<m.next)
  (Inv:YB Nat->Tm->Yq->Prop) (hExt:∀S t' m',Inv S t' m'->m'.get bm=some (.map es)/\m.next<=m'.wl/\t'.at d0=ptr m.next 0)
  (hinit:Inv [] ((t.set d1 (.map (some bm))).set d0 (ptr m.next 0)) (mR m))
  (hstep:∀S i e t m,S.Nodup->(∀i∈S,i<es.length)->i∉S->es[i]? = some e->Inv S t m->qi E n o5 (fun t' m'=>ck E n fn ro X (fun e' t'' m''=>e'=.normal/\Inv (S++[i]) t'' m'') t' m') rest (((t.set e0 (.tuple #[.bool true,e.1,e.2])).set e2 (.bool true)).set f0 (.tuple #[e.1,e.2])) m)
  (hend:∀S t' m',S.Perm (List.range es.length)->Inv S t' m'->Q .normal ((t'.set e0 (.tuple #[.bool false])).set e2 (.bool false)) (m'.ww (min m.wl m'.wl))) :
  js E n fn ro (.seq (.region i1 #[o1,o2] false) (.block B (.loop (.seq (.region i2 #[oN,oX] false) (.seq (.cond (.tmp e2) .skip (.exit B)) (.block B' (.seq (.region i3 o5 false) X))))))) Q t m:=fun j w a F N hm ht hro hmk hNw=>by
 refine wpIn_seq (wpIn_region ?_);have hlist:List.range (#[o1,o2]:YD Oper).size=[0,1]:=rfl;rw[hlist];have w0':Region.wanted o1 (yielded #[o1,o2] a.tmps)=true:=by simp[Region.wanted,h1.2]
 have g0:(#[o1,o2]:YD Oper)[0]? = some o1:=rfl;have g1:(#[o1,o2]:YD Oper)[1]? = some o2:=rfl;simp only[wpOpsIn,g0,g1,w0',if_true];obtain⟨j1,w1,v0,q1,s1,q3⟩:=Hk hm ht (o:=o1) hld;refine dS hro.wide (oA hld) q1 ?_;cases q3 with
 | map hj =>
 rename_i kb;obtain⟨oo,hh,hor⟩:=s1.mr.obj bm _ kb hbm hj;cases oo with
 | map ents clock =>
  have h2:=(ht.mono s1.le).put (t':=t.set d1 (.map (some bm))) (dst:=o1.dst) (VR.map hj) (by rw[h1.1,dq,U5 hb.1])
  rw[h1.1] at h2 ⊢;have w1':Region.wanted o2 (yielded #[o1,o2] (a.put (some d1) (.map (some kb.c))).tmps)=true:=by simp[Region.wanted,h0.2.2]
  rw[U5 w1'];have hsz:a.tmps.size=n:=ht.1;have h9:execOp (a.put (some d1) (.map (some kb.c))).eval o2=(do pure (.value (<-Instr.range mt (.map (some kb.c))))):=by
   simp only[execOp,h0.1];rw[eval_put (v:=.map (some kb.c)) (d:=d1) (a:=a) (hsz.symm▸hb.1)]
  have hd2':∀c,o2.op≠.defer c:=fun c e=>by rw[h0.1] at e; cases e
  refine dS hro.wide hd2' (by rw[h9]; exact mX.value (run_range_map w1 mt kt et kb.c ents clock hmt hh)) ?_
  have s2:=GU s1.mr (.mapIter (some kb.c) clock #[] clock);have h3:(j1.set m.next ⟨w1.heap.size,none⟩) m.next=some ⟨w1.heap.size,none⟩:=aR.cn _ _ _
  have h4:=(h2.mono s2.le).put (t':=(t.set d1 (.map (some bm))).set d0 (ptr m.next 0)) (dst:=o2.dst) (v:=ptr m.next 0) (v':=.pointer (some ⟨w1.heap.size,0,none⟩)) (VR.ptr h3) (by rw[h0.2.1,dq,U5 hb.2.1])
  rw[h0.2.1] at h4 ⊢;have m2:Marks N (w1.alloc (.mapIter (some kb.c) clock #[] clock)) a.defers:=(hmk.Ie hm s1).Ie (s1.mr.Rm (m.next+1)) s2
  have hsize:w1.heap.size<(w1.alloc (.mapIter (some kb.c) clock #[] clock)).heap.size:=by rw[World.size_alloc]; omega
  have hcl:kb.c<w1.heap.size:=(Vh.1 hh).1;have Ka:Rx (w1.alloc (.mapIter (some kb.c) clock #[] clock)) w1.heap.size kb.c ents clock [] (leftOf ents #[]).size :=
   ⟨clock,#[],clock,by show(w1.heap.push _)[w1.heap.size]? = _; simp,by show(w1.heap.push _)[kb.c]? = _; rw[WO,XP]; exact hh,hor.2.1,U8 _,U8 _,fun i x hx=>by simp,rfl⟩
  refine wpIn_block (nQ ?_);have hL:=GZ (fn:=fn) (B:=B) (B':=B') (i2:=i2) (i3:=i3) (X:=X) hE hmono hN hX hOE h5 hb.2.2.1 hb.2.2.2.1 hb.2.2.2.2 h6 h7 h8 (s1.mr.Rm (m.next+1)) (bm:=bm) (bi:=m.next) (es:=es) (lim:=m.next) (by rw[Yq.get_ww]; exact hbm) hbl Inv hExt hstep (U8 _) (kb:=kb) (ents:=ents) (clock:=clock) hor.2 a.defers N _ [] _ _ (mR m) _ _ (((a.put (some d1) (.map (some kb.c))).put (some d0) (.pointer (some ⟨w1.heap.size,0,none⟩)))) F (Xb _) List.nodup_nil (fun i h=>by cases h) hinit s2 h4 ((hro.mono s1.le).mono s2.le) m2 (by have:=s1.size; omega) h3 (s2.le _ _ hj) (hor.1.mono s2.le) Ka
  intro bF k cs h10 h11 h12;obtain⟨e',a',w',⟨S,t',m',hS,hI,hq⟩,harr⟩:=hL bF k cs h10 h11 h12;obtain⟨rfl,jf,sf,tf,mf⟩:=hq;refine⟨_,a',w',?_,harr⟩
  show Exit.inBlock B _ (.exit B) a' w'
  simp only[Exit.inBlock,if_true];exact⟨.normal,_,_,hend S t' m' hS hI,rfl,jf,s1.trans hm (PX sf),tf,mf⟩
 | _=>exact hor.elim
end
end Go.Ab
end
section
namespace Go.Ab.W
open Go Go.Ab
attribute [local irreducible] Tm.at Trie.set Trie.get Yq.get Yq.set Yq.alloc Yq.ww Yq.kill
def oe(F:Func):Code:=match F.body with
 | some c=>c
 | none=>.skip
def Sr:Nat->Code->Code
 | k+1,.seq _ b=>Sr k b
 | _,c=>c
section
variable{E:Env}{n:Nat}{m0:Yq}{fs fs':Fs}{ps ps':YB Pc}{fn:YI}{ro:YA Nat}{Q:Yr->Tm->Yq->Prop}{a b c:Code}
def Vk(E:Env)(n:Nat)(fn:YI)(ro:YA Nat)(c:Code)(Q:Yr->Tm->Yq->Prop)(m0:Yq)(fs:Fs)(ps:YB Pc):Prop:=∀t m,Fr t fs->Hp m0 m ps->js E n fn ro c Q t m
def Vk.seq(hE:EnvOk E)(h:Wk E n fn ro a (pQ (js E n fn ro b Q) Q) m0 fs ps):Vk E n fn ro (.seq a b) Q m0 fs ps:=fun t m hf hm=>.seq hE (h t m hf hm)
def Vk.of(hE:EnvOk E)(h:Wk E n fn ro c Q m0 fs ps):Vk E n fn ro c Q m0 fs ps:=fun t m hf hm=>.of hE (h t m hf hm)
def At.Iu(h:Vk E n fn ro b Q m0 fs ps):At (pQ (js E n fn ro b Q) Q) .normal m0 fs ps:=h
def Vk.H4(hs:sub fs fs')(h:ai m0 ps ps')(k:Vk E n fn ro c Q m0 fs' ps'):Vk E n fn ro c Q m0 fs ps:=fun t m hf hm=>k t m (hf.sub hs) (h m hm)
def Hp.FW{m m':Yq}{new:YB Pc}(h:Hp m0 m ps)(h':Hp (mR m) m' new)(ho:∀p∈new,p.bound=true/\∀b,p.any b->p.ow b):Hp m0 (m'.ww (min m.wl m'.wl)) (new++ps):=by
 have e1:=h.ext.next
 have e2:=h'.ext.next
 rw[eo] at e2;have e3:=h.ext.wl;have e4:=h'.ext.wl;rw[eo,yx] at e4;have hold:∀b,b<m.next->(m'.ww (min m.wl m'.wl)).get b=m.get b:=fun b hb=>by
  rw[Yq.get_ww,h'.ext.same b (by rw[eo]; omega),iY,XP]
 refine⟨⟨by rw[Yq.next_ww]; omega,fun b hb=>by rw[hold b (by omega)]; exact h.ext.same b hb,by rw[Yq.wl_ww]; omega⟩,fun p hp=>?_,Wd.2 ⟨h'.apart,h.apart,fun p hp q hq=>⟨fun b x1 x2=>?_,fun b x1 x2=>?_⟩⟩⟩
 rcases Vq.1 hp with hp|hp
 refine Pc.gJ (Pc.EX (h'.ok p hp) (by rw[eo]; omega)) (by rw[Yq.next_ww]; exact U8 _) fun b _ _=>by rw[Yq.get_ww]
 exact Pc.gJ (h.ok p hp) (by rw[Yq.next_ww]; omega) fun b _ hlt=>hold b hlt
 have h1:=Pc.s9 (h'.ok p hp) (ho p hp).1 x1;have h2:=Pc.fY (h.ok q hq) x2;rw[eo] at h1; omega
 have h1:=Pc.s9 (h'.ok p hp) (ho p hp).1 ((ho p hp).2 b x2);have h2:=Pc.fY (h.ok q hq) (Pc.jo x1);rw[eo] at h1; omega
def Vk.mapRange(hE:EnvOk E)(hmono:¬E.mono){γ:Type}{B B' i1 i2 i3:Nat}{o1 o2 oN oX oE:Oper}{rest:YB Oper}{o5:YD Oper}{X R:Code}{d1 d0 e0 e2 f0:Tmp}{mt kt et:XJ}
  (h0:o1.dst=some d1/\o1.guard=none) (h1:o2.op=.range mt (.tmp d1)/\o2.dst=some d0/\o2.guard=none) (hmt:E.P.underlying mt=some (.map kt et))
  (hN:oN.op=.next (.tmp d0) false/\oN.dst=some e0/\oN.guard=none) (hX:oX.op=.extract (.tmp e0) 0/\oX.dst=some e2/\oX.guard=none) (hOE:oE.op=.entry (.tmp d0)/\oE.dst=some f0/\oE.guard=none) (h2:o5.toList=oE::rest)
  (hb:d1<n/\d0<n/\e0<n/\e2<n/\f0<n) (hd:e0≠d0/\e2≠d0/\f0≠d0)
  {bm k:Nat} {es:YB (XI×XI)} (hld:∀t m,Fr t fs->Hp m0 m ps->fM E t m o1.op=some (.map (some bm),m)) (hk:pk ps k=some (.obj bm (.map es)))
  (I:Nat->YB Nat->γ->Fs×YB Pc) (hI:∀bi S g,lk (I bi S g).1 d0=some (ptr bi 0)) (hbd:∀bi S g,∀p ∈(I bi S g).2,p.bound=true/\∀b,p.any b->p.ow b)
  (g1:Nat->γ) (hinit:∀bi,sub ((d0,ptr bi 0)::(d1,.map (some bm))::fs) (I bi [] (g1 bi)).1/\∀m1,ai m1 [] (I bi [] (g1 bi)).2)
  (hstep:∀bi m1 S i e g,S.Nodup->(∀i∈S,i<es.length)->i∉S->es[i]? = some e->Wo false E n o5 (fun t' m'=>ck E n fn ro X (fun e' t'' m''=>e'=.normal/\∃g',Fr t'' (I bi (S++[i]) g').1/\Hp m1 m'' (I bi (S++[i]) g').2) t' m') rest m1 ((f0,.tuple #[e.1,e.2])::(e2,.bool true)::(e0,.tuple #[.bool true,e.1,e.2])::(I bi S g).1) (I bi S g).2)
  (hend:∀bi S g,S.Perm (List.range es.length)->Vk E n fn ro R Q m0 ((e2,.bool false)::(e0,.tuple #[.bool false])::(I bi S g).1) ((I bi S g).2++ps)) :
  Vk E n fn ro (.seq (.seq (.region i1 #[o1,o2] false) (.block B (.loop (.seq (.region i2 #[oN,oX] false) (.seq (.cond (.tmp e2) .skip (.exit B)) (.block B' (.seq (.region i3 o5 false) X))))))) R) Q m0 fs ps:=fun t m hf hm=>by
 refine .R5 ?_;have hp:Pc.ok m0.next m (.obj bm (.map es)):=hm.get hk
 refine js.mapRange hE hmono h0 h1 hmt hN hX hOE h2 hb hd.1 hd.2.1 hd.2.2 (hld t m hf hm) hp.2.2 hp.2.1 (fun S t' m'=>∃g,Fr t' (I m.next S g).1/\Hp (mR m) m' (I m.next S g).2) (fun S t' m' ⟨g,g0,g2⟩=>?_) ?_ ?_ ?_
 refine⟨?_,?_,g0 _ _ (hI _ _ _)⟩
 rw[g2.ext.same bm (by rw[eo]; have:=hp.2.1; omega),iY,U3 (by have:=hp.2.1; omega)]
 exact hp.2.2
 have:=g2.ext.wl;rw[eo,yx] at this; omega
 obtain⟨j1,j2⟩:=hinit m.next
 exact⟨g1 m.next,Fr.sub (Fr.set (Fr.set hf)) j1,j2 _ _ (XZ _)⟩
 intro S i e t' m' x1 x2 x3 x4 ⟨g,g0,g2⟩;exact hstep m.next (mR m) S i e g x1 x2 x3 x4 _ _ (Fr.set (Fr.set (Fr.set g0))) g2
 intro S t' m' hS ⟨g,g0,g2⟩;exact hend m.next S g hS _ _ (Fr.set (Fr.set g0)) (hm.FW g2 (hbd _ _ _))
def IL(E:Env)(f:YI)(args:YB XI)(m:Yq)(R:XI->Yq->Prop):Prop:=∀(j:aR) (w:XM) (args':YB XI),MR E j m w->LR j args args'->iy E.P false f args'.toArray w (fun v' w'=>∃v1 m1,R v1 m1/\jR E j m w v1 m1 v' w')
def GO(hE:EnvOk E){f:YI}{F:Func}{args:YB XI}{rs:YB ResultVar}{N:Nat}{R:XI->Yq->Prop}{m:Yq}(hf:E.P.funcs[f]? = some F)(hb:F.body=some c)(hrs:F.results.toList=rs)(hN:max args.length F.ntmps=N)
  (h:js E N f none c (j5 E rs R) (Trie.ofList args 0 .nil) m):IL E f args m R:=fun j w args' hm hl=>by
 subst hrs hN;refine .inl ⟨hE.call f F c hf hb _ w,?_⟩;refine callsIn_of_wp_marks hf hb trivial ?_;refine wpIn_mono (h j w { tmps:=args'.toArray++Xy (F.ntmps-args'.toArray.size) undef,defers:=[]} Fence.wide w.heap.size hm (TR.enter hl F.ntmps) rfl (Marks.nil _ _) (U8 _)) ?_;rintro e' a' w' ⟨e,t',m',hq,rfl,j',s,ht,rs,hnd,hds,hrs⟩;have key:∀{vs:YB XI},cT E t' m' F.results.toList=some vs->R (jr vs) m'->LeavesInM Fence.wide 0 E.P F a'.tmps (fun e w'=>∃v,e=.returned v/\∃v1 m1,R v1 m1/\jR E j m w v1 m1 v w') a'.defers .returning w':=by
  intro vs hvs hR;rw[hds];refine lZ (fun w'' s'=>?_) rs w' s hnd hrs;obtain⟨v',hv1,hv2⟩:=tz s'.mr ht hvs;exact⟨v',hv1,v',rfl,jr vs,m',hR,j',s',hv2⟩
 cases e with
 | exit id=>exact hq.elim
 | normal =>
  simp only[j5] at hq;unfold A0 at hq
  split at hq
  rename_i vs hv; exact key hv hq
  exact hq.elim
 | ret =>
  simp only[j5] at hq;unfold A0 at hq
  split at hq
  rename_i vs hv; exact key hv hq
  exact hq.elim
def AB(hE:EnvOk E){f:YI}{F:Func}{args:YB XI}{rs:YB ResultVar}{N:Nat}{R:XI->Yq->Prop}{m:Yq}(hf:E.P.funcs[f]? = some F)(hb:F.body=some c)(hrs:F.results.toList=rs)(hN:max args.length F.ntmps=N)(hm:Hp m0 m ps)
  (h:Vk E N f none c (j5 E rs R) m0 (pL args 0 []) ps):IL E f args m R:=GO hE hf hb hrs hN (h _ m (Fr.args args 0 [] _ (Fr.nil _)) hm)
end
def AU{α:Type}(r:Rep α):Prop:=∀(m:Yq) (R R':XH) (x x':α) (g g':r.G),r.A m R x g->r.A m R' x' g'->r.V x g=r.V x' g'->x=x'
def zO{α:Type}{f:α->YB XI}(hf:∀x y,f x=f y->x=y){m:Yq}{a:XG}{cap cap' w n n':Nat}{l l':YB α}(h:Rd m a cap w n (l.map f))(h':Rd m a cap' w n' (l'.map f))(hn:n=n'):l=l':=by
 subst hn;have hl:l.length=l'.length:=by have:=h.1.trans h'.1.symm; simpa using this
 refine Wg fun i=>?_
 by_cases hi:i<l.length
 have e1:(l.map f)[i]? = some (f l[i]):=by simp[hi]
 have e2:(l'.map f)[i]? = some (f (l'[i]'(by omega))):=by simp[show i<l'.length by omega]
 have hn:0<n:=by have:=h.1; simp at this; omega
 rcases h.2.2 with⟨_,h0⟩|⟨_,_,_,h0,_⟩|⟨b,o,ha,_,all,tg,g1,_,g2⟩
 omega
 omega
 rcases h'.2.2 with⟨_,h0⟩|⟨_,_,_,h0,_⟩|⟨b',o',ha',_,all',tg',g1',_,g2'⟩
 omega
 omega
 rw[ha] at ha'; cases ha';rw[g1] at g1'; cases g1';have:=(g2 i _ e1).1.symm.trans (g2' i _ e2).1;rw[U4 hi,U4 (show i<l'.length by omega),hf _ _ this]
 rw[V8 (by omega),V8 (by omega)]
def xr{m:Yq}{a:XG}{cap cap' w n n':Nat}{es es':XF}(h:Rd m a cap w n es)(h':Rd m a cap' w n' es')(hn:n=n'):es=es':=by
 have:=zO (f:=fun e:YB XI=>e) (fun _ _ h=>h) (m:=m) (a:=a) (cap:=cap) (cap':=cap') (w:=w) (n:=n) (n':=n') (l:=es) (l':=es') (by rw[List.map_id']; exact h) (by rw[List.map_id']; exact h') hn
 exact this
def Rs{α:Type}{f:α->YB XI}{w:Nat}(hf:∀x y,f x=f y->x=y):AU (rS f w):=fun m R R' x x' g g' h h' e=>by
 have e1:Value.slice g.1 x.length g.2=.slice g'.1 x'.length g'.2:=WB e;injection e1 with e2 e3 e4;have h1:=h.1;have h2:=h'.1;rw[<-e2] at h2;exact zO hf h1 h2 e3
def Deep.uniq{α:Type}{r:Rep α}(hr:AU r){m:Yq}{R R':XH}{L L':YB α}{es:XF}(h:Deep r m R L es)(h':Deep r m R' L' es):L=L':=by
 have hl:L.length=L'.length:=h.1.symm.trans h'.1;refine Wg fun i=>?_
 by_cases hi:i<L.length
 obtain⟨g,e1,a1⟩:=h.2 i L[i] (by simp)
 obtain⟨g',e2,a2⟩:=h'.2 i (L'[i]'(by omega)) (by simp)
 rw[U4 hi,U4 (show i<L'.length by omega),hr m R R' _ _ g g' a1 a2 (U9 (e1.symm.trans e2))]
 rw[V8 (by omega),V8 (by omega)]
def Ti{α:Type}{r:Rep α}(hr:AU r):AU (rL r):=fun m R R' x x' g g' h h' e=>by
 have e1:Value.slice g.1 x.length g.2.1=.slice g'.1 x'.length g'.2.1:=WB e;injection e1 with e2 e3 e4;have h1:=h.1;have h2:=h'.1;rw[<-e2] at h2;have e5:=xr h1 h2 e3;have d2:=h'.2.2;rw[<-e5] at d2;exact h.2.2.uniq hr d2
def TE{α β:Type}{r:Rep α}{s:Rep β}(hr:AU r)(hs:AU s):AU (rP r s):=fun m R R' x x' g g' h h' e=>by
 have e0:r.V x.1 g.1++s.V x.2 g.2=r.V x'.1 g'.1++s.V x'.2 g'.2:=e;obtain⟨e1,e2⟩:=List.append_inj e0 (by rw[r.len,r.len])
 exact VN (hr m R R' _ _ _ _ h.1 h'.1 e1) (hs m R R' _ _ _ _ h.2 h'.2 e2)
section
variable{α:Type}{m0 m:Yq}{ps:YB Pc}{r:Rep α}
def ai.RA{q i j:Nat}{R:XH}{L L':YB α}{es:XF}(hq:pk ps q=some (.gen (cE r R L es)))(hL:L.take i++L.drop j=L'):ai m0 ps (.gen (cE r R L' (es.take i++es.drop j))::ps):=fun m hm=>by
 subst hL;exact hm.Bi hq (fun _=>ep) ⟨⟨by
  have h:=(hm.get hq).1.1;have h1:=h.sub 0 i;have h2:=h.sub j (L.length-j);rw[W3,W3] at h1;rw[WG (by simp),WG (by simp[h.1])] at h2
  exact h1.append h2,(hm.get hq).1.2⟩,fun _ b hb=>hb.elim⟩ (fun _=>ep) fun _ h=>h
end
end Go.Ab.W
end
section
section
open Go Go.Ab Go.Ab.W
def Yk:Nat->Nat->YB Nat
 | _,0=>[]
 | a,n+1=>a::Yk (a+1) n
abbrev Yl{α:Type}(l:YB α)(k:Int):YB α:=(l.drop XO).take ((mi (l.length:Int) k).toNat-XO)
end
namespace Go.Proofs.Ytmndpgfbkicndaa
open Go Go.Ab Go.Ab.W
abbrev dm:=XC
abbrev fL:dm->YB XI:=eP (eI .i64) (eP (eI .i64) (eP (eI .i64) (eI .i64)))
def cN:YB XI->YA (YB dm)
 | []=>some []
 | .int .i64 a::.int .i64 b::.int .i64 c::.int .i64 d::r=>(cN r).map ((a,b,c,d)::·)
 | _=>none
def eK(x y:dm):Bool:=decide (x.1<y.1\/x.1=y.1/\x.2.1<=y.2.1)
def rJ(l:YB dm):Bool:=l.all (fun x=>decide (0<=x.1)&&decide (x.1<120)&&decide (0<=x.2.1)&&decide (x.2.1<120))&&decide ((l.map fun x=>(x.1,x.2.1)).Nodup)
def ir(m:Yq)(w b n n':Nat):YA (YB XI×Tag) :=
 match m.get b with
 | some (.cells cs .own)=>if n=n'/\cs.length=n*w then some (cs,.own) else none
 | some (.cells cs (.more k))=>if n=n'/\cs.length=n*w/\k=w then some (cs,.more k) else none
 | _=>none
def lI(args:YB XI)(m:Yq):YA (XI×Yq) :=
 match args with
 | [.slice none 0 _,.func (.func 52) xs ys]=>if xs.size=0/\ys.size=0 then some (.tuple #[],m) else none
 | [.slice (some ⟨b,0,none⟩) n n',.func (.func 52) xs ys] =>
  match ir m 4 b n n' with
  | some (cs,tg) =>
   match cN cs with
   | some l=>if(xs.size=0/\ys.size=0)/\lim n=true/\rJ l=true then some (.tuple #[],m.set b (.cells ((l.mergeSort eK).map fL).flatten tg)) else none
   | none=>none
  | none=>none
 | _=>none
def kP(z:XI)(args:YB XI)(m:Yq):YA (XI×Yq) :=
 match args with
 | [.slice (some ⟨b,0,none⟩) n n',.int .i64 i,.int .i64 j] =>
  match ir m 1 b n n' with
  | some (cs,tg)=>if 0<=i/\i<=j/\j<=n/\lim n=true/\cs.all mh=true then some (.slice (some ⟨b,0,none⟩) (n-(j.toNat-i.toNat)) n,m.set b (.cells (cs.take i.toNat++cs.drop j.toNat++List.replicate (j.toNat-i.toNat) z) tg)) else none
  | none=>none
 | _=>none
def lL(args:YB XI)(m:Yq):YA (XI×Yq) :=
 match args with
 | [.slice none 0 0,.int .i64 0,.slice (some ⟨vb,0,none⟩) 1 1] =>
  match m.get vb with
  | some (.cells [.int .i64 v] .own)=>some (.slice (some ⟨m.next,0,none⟩) 1 1,m.alloc (.cells [.int .i64 v] (.more 1)))
  | _=>none
 | [.slice (some ⟨b,0,none⟩) n n',.int .i64 i,.slice (some ⟨vb,0,none⟩) 1 1] =>
  match m.get vb,ir m 1 b n n' with
  | some (.cells [.int .i64 v] .own),some (cs,_) =>
   if vb≠b/\0<=i/\i<=n/\lim n=true/\cs.all aP=true then some (.slice (some ⟨m.next,0,none⟩) (n+1) (n+1),(m.kill b).alloc (.cells (cs.take i.toNat++.int .i64 v::cs.drop i.toNat) (.more 1))) else none
  | _,_=>none
 | _=>none
def Lo(f:YI):YA Prim:=if f=51 then some ⟨lI⟩ else if f=85 then some ⟨kP (.slice none 0 0)⟩ else if f=48 then some ⟨kP (.int .i64 0)⟩ else if f=49 then some ⟨lL⟩ else none
@[reducible] noncomputable def Yt (p q:YA Prim):Env:={ P:=Try.prog,glob:=0,cZ:=fun f=>if f=24 then p else if f=10 then q else Lo f,mono:=False}
def R3:ownKnob Try.prog.godebug=none:=by kernel_rfl
def BF:Cu Try.prog=true:=by kernel_rfl
set_option maxRecDepth 10000
set_option maxHeartbeats 4000000
attribute [local irreducible] Tm.at Trie.set Trie.get Yq.get Yq.set Yq.alloc Yq.ww Yq.kill
variable{p q:YA Prim}
def E6{P:XL}{ty e l c l' c':Nat}(hu:P.underlying ty=some (.slice e)):bW .eql ty P (.slice none l c) (.slice none l' c')=some (.bool true):=by
 simp only[bW,Op.maxDepth,k8,hu,Vx,Option.isNone_none]
def EA{P:XL}{ty e l c l' c':Nat}{A:Addr}(hu:P.underlying ty=some (.slice e)):bW .eql ty P (.slice (some A) l c) (.slice none l' c')=some (.bool false):=by
 simp only[bW,Op.maxDepth,k8,hu,Vx]
def Rd.ur{m:Yq}{cap w n:Nat}{es:XF}(h:Rd m none cap w n es):n=0:=by
 rcases h.2.2 with⟨_,h⟩|⟨_,_,h,_⟩|⟨_,_,h,_⟩
 exact h
 cases h
 cases h
def O0:(Yt p q).P.underlying 51=some (.slice 3):=by kernel_rfl
def Pv:SlT (Yt p q).P 51 3 1:=SlT.of (by kernel_rfl)
def S7:bp (Yt p q).P 3=some (.int .i64 0):=by kernel_rfl
def K8(n:Nat)(es:XF)(a:XG)(c:Nat)(hl:lim n=true)(hw:∀e∈es,e.length=1)(ho:db es)(m:Yq)(h:Rd m a c 1 n es):aK (Yt p q) 47 [.slice a n c] m (fun v m'=>∃x:XG,v=.slice x n n/\Hp m m' [.sl x 1 n es]):=by
 cases a with
 | none =>
  have h0:=Rd.ur h;subst h0;have:es=[]:=VJ.1 h.1;subst this;refine aS (m0:=m) (ps:=[]) (N:=8) (rs:=[.tmp 2]) rfl Try.func47 rfl rfl rfl (XZ m) ?_;refine XS ?_;refine XT ?_;refine XR (bE rfl) rfl ?_;refine XW ?_;refine XX ?_;refine XS ?_;refine XS ?_;refine XT ?_;refine XR (aX rfl) rfl ?_;refine XR (aL rfl rfl (E6 O0)) rfl ?_;refine XW ?_;refine XX ?_;refine X7 rfl rfl ?_;refine XS ?_;refine XT ?_;refine XR (bE rfl) rfl ?_;refine XW ?_;refine XX ?_;refine Yb ?_;refine At.tr ?_;exact X2 (.tmp rfl .nil) fun m' hm=>⟨none,rfl,(ai.nil 1 rfl) m' hm⟩
 | some A =>
  refine aS (m0:=m) (ps:=[.rd (some A) c 1 n es]) (N:=8) (rs:=[.tmp 2]) rfl Try.func47 rfl rfl rfl ((XZ m).dc eL h) ?_;refine XS ?_;refine XT ?_;refine XR (bE rfl) rfl ?_;refine XW ?_;refine XX ?_;refine XS ?_;refine XS ?_;refine XT ?_;refine XR (aX rfl) rfl ?_;refine XR (aL rfl rfl (EA O0)) rfl ?_;refine XW ?_;refine XX ?_;refine Yc rfl rfl ?_;refine X9 ?_;refine XX ?_;refine XS ?_;refine XT ?_;refine X1 (cB (es:=[]) Pv rfl (cz Pv S7 rfl rfl) rfl rfl) gn rfl fun b=>?_;refine XR (aX rfl) rfl ?_;refine X0 (ai.close (k:=0) rfl) ?_;refine X1 (MA (k:=0) (k2:=1) (n:=0) (es:=[]) (es2:=es) Pv ⟨_,O0⟩ rfl rfl rfl (.rd _ _ _ _ _) hw ho (by rw[VC]; exact hl)) gn rfl fun a2=>?_
  refine XR (bE rfl) rfl ?_;refine XW ?_;refine XX ?_;refine Yb ?_;exact X2 (.tmp rfl .nil) fun m' hm=>⟨a2,by show Value.slice a2 (0+n) (0+n)=_; rw[VC],by
   have:=(ai.aq [0] rfl rfl) m' hm;rwa[VC] at this⟩
def NZ(_:Nat)(l:YB (Int)):YA (YB (Int)):=gd (lim l.length) (some l)
def wk(n:Nat)(l:YB (Int))(a:XG)(c:Nat)(r:YB (Int))(hF:NZ n l=some r)(m:Yq)(h:Rd m a c 1 l.length (l.map (eI .i64))):aK (Yt p q) 47 [.slice a l.length c] m (fun v m'=>∃x:XG×Nat,v=.slice x.1 x.2 x.2/\Hp m m' [.sl x.1 1 x.2 (r.map (eI .i64))]):=by
 obtain⟨hl,hF⟩:=aD hF;cases hF;exact(K8 l.length (l.map (eI .i64)) a c hl ((uV .i64).uc l) ((uV .i64).db l) m h).mono fun v m' ⟨x,h1,h2⟩=>⟨(x,l.length),h1,h2⟩
def Oh:(Yt p q).P.underlying 31=some (.slice 26):=by kernel_rfl
def Qj:SlT (Yt p q).P 31 26 2:=SlT.of (by kernel_rfl)
def S0:bp (Yt p q).P 26=some (.agg #[.int .i64 0,.int .i64 0]):=by kernel_rfl
def Ly(n:Nat)(es:XF)(a:XG)(c:Nat)(hl:lim n=true)(hw:∀e∈es,e.length=2)(ho:db es)(m:Yq)(h:Rd m a c 2 n es):aK (Yt p q) 70 [.slice a n c] m (fun v m'=>∃x:XG,v=.slice x n n/\Hp m m' [.sl x 2 n es]):=by
 cases a with
 | none =>
  have h0:=Rd.ur h;subst h0;have:es=[]:=VJ.1 h.1;subst this;refine aS (m0:=m) (ps:=[]) (N:=8) (rs:=[.tmp 2]) rfl Try.func70 rfl rfl rfl (XZ m) ?_;refine XS ?_;refine XT ?_;refine XR (bE rfl) rfl ?_;refine XW ?_;refine XX ?_;refine XS ?_;refine XS ?_;refine XT ?_;refine XR (aX rfl) rfl ?_;refine XR (aL rfl rfl (E6 Oh)) rfl ?_;refine XW ?_;refine XX ?_;refine X7 rfl rfl ?_;refine XS ?_;refine XT ?_;refine XR (bE rfl) rfl ?_;refine XW ?_;refine XX ?_;refine Yb ?_;refine At.tr ?_;exact X2 (.tmp rfl .nil) fun m' hm=>⟨none,rfl,(ai.nil 2 rfl) m' hm⟩
 | some A =>
  refine aS (m0:=m) (ps:=[.rd (some A) c 2 n es]) (N:=8) (rs:=[.tmp 2]) rfl Try.func70 rfl rfl rfl ((XZ m).dc eL h) ?_;refine XS ?_;refine XT ?_;refine XR (bE rfl) rfl ?_;refine XW ?_;refine XX ?_;refine XS ?_;refine XS ?_;refine XT ?_;refine XR (aX rfl) rfl ?_;refine XR (aL rfl rfl (EA Oh)) rfl ?_;refine XW ?_;refine XX ?_;refine Yc rfl rfl ?_;refine X9 ?_;refine XX ?_;refine XS ?_;refine XT ?_;refine X1 (cB (es:=[]) Qj rfl (cz Qj S0 rfl rfl) rfl rfl) gn rfl fun b=>?_;refine XR (aX rfl) rfl ?_;refine X0 (ai.close (k:=0) rfl) ?_;refine X1 (MA (k:=0) (k2:=1) (n:=0) (es:=[]) (es2:=es) Qj ⟨_,Oh⟩ rfl rfl rfl (.rd _ _ _ _ _) hw ho (by rw[VC]; exact hl)) gn rfl fun a2=>?_
  refine XR (bE rfl) rfl ?_;refine XW ?_;refine XX ?_;refine Yb ?_;exact X2 (.tmp rfl .nil) fun m' hm=>⟨a2,by show Value.slice a2 (0+n) (0+n)=_; rw[VC],by
   have:=(ai.aq [0] rfl rfl) m' hm;rwa[VC] at this⟩
def SO(_:Nat)(l:XD):YA XD:=gd (lim l.length) (some l)
def P1(n:Nat)(l:XD)(a:XG)(c:Nat)(r:XD)(hF:SO n l=some r)(m:Yq)(h:Rd m a c 2 l.length (l.map (eP (eI .i64) (eI .i64)))):aK (Yt p q) 70 [.slice a l.length c] m (fun v m'=>∃x:XG×Nat,v=.slice x.1 x.2 x.2/\Hp m m' [.sl x.1 2 x.2 (r.map (eP (eI .i64) (eI .i64)))]):=by
 obtain⟨hl,hF⟩:=aD hF;cases hF;exact(Ly l.length (l.map (eP (eI .i64) (eI .i64))) a c hl ((Gs (uV .i64) (uV .i64)).uc l) ((Gs (uV .i64) (uV .i64)).db l) m h).mono fun v m' ⟨x,h1,h2⟩=>⟨(x,l.length),h1,h2⟩
def PY:(Yt p q).P.underlying 52=some (.slice 51):=by kernel_rfl
def Qk:SlT (Yt p q).P 52 51 1:=SlT.of (by kernel_rfl)
def Th:bp (Yt p q).P 51=some (.slice none 0 0):=by kernel_rfl
def Li(n:Nat)(es:XF)(a:XG)(c:Nat)(hl:lim n=true)(hw:∀e∈es,e.length=1)(ho:db es)(m:Yq)(h:Rd m a c 1 n es):aK (Yt p q) 86 [.slice a n c] m (fun v m'=>∃x:XG,v=.slice x n n/\Hp m m' [.sl x 1 n es]):=by
 cases a with
 | none =>
  have h0:=Rd.ur h;subst h0;have:es=[]:=VJ.1 h.1;subst this;refine aS (m0:=m) (ps:=[]) (N:=8) (rs:=[.tmp 2]) rfl Try.func86 rfl rfl rfl (XZ m) ?_;refine XS ?_;refine XT ?_;refine XR (bE rfl) rfl ?_;refine XW ?_;refine XX ?_;refine XS ?_;refine XS ?_;refine XT ?_;refine XR (aX rfl) rfl ?_;refine XR (aL rfl rfl (E6 PY)) rfl ?_;refine XW ?_;refine XX ?_;refine X7 rfl rfl ?_;refine XS ?_;refine XT ?_;refine XR (bE rfl) rfl ?_;refine XW ?_;refine XX ?_;refine Yb ?_;refine At.tr ?_;exact X2 (.tmp rfl .nil) fun m' hm=>⟨none,rfl,(ai.nil 1 rfl) m' hm⟩
 | some A =>
  refine aS (m0:=m) (ps:=[.rd (some A) c 1 n es]) (N:=8) (rs:=[.tmp 2]) rfl Try.func86 rfl rfl rfl ((XZ m).dc eL h) ?_;refine XS ?_;refine XT ?_;refine XR (bE rfl) rfl ?_;refine XW ?_;refine XX ?_;refine XS ?_;refine XS ?_;refine XT ?_;refine XR (aX rfl) rfl ?_;refine XR (aL rfl rfl (EA PY)) rfl ?_;refine XW ?_;refine XX ?_;refine Yc rfl rfl ?_;refine X9 ?_;refine XX ?_;refine XS ?_;refine XT ?_;refine X1 (cB (es:=[]) Qk rfl (cz Qk Th rfl rfl) rfl rfl) gn rfl fun b=>?_;refine XR (aX rfl) rfl ?_;refine X0 (ai.close (k:=0) rfl) ?_;refine X1 (MA (k:=0) (k2:=1) (n:=0) (es:=[]) (es2:=es) Qk ⟨_,PY⟩ rfl rfl rfl (.rd _ _ _ _ _) hw ho (by rw[VC]; exact hl)) gn rfl fun a2=>?_
  refine XR (bE rfl) rfl ?_;refine XW ?_;refine XX ?_;refine Yb ?_;exact X2 (.tmp rfl .nil) fun m' hm=>⟨a2,by show Value.slice a2 (0+n) (0+n)=_; rw[VC],by
   have:=(ai.aq [0] rfl rfl) m' hm;rwa[VC] at this⟩
def SM(_:Nat)(l:XE):YA XE:=gd (lim l.length) (some l)
def Qm(n:Nat)(l:XE)(es:XF){R:XH}(a:XG)(c:Nat)(r:XE)(hF:SM n l=some r)(m:Yq)(h:Rd m a c 1 l.length es)(hd:(cE (rS (eI .i64) 1) R l es).P m):aK (Yt p q) 86 [.slice a l.length c] m (fun v m'=>∃x:XG×Nat,v=.slice x.1 x.2 x.2/\Hp m m' [.sl x.1 1 x.2 es]):=by
 obtain⟨hl,hF⟩:=aD hF;exact(Li l.length es a c hl (fun e he=>hd.1.width e he) hd.1.db m h).mono fun v m' ⟨x,h1,h2⟩=>⟨(x,l.length),h1,h2⟩
def Q5(_:Nat)(l:XE)(i j:Int):YA XE:=gd (decide (0<l.length)&&decide (0<=i)&&decide (i<=j)&&decide (j<=(l.length:Int))&&lim l.length) (some (l.take i.toNat++l.drop j.toNat))
def M5(n:Nat){m0 m:Yq}{ps:YB Pc}{k qq:Nat}{a:XG}{R:XH}{l r:XE}{es:XF}{i j:Int}(h:Hp m0 m ps)(hp:pk ps k=some (.sl a 1 l.length es))(hq:pk ps qq=some (.gen (cE (rS (eI .i64) 1) R l es)))(hF:Q5 n l i j=some r) :
  aK (Yt p q) 85 [.slice a l.length l.length,.int .i64 i,.int .i64 j] m (fun v m'=>∃_:YC,v=.slice a r.length l.length/\Hp m0 m' (bJ ps k (.gen (pF a l.length 1 r.length (es.take i.toNat++es.drop j.toNat))))):=by
 obtain⟨hc,hF⟩:=aD hF;simp only[Va,Vm] at hc;obtain⟨⟨⟨⟨c0,c1⟩,c2⟩,c3⟩,c4⟩:=hc;have hr:=U9 hF;subst hr;have hel:es.length=l.length:=nD h hq;have hwid:∀e∈es,e.length=1:=fun e he=>(h.get hq).1.1.width e he;rcases h.get hp with⟨h0,_⟩|⟨b,tg,rfl,g1,g2,g3,g4,g5,g6,g7⟩
 omega
 ·have hfl:es.flatten.length=l.length*1:=by rw[cF hwid,hel]
  have hwb:ir m 1 b l.length l.length=some (es.flatten,tg):=by
   unfold ir;rcases g6 with rfl|rfl<;>simp only[g3]
   rw[U5 ⟨trivial,hfl⟩]
   rw[U5 ⟨trivial,hfl,trivial⟩]
  have ft:∀(k:Nat) (l:XF),(∀e∈l,e.length=1)->(l.take k).flatten=l.flatten.take k/\(l.drop k).flatten=l.flatten.drop k:=by
   intro k l
   induction l generalizing k with
   | nil=>intro _; simp
   | cons e l ih =>
    intro hl;cases k with
    | zero=>simp
    | succ k =>
     obtain⟨x1,x2⟩:=ih k fun e he=>hl e (Ve _ he);have he:=hl e (Vp ..);obtain⟨y,rfl⟩:∃y,e=[y]:=List.length_eq_one_iff.1 he;simp[x1,x2]
  have hlen:(l.take i.toNat++l.drop j.toNat).length=l.length-(j.toNat-i.toNat):=by simp; omega
  refine aK.cZ (p:=⟨kP (.slice none 0 0)⟩) rfl (v:=.slice (some ⟨b,0,none⟩) (l.take i.toNat++l.drop j.toNat).length l.length) (m':=m.set b (.cells (es.flatten.take i.toNat++es.flatten.drop j.toNat++List.replicate (j.toNat-i.toNat) (.slice none 0 0)) tg)) ?_ ⟨(),rfl,?_⟩
  show kP _ [.slice (some ⟨b,0,none⟩) l.length l.length,.int .i64 i,.int .i64 j] m=_
  simp only[kP,hwb];rw[U5 ⟨c1,c2,c3,c4,gF (h.get hq).1.1.db⟩,hlen]
  refine h.Gm hp (fun b' hb=>.inl (.inl ⟨rfl,hb.elim (fun h=>by cases h.1) id⟩)) (fun b' hb=>.inl (.inl (hb.elim (fun h=>by cases h) fun h=>h.elim id fun h=>h.elim))) (by rw[Yq.next_set]; exact U8 _) (h.ext.set g1 _) ⟨⟨?_,?_,by decide,by rw[hlen]; omega,.inr ⟨b,List.replicate (j.toNat-i.toNat) (.slice none 0 0),tg,rfl,by rw[Yq.next_set]; exact g2,?_,g6,?_⟩⟩,fun _ b' hb=>by cases hb; exact g1⟩ fun b' hb hlt=>?_
  rw[hlen]; simp; omega
  intro e he;rcases Vq.1 he with he|he
  exact hwid e (WC he)
  exact hwid e (WD he)
  rw[Yq.bz,U5 rfl,Wz,(ft _ es hwid).1,(ft _ es hwid).2]
  have e1:=(ft i.toNat es hwid).1;have e2:=(ft j.toNat es hwid).2;rw[Wz,e1,e2];simp[hfl]; omega
  rw[Yq.bz,U3 fun e=>hb (.inl ⟨rfl,by rw[e]; rfl⟩)]
def PR{n:Nat}{l r:XE}{i j:Int}(h:Q5 n l i j=some r):l.take i.toNat++l.drop j.toNat=r:=by
 obtain⟨_,h⟩:=aD h;exact U9 h
end Go.Proofs.Ytmndpgfbkicndaa
end
section
namespace Go.Ab.W
open Go Go.Ab
section
variable{E:Env}{n:Nat}{m0:Yq}{fs:Fs}{ps:YB Pc}{x:XK}{v:XI}{ty:XJ}
end
class TyC (P:XL) (ty:XJ) (ag:outParam Bool) (sz:outParam Nat):Prop where
 t:TyI P ty ag sz
class FaC (P:XL) (ty:XJ) (f:Nat) (off:outParam Nat):Prop where
 t:∀b o:Nat,aG P ty (ptr b o) f=some (ptr b (o+off))
class SlC (P:XL) (ty:XJ) (el:outParam XJ) (w:outParam Nat):Prop where
 t:SlT P ty el w
class ArC (P:XL) (ty:XJ) (el:outParam XJ) (len w:outParam Nat):Prop where
 t:ArT P ty el len w
class UsC (P:XL) (ty:XJ) (el:outParam XJ):Prop where
 t:P.underlying ty=some (.slice el)
section
variable{E:Env}{n:Nat}{m0:Yq}{fs:Fs}{ps ps':YB Pc}{ops:YD Oper}{os:YB Oper}{K:Tm->Yq->Prop}{dr:Bool}
variable{ty:XJ}{p:String}{af:YD Edge}{d:YA Nat}{o:Op}{g:YA (Nat×Bool)}{v:XI}
def Wo.Un{j:Nat}{b:Bool}(hg:xJ ops fs (some (j,b)) true)(k:Wo dr E n ops K (⟨d,o,ty,p,af,none⟩::os) m0 fs ps):Wo dr E n ops K (⟨d,o,ty,p,af,some (j,b)⟩::os) m0 fs ps:=by
 cases dr with
 | false =>
  intro t m hf hm;have h:=k t m hf hm;simp only[qi,hg t _ _ _ _ _ hf,if_true];simp only[qi,gn t _ _ _ _ _ hf,if_true] at h;exact h
 | true =>
  intro t m w hf hm hw;have h:=k t m w hf hm hw;simp only[jS,hg t _ _ _ _ _ hf,if_true];simp only[jS,gn t _ _ _ _ _ hf,if_true] at h;exact h
end
section
variable{k:IntKind}{P:XL}{ty:XJ}
def Ot(_:k.signed=true)(a b:Int):bW .add ty P (.int k a) (.int k b)=some (.int k (k.wrap (a+b))):=bD _ _ _
def Pp(_:k.signed=true)(a b:Int):bW .sub ty P (.int k a) (.int k b)=some (.int k (k.wrap (a-b))):=df _ _ _
def Qh(_:k.signed=true)(a b:Int):bW .lss ty P (.int k a) (.int k b)=some (.bool (decide (a<b))):=iJ _ _ _
def Ps(_:k.signed=true)(a b:Int):bW .leq ty P (.int k a) (.int k b)=some (.bool (decide (a<=b))):=zA _ _ _
def Pg(_:k.signed=true)(a b:Int):bW .gtr ty P (.int k a) (.int k b)=some (.bool (decide (b<a))):=tM _ _ _
def O8(_:k.signed=true)(a b:Int):bW .geq ty P (.int k a) (.int k b)=some (.bool (decide (b<=a))):=EV _ _ _
def PA(_:k.signed=true)(a b:Int):bW .eql ty P (.int k a) (.int k b)=some (.bool (decide (a=b))):=jv _ _ _
def Ph(_:k.signed=true)(a b:Int):bW .neq ty P (.int k a) (.int k b)=some (.bool (!decide (a=b))):=CZ _ _
def OY(_:k.signed=false)(a b:Nat):bW .eql ty P (.int k (a:Int)) (.int k (b:Int))=some (.bool (decide (a=b))):=Kh _ _
end
section
variable{E:Env}{n:Nat}{m0:Yq}{fs:Fs}{ps ps':YB Pc}{ops:YD Oper}{os:YB Oper}{K:Tm->Yq->Prop}{dr:Bool}
variable{ty ty' oty:XJ}{p:String}{af:YD Edge}{d:Nat}{dd:YA Nat}{o:Op}{a b r v:XI}{x y c:XK}
def Wo.kN(k:Wo dr E n ops K (⟨dd,o,ty,p,af,none⟩::os) m0 fs ps):Wo dr E n ops K (⟨dd,o,ty,p,af,none⟩::os) m0 fs ps:=k
def Wo.kG{g:Nat×Bool}(k:Wo dr E n ops K (⟨dd,o,ty,p,af,some g⟩::os) m0 fs ps):Wo dr E n ops K (⟨dd,o,ty,p,af,some g⟩::os) m0 fs ps:=k
def Has(ps:YB Pc)(q:Pc):Prop:=∃k,pk ps k=some q
def Has.z{q:Pc}:Has (q::ps) q:=⟨0,rfl⟩
def Has.s{q q':Pc}(h:Has ps q):Has (q'::ps) q:=by obtain⟨k,h⟩:=h; exact⟨k+1,h⟩
def Wo.UZ(h:ev E fs x=some v)(hd:Nat.blt d n=true)(k:Wo dr E n ops K os m0 ((d,v)::fs) ps):Wo dr E n ops K (⟨some d,.move x,ty,p,af,none⟩::os) m0 fs ps:=XR (aX h) hd k
def Wo.UP(h:ev E fs x=some v)(hd:Nat.blt d n=true)(k:Wo dr E n ops K os m0 ((d,v)::fs) ps):Wo dr E n ops K (⟨some d,.assign x,ty,p,af,none⟩::os) m0 fs ps:=XR (bE h) hd k
def Wo.UF{op:BinOp}(h:ev E fs x=some a)(h':ev E fs y=some b)(hr:bW op oty E.P a b=some r)(hd:Nat.blt d n=true)(k:Wo dr E n ops K os m0 ((d,r)::fs) ps):Wo dr E n ops K (⟨some d,.binOp op oty x y ty',ty,p,af,none⟩::os) m0 fs ps:=XR (aL h h' hr) hd k
def Wo.Uv{f:Nat}(h:ev E fs x=some a)(hr:aG E.P oty a f=some r)(hd:Nat.blt d n=true)(k:Wo dr E n ops K os m0 ((d,r)::fs) ps):Wo dr E n ops K (⟨some d,.fieldAddr oty x f,ty,p,af,none⟩::os) m0 fs ps:=XR (aI h hr) hd k
def Wo.Uz{ag:Bool}{sz b o:Nat}{cs:YB XI}{tg:Tag}(ht:TyI E.P oty ag sz)(hx:ev E fs x=some (ptr b o))(hp:Has ps (.obj b (.cells cs tg)))(hv:Ag ag sz cs o=some v)(hd:Nat.blt d n=true)(k:Wo dr E n ops K os m0 ((d,v)::fs) ps):Wo dr E n ops K (⟨some d,.load oty x,ty,p,af,none⟩::os) m0 fs ps:=by
 obtain⟨q,hp⟩:=hp;exact XR (aJ ht hx hp hv) hd k
def Wo.TT{ag:Bool}{sz b o w j c l:Nat}{es:XF}{e:YB XI}(ht:TyI E.P oty ag sz)(hx:ev E fs x=some (ptr b (o+j*w+c)))(hp:Has ps (.ro b o w l es))(he:es[j]? = some e)(hv:Ag ag sz e c=some v)(hs:yO ag sz c w=true)(hd:Nat.blt d n=true)(k:Wo dr E n ops K os m0 ((d,v)::fs) ps):Wo dr E n ops K (⟨some d,.load oty x,ty,p,af,none⟩::os) m0 fs ps:=by
 obtain⟨q,hp⟩:=hp;exact XR (sY ht hx hp he hv hs) hd k
def Wo.S5{ag:Bool}{sz b w j c l:Nat}{es:XF}{e:YB XI}{tg:Tag}(ht:TyI E.P oty ag sz)(hx:ev E fs x=some (ptr b (j*w+c)))(hp:Has ps (.arr b w l es tg))(he:es[j]? = some e)(hv:Ag ag sz e c=some v)(hs:yO ag sz c w=true)(hd:Nat.blt d n=true)(k:Wo dr E n ops K os m0 ((d,v)::fs) ps):Wo dr E n ops K (⟨some d,.load oty x,ty,p,af,none⟩::os) m0 fs ps:=by
 obtain⟨q,hp⟩:=hp;exact XR (gH ht hx hp he hv hs) hd k
def K3(ps:YB Pc)(q q':Pc)(ps':YB Pc):Prop:=∃k,pk ps k=some q/\bJ ps k q'=ps'
def K3.z{q q':Pc}:K3 (q::ps) q q' (q'::ps):=⟨0,rfl,rfl⟩
def K3.s{q q' r:Pc}(h:K3 ps q q' ps'):K3 (r::ps) q q' (r::ps'):=by obtain⟨k,h,h'⟩:=h; exact⟨k+1,h,by rw[<-h']; rfl⟩
def Wo.UY{ag:Bool}{sz b o:Nat}{cs cs':YB XI}{tg:Tag}(ht:TyI E.P oty ag sz)(hx:ev E fs x=some (ptr b o))(hy:ev E fs y=some v)(hp:K3 ps (.obj b (.cells cs tg)) (.obj b (.cells cs' tg)) ps')(htg:tv tg=true)(hv:LY cs o v sz=some cs')(k:Wo dr E n ops K os m0 fs ps'):Wo dr E n ops K (⟨none,.store oty x y,ty,p,af,none⟩::os) m0 fs ps:=by
 obtain⟨q,hp,rfl⟩:=hp;exact X8 (fe ht hx hy hp htg hv) k
def Wo.Ut{b:Bool}(hc:ev E fs c=some (.bool b))(hb:b=true)(h:ev E fs x=some v)(hd:Nat.blt d n=true)(k:Wo dr E n ops K os m0 ((d,v)::fs) ps):Wo dr E n ops K (⟨some d,.pick c x y,ty,p,af,none⟩::os) m0 fs ps:=XR (Ar hc hb h) hd k
def Wo.UO{b:Bool}(hc:ev E fs c=some (.bool b))(hb:b=false)(h:ev E fs y=some v)(hd:Nat.blt d n=true)(k:Wo dr E n ops K os m0 ((d,v)::fs) ps):Wo dr E n ops K (⟨some d,.pick c x y,ty,p,af,none⟩::os) m0 fs ps:=XR (Cb hc hb h) hd k
def Wo.UM(hc:ev E fs c=some (.bool true))(h:ev E fs x=some v)(hd:Nat.blt d n=true)(k:Wo dr E n ops K os m0 ((d,v)::fs) ps):Wo dr E n ops K (⟨some d,.pick c x y,ty,p,af,none⟩::os) m0 fs ps:=XR (Iw hc h) hd k
def Wo.US(hc:ev E fs c=some (.bool false))(h:ev E fs y=some v)(hd:Nat.blt d n=true)(k:Wo dr E n ops K os m0 ((d,v)::fs) ps):Wo dr E n ops K (⟨some d,.pick c x y,ty,p,af,none⟩::os) m0 fs ps:=XR (SA hc h) hd k
def Wo.U2{i:Nat}{vs:YD XI}(h:ev E fs x=some (.tuple vs))(hr:vs[i]? = some r)(hd:Nat.blt d n=true)(k:Wo dr E n ops K os m0 ((d,r)::fs) ps):Wo dr E n ops K (⟨some d,.extract x i,ty,p,af,none⟩::os) m0 fs ps:=XR (LU h hr) hd k
def Wo.Uu{b:Bool}(h:ev E fs x=some (.bool b))(hd:Nat.blt d n=true)(k:Wo dr E n ops K os m0 ((d,.bool (!b))::fs) ps):Wo dr E n ops K (⟨some d,.unOp .not oty x,ty,p,af,none⟩::os) m0 fs ps:=XR (FG h rfl) hd k
def Wo.UJ{el:XJ}{len w b o i:Nat}{kd:IntKind}(ht:ArT E.P oty el len w)(h:ev E fs x=some (ptr b o))(h':ev E fs y=some (.int kd (i:Int)))(hi:i<len)(hd:Nat.blt d n=true)(k:Wo dr E n ops K os m0 ((d,ptr b (o+i*w))::fs) ps):Wo dr E n ops K (⟨some d,.indexAddr oty x y,ty,p,af,none⟩::os) m0 fs ps:=XR (OX h h' (Rg ht hi)) hd k
def Wo.T9{elem:XJ}{b o w l cap:Nat}{i:Int}{kd:IntKind}(ht:SlT E.P oty elem w)(hx:ev E fs x=some (.slice (some ⟨b,o,none⟩) l cap))(hy:ev E fs y=some (.int kd i))(hi:0<=i/\i.toNat<l)(hd:Nat.blt d n=true)(k:Wo dr E n ops K os m0 ((d,ptr b (o+i.toNat*w+0))::fs) ps):Wo dr E n ops K (⟨some d,.indexAddr oty x y,ty,p,af,none⟩::os) m0 fs ps:=XR (qX ht hx hy hi) hd k
def Wo.Tz{elem:XJ}{b w l cap:Nat}{i:Int}{kd:IntKind}(ht:SlT E.P oty elem w)(hx:ev E fs x=some (.slice (some ⟨b,0,none⟩) l cap))(hy:ev E fs y=some (.int kd i))(hi:0<=i/\i.toNat<l)(hd:Nat.blt d n=true)(k:Wo dr E n ops K os m0 ((d,ptr b (i.toNat*w+0))::fs) ps):Wo dr E n ops K (⟨some d,.indexAddr oty x y,ty,p,af,none⟩::os) m0 fs ps:=XR (uW ht hx hy hi) hd k
def Bl(ps:YB Pc)(a:XG):Prop:=∃k q,pk ps k=some q/\(mz a=q.tQ\/a=none)
def Bl.z{q:Pc}{a:XG}(h:mz a=q.tQ):Bl (q::ps) a:=⟨0,q,rfl,.inl h⟩
def Bl.s{q:Pc}{a:XG}(h:Bl ps a):Bl (q::ps) a:=by obtain⟨k,r,h⟩:=h; exact⟨k+1,r,h⟩
def Wo.UE{l cap:Nat}{a:XG}{ars:YD XK}{elem:XJ}(hu:E.P.underlying oty=some (.slice elem))(ha:ia E fs ars.toList=some [.slice a l cap])(hp:Bl ps a)(hd:Nat.blt d n=true)(k:Wo dr E n ops K os m0 ((d,.int .i64 (l:Int))::fs) ps):Wo dr E n ops K (⟨some d,.call ⟨.builtin .len,ars,#[oty]⟩,ty,p,af,none⟩::os) m0 fs ps:=by
 obtain⟨_,_,hp,hb⟩:=hp;exact XR (qv hu ha hp hb) hd k
def Wo.zT{j:Nat}{q:Bool}(hd:(ops[j]?).bind (·.dst)=some d)(h:lk fs d=some (.bool q))(hq:q=true)(k:Wo dr E n ops K (⟨dd,o,ty,p,af,none⟩::os) m0 fs ps):Wo dr E n ops K (⟨dd,o,ty,p,af,some (j,true)⟩::os) m0 fs ps:=Wo.Un (gg hd h (fg hq)) k
def Wo.zF{j:Nat}{q:Bool}(hd:(ops[j]?).bind (·.dst)=some d)(h:lk fs d=some (.bool q))(hq:q=false)(k:Wo dr E n ops K (⟨dd,o,ty,p,af,none⟩::os) m0 fs ps):Wo dr E n ops K (⟨dd,o,ty,p,af,some (j,false)⟩::os) m0 fs ps:=Wo.Un (gg hd h (tD hq)) k
def Wo.UL{j d':Nat}{q:Bool}(hd:(ops[j]?).bind (·.dst)=some d')(h:lk fs d'=some (.bool q))(hq:q=false)(hd':Nat.blt d n=true)(k:Wo dr E n ops K os m0 ((d,undef)::fs) ps):Wo dr E n ops K (⟨some d,o,ty,p,af,some (j,true)⟩::os) m0 fs ps:=Wo.s (gg hd h (zn hq)) hd' k
def Wo.UG{j d':Nat}{q:Bool}(hd:(ops[j]?).bind (·.dst)=some d')(h:lk fs d'=some (.bool q))(hq:q=true)(hd':Nat.blt d n=true)(k:Wo dr E n ops K os m0 ((d,undef)::fs) ps):Wo dr E n ops K (⟨some d,o,ty,p,af,some (j,false)⟩::os) m0 fs ps:=Wo.s (gg hd h (E9 hq)) hd' k
def Wo.UA{j d':Nat}{q:Bool}(hd:(ops[j]?).bind (·.dst)=some d')(h:lk fs d'=some undef)(hd':Nat.blt d n=true)(k:Wo dr E n ops K os m0 ((d,undef)::fs) ps):Wo dr E n ops K (⟨some d,o,ty,p,af,some (j,q)⟩::os) m0 fs ps:=Wo.s (gu hd h) hd' k
end
structure Bx(Q:Prop):Prop where
 v:Q
def wz{P Q:Prop}(k:Q)(h:Bx Q->P:=by
  intro h
  repeat first
   | refine XS ?_
   | refine XT ?_
   |(apply X7; exact rfl; first|assumption|exact rfl)
   |(apply Yc; exact rfl; first|assumption|exact rfl)
   | refine X9 ?_
   | refine Yb ?_
   | refine Wk.exit ?_
   | refine XV ?_
   |(apply Wk.draw; kernel_rfl)
  repeat first
   |((first|refine Wo.kN ?_ |(refine Wo.kG ?_; first |(apply Wo.zT; exact rfl; exact rfl; first|assumption|with_reducible exact rfl) |(apply Wo.zF; exact rfl; exact rfl; first|assumption|with_reducible exact rfl))); first
    |(apply Wo.UZ; exact rfl; exact rfl)
    |(apply Wo.UP; exact rfl; exact rfl)
    |(apply Wo.UF; exact rfl; exact rfl;(first |(apply Ot; exact rfl) |(apply Qh; exact rfl) |(apply Pp; exact rfl) |(apply PA; exact rfl) |(apply Ph; exact rfl) |(apply O8; exact rfl) |(apply Pg; exact rfl) |(apply Ps; exact rfl) |(apply OY; exact rfl) |(apply vb_neq; exact rfl) |(apply vb_lss; exact rfl) |(apply vb_leq; exact rfl) |(apply vb_geq; exact rfl) |(apply vb_gtr; exact rfl) |(apply ub_and; exact rfl) |(apply ub_or; exact rfl) |(apply ub_add; exact rfl) |(apply ub_sub; exact rfl) |(apply ub_andn; exact rfl)); exact rfl)
    |(apply Wo.Uv; exact rfl; exact FaC.t _ _; exact rfl)
    |(apply Wo.Uz; exact TyC.t; exact rfl;(repeat first|exact Has.z|refine Has.s ?_); exact rfl; exact rfl)
    |(apply Wo.TT; exact TyC.t; exact rfl;(repeat first|exact Has.z|refine Has.s ?_); exact kV (by assumption); exact rfl; exact rfl; exact rfl)
    |(apply Wo.S5; exact TyC.t; exact rfl;(repeat first|exact Has.z|refine Has.s ?_); exact kV (by assumption); exact rfl; exact rfl; exact rfl)
    |(apply Wo.UY; exact TyC.t; exact rfl; exact rfl;(repeat first|exact K3.z|apply K3.s); exact rfl; exact rfl)
    |(apply Wo.Ut; exact rfl; assumption; exact rfl; exact rfl)
    |(apply Wo.UO; exact rfl; assumption; exact rfl; exact rfl)
    |(apply Wo.UM; exact rfl; exact rfl; exact rfl)
    |(apply Wo.US; exact rfl; exact rfl; exact rfl)
    |(apply Wo.U2; exact rfl; exact rfl; exact rfl)
    |(apply Wo.Uu; exact rfl; exact rfl)
    |(apply Wo.UJ; exact ArC.t; exact rfl; exact rfl; decide; exact rfl)
    |(apply Wo.Tz; exact SlC.t; exact rfl; exact rfl; assumption; exact rfl)
    |(apply Wo.T9; exact SlC.t; exact rfl; exact rfl; assumption; exact rfl)
    |(apply Wo.UE; exact UsC.t; exact rfl;(repeat first|exact Bl.z rfl|refine Bl.s ?_); exact rfl))
   |(refine Wo.kG ?_; first
    |(apply Wo.UL; exact rfl; exact rfl;(first|assumption|with_reducible exact rfl); exact rfl)
    |(apply Wo.UG; exact rfl; exact rfl;(first|assumption|with_reducible exact rfl); exact rfl)
    |(apply Wo.UA; exact rfl; exact rfl; exact rfl))
  try refine XW ?_
  repeat first
   | refine XX ?_
   | refine At.te ?_
   | refine At.tr ?_
   | refine At.bn ?_
   | refine Yi ?_
   | refine At.br ?_
   | refine At.bx rfl ?_
  exact h.v):P:=h ⟨k⟩
def az{P Q:Prop}(k:Q)(h:Bx Q->P:=by intro h; refine wz ?_; refine wz ?_; exact h.v):P:=h ⟨k⟩
def ja{P Q:Prop}(k:Q)(h:Bx Q->P:=by intro h; refine wz ?_; refine wz ?_; refine wz ?_; exact h.v):P:=h ⟨k⟩
section
variable{E:Env}{n:Nat}{m0:Yq}{fs:Fs}{ps:YB Pc}{fn:YI}{ro:YA Nat}{c:Code}{Q:Yr->Tm->Yq->Prop}
end
def du{β:Type}{i:Int}{n:Nat}{k:YA β}{r:β}(h:gd (cM i n) k=some r):(0<=i/\i.toNat<n)/\k=some r:=⟨qS (aD h).1,(aD h).2⟩
section
variable{E:Env}{n:Nat}{m0:Yq}{fs fs':Fs}{ps ps':YB Pc}{ops:YD Oper}{os:YB Oper}{K:Tm->Yq->Prop}{dr:Bool}{fn:YI}{ro:YA Nat}{c:Code}{Q:Yr->Tm->Yq->Prop}
variable{ty oty:XJ}{p:String}{af:YD Edge}{d:Nat}{g:YA (Nat×Bool)}{x:XK}{v:XI}
def ae{γ:Type}{G:γ->En}{e:Yr}(g:γ)(ks:YB Nat)(he:e=(G g).e:=by rfl)(hs:sub fs (G g).fs:=by repeat first|exact sn|refine sc rfl ?_)(hn:mD ks=true:=by rfl)(hp:aq ps ks=some (G g).ps:=by rfl):At (oa m0 G) e m0 fs ps:=At.en g he hs (ai.aq ks hn hp)
def ar{α:Type}{V:α->XI}{N:α->YB Pc}{rs:YB ResultVar}{vs:YB XI}(x:α)(ks:YB Nat)(hr:Res1 E fs ps rs vs:=by repeat first|exact .nil |(apply Res1.tmp; exact rfl) |(apply Res1.zc; exact TyC.t; exact rfl;(repeat first|exact Has.z|refine Has.s ?_); exact rfl))(hv:jr vs=V x:=by rfl)(hn:mD ks=true:=by rfl)(hp:aq ps ks=some (N x):=by rfl):At (j5 E rs fun v m=>∃x,v=V x/\Hp m0 m (N x)) .ret m0 fs ps:=.ret hr fun _ hm=>⟨x,hv,hm.aq ks hn hp⟩
def ap{ρ:Type}{δ:ρ->Type}(X:(r:ρ)->δ r->En)(r:ρ):δ r->En:=X r
def lo{σ ρ γ:Type}{δ:ρ->Type}{body:σ->YA (σ⊕ρ)}{X:(r:ρ)->δ r->En}{N:Nat}{s:σ}{r:ρ}(h:bL body N s=some r)(g:γ)(ks:YB Nat)(I:σ->γ->En)
  (hb:∀s g r,body s=some r->Wk E n fn ro c (match r with|.inl s'=>oa m0 (I s')|.inr r=>oa m0 (X r)) m0 (I s g).fs (I s g).ps)
  (hs:sub fs (I s g).fs:=by repeat first|exact sn|refine sc rfl ?_) (hd:mD ks=true:=by rfl) (hp:aq ps ks=some (I s g).ps:=by rfl)
  (hn:∀s g,(I s g).e=.normal:=by exact fun _ _=>rfl) (hx:∀r g,(X r g).e≠.normal:=by intro r d; first |(intro e; cases e; done) |(rcases r with r|r<;>first |(intro e; cases e; done) |(rcases r with r|r<;>first |(intro e; cases e; done) |(rcases r with r|r<;>intro e<;>cases e)))):Wk E n fn ro (.loop c) (oa m0 (ap X r)) m0 fs ps:=.H4 hs (ai.aq ks hd hp) (Wk.loop body I X hb hn hx N s r h g)
def ct{ρ γ:Type}(F:ρ->γ->En)(r:ρ)(h:Wk E n fn ro c (oa m0 (ap F r)) m0 fs ps)(k:∀g,At Q (F r g).e m0 (F r g).fs (F r g).ps):Wk E n fn ro c Q m0 fs ps:=.cut h k
def wb(k:∀b,Wo dr E n ops K os m0 ((d,ptr b 0)::fs) (.obj b (.cells v.cells.toList .own)::ps))(h:ev E fs x=some v:=by rfl)(hd:Nat.blt d n=true:=by rfl):Wo dr E n ops K (⟨some d,.box oty x,ty,p,af,none⟩::os) m0 fs ps:=X1 (Qg h) gn hd k
def wa{z:XI}(hz:bp E.P oty=some z)(k:∀b,Wo dr E n ops K os m0 ((d,ptr b 0)::fs) (.obj b (.cells z.cells.toList .own)::ps))(hp:bH z=true:=by rfl)(hd:Nat.blt d n=true:=by rfl):Wo dr E n ops K (⟨some d,.alloc oty,ty,p,af,none⟩::os) m0 fs ps:=X1 (Bg hz hp) gn hd k
def cw{f:YI}{F:Func}{args:YB XI}{rs:YB ResultVar}{N:Nat}{R:XI->Yq->Prop}{m:Yq}(hf:E.P.funcs[f]? = some F)(hm:Hp m0 m ps)(h:Wk E N f none c (j5 E rs R) m0 (pL args 0 []) ps)(hp:E.cZ f=none:=by rfl)(hb:F.body=some c:=by rfl)(hrs:F.results.toList=rs:=by rfl)(hN:max args.length F.ntmps=N:=by rfl):aK E f args m R:=aS hp hf hb hrs hN hm h
variable{m:Yq}{a:XG}{cap w l:Nat}{es:XF}
def Hp.q(h:Hp m0 m ps)(k:Nat){p:Pc}(hp:pk ps k=some p:=by rfl)(hi:IsRd p a cap w l es:=by first|exact .rd _ _ _ _ _|exact .sl _ _ _ _|exact .arr _ _ _ _ _):Rd m a cap w l es:=h.rd hp hi
def Hp.no(h:Hp m0 m ps)(k:Nat)(hp:pk ps k=some (.rd a cap w l es):=by rfl):∀b,mz a=some b->¬nA ps b:=h.R0 hp
variable{α:Type}{V:α->XI}{N:α->YB Pc}{R:α->Pc}{f:XK}{q:YI}{ars:YD XK}{ts:YD XJ}{args:YB XI}{prs:YB (Nat×Nat)}{ss:YB Nk}
def wc(hg:xJ ops fs g true)(hc:∀m,Hp m0 m ps->aK E q args m (fun v m'=>∃x,v=V x/\Hp m m' (N x)))(k:∀x,Wo dr E n ops K os m0 ((d,V x)::fs) (N x++ps))(hf:ev E fs f=some (.func (.func q) #[] #[]):=by rfl)(ha:ia E fs ars.toList=some args:=by rfl)(ho:∀x,yp (N x)=true:=by exact fun _=>rfl)(hd:Nat.blt d n=true:=by rfl):Wo dr E n ops K (⟨some d,.call ⟨.value f,ars,ts⟩,ty,p,af,g⟩::os) m0 fs ps:=X1 (TU hf ha hc ho) hg hd k
def nc(hg:xJ ops fs g true)(hc:∀m,Hp m0 m ps->aK E q args m (fun v m'=>∃x,v=V x/\Hp m m' (N x)))(k:∀x,Wn E n ops prs K os (.call::ss) m0 ((d,V x)::fs) (N x++ps))(hf:ev E fs f=some (.func (.func q) #[] #[]):=by rfl)(ha:ia E fs ars.toList=some args:=by rfl)(ho:∀x,yp (N x)=true:=by exact fun _=>rfl)(hd:Nat.blt d n=true:=by rfl):Wn E n ops prs K (⟨some d,.call ⟨.value f,ars,ts⟩,ty,p,af,g⟩::os) ss m0 fs ps:=Wn.c (QW hf ha hc ho) hg hd k
end
end Go.Ab.W
end
section
namespace Go.Proofs.Ytmndpgfbkicndaa
open Go Go.Ab Go.Ab.W
def q9(n:Nat)(l1:YB (XE)):(Int×Int)->YA ((Int×Int)⊕Int):=fun(v12,v13) =>
br (decide (v13<(l1.length:Int))) (
gd (cM v13 l1.length) (
ob (l1[v13.toNat]?) fun l49 =>
br (decide (XN (v12+(l49.length:Int))<0)) (
none) (
some (.inl (XN (v12+(l49.length:Int)),XN (v13+1)))))) (
some (.inr v12))
def rr(n:Nat)(l1:YB (XE)):(XE×Int)->YA ((XE×Int)⊕XE):=fun(l2,v0) =>
br (decide (v0<(l1.length:Int))) (
gd (cM v0 l1.length) (
ob (l1[v0.toNat]?) fun l3 =>
gd (lim (l2++l3).length) (
some (.inl ((l2++l3),XN (v0+1)))))) (
some (.inr l2))
def SX(n:Nat)(l1:YB (XE)):YA XE :=
ob (
bL (q9 n l1) n (0,0)) fun v0 =>
ob (
br (decide (v0<0)) (
none) (
ob (
br (decide (0<XN (v0-(XN (0-0))))) (
gd (decide ((0:Int)<XN (v0-(XN (0-0))))) (gd (lim ((XN (v0-(XN (0-0)))).toNat)) (
gd (okB 0 0 ((XN (v0-(XN (0-0)))).toNat)) (
gd (decide (0<((XN (v0-(XN (0-0)))).toNat))) (
some ((List.replicate (XN (v0-(XN (0-0)))).toNat ([]:YB Int)).take XO)))))) (
some ([]:XE))) fun l2 =>
some l2)) fun l3 =>
ob (
bL (rr n l1) n (l3,0)) fun l4 =>
some l4
def C6(n:Nat)(l1:YB (Int))(l6:XE):YA XE :=
ob (SX n ([[l1],l6])) fun l23 =>
some l23
def xu(n:Nat)(l1:YB Int)(v1:Int):(Int×YB ((Int×Int) ×(XC)))->YA ((Int×YB ((Int×Int) ×(XC))) ⊕(YB ((Int×Int) ×(XC)))):=fun(v0,l2) =>
br (decide (v0<(l1.length:Int))) (
gd (cM v0 l1.length) (
ob (l1[v0.toNat]?) fun x3 =>
gd (decide ((l1.length:Int)≠0)) (
gd (cM (Int.tmod (XN (v0+1)) (l1.length:Int)) l1.length) (
ob (l1[(Int.tmod (XN (v0+1)) (l1.length:Int)).toNat]?) fun x4 =>
ob (
ob (some ((bR l2 (mi x3 x4,ma x3 x4)).getD ((0:Int),(0:Int),(0:Int),(0:Int)),(bR l2 (mi x3 x4,ma x3 x4)).isSome)) fun((y0,y1,y2,y3),y4) =>
ob (
br (!y4) (
some (mi x3 x4,ma x3 x4,-1,-1)) (
some (y0,y1,y2,y3))) fun(v2,v3,v4,v5) =>
ob (
br (decide (x3=mi x3 x4)) (
some (v1,v5)) (
some (v4,v1))) fun(v6,v7) =>
some (fX l2 (mi x3 x4,ma x3 x4) (v2,v3,v6,v7))) fun l3 =>
some (.inl (XN (v0+1),l3)))))) (
some (.inr l2))
def xZ(n:Nat)(l1:XE)(v1:Int):(Int×YB ((Int×Int) ×(XC)))->YA ((Int×YB ((Int×Int) ×(XC))) ⊕(YB ((Int×Int) ×(XC)))):=fun(v0,l2) =>
br (decide (v0<(l1.length:Int))) (
gd (cM v0 l1.length) (
ob (l1[v0.toNat]?) fun l3 =>
ob (
bL (xu n l3 v1) n (0,l2)) fun l4 =>
some (.inl (XN (v0+1),l4)))) (
some (.inr l2))
def w5(n:Nat)(l1:XB):(Int×YB ((Int×Int) ×(XC)))->YA ((Int×YB ((Int×Int) ×(XC))) ⊕(YB ((Int×Int) ×(XC)))):=fun(v0,l2) =>
br (decide (v0<(l1.length:Int))) (
gd (cM v0 l1.length) (
ob (l1[v0.toNat]?) fun(l3,l4) =>
ob (C6 n l3 l4) fun l5 =>
ob (
bL (xZ n l5 v0) n (0,l2)) fun l6 =>
some (.inl (XN (v0+1),l6)))) (
some (.inr l2))
def KE(n:Nat)(l5:XD)(l1:XB):YA (YB ((Int×Int) ×(XC))) :=
ob (
some ([]:YB ((Int×Int) ×(XC)))) fun l2 =>
ob (
ob (
bL (w5 n l1) n (0,l2)) fun l3 =>
some l3) fun l4 =>
some l4
def Gg(x:dm):YB dm->YB dm
 | []=>[x]
 | y::l=>if eK x y then x::y::l else y::Gg x l
def vD:YB dm->YB dm
 | []=>[]
 | x::l=>Gg x (vD l)
def G4(_:Nat)(l1:XD)(l5:XB):YA (YB dm) :=
 ob (KE 100000 l1 l5) fun es=>gd (rJ (es.map (·.2))&&lim es.length) (some (vD (es.map (·.2))))
end Go.Proofs.Ytmndpgfbkicndaa
end
